/-
  Inserts: what a deal holds, when a row of it grows. No statement of the seat stands here.
-/
import Derived.Test.YtaehkbbdmamfpaaGreatDoorI15
namespace Go.Proofs.YtaehkbbdmamfpaaGreatDoor
open Go.ChangeShapes Go.WideShapes Go.ChangeAt Go.RowKit
set_option maxRecDepth 100000
theorem row_not {W : World} {B : Nat} {e : TypeId} {size : Nat} {v : Value} {n : Nat} {xs : List Value} (h : W.ownsRow B e size v n xs) {q : Nat} {c : Array Value} {t : TypeId} (hb : Blk W q c t) (ht : t ≠ e) : v.ownBlock ≠ some q := by
  intro hq
  obtain ⟨_, ⟨rfl, _⟩ | ⟨g, c', cur, rfl, _, hg, _⟩⟩ := h
  · cases hq
  · simp only [Value.ownBlock, Option.some.injEq] at hq
    rw [hq] at hg
    unfold Blk at hb
    rw [hg] at hb
    simp only [Option.some.injEq, Obj.cells.injEq] at hb
    exact ht hb.2.1.symm
theorem step_ne_node : (49 : TypeId) ≠ 53 := by decide
theorem step_ne_row : (49 : TypeId) ≠ 22 := by decide
section
variable {W W' : World} {base : Nat} {vs : Nat → Value} {bv : Value} {page : List Nd} {d : Dl}
theorem DlIn.rest (h : DlIn W base vs bv page d) {y : List Nd} {v' : Value} (hr : W'.ownsRow base 53 19 v' (d.rest.length + y.length) (d.rest.flatMap Nd.cells ++ y.flatMap Nd.cells)) (hg : W.grownBy W' (vs 1).ownBlock) (hat : v'.ownBlock = (vs 1).ownBlock ∨ v'.ownBlock = some W.heap.size) :
    DlIn W' base (upd vs 1 v') bv page ⟨d.boxes, d.rest ++ y⟩ := by
  refine ⟨?_, ?_⟩
  · rw [rowX_rest]
    exact h.rws.grow (by omega) hr hg hat
  · show W'.ownsRow base _ 1 bv d.boxes.length (boxV (d.boxes.length + 2) (upd vs 1 v'))
    rw [boxV_low (by omega)]
    exact ownsRow_same h.out fun q hq hl => hg.block q hl (fun e => rows_apart h.out (h.rws.row 1 (by omega)) q e.symm hq)
theorem DlIn.push (h : DlIn W base vs bv page d) {bv' : Value} (hr : W'.ownsRow base 22 1 bv' (d.boxes.length + 1) (boxV (d.boxes.length + 2) vs ++ [.slice none 0 0])) (hg : W.grownBy W' bv.ownBlock) :
    DlIn W' base (upd vs (d.boxes.length + 2) (.slice none 0 0)) bv' page ⟨d.boxes ++ [[]], d.rest⟩ := by
  have e : (d.boxes ++ [([] : List Nd)]).length = d.boxes.length + 1 := by simp
  refine ⟨?_, ?_⟩
  · show Rws W' base ((d.boxes ++ [([] : List Nd)]).length + 2) _ _
    rw [rowX_push, e]
    exact (h.rws.far hg fun i q hi hq e => rows_apart h.out (h.rws.row i hi) q hq e).push
  · show W'.ownsRow base _ 1 bv' (d.boxes ++ [([] : List Nd)]).length (boxV ((d.boxes ++ [([] : List Nd)]).length + 2) _)
    rw [e]
    show W'.ownsRow base _ 1 bv' (d.boxes.length + 1) (boxV (d.boxes.length + 2 + 1) _)
    rw [boxV_push (by omega)]
    exact hr
theorem out_cell {N n : Nat} (h : W.ownsRow base 22 1 bv n (boxV N vs)) {k : Nat} (hk : k < N - 2) :
    ∃ g c, bv = .slice (some ⟨g, 0, none⟩) n c ∧ n = N - 2 ∧ n ≤ c ∧ base ≤ g ∧ W.cell? ⟨g, k, none⟩ = some (vs (k + 2)) ∧ W.frozen? ⟨g, k, none⟩ = false := by
  have hn := h.1
  rw [boxV_len] at hn
  obtain ⟨_, ⟨_, e⟩ | ⟨g, c, cur, rfl, hb, hg, hc, _⟩⟩ := id h
  · omega
  · refine ⟨g, c, rfl, by omega, hc, hb, ?_, frozen_of_row W g k cur _ hg⟩
    have := h.cells (g := g) rfl k (vs (k + 2)) (boxV_at hk)
    rwa [show (⟨g, 0, none⟩ : Addr).add k = ⟨g, k, none⟩ by unfold Addr.add; split <;> simp_all] at this
theorem out_set {N n g c : Nat} (h : W.ownsRow base 22 1 (.slice (some ⟨g, 0, none⟩) n c) n (boxV N vs)) {k : Nat} (hk : k < N - 2) (v : Value) :
    (W.setCell ⟨g, k, none⟩ v).ownsRow base 22 1 (.slice (some ⟨g, 0, none⟩) n c) n (boxV N (upd vs (k + 2) v)) := by
  obtain ⟨l1, ⟨e1, _⟩ | ⟨g1, c1, cur, e1, b1, hg, n1, m1, s1, t1⟩⟩ := id h
  · cases e1
  cases e1
  rw [boxV_upd hk]
  refine ⟨by rw [List.length_set]; exact l1, .inr ⟨g, c, _, rfl, b1, heap_setCell_same W g k cur _ _ hg, n1, m1, by simp [s1], ?_⟩⟩
  rw [← t1, Array.toList_setIfInBounds, List.take_set]
end
structure JB (w0 : World) (base : Nat) (vs : Nat → Value) (bv : Value) (page : List Nd) (d : Dl) (k : Nat) (y : List Nd) (Sb : Nat) (s : Sp) (iL iA iS : Nat) (m : Nat → Bool) (us : Nat → Value) (W : World) : Prop where
  below : Below base w0 W
  size : base ≤ W.heap.size
  blk : Blk W Sb s.arr 49
  ne : iL ≠ iA ∧ iL ≠ iS ∧ iA ≠ iS
  dep1 : m iS = true → m iA = true
  dep2 : m iA = true → m iL = true
  ld : m iL = true → us iL = vs (k + 2)
  pre : m iA = false → DlIn W base vs bv page d
  mid : m iA = true → m iS = false → Rws W base (d.boxes.length + 2) (upd vs (k + 2) (us iA)) (rowX page ⟨putB d.boxes k y, d.rest⟩) ∧ W.ownsRow base 22 1 bv d.boxes.length (boxV (d.boxes.length + 2) vs)
  post : m iS = true → DlIn W base (upd vs (k + 2) (us iA)) bv page ⟨putB d.boxes k y, d.rest⟩
section
variable {w0 W W' : World} {base : Nat} {vs : Nat → Value} {bv : Value} {page : List Nd} {d : Dl} {k : Nat} {y : List Nd} {Sb : Nat} {s : Sp} {iL iA iS : Nat} {m : Nat → Bool} {us : Nat → Value}
theorem JB.init (h : DlIn w0 base vs bv page d) (hs : base ≤ w0.heap.size) (hb : Blk w0 Sb s.arr 49) (hne : iL ≠ iA ∧ iL ≠ iS ∧ iA ≠ iS) : JB w0 base vs bv page d k y Sb s iL iA iS (fun _ => false) us w0.drew :=
  ⟨(Below.refl _ _).drew, hs, hb, hne, (fun h => by cases h), (fun h => by cases h), (fun h => by cases h), (fun _ => h.still ((Below.refl _ _).drew)), (fun h => by cases h), (fun h => by cases h)⟩
theorem JB.load (h : JB w0 base vs bv page d k y Sb s iL iA iS m us W) (hm : m iL = false) {u : Value} (hu : u = vs (k + 2)) : JB w0 base vs bv page d k y Sb s iL iA iS (fun j => m j || j == iL) (fun j => if j = iL then u else us j) W := by
  obtain ⟨n1, n2, n3⟩ := h.ne
  have hA : m iA = false := by
    cases e : m iA
    · rfl
    · have := h.dep2 e; rw [hm] at this; cases this
  have hS : m iS = false := by
    cases e : m iS
    · rfl
    · have := h.dep1 e; rw [hA] at this; cases this
  have eA : (m iA || iA == iL) = false := by simp [hA, Ne.symm n1]
  have eS : (m iS || iS == iL) = false := by simp [hS, Ne.symm n2]
  refine ⟨h.below, h.size, h.blk, h.ne, fun e => ?_, fun e => ?_, fun _ => ?_, fun _ => h.pre hA, fun e => ?_, fun e => ?_⟩
  · rw [eS] at e; cases e
  · rw [eA] at e; cases e
  · simp only [if_pos]; exact hu
  · rw [eA] at e; cases e
  · rw [eS] at e; cases e
theorem JB.app (h : JB w0 base vs bv page d k y Sb s iL iA iS m us W) (hk : k < d.boxes.length) (hL : m iL = true) (hm : m iA = false) {v' : Value}
    (hr : W'.ownsRow base 53 19 v' ((rowX page d (k + 2)).length + y.length) ((rowX page d (k + 2)).flatMap Nd.cells ++ y.flatMap Nd.cells)) (hg : W.grownBy W' (vs (k + 2)).ownBlock) (hat : v'.ownBlock = (vs (k + 2)).ownBlock ∨ v'.ownBlock = some W.heap.size) :
    JB w0 base vs bv page d k y Sb s iL iA iS (fun j => m j || j == iA) (fun j => if j = iA then v' else us j) W' := by
  obtain ⟨n1, n2, n3⟩ := h.ne
  have hS : m iS = false := by
    cases e : m iS
    · rfl
    · have := h.dep1 e; rw [hm] at this; cases this
  have eS : (m iS || iS == iA) = false := by simp [hS, Ne.symm n3]
  have eA : (m iA || iA == iA) = true := by simp
  have h0 := h.pre hm
  have hrow := h0.rws.row (k + 2) (by omega)
  refine ⟨h.below.grown hg h.size (fun q hq => (hrow.lt q hq).1), Nat.le_trans h.size hg.size, ?_, h.ne, fun e => ?_, fun _ => ?_, fun _ => ?_, fun e => ?_, fun _ _ => ⟨?_, ?_⟩, fun e => ?_⟩
  · exact (hg.block Sb h.blk.lt (fun e => row_not hrow h.blk step_ne_node e.symm)).trans h.blk
  · rw [eS] at e; cases e
  · simp [hL]
  · simp only [if_neg n1]; exact h.ld hL
  · rw [eA] at e; cases e
  · simp only [if_pos]
    rw [rowX_box page d hk y]
    exact h0.rws.grow (by omega) hr hg hat
  · exact ownsRow_same h0.out fun q hq hl => hg.block q hl (fun e => rows_apart h0.out hrow q e.symm hq)
  · rw [eS] at e; cases e
theorem JB.store (h : JB w0 base vs bv page d k y Sb s iL iA iS m us W) (hk : k < d.boxes.length) (hA : m iA = true) (hm : m iS = false) {g n c : Nat} (hbv : bv = .slice (some ⟨g, 0, none⟩) n c) (u : Value) :
    JB w0 base vs bv page d k y Sb s iL iA iS (fun j => m j || j == iS) (fun j => if j = iS then u else us j) (W.setCell ⟨g, k, none⟩ (us iA)) := by
  obtain ⟨n1, n2, n3⟩ := h.ne
  obtain ⟨h1, h2⟩ := h.mid hA hm
  have hL := h.dep2 hA
  obtain ⟨g', c', e', f1, _, f2, _, _⟩ := out_cell h2 (k := k) (by omega)
  rw [hbv] at e'
  cases e'
  subst hbv
  have hrow : ∀ i, i < d.boxes.length + 2 → (upd vs (k + 2) (us iA) i).ownBlock ≠ some g := fun i hi e => rows_apart h2 (h1.row i hi) g e rfl
  have hne : Sb ≠ g := fun e => row_not h2 h.blk step_ne_row (by rw [e]; rfl)
  refine ⟨h.below.setCell f2 _, ?_, ?_, h.ne, fun _ => ?_, fun _ => ?_, fun _ => ?_, fun e => ?_, fun _ e => ?_, fun _ => ?_⟩
  · exact Nat.le_trans h.size ((KeepsWalks.setCell W _ _).size)
  · exact h.blk.other (Ne.symm hne) _
  · simp [hA]
  · simp [hL]
  · simp only [if_neg n2]; exact h.ld hL
  · simp [hA] at e
  · simp at e
  · simp only [if_neg n3]
    refine ⟨⟨fun i hi => ?_, fun i j hi hj => h1.ne i j (by simpa [putB] using hi) (by simpa [putB] using hj)⟩, ?_⟩
    · exact ownsRow_setCell_other (h1.row i (by simpa [putB] using hi)) (hrow i (by simpa [putB] using hi)) _
    · show (W.setCell _ _).ownsRow base _ 1 _ (putB d.boxes k y).length (boxV ((putB d.boxes k y).length + 2) _)
      rw [show (putB d.boxes k y).length = d.boxes.length by simp [putB]]
      exact out_set h2 (by omega) _
end
def LeftIs (w : World) (r : List Nd × Int) (v e : Value) (W : World) : Prop :=
  (r.2 = 0 → e = .nilIface ∧ NRow w v r.1 W) ∧ (r.2 ≠ 0 → v = .slice none 0 0 ∧ ∃ X, e = .iface 75 (.pointer (some ⟨X, 0, none⟩)) ∧ w.heap.size ≤ X ∧ W.heap[X]? = some (.cells #[.int .i64 r.2] 79 (0, 0)))
structure JL (w : World) (r : List Nd × Int) (c : Nat) (m : Nat → Bool) (us : Nat → Value) (W : World) : Prop where
  below : Below w.heap.size w W
  dep : ∀ j, m j = true → m c = true
  vals : ∃ v e, (m c = true → LeftIs w r v e W) ∧ ∀ j, m j = true → us j = if j = c + 2 ∨ j = c + 4 then v else if j = c + 3 ∨ j = c + 5 then e else .tuple #[v, e]
section
variable {w W W' : World} {r : List Nd × Int} {c i : Nat} {m : Nat → Bool} {us : Nat → Value}
theorem JL.init : JL w r c (fun _ => false) us w.drew := ⟨(Below.refl _ _).drew, (fun _ h => by cases h), ⟨undef, undef, (fun h => by cases h), (fun _ h => by cases h)⟩⟩
theorem JL.call (h : JL w r c m us W) (hm : m c = false) {ev : Ending} (hp : LeftPost W r ev W') : ∃ u, ev = .returned u ∧ JL w r c (fun j => m j || j == c) (fun j => if j = c then u else us j) W' := by
  have hn : ∀ j, m j = false := fun j => by
    cases e : m j
    · rfl
    · have := h.dep j e; rw [hm] at this; cases this
  have hj : ∀ j, (m j || j == c) = true → j = c := fun j e => by simpa [hn j] using e
  have hb := h.below.trans (hp.below.mono h.below.size)
  by_cases h0 : r.2 = 0
  · obtain ⟨v, rfl, hv⟩ := hp.good h0
    refine ⟨_, rfl, hb, fun j e => by simp, v, .nilIface, fun _ => ⟨fun _ => ⟨rfl, ownsRow_base hv h.below.size⟩, fun e => absurd h0 e⟩, fun j e => ?_⟩
    obtain rfl := hj j e
    simp only [if_pos]
    rw [if_neg (by omega), if_neg (by omega)]
  · obtain ⟨X, rfl, h1, h2⟩ := hp.bad h0
    refine ⟨_, rfl, hb, fun j e => by simp, .slice none 0 0, _, fun _ => ⟨fun e => absurd e h0, fun _ => ⟨rfl, X, rfl, Nat.le_trans h.below.size h1, h2⟩⟩, fun j e => ?_⟩
    obtain rfl := hj j e
    simp only [if_pos]
    rw [if_neg (by omega), if_neg (by omega)]
theorem JL.pure (h : JL w r c m us W) (hm : m c = true) (hi : i ≠ c) {u : Value} (hu : ∀ v e, us c = .tuple #[v, e] → (∀ j, m j = true → us j = if j = c + 2 ∨ j = c + 4 then v else if j = c + 3 ∨ j = c + 5 then e else .tuple #[v, e]) → u = if i = c + 2 ∨ i = c + 4 then v else if i = c + 3 ∨ i = c + 5 then e else .tuple #[v, e]) :
    JL w r c (fun j => m j || j == i) (fun j => if j = i then u else us j) W := by
  obtain ⟨v, e, h1, h2⟩ := h.vals
  refine ⟨h.below, fun j hj => by simp [hm], v, e, fun _ => h1 hm, fun j hj => ?_⟩
  by_cases e1 : j = i
  · subst e1
    simp only [if_pos]
    exact hu v e (by rw [h2 c hm, if_neg (by omega), if_neg (by omega)]) h2
  · simp only [if_neg e1]
    exact h2 j (by simpa [e1] using hj)
end
theorem dealF_cons {L : List Nd} {s : Sp} {r : List Sp} {d D : Dl} (h : dealF L (s :: r) d = .ok D) : ∃ d', dealS L d s = .ok d' ∧ dealF L r d' = .ok D := by
  unfold dealF at h
  cases hs : dealS L d s with
  | error e => rw [hs] at h; cases h
  | ok d' => rw [hs] at h; exact ⟨d', rfl, h⟩
structure DlOk (n : Nat) (d : Dl) : Prop where
  few : d.boxes.length ≤ 255
  box : ∀ x ∈ d.boxes, x.length ≤ n * 2002
  rest : d.rest.length ≤ n * 2002
theorem leftP_len {n : Nd} {R : List Nd} (h : (leftP n R).2 = 0) : (leftP n R).1.length ≤ 2002 := by
  unfold leftP at h ⊢
  simp only at h ⊢
  split
  · split
    · simp
    split
    · rename_i hc
      have := (checkC_zero hc).1
      split
      · simp only [List.length_append, List.length_cons, List.length_nil]; omega
      · exact Nat.zero_le _
    · exact Nat.zero_le _
  · exact Nat.zero_le _
theorem itemN_le (L : List Nd) (x : Nat) : (itemN L x).length ≤ L.length := by unfold itemN; simp; omega
theorem putB_ok {n k : Nat} {B : List (List Nd)} {y : List Nd} (h : ∀ x ∈ B, x.length ≤ n * 2002) (hy : y.length ≤ 2002) : ∀ x ∈ putB B k y, x.length ≤ (n + 1) * 2002 := by
  intro x hx
  unfold putB at hx
  rcases List.mem_or_eq_of_mem_set hx with hx | rfl
  · have := h x hx; omega
  · rw [List.length_append]
    cases hg : B[k]? with
    | none => simp; omega
    | some z => have := h z (List.mem_of_getElem? hg); simp; omega
theorem padI_ok {n k : Nat} {B : List (List Nd)} (h : ∀ x ∈ B, x.length ≤ n * 2002) : ∀ x ∈ padI B k, x.length ≤ n * 2002 := by
  intro x hx
  unfold padI at hx
  rcases List.mem_append.1 hx with hx | hx
  · exact h x hx
  · rw [(List.mem_replicate.1 hx).2]; simp
theorem padI_few {k : Nat} {B : List (List Nd)} (h : B.length ≤ 255) (hk : k ≤ 254) : (padI B k).length ≤ 255 := by unfold padI; simp; omega
theorem dealS_ok {L : List Nd} {t n : Nat} {d d' : Dl} {s : Sp} (hL : L.length ≤ 2000) (hs : StepOk L t s) (h : DlOk n d) (hd : dealS L d s = .ok d') : DlOk (n + 1) d' := by
  obtain ⟨c, hc, hc2⟩ := hs.cls
  have hct : s.cls.toNat = c := by rw [hc, Int.toNat_natCast]
  have hi := insP_le (L := L) s.at_.toNat
  have hm := itemN_le L s.at_.toNat
  have hP := padI_ok (k := c) h.box
  have hF := padI_few (k := c) h.few hc2
  have hr := h.rest
  have hr1 : d.rest.length ≤ (n + 1) * 2002 := by omega
  have hr2 : ∀ y : List Nd, y.length ≤ 2002 → (d.rest ++ y).length ≤ (n + 1) * 2002 := fun y hy => by rw [List.length_append]; omega
  unfold dealS at hd
  simp only [hct] at hd
  split at hd
  · cases hd
    exact ⟨by simpa [putB] using hF, putB_ok hP (by omega), hr1⟩
  split at hd
  · cases hd
    exact ⟨hF, fun x hx => by have := hP x hx; omega, hr2 _ (by omega)⟩
  split at hd
  · rename_i hl
    cases hd
    have := leftP_len hl
    exact ⟨by simpa [putB] using hF, putB_ok hP (by rw [List.length_take]; omega), hr2 _ this⟩
  · cases hd
theorem fold_few {L : List Nd} {C : List Cl} {depth : Int} : ∀ (s : List Nat) (p : As × List Sp), (s.foldl (addI L C depth) p).2.length ≤ p.2.length + s.length
  | [], p => by simp
  | x :: s, p => by
    rw [List.foldl_cons]
    have := fold_few (L := L) (C := C) (depth := depth) s (addI L C depth p x)
    have h2 : (addI L C depth p x).2.length ≤ p.2.length + 1 := by
      unfold addI
      split
      · simp
      · omega
    simp only [List.length_cons]
    omega
theorem steps_few {L : List Nd} {C : List Cl} {goal depth : Int} : (accR L C goal depth).1.length ≤ (itsP L).length := by
  unfold accR
  split
  · split
    · have := fold_few (L := L) (C := C) (depth := depth) (itsP L) (As.mk goal 0 [] .zero, [])
      simpa [accF] using this
    · simp
  · simp
theorem dlIn_start {W : World} {base : Nat} {page : List Nd} {v : Value} (h : W.ownsRow base 53 19 v page.length (page.flatMap Nd.cells)) : DlIn W base (fun i => if i = 0 then v else .slice none 0 0) (.slice none 0 0) page ⟨[], []⟩ := by
  refine ⟨⟨fun i hi => ?_, fun i j hi hj hij q hq e => ?_⟩, World.ownsRow_nil _ _ _ _⟩
  · match i with
    | 0 => exact h
    | 1 => exact World.ownsRow_nil _ _ _ _
    | k + 2 => exact absurd hi (by show ¬ k + 2 < 2; omega)
  · match i, j with
    | 0, 0 => exact hij rfl
    | 0, j + 1 => cases e
    | i + 1, _ => cases hq
theorem padI_at (B : List (List Nd)) (k : Nat) : k < (padI B k).length := by unfold padI; simp; omega
theorem dealS_at {L : List Nd} {d : Dl} {s : Sp} {x c q : Nat} (hx : s.at_ = (x : Int)) (hc : s.cls = (c : Int)) (hq : s.split = (q : Int)) :
    dealS L d s = if s.what = 1 then .ok ⟨putB (padI d.boxes c) c (insP L x), d.rest⟩ else if s.what = 3 then .ok ⟨padI d.boxes c, d.rest ++ itemN L x⟩ else
      if (leftP (nth L x) ((insP L x).drop q)).2 = 0 then .ok ⟨putB (padI d.boxes c) c ((insP L x).take q), d.rest ++ (leftP (nth L x) ((insP L x).drop q)).1⟩ else .error (leftP (nth L x) ((insP L x).drop q)).2 := by
  unfold dealS
  rw [hx, hc, hq]
  rfl
end Go.Proofs.YtaehkbbdmamfpaaGreatDoor
