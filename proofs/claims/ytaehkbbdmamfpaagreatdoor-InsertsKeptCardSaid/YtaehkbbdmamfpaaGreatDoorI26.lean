/-
  Inserts: what a deal holds, when a row of it grows. No statement of the seat stands here.
-/
import Derived.Test.YtaehkbbdmamfpaaGreatDoorB6
import Derived.Test.YtaehkbbdmamfpaaGreatDoorI15
namespace Go.Proofs.YtaehkbbdmamfpaaGreatDoor
open Go.ChangeShapes Go.WideShapes Go.ChangeAt Go.RowKit
set_option maxRecDepth 100000
theorem row_not {W : World} {B : Nat} {e : TypeId} {size : Nat} {v : Value} {n : Nat} {xs : List Value} (h : W.ownsRow B e size v n xs) {q : Nat} {c : Array Value} {t : TypeId} (hb : Blk W q c t) (ht : t ≠ e) : v.ownBlock ≠ some q := by
  intro hq
  obtain ⟨_, ⟨rfl, _⟩ | ⟨g, c', cur, rfl, _, hg, _⟩⟩ := h
  · cases hq
  · simp only [Value.ownBlock, Option.some.injEq] at hq
    rw [hq] at hg
    unfold Blk at hb
    rw [hg] at hb
    simp only [Option.some.injEq, Obj.cells.injEq] at hb
    exact ht hb.2.1.symm
theorem step_ne_node : (49 : TypeId) ≠ 53 := by decide
theorem step_ne_row : (49 : TypeId) ≠ 22 := by decide
section
variable {W W' : World} {base : Nat} {vs : Nat → Value} {bv : Value} {page : List Nd} {d : Dl}
theorem DlIn.rest (h : DlIn W base vs bv page d) {y : List Nd} {v' : Value} (hr : W'.ownsRow base 53 19 v' (d.rest.length + y.length) (d.rest.flatMap Nd.cells ++ y.flatMap Nd.cells)) (hg : W.grownBy W' (vs 1).ownBlock) (hat : v'.ownBlock = (vs 1).ownBlock ∨ v'.ownBlock = some W.heap.size) :
    DlIn W' base (upd vs 1 v') bv page ⟨d.boxes, d.rest ++ y⟩ := by
  refine ⟨?_, ?_⟩
  · rw [rowX_rest]
    exact h.rws.grow (by omega) hr hg hat
  · show W'.ownsRow base _ 1 bv d.boxes.length (boxV (d.boxes.length + 2) (upd vs 1 v'))
    rw [boxV_low (by omega)]
    exact ownsRow_same h.out fun q hq hl => hg.block q hl (fun e => rows_apart h.out (h.rws.row 1 (by omega)) q e.symm hq)
theorem DlIn.push (h : DlIn W base vs bv page d) {bv' : Value} (hr : W'.ownsRow base 22 1 bv' (d.boxes.length + 1) (boxV (d.boxes.length + 2) vs ++ [.slice none 0 0])) (hg : W.grownBy W' bv.ownBlock) :
    DlIn W' base (upd vs (d.boxes.length + 2) (.slice none 0 0)) bv' page ⟨d.boxes ++ [[]], d.rest⟩ := by
  have e : (d.boxes ++ [([] : List Nd)]).length = d.boxes.length + 1 := by simp
  refine ⟨?_, ?_⟩
  · show Rws W' base ((d.boxes ++ [([] : List Nd)]).length + 2) _ _
    rw [rowX_push, e]
    exact (h.rws.far hg fun i q hi hq e => rows_apart h.out (h.rws.row i hi) q hq e).push
  · show W'.ownsRow base _ 1 bv' (d.boxes ++ [([] : List Nd)]).length (boxV ((d.boxes ++ [([] : List Nd)]).length + 2) _)
    rw [e]
    show W'.ownsRow base _ 1 bv' (d.boxes.length + 1) (boxV (d.boxes.length + 2 + 1) _)
    rw [boxV_push (by omega)]
    exact hr
theorem out_cell {N n : Nat} (h : W.ownsRow base 22 1 bv n (boxV N vs)) {k : Nat} (hk : k < N - 2) :
    ∃ g c, bv = .slice (some ⟨g, 0, none⟩) n c ∧ n = N - 2 ∧ n ≤ c ∧ base ≤ g ∧ W.cell? ⟨g, k, none⟩ = some (vs (k + 2)) ∧ W.frozen? ⟨g, k, none⟩ = false := by
  have hn := h.1
  rw [boxV_len] at hn
  obtain ⟨_, ⟨_, e⟩ | ⟨g, c, cur, rfl, hb, hg, hc, _⟩⟩ := id h
  · omega
  · refine ⟨g, c, rfl, by omega, hc, hb, ?_, frozen_of_row W g k cur _ hg⟩
    have := h.cells (g := g) rfl k (vs (k + 2)) (boxV_at hk)
    rwa [show (⟨g, 0, none⟩ : Addr).add k = ⟨g, k, none⟩ by unfold Addr.add; split <;> simp_all] at this
theorem out_set {N n g c : Nat} (h : W.ownsRow base 22 1 (.slice (some ⟨g, 0, none⟩) n c) n (boxV N vs)) {k : Nat} (hk : k < N - 2) (v : Value) :
    (W.setCell ⟨g, k, none⟩ v).ownsRow base 22 1 (.slice (some ⟨g, 0, none⟩) n c) n (boxV N (upd vs (k + 2) v)) := by
  obtain ⟨l1, ⟨e1, _⟩ | ⟨g1, c1, cur, e1, b1, hg, n1, m1, s1, t1⟩⟩ := id h
  · cases e1
  cases e1
  rw [boxV_upd hk]
  refine ⟨by rw [List.length_set]; exact l1, .inr ⟨g, c, _, rfl, b1, heap_setCell_same W g k cur _ _ hg, n1, m1, by simp [s1], ?_⟩⟩
  rw [← t1, Array.toList_setIfInBounds, List.take_set]
end
structure JB (w0 : World) (base : Nat) (vs : Nat → Value) (bv : Value) (page : List Nd) (d : Dl) (k : Nat) (y : List Nd) (Sb : Nat) (s : Sp) (iL iA iS : Nat) (m : Nat → Bool) (us : Nat → Value) (W : World) : Prop where
  below : Below base w0 W
  size : base ≤ W.heap.size
  blk : Blk W Sb s.arr 49
  ne : iL ≠ iA ∧ iL ≠ iS ∧ iA ≠ iS
  dep1 : m iS = true → m iA = true
  dep2 : m iA = true → m iL = true
  ld : m iL = true → us iL = vs (k + 2)
  pre : m iA = false → DlIn W base vs bv page d
  mid : m iA = true → m iS = false → Rws W base (d.boxes.length + 2) (upd vs (k + 2) (us iA)) (rowX page ⟨putB d.boxes k y, d.rest⟩) ∧ W.ownsRow base 22 1 bv d.boxes.length (boxV (d.boxes.length + 2) vs)
  post : m iS = true → DlIn W base (upd vs (k + 2) (us iA)) bv page ⟨putB d.boxes k y, d.rest⟩
section
variable {w0 W W' : World} {base : Nat} {vs : Nat → Value} {bv : Value} {page : List Nd} {d : Dl} {k : Nat} {y : List Nd} {Sb : Nat} {s : Sp} {iL iA iS : Nat} {m : Nat → Bool} {us : Nat → Value}
theorem JB.init (h : DlIn w0 base vs bv page d) (hs : base ≤ w0.heap.size) (hb : Blk w0 Sb s.arr 49) (hne : iL ≠ iA ∧ iL ≠ iS ∧ iA ≠ iS) : JB w0 base vs bv page d k y Sb s iL iA iS (fun _ => false) us w0.drew :=
  ⟨(Below.refl _ _).drew, hs, hb, hne, (fun h => by cases h), (fun h => by cases h), (fun h => by cases h), (fun _ => h.still ((Below.refl _ _).drew)), (fun h => by cases h), (fun h => by cases h)⟩
theorem JB.load (h : JB w0 base vs bv page d k y Sb s iL iA iS m us W) (hm : m iL = false) {u : Value} (hu : u = vs (k + 2)) : JB w0 base vs bv page d k y Sb s iL iA iS (fun j => m j || j == iL) (fun j => if j = iL then u else us j) W := by
  obtain ⟨n1, n2, n3⟩ := h.ne
  have hA : m iA = false := by
    cases e : m iA
    · rfl
    · have := h.dep2 e; rw [hm] at this; cases this
  have hS : m iS = false := by
    cases e : m iS
    · rfl
    · have := h.dep1 e; rw [hA] at this; cases this
  have eA : (m iA || iA == iL) = false := by simp [hA, Ne.symm n1]
  have eS : (m iS || iS == iL) = false := by simp [hS, Ne.symm n2]
  refine ⟨h.below, h.size, h.blk, h.ne, fun e => ?_, fun e => ?_, fun _ => ?_, fun _ => h.pre hA, fun e => ?_, fun e => ?_⟩
  · rw [eS] at e; cases e
  · rw [eA] at e; cases e
  · simp only [if_pos]; exact hu
  · rw [eA] at e; cases e
  · rw [eS] at e; cases e
theorem JB.app (h : JB w0 base vs bv page d k y Sb s iL iA iS m us W) (hk : k < d.boxes.length) (hL : m iL = true) (hm : m iA = false) {v' : Value}
    (hr : W'.ownsRow base 53 19 v' ((rowX page d (k + 2)).length + y.length) ((rowX page d (k + 2)).flatMap Nd.cells ++ y.flatMap Nd.cells)) (hg : W.grownBy W' (vs (k + 2)).ownBlock) (hat : v'.ownBlock = (vs (k + 2)).ownBlock ∨ v'.ownBlock = some W.heap.size) :
    JB w0 base vs bv page d k y Sb s iL iA iS (fun j => m j || j == iA) (fun j => if j = iA then v' else us j) W' := by
  obtain ⟨n1, n2, n3⟩ := h.ne
  have hS : m iS = false := by
    cases e : m iS
    · rfl
    · have := h.dep1 e; rw [hm] at this; cases this
  have eS : (m iS || iS == iA) = false := by simp [hS, Ne.symm n3]
  have eA : (m iA || iA == iA) = true := by simp
  have h0 := h.pre hm
  have hrow := h0.rws.row (k + 2) (by omega)
  refine ⟨h.below.grown hg h.size (fun q hq => (hrow.lt q hq).1), Nat.le_trans h.size hg.size, ?_, h.ne, fun e => ?_, fun _ => ?_, fun _ => ?_, fun e => ?_, fun _ _ => ⟨?_, ?_⟩, fun e => ?_⟩
  · exact (hg.block Sb h.blk.lt (fun e => row_not hrow h.blk step_ne_node e.symm)).trans h.blk
  · rw [eS] at e; cases e
  · simp [hL]
  · simp only [if_neg n1]; exact h.ld hL
  · rw [eA] at e; cases e
  · simp only [if_pos]
    rw [rowX_box page d hk y]
    exact h0.rws.grow (by omega) hr hg hat
  · exact ownsRow_same h0.out fun q hq hl => hg.block q hl (fun e => rows_apart h0.out hrow q e.symm hq)
  · rw [eS] at e; cases e
theorem JB.store (h : JB w0 base vs bv page d k y Sb s iL iA iS m us W) (hk : k < d.boxes.length) (hA : m iA = true) (hm : m iS = false) {g n c : Nat} (hbv : bv = .slice (some ⟨g, 0, none⟩) n c) (u : Value) :
    JB w0 base vs bv page d k y Sb s iL iA iS (fun j => m j || j == iS) (fun j => if j = iS then u else us j) (W.setCell ⟨g, k, none⟩ (us iA)) := by
  obtain ⟨n1, n2, n3⟩ := h.ne
  obtain ⟨h1, h2⟩ := h.mid hA hm
  have hL := h.dep2 hA
  obtain ⟨g', c', e', f1, _, f2, _, _⟩ := out_cell h2 (k := k) (by omega)
  rw [hbv] at e'
  cases e'
  subst hbv
  have hrow : ∀ i, i < d.boxes.length + 2 → (upd vs (k + 2) (us iA) i).ownBlock ≠ some g := fun i hi e => rows_apart h2 (h1.row i hi) g e rfl
  have hne : Sb ≠ g := fun e => row_not h2 h.blk step_ne_row (by rw [e]; rfl)
  refine ⟨h.below.setCell f2 _, ?_, ?_, h.ne, fun _ => ?_, fun _ => ?_, fun _ => ?_, fun e => ?_, fun _ e => ?_, fun _ => ?_⟩
  · exact Nat.le_trans h.size ((KeepsWalks.setCell W _ _).size)
  · exact h.blk.other (Ne.symm hne) _
  · simp [hA]
  · simp [hL]
  · simp only [if_neg n2]; exact h.ld hL
  · simp [hA] at e
  · simp at e
  · simp only [if_neg n3]
    refine ⟨⟨fun i hi => ?_, fun i j hi hj => h1.ne i j (by simpa [putB] using hi) (by simpa [putB] using hj)⟩, ?_⟩
    · exact ownsRow_setCell_other (h1.row i (by simpa [putB] using hi)) (hrow i (by simpa [putB] using hi)) _
    · show (W.setCell _ _).ownsRow base _ 1 _ (putB d.boxes k y).length (boxV ((putB d.boxes k y).length + 2) _)
      rw [show (putB d.boxes k y).length = d.boxes.length by simp [putB]]
      exact out_set h2 (by omega) _
end
def LeftIs (w : World) (r : List Nd × Int) (v e : Value) (W : World) : Prop :=
  (r.2 = 0 → e = .nilIface ∧ NRow w v r.1 W) ∧ (r.2 ≠ 0 → v = .slice none 0 0 ∧ ∃ X, e = .iface 75 (.pointer (some ⟨X, 0, none⟩)) ∧ w.heap.size ≤ X ∧ W.heap[X]? = some (.cells #[.int .i64 r.2] 79 (0, 0)))
structure JL (w : World) (r : List Nd × Int) (c : Nat) (m : Nat → Bool) (us : Nat → Value) (W : World) : Prop where
  below : Below w.heap.size w W
  dep : ∀ j, m j = true → m c = true
  vals : ∃ v e, (m c = true → LeftIs w r v e W) ∧ ∀ j, m j = true → us j = if j = c + 2 ∨ j = c + 4 then v else if j = c + 3 ∨ j = c + 5 then e else .tuple #[v, e]
section
variable {w W W' : World} {r : List Nd × Int} {c i : Nat} {m : Nat → Bool} {us : Nat → Value}
theorem JL.init : JL w r c (fun _ => false) us w.drew := ⟨(Below.refl _ _).drew, (fun _ h => by cases h), ⟨undef, undef, (fun h => by cases h), (fun _ h => by cases h)⟩⟩
theorem JL.call (h : JL w r c m us W) (hm : m c = false) {ev : Ending} (hp : LeftPost W r ev W') : ∃ u, ev = .returned u ∧ JL w r c (fun j => m j || j == c) (fun j => if j = c then u else us j) W' := by
  have hn : ∀ j, m j = false := fun j => by
    cases e : m j
    · rfl
    · have := h.dep j e; rw [hm] at this; cases this
  have hj : ∀ j, (m j || j == c) = true → j = c := fun j e => by simpa [hn j] using e
  have hb := h.below.trans (hp.below.mono h.below.size)
  by_cases h0 : r.2 = 0
  · obtain ⟨v, rfl, hv⟩ := hp.good h0
    refine ⟨_, rfl, hb, fun j e => by simp, v, .nilIface, fun _ => ⟨fun _ => ⟨rfl, ownsRow_base hv h.below.size⟩, fun e => absurd h0 e⟩, fun j e => ?_⟩
    obtain rfl := hj j e
    simp only [if_pos]
    rw [if_neg (by omega), if_neg (by omega)]
  · obtain ⟨X, rfl, h1, h2⟩ := hp.bad h0
    refine ⟨_, rfl, hb, fun j e => by simp, .slice none 0 0, _, fun _ => ⟨fun e => absurd e h0, fun _ => ⟨rfl, X, rfl, Nat.le_trans h.below.size h1, h2⟩⟩, fun j e => ?_⟩
    obtain rfl := hj j e
    simp only [if_pos]
    rw [if_neg (by omega), if_neg (by omega)]
theorem JL.pure (h : JL w r c m us W) (hm : m c = true) (hi : i ≠ c) {u : Value} (hu : ∀ v e, us c = .tuple #[v, e] → (∀ j, m j = true → us j = if j = c + 2 ∨ j = c + 4 then v else if j = c + 3 ∨ j = c + 5 then e else .tuple #[v, e]) → u = if i = c + 2 ∨ i = c + 4 then v else if i = c + 3 ∨ i = c + 5 then e else .tuple #[v, e]) :
    JL w r c (fun j => m j || j == i) (fun j => if j = i then u else us j) W := by
  obtain ⟨v, e, h1, h2⟩ := h.vals
  refine ⟨h.below, fun j hj => by simp [hm], v, e, fun _ => h1 hm, fun j hj => ?_⟩
  by_cases e1 : j = i
  · subst e1
    simp only [if_pos]
    exact hu v e (by rw [h2 c hm, if_neg (by omega), if_neg (by omega)]) h2
  · simp only [if_neg e1]
    exact h2 j (by simpa [e1] using hj)
end
theorem dealF_cons {L : List Nd} {s : Sp} {r : List Sp} {d D : Dl} (h : dealF L (s :: r) d = .ok D) : ∃ d', dealS L d s = .ok d' ∧ dealF L r d' = .ok D := by
  unfold dealF at h
  cases hs : dealS L d s with
  | error e => rw [hs] at h; cases h
  | ok d' => rw [hs] at h; exact ⟨d', rfl, h⟩
structure DlOk (n : Nat) (d : Dl) : Prop where
  few : d.boxes.length ≤ 255
  box : ∀ x ∈ d.boxes, x.length ≤ n * 2002
  rest : d.rest.length ≤ n * 2002
theorem leftP_len {n : Nd} {R : List Nd} (h : (leftP n R).2 = 0) : (leftP n R).1.length ≤ 2002 := by
  unfold leftP at h ⊢
  simp only at h ⊢
  split
  · split
    · simp
    split
    · rename_i hc
      have := (checkC_zero hc).1
      split
      · simp only [List.length_append, List.length_cons, List.length_nil]; omega
      · exact Nat.zero_le _
    · exact Nat.zero_le _
  · exact Nat.zero_le _
theorem itemN_le (L : List Nd) (x : Nat) : (itemN L x).length ≤ L.length := by unfold itemN; simp; omega
theorem putB_ok {n k : Nat} {B : List (List Nd)} {y : List Nd} (h : ∀ x ∈ B, x.length ≤ n * 2002) (hy : y.length ≤ 2002) : ∀ x ∈ putB B k y, x.length ≤ (n + 1) * 2002 := by
  intro x hx
  unfold putB at hx
  rcases List.mem_or_eq_of_mem_set hx with hx | rfl
  · have := h x hx; omega
  · rw [List.length_append]
    cases hg : B[k]? with
    | none => simp; omega
    | some z => have := h z (List.mem_of_getElem? hg); simp; omega
theorem padI_ok {n k : Nat} {B : List (List Nd)} (h : ∀ x ∈ B, x.length ≤ n * 2002) : ∀ x ∈ padI B k, x.length ≤ n * 2002 := by
  intro x hx
  unfold padI at hx
  rcases List.mem_append.1 hx with hx | hx
  · exact h x hx
  · rw [(List.mem_replicate.1 hx).2]; simp
theorem padI_few {k : Nat} {B : List (List Nd)} (h : B.length ≤ 255) (hk : k ≤ 254) : (padI B k).length ≤ 255 := by unfold padI; simp; omega
theorem dealS_ok {L : List Nd} {t n : Nat} {d d' : Dl} {s : Sp} (hL : L.length ≤ 2000) (hs : StepOk L t s) (h : DlOk n d) (hd : dealS L d s = .ok d') : DlOk (n + 1) d' := by
  obtain ⟨c, hc, hc2⟩ := hs.cls
  have hct : s.cls.toNat = c := by rw [hc, Int.toNat_natCast]
  have hi := insP_le (L := L) s.at_.toNat
  have hm := itemN_le L s.at_.toNat
  have hP := padI_ok (k := c) h.box
  have hF := padI_few (k := c) h.few hc2
  have hr := h.rest
  have hr1 : d.rest.length ≤ (n + 1) * 2002 := by omega
  have hr2 : ∀ y : List Nd, y.length ≤ 2002 → (d.rest ++ y).length ≤ (n + 1) * 2002 := fun y hy => by rw [List.length_append]; omega
  unfold dealS at hd
  simp only [hct] at hd
  split at hd
  · cases hd
    exact ⟨by simpa [putB] using hF, putB_ok hP (by omega), hr1⟩
  split at hd
  · cases hd
    exact ⟨hF, fun x hx => by have := hP x hx; omega, hr2 _ (by omega)⟩
  split at hd
  · rename_i hl
    cases hd
    have := leftP_len hl
    exact ⟨by simpa [putB] using hF, putB_ok hP (by rw [List.length_take]; omega), hr2 _ this⟩
  · cases hd
theorem fold_few {L : List Nd} {C : List Cl} {depth : Int} : ∀ (s : List Nat) (p : As × List Sp), (s.foldl (addI L C depth) p).2.length ≤ p.2.length + s.length
  | [], p => by simp
  | x :: s, p => by
    rw [List.foldl_cons]
    have := fold_few (L := L) (C := C) (depth := depth) s (addI L C depth p x)
    have h2 : (addI L C depth p x).2.length ≤ p.2.length + 1 := by
      unfold addI
      split
      · simp
      · omega
    simp only [List.length_cons]
    omega
theorem steps_few {L : List Nd} {C : List Cl} {goal depth : Int} : (accR L C goal depth).1.length ≤ (itsP L).length := by
  unfold accR
  split
  · split
    · have := fold_few (L := L) (C := C) (depth := depth) (itsP L) (As.mk goal 0 [] .zero, [])
      simpa [accF] using this
    · simp
  · simp
theorem dlIn_start {W : World} {base : Nat} {page : List Nd} {v : Value} (h : W.ownsRow base 53 19 v page.length (page.flatMap Nd.cells)) : DlIn W base (fun i => if i = 0 then v else .slice none 0 0) (.slice none 0 0) page ⟨[], []⟩ := by
  refine ⟨⟨fun i hi => ?_, fun i j hi hj hij q hq e => ?_⟩, World.ownsRow_nil _ _ _ _⟩
  · match i with
    | 0 => exact h
    | 1 => exact World.ownsRow_nil _ _ _ _
    | k + 2 => exact absurd hi (by show ¬ k + 2 < 2; omega)
  · match i, j with
    | 0, 0 => exact hij rfl
    | 0, j + 1 => cases e
    | i + 1, _ => cases hq
theorem padI_at (B : List (List Nd)) (k : Nat) : k < (padI B k).length := by unfold padI; simp; omega
theorem dealS_at {L : List Nd} {d : Dl} {s : Sp} {x c q : Nat} (hx : s.at_ = (x : Int)) (hc : s.cls = (c : Int)) (hq : s.split = (q : Int)) :
    dealS L d s = if s.what = 1 then .ok ⟨putB (padI d.boxes c) c (insP L x), d.rest⟩ else if s.what = 3 then .ok ⟨padI d.boxes c, d.rest ++ itemN L x⟩ else
      if (leftP (nth L x) ((insP L x).drop q)).2 = 0 then .ok ⟨putB (padI d.boxes c) c ((insP L x).take q), d.rest ++ (leftP (nth L x) ((insP L x).drop q)).1⟩ else .error (leftP (nth L x) ((insP L x).drop q)).2 := by
  unfold dealS
  rw [hx, hc, hq]
  rfl
def RunG (D : Int) (A : List Nd) : Prop := ∃ d, d ≤ D ∧ runC A [] 0 = some ([], d)
theorem RunG.its {D : Int} {A : List Nd} (h : RunG D A) : Items A 0 (itsP A) := by
  obtain ⟨d, _, hr⟩ := h
  obtain ⟨s, hs⟩ := items_of_run A A.length 0 0 d (by omega) (Nat.zero_le _) (by rw [List.drop_zero]; exact hr)
  rw [itsP_eq hs]; exact hs
theorem RunG.app {D : Int} {A B : List Nd} (ha : RunG D A) (hb : RunG D B) : RunG D (A ++ B) := by
  obtain ⟨d1, h1, r1⟩ := ha
  obtain ⟨d2, h2, r2⟩ := hb
  obtain ⟨_, e, he, r3⟩ := runC_dd _ _ _ _ _ d1 r2
  exact ⟨e, by omega, by rw [runC_app, r1]; exact r3⟩
theorem RunG.nil {D : Int} (hD : 0 ≤ D) : RunG D [] := ⟨0, hD, rfl⟩
theorem check_run {A : List Nd} : checkC A = 0 ↔ A.length ≤ 2000 ∧ RunG 40 A := by
  refine ⟨fun h => ?_, fun h => ?_⟩
  · obtain ⟨h1, d, h2, h3⟩ := checkC_zero h
    exact ⟨h1, d, h2, h3⟩
  · obtain ⟨h1, d, h2, h3⟩ := h
    unfold checkC
    rw [if_neg (by omega), h3]
    simp only [codeC]
    rw [if_neg (by simp), if_neg (by omega)]
theorem items_run3 {A : List Nd} {i : Nat} {s : List Nat} (h : Items A i s) : ∀ {d d' : Int}, runC (A.drop i) [] d = some ([], d') → ∀ t, t ∈ s ∨ t = A.length → ∃ e, e ≤ d' ∧ runC (sl A i (t - i)) [] d = some ([], e) ∧ runC (A.drop t) [] e = some ([], d') := by
  induction h with
  | done =>
    intro d d' hr t ht
    rcases ht with h | rfl
    · cases h
    · refine ⟨d, (runC_dd _ _ _ _ _ 0 hr).1, ?_, hr⟩
      rw [Nat.sub_self]; rfl
  | step hi hm hs ih =>
    rename_i i m s
    intro d d' hr t ht
    have hp := behC_pos _ _ _ hm
    rw [List.length_drop] at hp
    by_cases he : t = i
    · subst he
      refine ⟨d, (runC_dd _ _ _ _ _ 0 hr).1, ?_, hr⟩
      rw [Nat.sub_self]; rfl
    · have ht' : t ∈ s ∨ t = A.length := by
        rcases ht with h | h
        · rcases List.mem_cons.1 h with h | h
          · exact absurd h he
          · exact .inl h
        · exact .inr h
      have htm : i + m ≤ t := by
        rcases ht' with h | h
        · exact (hs.lt t h).1
        · omega
      have hml := sl_len (L := A) (i := i) (m := m) (by omega)
      have e : A.drop i = sl A i m ++ (A.drop i).drop m := (List.take_append_drop m (A.drop i)).symm
      have hr0 := hr
      rw [e, runC_app] at hr0
      obtain ⟨⟨st, d2⟩, h2, h3⟩ := Option.bind_eq_some_iff.1 hr0
      have hst : st = [] := runC_len (sl A i m) ((A.drop i).drop m) [] st d d2 h2 (by rw [← e, hml]; exact hm)
      subst hst
      rw [List.drop_drop] at h3
      obtain ⟨e2, h4, h5, h6⟩ := ih h3 t ht'
      refine ⟨e2, h4, ?_, h6⟩
      have es : sl A i (t - i) = sl A i m ++ sl A (i + m) (t - (i + m)) := by
        unfold sl
        rw [← List.drop_drop, ← List.take_add]
        congr 1; omega
      rw [es, runC_app, h2]
      exact h5
theorem RunG.cut {D : Int} {A : List Nd} (h : RunG D A) (h0 : 0 ≤ D) {t : Nat} (ht : t ∈ itsP A ∨ t = A.length) : RunG D (A.take t) ∧ RunG D (A.drop t) := by
  have hs := h.its
  obtain ⟨d, hd, hr⟩ := h
  obtain ⟨e, h1, h2, h3⟩ := items_run3 hs (by rw [List.drop_zero]; exact hr) t ht
  obtain ⟨_, e2, h4, h5⟩ := runC_dd _ _ _ _ _ 0 h3
  refine ⟨⟨e, by omega, ?_⟩, ⟨e2, by omega, h5⟩⟩
  rw [Nat.sub_zero] at h2
  exact h2
theorem itemN_sl {L : List Nd} {x m : Nat} (hm : behC (L.drop x) 0 = some m) : itemN L x = sl L x m := by unfold itemN sl; rw [hm]; rfl
theorem RunG.item {D : Int} {A : List Nd} (h : RunG D A) (h0 : 0 ≤ D) {x : Nat} (hx : x ∈ itsP A) : RunG D (itemN A x) := by
  have hs := h.its
  obtain ⟨m, hm⟩ := hs.at_ x hx
  obtain ⟨d, hd, hr⟩ := (h.cut h0 (.inl hx)).2
  have hp := behC_pos _ _ _ hm
  rw [List.length_drop] at hp
  have hml := sl_len (L := A) (i := x) (m := m) (by omega)
  have e : A.drop x = sl A x m ++ (A.drop x).drop m := (List.take_append_drop m (A.drop x)).symm
  rw [itemN_sl hm]
  rw [e, runC_app] at hr
  obtain ⟨⟨st, d2⟩, h2, h3⟩ := Option.bind_eq_some_iff.1 hr
  have hst : st = [] := runC_len (sl A x m) ((A.drop x).drop m) [] st 0 d2 h2 (by rw [← e, hml]; exact hm)
  subst hst
  have := (runC_dd _ _ _ _ _ 0 h3).1
  exact ⟨d2, by omega, h2⟩
/-! ### One deeper -/
theorem stepC_up {k : Int} {st st' : List Int} {d d' : Int} (h : stepC k st d = some (st', d')) : stepC k (-1 :: st) (d + 1) = some (-1 :: st', d' + 1) := by
  unfold stepC at h ⊢
  by_cases h6 : k = 6
  · rw [if_pos h6] at h ⊢
    cases st with
    | nil => cases h
    | cons a st =>
      rw [List.getLast?_cons_cons]
      cases hg : (a :: st).getLast? with
      | none => rw [hg] at h; cases h
      | some x =>
        rw [hg] at h
        simp only at h ⊢
        by_cases hx : 0 < x
        · rw [if_pos hx] at h; cases h
        · rw [if_neg hx] at h ⊢
          cases h
          rfl
  rw [if_neg h6] at h ⊢
  by_cases h11 : k = 11
  · rw [if_pos h11] at h ⊢
    cases st with
    | nil => cases h
    | cons a st =>
      rw [List.getLast?_cons_cons]
      cases hg : (a :: st).getLast? with
      | none => rw [hg] at h; cases h
      | some x =>
        rw [hg] at h
        simp only at h ⊢
        by_cases hx : x < 1
        · rw [if_pos hx] at h; cases h
        · rw [if_neg hx] at h ⊢
          cases h
          rfl
  rw [if_neg h11] at h ⊢
  cases st with
  | nil =>
    change (if false = true then none else some _) = _ at h
    change (if false = true then none else some _) = _
    rw [if_neg (by decide)] at h ⊢
    cases h
    simp only [Option.some.injEq, Prod.mk.injEq, List.length_cons, List.length_nil]
    refine ⟨by split <;> simp, by omega⟩
  | cons a st =>
    rw [List.getLast?_cons_cons]
    cases hg : (a :: st).getLast? with
    | none => simp at hg
    | some x =>
      rw [hg] at h
      simp only at h ⊢
      by_cases h3 : (decide (0 ≤ x) && !smallK k) = true
      · rw [if_pos h3] at h; cases h
      · rw [if_neg h3] at h ⊢
        cases h
        simp only [Option.some.injEq, Prod.mk.injEq, List.length_cons]
        refine ⟨by split <;> simp, by omega⟩
theorem runC_up : ∀ (l : List Nd) (st st' : List Int) (d d' : Int), runC l st d = some (st', d') → runC l (-1 :: st) (d + 1) = some (-1 :: st', d' + 1)
  | [], st, st', d, d', h => by
    unfold runC at h ⊢
    cases h; rfl
  | n :: l, st, st', d, d', h => by
    unfold runC at h ⊢
    split at h
    · rename_i hr
      rw [if_pos hr]
      obtain ⟨⟨s1, d1⟩, h1, h2⟩ := Option.bind_eq_some_iff.1 h
      rw [stepC_up h1]
      exact runC_up l s1 st' d1 d' h2
    · cases h
theorem ins_run {A : List Nd} (h : RunG 40 A) {x : Nat} (hx : x ∈ itsP A) (hk : (nth A x).kind = 13) (hi : ∃ d, runC (insP A x) [] 0 = some ([], d)) : RunG 39 (insP A x) := by
  have hs := h.its
  obtain ⟨m, hm⟩ := hs.at_ x hx
  have hlt := (hs.lt x hx).2
  have h2 := opens_two hlt (by rw [hk]; rfl) hm
  obtain ⟨d, hd, hr⟩ := (h.cut (by decide) (.inl hx)).2
  have hp := behC_pos _ _ _ hm
  rw [List.length_drop] at hp
  obtain ⟨di, hdi⟩ := hi
  refine ⟨di, ?_, hdi⟩
  rw [List.drop_eq_getElem_cons hlt, ← nth_get hlt] at hr
  unfold runC at hr
  split at hr
  · obtain ⟨⟨s1, d1⟩, h3, h4⟩ := Option.bind_eq_some_iff.1 hr
    rw [hk] at h3
    have h5 : stepC 13 [] 0 = some ([-1], 1) := by decide
    rw [h5] at h3
    cases h3
    simp only at h4
    have e : A.drop (x + 1) = insP A x ++ (A.drop (x + 1)).drop (m - 2) := by rw [insP_eq hm]; exact (List.take_append_drop (m - 2) _).symm
    rw [e, runC_app] at h4
    obtain ⟨⟨s2, d2⟩, h6, h7⟩ := Option.bind_eq_some_iff.1 h4
    have h8 := runC_up _ _ _ _ _ hdi
    rw [Int.zero_add] at h8
    rw [h8] at h6
    cases h6
    have := (runC_dd _ _ _ _ _ 0 h7).1
    omega
  · cases hr
theorem end_right : rightB endN = true := by decide +kernel
theorem wrap_run {n : Nd} {q : List Nd} (hn : rightB n = true) (hk : n.kind = 13) (hq : RunG 39 q) : RunG 40 ((n :: q) ++ [endN]) := by
  obtain ⟨d, hd, hr⟩ := hq
  refine ⟨d + 1, by omega, ?_⟩
  have h8 := runC_up _ _ _ _ _ hr
  rw [Int.zero_add] at h8
  have h5 : stepC 13 [] 0 = some ([-1], 1) := by decide
  rw [List.cons_append]
  unfold runC
  rw [if_pos hn, hk, h5]
  show runC (q ++ [endN]) [-1] 1 = _
  rw [runC_app, h8]
  show runC [endN] [-1] (d + 1) = _
  unfold runC
  rw [if_pos end_right]
  rfl
theorem items_ne6 {D : Int} {A : List Nd} (h : RunG D A) {x : Nat} (hx : x ∈ itsP A) : (nth A x).kind ≠ 6 := by
  have hs := h.its
  obtain ⟨d, hd, hr⟩ := h
  obtain ⟨e, _, _, h1⟩ := items_run3 hs (by rw [List.drop_zero]; exact hr) x (.inl hx)
  have hlt := (hs.lt x hx).2
  rw [List.drop_eq_getElem_cons hlt] at h1
  unfold runC at h1
  split at h1
  · obtain ⟨⟨X, d2⟩, h2, _⟩ := Option.bind_eq_some_iff.1 h1
    rw [nth_get hlt]
    exact ((stepC_len h2).2 rfl).1
  · cases h1
theorem beh_run {D : Int} {A : List Nd} (h : RunG D A) (B : List Nd) {n : Int} (hn : 1 ≤ n) : behC (A ++ B) n = (behC B n).map (· + A.length) := by
  have key : ∀ {i : Nat} {s : List Nat}, Items A i s → (∀ x ∈ s, (nth A x).kind ≠ 6) → behC (A.drop i ++ B) n = (behC B n).map (· + (A.length - i)) := by
    intro i s hs
    induction hs with
    | done =>
      intro _
      rw [List.drop_length, List.nil_append, Nat.sub_self]
      cases behC B n <;> rfl
    | step hi hm hs ih =>
      rename_i i m s
      intro hk
      have hp := behC_pos _ _ _ hm
      rw [List.length_drop] at hp
      rw [behC_lift (behC_app _ _ _ _ hm) (fun y hy => ?_) hn]
      · have e : (A.drop i ++ B).drop m = A.drop (i + m) ++ B := by
          rw [List.drop_append_of_le_length (by rw [List.length_drop]; omega), List.drop_drop]
        rw [e, ih (fun x hx => hk x (List.mem_cons_of_mem _ hx)), Option.map_map]
        congr 1
        funext z
        show z + (A.length - (i + m)) + m = z + (A.length - i)
        omega
      · rw [List.drop_eq_getElem_cons hi] at hy
        simp only [List.cons_append, List.head?_cons, Option.some.injEq] at hy
        rw [← hy, ← nth_get hi]
        exact hk i (by simp)
  have := key h.its (fun x hx => items_ne6 h hx)
  rwa [List.drop_zero, Nat.sub_zero] at this
/-! ### Item by item -/
def itF (f : List Nd → List Nd) (A : List Nd) : List Nd := (itsP A).flatMap fun x => f (itemN A x)
theorem flat_same {α β : Type} {f g : α → List β} {s : List α} (h : ∀ x ∈ s, f x = g x) : s.flatMap f = s.flatMap g := by
  rw [List.flatMap_def, List.flatMap_def, List.map_congr_left h]
theorem item_app {A B : List Nd} {x m : Nat} (hx : x ≤ A.length) (hm : behC (A.drop x) 0 = some m) : itemN (A ++ B) x = itemN A x := by
  have hp := behC_pos _ _ _ hm
  have e : (A ++ B).drop x = A.drop x ++ B := List.drop_append_of_le_length hx
  have h2 : behC ((A ++ B).drop x) 0 = some m := by rw [e]; exact behC_app _ _ _ _ hm
  rw [itemN_sl h2, itemN_sl hm]
  unfold sl
  rw [e, List.take_append_of_le_length hp.2]
theorem item_far (A B : List Nd) (y : Nat) : itemN (A ++ B) (A.length + y) = itemN B y := by
  have e : (A ++ B).drop (A.length + y) = B.drop y := by rw [List.drop_append, List.drop_eq_nil_of_le (by omega), List.nil_append, Nat.add_sub_cancel_left]
  unfold itemN
  rw [e]
theorem itF_app (f : List Nd → List Nd) {A B : List Nd} (ha : Items A 0 (itsP A)) (hb : Items B 0 (itsP B)) : itF f (A ++ B) = itF f A ++ itF f B := by
  have e := itsP_eq (items_app ha hb)
  unfold itF
  rw [e, List.flatMap_append, List.flatMap_map]
  congr 1
  · refine flat_same fun x hx => ?_
    obtain ⟨m, hm⟩ := ha.at_ x hx
    rw [item_app (Nat.le_of_lt (ha.lt x hx).2) hm]
  · refine flat_same fun x hx => ?_
    rw [item_far]
theorem itF_nil (f : List Nd → List Nd) : itF f [] = [] := by
  have e : itsP [] = [] := itsP_eq (L := []) .done
  unfold itF
  rw [e]; rfl
theorem its_one {A : List Nd} {x m : Nat} (hm : behC (A.drop x) 0 = some m) : itsP (itemN A x) = [0] := by
  rw [itemN_sl hm]
  exact itsP_eq (items_one hm)
theorem item_own {A : List Nd} {x m : Nat} (hm : behC (A.drop x) 0 = some m) : behC ((itemN A x).drop 0) 0 = some m := by
  rw [itemN_sl hm, List.drop_zero]
  exact behC_take0 _ _ _ hm
theorem itF_one (f : List Nd → List Nd) {A : List Nd} {x m : Nat} (hm : behC (A.drop x) 0 = some m) : itF f (itemN A x) = f (itemN A x) := by
  have h1 := item_own hm
  have hp := behC_pos _ _ _ h1
  unfold itF
  rw [its_one hm, List.flatMap_singleton]
  congr 1
  rw [itemN_sl h1]
  unfold sl
  rw [List.drop_zero] at hp ⊢
  have hq := behC_pos _ _ _ hm
  have hl : (itemN A x).length = m := by rw [itemN_sl hm]; exact sl_len (by rw [List.length_drop] at hq; omega)
  rw [← hl, List.take_length]
theorem item_head {A : List Nd} {x m : Nat} (hm : behC (A.drop x) 0 = some m) : nth (itemN A x) 0 = nth A x := by
  have hp := behC_pos _ _ _ hm
  rw [itemN_sl hm, nth_sl (by omega), Nat.add_zero]
theorem item_ins {A : List Nd} {x m : Nat} (hm : behC (A.drop x) 0 = some m) : insP (itemN A x) 0 = insP A x := by
  rw [insP_eq (item_own hm), insP_eq hm, itemN_sl hm]
  unfold sl
  rw [List.drop_take, List.drop_drop, List.take_take]
  congr 1
  omega
theorem items_flat {A : List Nd} {i : Nat} {s : List Nat} (h : Items A i s) : s.flatMap (itemN A) = A.drop i := by
  induction h with
  | done => simp
  | step hi hm hs ih =>
    rename_i i m s
    rw [List.flatMap_cons, ih, itemN_sl hm]
    unfold sl
    rw [← List.drop_drop, List.take_append_drop]
theorem items_from {A : List Nd} {i : Nat} {s : List Nat} (h : Items A i s) : ∀ j, j ≤ i → Items (A.drop j) (i - j) (s.map (· - j)) := by
  induction h with
  | done =>
    intro j hj
    have := Items.done (L := A.drop j)
    rwa [List.length_drop] at this
  | step hi hm hs ih =>
    rename_i i m s
    intro j hj
    refine .step (m := m) (by rw [List.length_drop]; omega) ?_ ?_
    · rw [List.drop_drop, show j + (i - j) = i by omega]; exact hm
    · have := ih j (by omega)
      rwa [show i + m - j = i - j + m by omega] at this
theorem its_self {A : List Nd} {s : List Nat} (h : Items A 0 s) : Items A 0 (itsP A) := by rw [itsP_eq h]; exact h
theorem items_from0 {A : List Nd} {i : Nat} {s : List Nat} (h : Items A i s) : Items (A.drop i) 0 (s.map (· - i)) := by
  have := items_from h i (Nat.le_refl _)
  rwa [Nat.sub_self] at this
theorem itF_part (f : List Nd → List Nd) {A : List Nd} {i : Nat} {s : List Nat} (h : Items A i s) : itF f (A.drop i) = s.flatMap fun x => f (itemN A x) := by
  unfold itF
  rw [itsP_eq (items_from0 h), List.flatMap_map]
  refine flat_same fun x hx => ?_
  have hle := (h.lt x hx).1
  congr 1
  unfold itemN
  rw [List.drop_drop, show i + (x - i) = x by omega]
end Go.Proofs.YtaehkbbdmamfpaaGreatDoor
