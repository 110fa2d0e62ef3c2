/-
  One more way to a break: what the program's ways$1 works on.
-/
import Derived.Test.YtiijpbfkchokaaaGreatVBs
import Derived.Test.YtiijpbfkchokaaaGreatB24
import Derived.Test.YtiijpbfkchokaaaGreatB26
namespace Go.Proofs.YtiijpbfkchokaaaGreat
open Go.ChangeShapes Go.WideShapes Go.ChangeAt Go.RowKit
def stOf (j : Nat) (a : Wy) : St3 := ⟨j, a.ats.length, a.cls⟩
structure WyB (n : Nat) (a : Wy) : Prop where
  len : a.ats.length ≤ n
  over : -(100000000000000 * (a.ats.length : Int)) ≤ a.over ∧ a.over ≤ 100000000000000 * (a.ats.length : Int)
  total : -(10000000000 * (a.ats.length : Int)) ≤ a.total ∧ a.total ≤ 10000000000 * (a.ats.length : Int)
  bad : 0 ≤ a.bad ∧ a.bad ≤ a.ats.length
  cls : -10 ≤ a.cls ∧ a.cls ≤ 10
theorem WyB.start (n : Nat) : WyB n Wy.start := ⟨Nat.zero_le _, by simp [Wy.start], by simp [Wy.start], by simp [Wy.start], by simp [Wy.start]⟩
structure BkB (x : Bk) : Prop where
  over : -100000000000000 ≤ x.over ∧ x.over ≤ 100000000000000
  dem : -10000000000 ≤ x.dem ∧ x.dem ≤ 10000000000
  cls : -10 ≤ x.cls ∧ x.cls ≤ 10
theorem WyB.ext {n : Nat} {a : Wy} (h : WyB n a) {x : Bk} (hx : BkB x) (y : Nat) : WyB (n + 1) (a.ext y x) := by
  obtain ⟨h1, h2, h3, h4, h5⟩ := h
  obtain ⟨x1, x2, x3⟩ := hx
  have e : ((a.ats ++ [y]).length : Int) = (a.ats.length : Int) + 1 := by rw [List.length_append, List.length_singleton]; omega
  refine ⟨?_, ?_, ?_, ?_, x3⟩
  · show (a.ats ++ [y]).length ≤ n + 1
    rw [List.length_append, List.length_singleton]; omega
  · show -(100000000000000 * ((a.ats ++ [y]).length : Int)) ≤ a.over + x.over ∧ a.over + x.over ≤ 100000000000000 * ((a.ats ++ [y]).length : Int)
    rw [e]; omega
  · show -(10000000000 * ((a.ats ++ [y]).length : Int)) ≤ a.total + x.dem ∧ a.total + x.dem ≤ 10000000000 * ((a.ats ++ [y]).length : Int)
    rw [e]; omega
  · show 0 ≤ a.bad + (if x.isBad then 1 else 0) ∧ a.bad + (if x.isBad then 1 else 0) ≤ ((a.ats ++ [y]).length : Int)
    rw [e]; split <;> omega
theorem one_bound {P : Pm} {S : List Sh2} {L : List Nd} {s : List Nat} {tol ext : Int} (hok : TryOk P S L s tol ext) {f : Option Nat} {x : Nat × Int} (hf : ∀ y, f = some y → y ∈ s) (hx : x ∈ brkP L P s) (line before : Int) : BkB (oneP L P S s tol ext f x line before) := by
  have hPN := pmC_zero hok.pm
  have hm := brkP_mem hx
  have hbT := line_bound hok.chk hok.items hPN.left hPN.right hf hm.1
  have hT1 : TtB 14100000000000 ((lineT L P s f x.1).plus ⟨0, ext, 0, 0, 0, 0, 0, 0, 0⟩) := (hbT.plus (K := 14000000000000) (J := 1073741823) (by have := hok.ext; constructor <;> (simp only; omega))).mono (by omega)
  have hw := wid_bound hok.pm line
  have hc := one_cls L P S s tol ext f x line before
  have hj := jud_bound ((lineT L P s f x.1).plus ⟨0, ext, 0, 0, 0, 0, 0, 0, 0⟩) (widP P S line).1
  refine ⟨?_, ?_, hc⟩
  · unfold oneP oneB
    generalize (lineT L P s f x.1).plus ⟨0, ext, 0, 0, 0, 0, 0, 0, 0⟩ = T at hT1
    have a1 := hT1.nat
    have a2 := hT1.h0
    simp only
    split <;> (simp only; split <;> omega)
  · unfold oneP oneB
    generalize (lineT L P s f x.1).plus ⟨0, ext, 0, 0, 0, 0, 0, 0, 0⟩ = T at hj
    simp only
    split
    · simp
    · simp only
      unfold demP
      have hq := hm.2
      have d1 : ∀ d : Int, 0 ≤ (if -9999 ≤ d ∧ d ≤ 9999 then d * d else 100000000) ∧ (if -9999 ≤ d ∧ d ≤ 9999 then d * d else 100000000) ≤ 100000000 := fun d => by
        split
        · rename_i h9
          have := sq_bd (d := d) (N := 9999) h9.1 h9.2
          omega
        · omega
      have d2 : -100000000 ≤ (if 0 < x.2 then x.2 * x.2 else if -10000 < x.2 then -(x.2 * x.2) else 0) ∧ (if 0 < x.2 then x.2 * x.2 else if -10000 < x.2 then -(x.2 * x.2) else 0) ≤ 100000000 := by
        split
        · have := sq_bd (d := x.2) (N := 9999) (by omega) (by omega)
          omega
        · split
          · have := sq_bd (d := x.2) (N := 9999) (by omega) (by omega)
            omega
          · omega
      have d3 := d1 (P.linep + (judP T (widP P S line).1).1)
      have p1 := hPN.adj
      have p2 := hPN.dbl
      have p3 := hPN.fin
      generalize (if -9999 ≤ P.linep + (judP T (widP P S line).1).1 ∧ P.linep + (judP T (widP P S line).1).1 ≤ 9999 then (P.linep + (judP T (widP P S line).1).1) * (P.linep + (judP T (widP P S line).1).1) else 100000000) = A at d3
      generalize (if 0 < x.2 then x.2 * x.2 else if -10000 < x.2 then -(x.2 * x.2) else 0) = A2 at d2
      split <;> split <;> split <;> omega
theorem row_typ {w : World} {base : Nat} {e : TypeId} {size : Nat} {v : Value} {n : Nat} {xs : List Value} (h : w.ownsRow base e size v n xs) {g : Nat} (hg : v.ownBlock = some g) : ∃ cur, w.heap[g]? = some (.cells cur e (0, 0)) := by
  obtain ⟨_, ⟨rfl, _⟩ | ⟨g', cap, cur, rfl, _, h2, _⟩⟩ := h
  · cases hg
  · cases hg
    exact ⟨cur, h2⟩
structure WaI (w0 : World) (N Y n : Nat) (all : Bool) (vals : Nat → Value) (D : List (St3 × Nat)) (E : Nat → List Wy) (W : World) : Prop where
  below : Below w0.heap.size w0 W
  cx : W.heap[N]? = some (.cells #[.pointer (some ⟨Y, 0, none⟩)] 71 (0, 0))
  ca : W.heap[N + 1]? = some (.cells #[.bool all] 4 (0, 0))
  map : MapV W (N + 2) (stM D)
  cb : W.heap[N + 3]? = some (.cells #[.map (some (N + 2))] 119 (0, 0))
  ob : W.heap[N + 4]? = some (.cells ((List.range n).map vals).toArray 125 (0, 0))
  co : W.heap[N + 5]? = some (.cells #[.slice (some ⟨N + 4, 0, none⟩) n n] 120 (0, 0))
  rows : ∀ j, j < n → W.ownsRow (N + 6) 122 3 (vals j) (E j).length ((E j).flatMap fun a => (stOf j a).cells)
  ne : ∀ i j, i < n → j < n → i ≠ j → ∀ q, (vals i).ownBlock = some q → (vals j).ownBlock ≠ some q
  ways : ∀ j a, j < n → a ∈ E j → ∃ p, getS D (stOf j a) = some p ∧ WayAt W p a
  keys : ∀ st p, getS D st = some p → ∃ j a, j < n ∧ st = stOf j a ∧ a ∈ E j
  wb : ∀ j a, j < n → a ∈ E j → WyB (j + 1) a
  size : w0.heap.size = N
  uq : ∀ j, j < n → ((E j).map (stOf j)).Nodup
theorem WaI.still {w0 : World} {N Y n : Nat} {all : Bool} {vals : Nat → Value} {D : List (St3 × Nat)} {E : Nat → List Wy} {W W' : World} (h : WaI w0 N Y n all vals D E W) (hb : Below W.heap.size W W') : WaI w0 N Y n all vals D E W' :=
  ⟨h.below.trans (hb.mono h.below.size), (hb.block N (Array.getElem?_eq_some_iff.1 h.cx).1).trans h.cx, (hb.block _ (Array.getElem?_eq_some_iff.1 h.ca).1).trans h.ca, h.map.same (hb.block _ h.map.lt), (hb.block _ (Array.getElem?_eq_some_iff.1 h.cb).1).trans h.cb, (hb.block _ (Array.getElem?_eq_some_iff.1 h.ob).1).trans h.ob, (hb.block _ (Array.getElem?_eq_some_iff.1 h.co).1).trans h.co, fun j hj => ownsRow_below (h.rows j hj) hb, h.ne, fun j a hj ha => by
    obtain ⟨p, h1, h2⟩ := h.ways j a hj ha
    exact ⟨p, h1, h2.keep (.of_below hb)⟩, h.keys, h.wb, h.size, h.uq⟩
def bdWy (parts : Array (Nat × Value)) : Sem Value := Instr.build 79 parts
@[go_sem ↓] theorem execOp_buildWy (ρ : Operand → Value) (dst : Option Tmp) (x : Array (Nat × Operand)) (ty : TypeId) (pos : String) (after : Array Edge) (guard : Option (Nat × Bool)) :
    execOp ρ { dst, op := .build 79 x, type := ty, pos, after, guard } = (do pure (.value (← bdWy (x.map fun (i, y) => (i, ρ y))))) := rfl
@[go_sem] theorem run_bdWy (a b : Int) (o : Option Addr) (x n : Int) (w : World) : (bdWy #[(0, .int .i64 a), (2, .int .i64 b), (3, .pointer o), (4, .int .i64 x), (5, .int .i64 n)]).run Tryz.prog w = .ok (.agg (wayArr a 0 b (.pointer o) x n)) w := by kernel_rfl
theorem ptrO_eq (po : Option Nat) : ptrO po = .pointer (po.map fun p => ⟨p, 0, none⟩) := by cases po <;> rfl
theorem stOf_eq {j : Nat} {a y : Wy} : stOf j a = stOf j y ↔ (a.ats.length = y.ats.length ∧ a.cls = y.cls) := by
  unfold stOf
  simp only [St3.mk.injEq, true_and]
  constructor
  · intro ⟨h1, h2⟩; exact ⟨by omega, h2⟩
  · intro ⟨h1, h2⟩; exact ⟨by rw [h1], h2⟩
theorem addW_new (j : Nat) (w : Wy) : ∀ l : List Wy, (∀ y ∈ l, stOf j y ≠ stOf j w) → addW l w = l ++ [w]
  | [], _ => rfl
  | y :: r, h => by
    unfold addW
    rw [if_neg (fun e => h y List.mem_cons_self (stOf_eq.2 e)), addW_new j w r fun z hz => h z (List.mem_cons_of_mem _ hz)]
    rfl
theorem addW_old (j : Nat) (w y : Wy) : ∀ l : List Wy, y ∈ l → stOf j y = stOf j w → (l.map (stOf j)).Nodup → (betB w y = false → addW l w = l) ∧ (betB w y = true → (addW l w).map (stOf j) = l.map (stOf j) ∧ (addW l w).length = l.length ∧ w ∈ addW l w ∧ ∀ z ∈ addW l w, z = w ∨ (z ∈ l ∧ stOf j z ≠ stOf j w))
  | [], hy, _, _ => by cases hy
  | z :: r, hy, he, hn => by
    rw [List.map_cons, List.nodup_cons] at hn
    by_cases hz : stOf j z = stOf j w
    · have hzy : z = y := by
        rcases List.mem_cons.1 hy with h1 | h1
        · exact h1.symm
        · exact absurd (List.mem_map.2 ⟨y, h1, by rw [he, hz]⟩) hn.1
      subst hzy
      have h2 := stOf_eq.1 hz
      unfold addW
      rw [if_pos h2]
      refine ⟨fun hb => by rw [hb]; rfl, fun hb => ?_⟩
      rw [hb]
      refine ⟨by simp only [if_true, List.map_cons, hz], by simp, by simp, fun q hq => ?_⟩
      rcases List.mem_cons.1 hq with h3 | h3
      · left; simpa using h3
      · right
        refine ⟨List.mem_cons_of_mem _ h3, fun e => hn.1 (List.mem_map.2 ⟨q, h3, by rw [e, hz]⟩)⟩
    · have h2 : ¬ (z.ats.length = w.ats.length ∧ z.cls = w.cls) := fun e => hz (stOf_eq.2 e)
      have hyr : y ∈ r := by
        rcases List.mem_cons.1 hy with h1 | h1
        · subst h1; exact absurd he hz
        · exact h1
      obtain ⟨i1, i2⟩ := addW_old j w y r hyr he hn.2
      unfold addW
      rw [if_neg h2]
      refine ⟨fun hb => by rw [i1 hb], fun hb => ?_⟩
      obtain ⟨j1, j2, j3, j4⟩ := i2 hb
      refine ⟨by rw [List.map_cons, List.map_cons, j1], by rw [List.length_cons, List.length_cons, j2], List.mem_cons_of_mem _ j3, fun q hq => ?_⟩
      rcases List.mem_cons.1 hq with h3 | h3
      · rw [h3]; exact .inr ⟨List.mem_cons_self, hz⟩
      · rcases j4 q h3 with h4 | ⟨h4, h5⟩
        · exact .inl h4
        · exact .inr ⟨List.mem_cons_of_mem _ h4, h5⟩
theorem nodup_below : ∀ (M : Nat) (l : List Nat), l.Nodup → (∀ x ∈ l, x < M) → l.length ≤ M
  | 0, [], _, _ => Nat.le_refl _
  | 0, x :: _, _, h => absurd (h x List.mem_cons_self) (Nat.not_lt_zero _)
  | M + 1, l, hn, h => by
    by_cases hm : M ∈ l
    · have h1 := nodup_below M (l.erase M) (hn.erase M) fun x hx => by
        have h2 := h x (List.mem_of_mem_erase hx)
        have h3 : x ≠ M := fun e => by
          rw [e] at hx
          exact hn.not_mem_erase hx
        omega
      have h2 := List.length_erase_of_mem hm
      omega
    · have h1 := nodup_below M l hn fun x hx => by
        have h2 := h x hx
        have h3 : x ≠ M := fun e => hm (e ▸ hx)
        omega
      omega
theorem pair_nodup {α : Type} {f : α → St3} {g : α → Nat} : ∀ {l : List α}, (l.map f).Nodup → (∀ x ∈ l, ∀ y ∈ l, g x = g y → f x = f y) → (l.map g).Nodup
  | [], _, _ => List.nodup_nil
  | a :: r, hn, h => by
    rw [List.map_cons, List.nodup_cons] at hn ⊢
    refine ⟨fun hm => ?_, pair_nodup hn.2 fun x hx y hy => h x (List.mem_cons_of_mem _ hx) y (List.mem_cons_of_mem _ hy)⟩
    obtain ⟨y, hy, he⟩ := List.mem_map.1 hm
    exact hn.1 (List.mem_map.2 ⟨y, hy, h y (List.mem_cons_of_mem _ hy) a List.mem_cons_self he⟩)
theorem WaI.len {w0 : World} {N Y n : Nat} {all : Bool} {vals : Nat → Value} {D : List (St3 × Nat)} {E : Nat → List Wy} {W : World} (h : WaI w0 N Y n all vals D E W) {k : Nat} (hk : k < n) : (E k).length ≤ 21 * (n + 1) := by
  have h1 : ((E k).map fun a => a.ats.length * 21 + (a.cls + 10).toNat).Nodup := pair_nodup (h.uq k hk) fun x hx y hy e => by
    have hbx := h.wb k x hk hx
    have hby := h.wb k y hk hy
    have c1 := hbx.cls
    have c2 := hby.cls
    exact stOf_eq.2 ⟨by omega, by omega⟩
  have h2 := nodup_below (21 * (n + 1)) _ h1 fun v hv => by
    obtain ⟨a, ha, rfl⟩ := List.mem_map.1 hv
    have hb := h.wb k a hk ha
    have := hb.len
    have := hb.cls
    omega
  rwa [List.length_map] at h2
def upE (E : Nat → List Wy) (k : Nat) (l : List Wy) : Nat → List Wy := fun j => if j = k then l else E j
theorem upE_same (E : Nat → List Wy) (k : Nat) : upE E k (E k) = E := by
  funext j
  unfold upE
  split
  · rename_i h; rw [h]
  · rfl
theorem uniq_of_pairwise {α β : Type} {f : α → β} {l : List α} (h : l.Pairwise fun a b => f a ≠ f b) {a b : α} (ha : a ∈ l) (hb : b ∈ l) (hab : a ≠ b) (he : f a = f b) : False := by
  induction h with
  | nil => cases ha
  | cons h1 _ ih =>
    rcases List.mem_cons.1 ha with e1 | ha1
    · rcases List.mem_cons.1 hb with e2 | hb1
      · exact hab (e1.trans e2.symm)
      · rw [e1] at he; exact h1 b hb1 he
    · rcases List.mem_cons.1 hb with e2 | hb1
      · rw [e2] at he; exact h1 a ha1 he.symm
      · exact ih ha1 hb1
section
variable {w0 : World} {N Y n : Nat} {all : Bool} {vals : Nat → Value} {D : List (St3 × Nat)} {E : Nat → List Wy} {W : World}
theorem WaI.row_ge (h : WaI w0 N Y n all vals D E W) {k : Nat} (hk : k < n) {q : Nat} (hq : (vals k).ownBlock = some q) : N + 6 ≤ q ∧ q < W.heap.size := (h.rows k hk).lt q hq
theorem st_ne_way : (122 : TypeId) ≠ 79 := by decide
theorem ob_ne_way : (125 : TypeId) ≠ 79 := by decide
theorem keep_row {W W' : World} {base n : Nat} {v : Value} {xs : List Value} (hr : W.ownsRow base 122 3 v n xs) (hg : W.grownBy W' v.ownBlock) : WKeep W W' := fun k c hk => by
  refine hg.block k (Array.getElem?_eq_some_iff.1 hk).1 fun e => ?_
  obtain ⟨cur, hc⟩ := row_typ hr e.symm
  rw [hk] at hc
  simp only [Option.some.injEq, Obj.cells.injEq] at hc
  exact st_ne_way hc.2.1.symm
theorem keep_map {W W' : World} {mb : Nat} {M : List (Value × Value)} (hm : MapV W mb M) (hg : W.grownBy W' (some mb)) : WKeep W W' := fun k c hk => by
  refine hg.block k (Array.getElem?_eq_some_iff.1 hk).1 fun e => ?_
  cases e
  obtain ⟨es, cl, hc, _⟩ := hm
  rw [hk] at hc
  cases hc
theorem WaI.better (h : WaI w0 N Y n all vals D E W) {k : Nat} (hk : k < n) {a : Wy} {p : Nat} (hp : WayAt W p a) (hb : WyB (k + 1) a) {y : Wy} (hy : y ∈ E k) (hs : stOf k y = stOf k a) (hbt : betB a y = true) {W' : World} (hm : MapV W' (N + 2) (stM (upS D (stOf k a) p))) (hg : W.grownBy W' (some (N + 2))) :
    WaI w0 N Y n all vals (upS D (stOf k a) p) (upE E k (addW (E k) a)) W' := by
  have hkp := keep_map h.map hg
  have hold := (addW_old k a y (E k) hy hs (h.uq k hk)).2 hbt
  obtain ⟨o1, o2, o3, o4⟩ := hold
  have hN := h.size
  have blk : ∀ {b : Nat} {ob : Obj}, W.heap[b]? = some ob → b ≠ N + 2 → W'.heap[b]? = some ob := fun hb h2 => (hg.block _ (Array.getElem?_eq_some_iff.1 hb).1 (fun e => h2 (by cases e; rfl))).trans hb
  have hfl : ((addW (E k) a).flatMap fun z => (stOf k z).cells) = (E k).flatMap fun z => (stOf k z).cells := by
    rw [← List.flatMap_map, ← List.flatMap_map (stOf k) St3.cells, o1]
  refine ⟨⟨hg.os.trans h.below.os, hg.tape.trans h.below.tape, hg.output.trans h.below.output, Nat.le_trans h.below.size hg.size, fun q hq => ?_⟩, blk h.cx (by omega), blk h.ca (by omega), hm, blk h.cb (by omega), blk h.ob (by omega), blk h.co (by omega), fun j hj => ?_, h.ne, fun j z hj hz => ?_, fun st q hq => ?_, fun j z hj hz => ?_, hN, fun j hj => ?_⟩
  · exact (hg.block q (by have := h.below.size; omega) (fun e => by cases e; omega)).trans (h.below.block q hq)
  · have hr := (h.rows j hj).kept hg (by
      refine .inr fun e => ?_
      have := (h.row_ge hj e).1
      omega)
    unfold upE
    split
    · rename_i e
      subst e
      rw [o2, hfl]
      exact hr
    · exact hr
  · unfold upE at hz
    split at hz
    · rename_i e
      subst e
      rcases o4 z hz with h1 | ⟨h1, h2⟩
      · subst h1
        exact ⟨p, by rw [getS_up, if_pos rfl], hp.keep hkp⟩
      · obtain ⟨q, h3, h4⟩ := h.ways j z hj h1
        exact ⟨q, by rw [getS_up, if_neg h2]; exact h3, h4.keep hkp⟩
    · rename_i e
      obtain ⟨q, h3, h4⟩ := h.ways j z hj hz
      refine ⟨q, ?_, h4.keep hkp⟩
      rw [getS_up, if_neg]
      · exact h3
      · intro e2
        have := congrArg St3.k e2
        simp only [stOf] at this
        omega
  · rw [getS_up] at hq
    split at hq
    · rename_i e
      exact ⟨k, a, hk, e, by unfold upE; rw [if_pos rfl]; exact o3⟩
    · rename_i e
      obtain ⟨j, z, hj, h1, h2⟩ := h.keys st q hq
      refine ⟨j, z, hj, h1, ?_⟩
      unfold upE
      split
      · rename_i e2
        subst e2
        have h3 : stOf j z ∈ (addW (E j) a).map (stOf j) := by rw [o1]; exact List.mem_map.2 ⟨z, h2, rfl⟩
        obtain ⟨z2, h4, h5⟩ := List.mem_map.1 h3
        rcases o4 z2 h4 with h6 | ⟨h6, h7⟩
        · subst h6
          exact absurd (h1.trans h5.symm) e
        · have h8 := h.uq j hj
          have h9 : z2 = z := by
            rw [List.nodup_iff_pairwise_ne, List.pairwise_map] at h8
            by_cases hzz : z2 = z
            · exact hzz
            · exfalso
              exact uniq_of_pairwise h8 h6 h2 hzz h5
          rw [← h9]; exact h4
      · exact h2
  · unfold upE at hz
    split at hz
    · rename_i e
      subst e
      rcases o4 z hz with h1 | ⟨h1, _⟩
      · subst h1; exact hb
      · exact h.wb j z hj h1
    · exact h.wb j z hj hz
  · unfold upE
    split
    · rename_i e
      subst e
      rw [o1]
      exact h.uq j hj
    · exact h.uq j hj
theorem WaI.fresh (h : WaI w0 N Y n all vals D E W) {k : Nat} (hk : k < n) {a : Wy} {p : Nat} (hp : WayAt W p a) (hb : WyB (k + 1) a) (hno : getS D (stOf k a) = none) {ob : Obj} {W1 W2 W3 : World} (hW1 : W1 = W.alloc ob) {g c m : Nat} (hm1 : m = (E k).length + 1) (hr : W2.ownsRow (N + 6) 122 3 (.slice (some ⟨g, 0, none⟩) m c) m (((E k).flatMap fun z => (stOf k z).cells) ++ (stOf k a).cells)) (hg : W1.grownBy W2 (vals k).ownBlock) (hat : (vals k).ownBlock = some g ∨ g = W1.heap.size)
    (hm : MapV W3 (N + 2) (stM (upS D (stOf k a) p))) (hg3 : (W2.setCell ⟨N + 4, k, none⟩ (.slice (some ⟨g, 0, none⟩) m c)).grownBy W3 (some (N + 2))) :
    WaI w0 N Y n all (fun j => if j = k then .slice (some ⟨g, 0, none⟩) m c else vals j) (upS D (stOf k a) p) (upE E k (E k ++ [a])) W3 := by
  have hN := h.size
  have hnew : ∀ z ∈ E k, stOf k z ≠ stOf k a := fun z hz e => by
    obtain ⟨q, h1, _⟩ := h.ways k z hk hz
    rw [e, hno] at h1
    cases h1
  have hba : Below W.heap.size W W1 := by rw [hW1]; exact (Below.refl _ _).alloc (Nat.le_refl _) _
  have h1 := h.still hba
  have hrg : ∀ q, (vals k).ownBlock = some q → N + 6 ≤ q ∧ q < W.heap.size := fun q hq => h.row_ge hk hq
  have hgN : N + 6 ≤ g := by
    have := hr.lt g rfl
    exact this.1
  have hOBl := (Array.getElem?_eq_some_iff.1 h1.ob).1
  -- blocks that are neither the row, nor the rows' row, nor the map
  have blk : ∀ {b : Nat} {o : Obj}, W1.heap[b]? = some o → b ≠ N + 2 → b ≠ N + 4 → b < N + 6 → W3.heap[b]? = some o := fun {b o} hb h2 h4 h6 => by
    have e1 : W2.heap[b]? = W1.heap[b]? := hg.block b (Array.getElem?_eq_some_iff.1 hb).1 (fun e => by have := (hrg b e.symm).1; omega)
    have e2 : (W2.setCell ⟨N + 4, k, none⟩ (.slice (some ⟨g, 0, none⟩) m c)).heap[b]? = W2.heap[b]? := Below.heap_setCell _ _ _ _ h4
    have hlt : b < (W2.setCell ⟨N + 4, k, none⟩ (.slice (some ⟨g, 0, none⟩) m c)).heap.size := by
      have : (W2.setCell ⟨N + 4, k, none⟩ (.slice (some ⟨g, 0, none⟩) m c)).heap[b]? = some o := by rw [e2, e1]; exact hb
      exact (Array.getElem?_eq_some_iff.1 this).1
    rw [hg3.block b hlt (fun e => h2 (by cases e; rfl)), e2, e1]
    exact hb
  have hob2 : W2.heap[N + 4]? = some (.cells ((List.range n).map vals).toArray 125 (0, 0)) := (hg.block (N + 4) hOBl (fun e => by have := (hrg _ e.symm).1; omega)).trans h1.ob
  have hkp : WKeep W W3 := by
    refine (WKeep.of_below hba).trans ((keep_row (h1.rows k hk) hg).trans ((?_ : WKeep W2 _).trans (keep_map (?_ : MapV _ (N + 2) (stM D)) hg3)))
    · intro q cq hq
      refine Below.heap_setCell _ _ _ _ fun e => ?_
      simp only at e
      rw [e, hob2] at hq
      simp only [Option.some.injEq, Obj.cells.injEq] at hq
      exact ob_ne_way hq.2.1
    · exact h1.map.same ((Below.heap_setCell _ _ _ _ (by simp only; omega)).trans (hg.block _ h1.map.lt (fun e => by have := (hrg _ e.symm).1; omega)))
  have rowk : ∀ {j : Nat} {v : Value} {q : Nat} {xs : List Value}, W2.ownsRow (N + 6) 122 3 v q xs → W3.ownsRow (N + 6) 122 3 v q xs := fun {j v q xs} h2 => by
    have h3 : (W2.setCell ⟨N + 4, k, none⟩ (.slice (some ⟨g, 0, none⟩) m c)).ownsRow (N + 6) 122 3 v q xs := ownsRow_same h2 fun q9 hq9 _ => Below.heap_setCell _ _ _ _ (by have := (h2.lt q9 hq9).1; simp only; omega)
    exact h3.kept hg3 (.inr fun e => by have := (h2.lt _ e).1; omega)
  refine ⟨⟨hg3.os.trans (hg.os.trans h1.below.os), hg3.tape.trans (hg.tape.trans h1.below.tape), hg3.output.trans (hg.output.trans h1.below.output), Nat.le_trans h1.below.size (Nat.le_trans hg.size (Nat.le_trans (by simp) hg3.size)), fun q hq => ?_⟩, blk h1.cx (by omega) (by omega) (by omega), blk h1.ca (by omega) (by omega) (by omega), hm, blk h1.cb (by omega) (by omega) (by omega), ?_, blk h1.co (by omega) (by omega) (by omega), fun j hj => ?_, fun i j hi hj hij q hq => ?_, fun j z hj hz => ?_, fun st q hq => ?_, fun j z hj hz => ?_, hN, fun j hj => ?_⟩
  · have hq1 : q < W1.heap.size := by have := h1.below.size; omega
    obtain ⟨o, ho⟩ : ∃ o, W1.heap[q]? = some o := ⟨_, Array.getElem?_eq_getElem hq1⟩
    rw [blk ho (by omega) (by omega) (by omega), ← ho]
    exact h1.below.block q hq
  · have e1 : (W2.setCell ⟨N + 4, k, none⟩ (.slice (some ⟨g, 0, none⟩) m c)).heap[N + 4]? = some (.cells ((((List.range n).map vals).toArray).setIfInBounds k (.slice (some ⟨g, 0, none⟩) m c)) 125 (0, 0)) := heap_setCell_same _ _ _ _ _ _ hob2
    have hlt : N + 4 < (W2.setCell ⟨N + 4, k, none⟩ (.slice (some ⟨g, 0, none⟩) m c)).heap.size := (Array.getElem?_eq_some_iff.1 e1).1
    rw [hg3.block _ hlt (fun e => by simp only [Option.some.injEq] at e; omega), e1]
    congr 2
    rw [List.setIfInBounds_toArray]
    congr 1
    apply List.ext_getElem?
    intro i
    rw [List.getElem?_set, List.getElem?_map, List.getElem?_map, List.length_map, List.length_range]
    by_cases hi : k = i
    · subst hi
      simp [hk]
    · rw [if_neg hi]
      by_cases hin : i < n
      · simp only [List.getElem?_range hin, Option.map_some, if_neg (fun e : i = k => hi e.symm)]
      · rw [List.getElem?_eq_none (by simp; omega)]; rfl
  · by_cases e : j = k
    · subst e
      simp only [if_true, upE]
      have h2 := rowk (j := j) hr
      rw [List.length_append, List.length_singleton, ← hm1, List.flatMap_append]
      simpa using h2
    · simp only [if_neg e, upE]
      refine rowk (j := j) ((h1.rows j hj).kept hg ?_)
      cases ho : (vals j).ownBlock with
      | none => exact .inl rfl
      | some q => exact .inr fun e2 => h1.ne j k hj hk e q ho e2.symm
  · have hfar : ∀ j, j < n → j ≠ k → ∀ q, (vals j).ownBlock = some q → q ≠ g := fun j hj hjk q9 hq9 e => by
      rw [e] at hq9
      rcases hat with h3 | h3
      · exact h1.ne j k hj hk hjk g hq9 h3
      · have := (h1.row_ge hj hq9).2; omega
    by_cases e : i = k
    · simp only [if_pos e] at hq
      simp only [if_neg (fun e2 : j = k => hij (e.trans e2.symm))]
      cases hq
      exact fun h2 => hfar j hj (fun e2 => hij (e.trans e2.symm)) g h2 rfl
    · simp only [if_neg e] at hq
      by_cases f : j = k
      · simp only [if_pos f]
        exact fun h2 => by cases h2; exact hfar i hi e g hq rfl
      · simp only [if_neg f]
        exact h1.ne i j hi hj hij q hq
  · unfold upE at hz
    split at hz
    · rename_i e
      subst e
      rcases List.mem_append.1 hz with h2 | h2
      · obtain ⟨q, h3, h4⟩ := h.ways j z hj h2
        exact ⟨q, by rw [getS_up, if_neg (hnew z h2)]; exact h3, h4.keep hkp⟩
      · rw [List.mem_singleton.1 h2]
        exact ⟨p, by rw [getS_up, if_pos rfl], hp.keep hkp⟩
    · rename_i e
      obtain ⟨q, h3, h4⟩ := h.ways j z hj hz
      refine ⟨q, ?_, h4.keep hkp⟩
      rw [getS_up, if_neg]
      · exact h3
      · intro e2
        have := congrArg St3.k e2
        simp only [stOf] at this
        omega
  · rw [getS_up] at hq
    split at hq
    · rename_i e
      exact ⟨k, a, hk, e, by unfold upE; rw [if_pos rfl]; simp⟩
    · obtain ⟨j, z, hj, h2, h3⟩ := h.keys st q hq
      refine ⟨j, z, hj, h2, ?_⟩
      unfold upE
      split
      · rename_i e2
        subst e2
        exact List.mem_append_left _ h3
      · exact h3
  · unfold upE at hz
    split at hz
    · rename_i e
      subst e
      rcases List.mem_append.1 hz with h2 | h2
      · exact h.wb j z hj h2
      · rw [List.mem_singleton.1 h2]; exact hb
    · exact h.wb j z hj hz
  · unfold upE
    split
    · rename_i e
      subst e
      rw [List.map_append, List.nodup_append]
      refine ⟨h.uq j hj, by simp, fun u hu v hv => ?_⟩
      obtain ⟨z, h2, rfl⟩ := List.mem_map.1 hu
      simp only [List.map_cons, List.map_nil, List.mem_singleton] at hv
      rw [hv]
      exact hnew z h2
    · exact h.uq j hj
end
end Go.Proofs.YtiijpbfkchokaaaGreat
