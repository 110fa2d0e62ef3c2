/-
  The laws' own functions over lists of nodes: Apart, its first phase (each list is marked).
  The document's Legal; the laws' own functions over lists of whole numbers: SameInts.
-/
import Derived.Test.YtiijpbfkchokaaaK6
namespace Go.Proofs.Ytiijpbfkchokaaa
open Go.ChangeShapes Go.WideShapes Go.ChangeAt Go.RowKit Go.Shelf
theorem flat_at (L : List Nd) (q : Nat) : (L.flatMap Nd.cells)[q]? = (L[q / 19]?).bind fun m => m.cells[q % 19]? := by
  by_cases h : q / 19 < L.length
  · have e := flat_nodes L (q / 19) h
    rw [List.getElem?_eq_getElem h]
    simp only [Option.bind_some]
    rw [← e, List.getElem?_take_of_lt (by omega), List.getElem?_drop]
    congr 1
    omega
  · rw [List.getElem?_eq_none (by rw [flat_len]; omega), List.getElem?_eq_none (by omega)]; rfl
theorem owns_set {W : World} {B n c g : Nat} {L : List Nd} (h : W.ownsRow B 85 19 (.slice (some ⟨g, 0, none⟩) n c) n (L.flatMap Nd.cells)) {k : Nat} (hk : k < L.length) (m : Nd) :
    (setAgg W g (k * 19) m.arr).ownsRow B 85 19 (.slice (some ⟨g, 0, none⟩) n c) n ((L.set k m).flatMap Nd.cells) ∧ W.grownBy (setAgg W g (k * 19) m.arr) (some g) ∧ there? W g (k * 19) 19 = true := by
  obtain ⟨l1, ⟨e1, _⟩ | ⟨g1, c1, cur, e1, b1, hg, n1, m1, s1, t1⟩⟩ := h
  · cases e1
  cases e1
  have hL : L.length = n := by rw [flat_len] at l1; omega
  have hms : m.arr.toList.length = 19 := by have := Nd.size_arr m; simpa using this
  have hfit : k * 19 + 19 ≤ cur.size := by omega
  have hb := Below.setAgg (Below.refl 0 W) (Nat.zero_le g) (k * 19) m.arr
  refine ⟨⟨by rw [flat_len, List.length_set, hL], .inr ⟨g, c, _, rfl, b1, heap_setCells_same g _ _ _ _ cur W hg, n1, m1, by rw [size_setMany, s1], ?_⟩⟩, ⟨hb.os, hb.tape, hb.output, hb.size, fun j _ hne => heap_setCells_other g j (fun e => hne (by rw [e])) _ _ _⟩, by unfold there?; rw [hg]; simpa using hfit⟩
  apply List.ext_getElem?
  intro q
  rw [flat_at, List.getElem?_take]
  split
  · rename_i hq
    rw [Array.getElem?_toList, get_setMany _ _ _ _ (by rw [hms]; exact hfit), hms]
    have t1' : cur[q]? = (L.flatMap Nd.cells)[q]? := by rw [← t1, List.getElem?_take_of_lt hq]; simp
    rw [t1', flat_at]
    split
    · rename_i hr
      have hk2 : q / 19 = k := by omega
      rw [hk2, List.getElem?_set_self hk]
      show m.cells[q - k * 19]? = m.cells[q % 19]?
      congr 1
      omega
    · rw [List.getElem?_set_ne (by omega)]
  · rename_i hq
    rw [List.getElem?_eq_none (by rw [List.length_set]; omega)]; rfl
def mkA (i : Nat) : Nd := { Nd.zero with kind := 1000 + (i : Int) }
def mkB (i : Nat) : Nd := { Nd.zero with kind := 2000 + (i : Int) }
/-- the lists that are told to Apart, and where they stand -/
structure Aparts (w0 : World) (B Bf Y N : Nat) (v : Nat → Value) (n : Nat → Nat) : Prop where
  apt : Apt Bf N v
  hB : B ≤ Bf
  hY : Y < Bf
  ne : ∀ j, j < N → (v j).ownBlock ≠ some Y
  blk : ∃ cs t, w0.heap[Y]? = some (.cells cs t (0, 0)) ∧ ∀ j, j < N → cs[j]? = some (v j)
  hN : N ≤ 100
  hn : ∀ j, j < N → n j ≤ 100000
def NTold (w0 : World) (B Bf N : Nat) (v : Nat → Value) (n : Nat → Nat) (Ms : Nat → List Nd) (W : World) : Prop := Told w0 B Bf 85 19 N v n (fun j => (Ms j).flatMap Nd.cells) W
section
variable {w0 W : World} {B Bf Y N : Nat} {v : Nat → Value} {n : Nat → Nat} {Ms : Nat → List Nd}
theorem NTold.list (h : NTold w0 B Bf N v n Ms W) (ha : Aparts w0 B Bf Y N v n) {j : Nat} (hj : j < N) : W.cell? ⟨Y, j, none⟩ = some (v j) := by
  obtain ⟨cs, t, h1, h2⟩ := ha.blk
  rw [cell?_blk' ((h.frame Y ha.hY ha.ne).trans h1), h2 j hj]
theorem NTold.len (h : NTold w0 B Bf N v n Ms W) {j : Nat} (hj : j < N) : (Ms j).length = n j := by have := (h.rows j hj).1; simp only [flat_len] at this; omega
theorem NTold.form (h : NTold w0 B Bf N v n Ms W) {j : Nat} (hj : j < N) : ∃ p c, v j = .slice p (n j) c := owns_form (h.rows j hj)
theorem NTold.at_ (h : NTold w0 B Bf N v n Ms W) {j : Nat} (hj : j < N) (hp : 0 < n j) : ∃ g c, v j = .slice (some ⟨g, 0, none⟩) (n j) c ∧ n j ≤ c := by
  obtain ⟨_, ⟨_, e⟩ | ⟨g, c, cur, e, _, _, h1, _⟩⟩ := h.rows j hj
  · omega
  · exact ⟨g, c, e, h1⟩
theorem NTold.set (h : NTold w0 B Bf N v n Ms W) (ha : Aparts w0 B Bf Y N v n) {i k g c : Nat} (hi : i < N) (hv : v i = .slice (some ⟨g, 0, none⟩) (n i) c) (hk : k < n i) (m : Nd) :
    NTold w0 B Bf N v n (fun j => if j = i then (Ms i).set k m else Ms j) (setAgg W g (k * 19) m.arr) ∧ there? W g (k * 19) 19 = true := by
  have hr := h.rows i hi
  rw [hv] at hr
  obtain ⟨h1, h2, h3⟩ := owns_set hr (k := k) (by rw [h.len hi]; exact hk) m
  have hs := h.size
  have := h.turn ha.apt hi (x' := ((Ms i).set k m).flatMap Nd.cells) (by rw [hv]; exact h2) (by rw [hv]; exact h1) (Nat.le_trans ha.hB hs)
  refine ⟨?_, h3⟩
  unfold NTold
  have e : (fun j => (if j = i then (Ms i).set k m else Ms j).flatMap Nd.cells) = fun j => if j = i then ((Ms i).set k m).flatMap Nd.cells else (Ms j).flatMap Nd.cells := by funext j; split <;> rfl
  rw [e]
  exact this
end
/-- within a list -/
def InA (w0 : World) (B Bf N : Nat) (v : Nat → Value) (n : Nat → Nat) (i k : Nat) (W : World) : Prop := ∃ Ms, NTold w0 B Bf N v n Ms W ∧ (∀ j, j < i → Ms j = List.replicate (n j) (mkA j)) ∧ ∀ j, j < k → (Ms i)[j]? = some (mkA i)
theorem InA.set {w0 W : World} {B Bf Y N : Nat} {v : Nat → Value} {n : Nat → Nat} {i k g c : Nat} (h : InA w0 B Bf N v n i k W) (ha : Aparts w0 B Bf Y N v n) (hi : i < N) (hv : v i = .slice (some ⟨g, 0, none⟩) (n i) c) (hk : k < n i) :
    InA w0 B Bf N v n i (k + 1) (setAgg W g (k * 19) (mkA i).arr) ∧ there? W g (k * 19) 19 = true := by
  obtain ⟨Ms, h1, h2, h3⟩ := h
  obtain ⟨h4, h5⟩ := h1.set ha hi hv hk (mkA i)
  have hl := h1.len hi
  refine ⟨⟨_, h4, fun j hj => ?_, fun j hj => ?_⟩, h5⟩
  · simp only [if_neg (show ¬ j = i by omega)]; exact h2 j hj
  · simp only [if_true]
    by_cases e : j = k
    · subst e; rw [List.getElem?_set_self (by omega)]
    · rw [List.getElem?_set_ne (by omega)]; exact h3 j (by omega)
theorem InA.next {w0 W : World} {B Bf N : Nat} {v : Nat → Value} {n : Nat → Nat} {i : Nat} (h : InA w0 B Bf N v n i (n i) W) (hi : i < N) : InA w0 B Bf N v n (i + 1) 0 W := by
  obtain ⟨Ms, h1, h2, h3⟩ := h
  refine ⟨Ms, h1, fun j hj => ?_, fun j hj => by omega⟩
  by_cases e : j = i
  · subst e
    apply List.ext_getElem?
    intro q
    have hl := h1.len hi
    rw [List.getElem?_replicate]
    split
    · exact h3 q ‹_›
    · rw [List.getElem?_eq_none (by omega)]
  · exact h2 j (by omega)
theorem InA.list {w0 W : World} {B Bf Y N : Nat} {v : Nat → Value} {n : Nat → Nat} {i k : Nat} (h : InA w0 B Bf N v n i k W) (ha : Aparts w0 B Bf Y N v n) {j : Nat} (hj : j < N) : W.cell? ⟨Y, j, none⟩ = some (v j) := by
  obtain ⟨Ms, h1, _⟩ := h
  exact h1.list ha hj
theorem InA.form {w0 W : World} {B Bf N : Nat} {v : Nat → Value} {n : Nat → Nat} {i k : Nat} (h : InA w0 B Bf N v n i k W) {j : Nat} (hj : j < N) : ∃ p c, v j = .slice p (n j) c := by
  obtain ⟨Ms, h1, _⟩ := h
  exact h1.form hj
theorem InA.at_ {w0 W : World} {B Bf N : Nat} {v : Nat → Value} {n : Nat → Nat} {i k : Nat} (h : InA w0 B Bf N v n i k W) {j : Nat} (hj : j < N) (hp : 0 < n j) : ∃ g c, v j = .slice (some ⟨g, 0, none⟩) (n j) c ∧ n j ≤ c := by
  obtain ⟨Ms, h1, _⟩ := h
  exact h1.at_ hj hp
/-- all lists are marked -/
def xsA (n : Nat → Nat) (j : Nat) : List Value := (List.replicate (n j) (mkA j)).flatMap Nd.cells
def ysB (k j : Nat) : List Value := (List.replicate k (mkB j)).flatMap Nd.cells
theorem InA.all {w0 W : World} {B Bf N : Nat} {v : Nat → Value} {n : Nat → Nat} (h : InA w0 B Bf N v n N 0 W) : Told w0 B Bf 85 19 N v n (xsA n) W := by
  obtain ⟨Ms, h1, h2, _⟩ := h
  exact ⟨fun j hj => by have := h1.rows j hj; simp only [h2 j hj] at this; exact this, h1.below, h1.frame, h1.size⟩
def Gn (B : Nat) (v : Nat → Value) (n : Nat → Nat) (i : Nat) (W0 : World) (k : Nat) (x : Value) (W : World) : Prop := Grows W0 B 85 19 (v i) (n i) (xsA n i) k (ysB k i) x W
theorem Gn.step {B : Nat} {v : Nat → Value} {n : Nat → Nat} {i : Nat} {W0 W W' : World} {k g cap : Nat} {x : Value} (h : Gn B v n i W0 k x W)
    (hrow : W'.ownsRow B 85 19 (.slice (some ⟨g, 0, none⟩) (n i + k + 1) cap) (n i + k + 1) (xsA n i ++ ysB k i ++ (mkB i).cells)) (hat : x = .slice (some ⟨g, 0, none⟩) (n i + k) cap ∧ W.grownBy W' (some g) ∨ W.heap.size ≤ g ∧ W.grownBy W' none) :
    Gn B v n i W0 (k + 1) (.slice (some ⟨g, 0, none⟩) (n i + k + 1) cap) W' := by
  have := Grows.step (by decide) h hrow hat
  have e : ysB k i ++ (mkB i).cells = ysB (k + 1) i := by unfold ysB; rw [List.replicate_succ', List.flatMap_append]; simp
  rw [e] at this
  exact this
/-- behind the second phase: what the third one reads -/
def P3 (w0 : World) (B Bf N : Nat) (v : Nat → Value) (n : Nat → Nat) (G : Value) (W : World) : Prop := ∃ gv, Ph2 w0 B Bf 85 19 22 N v n (xsA n) (ysB 40) 40 gv N G W
section
variable {w0 W : World} {B Bf Y N : Nat} {v : Nat → Value} {n : Nat → Nat} {G : Value}
theorem P3.drewN (h : P3 w0 B Bf N v n G W) (m : Nat) : P3 w0 B Bf N v n G (W.drewN m) := by
  obtain ⟨gv, t, g, a, ne, l⟩ := h
  have hb : Below W.heap.size W (W.drewN m) := below_drewN_refl _ _ _
  exact ⟨gv, ⟨fun j hj => ownsRow_below (t.rows j hj) hb, below_drewN t.below m, t.frame, t.size⟩, fun j hj => ownsRow_below (g j hj) hb, a, ne, ownsRow_below l hb⟩
end
end Go.Proofs.Ytiijpbfkchokaaa
namespace Go.Proofs.Ytiijpbfkchokaaa
open Go.ChangeShapes Go.WideShapes Go.ChangeAt Go.RowKit Go.Shelf
/-- whole numbers that are read -/
structure ZIn (w : World) (p : Option Addr) (g c : Nat) (l : List Int) : Prop where
  hp : l ≠ [] → p = some ⟨g, 0, none⟩
  cap : l.length ≤ c
  at_ : ∀ i (hi : i < l.length), w.cell? ⟨g, i, none⟩ = some (.int .i64 l[i])
theorem zin_of {w : World} {B n : Nat} {v : Value} {l : List Int} (h : w.ownsRow B 3 1 v n (ints l)) : ∃ p g c, v = .slice p l.length c ∧ n = l.length ∧ ZIn w p g c l := by
  have hl : l.length = n := by have := h.1; rw [ints_len] at this; omega
  subst hl
  by_cases h0 : l = []
  · subst h0
    obtain ⟨_, ⟨rfl, _⟩ | ⟨g, cap, cur, rfl, _, _, h1, _⟩⟩ := h
    · exact ⟨none, 0, 0, rfl, rfl, fun e => absurd rfl e, Nat.le_refl _, fun i hi => by simp at hi⟩
    · exact ⟨_, g, cap, rfl, rfl, fun e => absurd rfl e, h1, fun i hi => by simp at hi⟩
  · obtain ⟨g, c, rfl, _, hg⟩ := h.form (List.length_pos_iff.2 h0)
    refine ⟨_, g, c, rfl, rfl, fun _ => rfl, owns_cap h, fun i hi => ?_⟩
    have := h.cells (g := g) rfl i (.int .i64 l[i]) (by rw [ints_idx, List.getElem?_eq_getElem hi]; rfl)
    rwa [show (⟨g, 0, none⟩ : Addr).add i = ⟨g, i, none⟩ by unfold Addr.add; split <;> simp_all] at this
end Go.Proofs.Ytiijpbfkchokaaa
