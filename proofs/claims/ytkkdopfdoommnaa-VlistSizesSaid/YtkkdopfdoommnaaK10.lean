/-
  The laws' own functions over lists of whole numbers: ApartInts: what its three phases keep.
-/
import Derived.Test.YtkkdopfdoommnaaK7
import Derived.Laws.OwnMore
namespace Go.Proofs.Ytkkdopfdoommnaa
open Go.ChangeShapes Go.WideShapes Go.ChangeAt Go.RowKit Go.Shelf
def mzA (i : Nat) : Int := 1000 + (i : Int)
def mzB (i : Nat) : Int := 2000 + (i : Int)
theorem owns_setZ {W : World} {B n c g : Nat} {L : List Int} (h : W.ownsRow B 3 1 (.slice (some ⟨g, 0, none⟩) n c) n (ints L)) {k : Nat} (hk : k < L.length) (m : Int) :
    (W.setCell ⟨g, k, none⟩ (.int .i64 m)).ownsRow B 3 1 (.slice (some ⟨g, 0, none⟩) n c) n (ints (L.set k m)) ∧ W.grownBy (W.setCell ⟨g, k, none⟩ (.int .i64 m)) (some g) ∧ ((W.cell? ⟨g, k, none⟩).isSome = true ∧ W.frozen? ⟨g, k, none⟩ = false) := by
  have hc := h.cells (g := g) rfl k (.int .i64 L[k]) (by rw [ints_idx, List.getElem?_eq_getElem hk]; rfl)
  rw [show (⟨g, 0, none⟩ : Addr).add k = ⟨g, k, none⟩ by unfold Addr.add; split <;> simp_all] at hc
  obtain ⟨l1, ⟨e1, _⟩ | ⟨g1, c1, cur, e1, b1, hg, n1, m1, s1, t1⟩⟩ := id h
  · cases e1
  cases e1
  have hL : L.length = n := by rw [ints_len] at l1; omega
  refine ⟨⟨by rw [ints_len, List.length_set, hL]; omega, .inr ⟨g, c, _, rfl, b1, heap_setCell_same W g k cur _ _ hg, n1, m1, by simp [s1], ?_⟩⟩, ⟨rfl, rfl, rfl, (KeepsWalks.setCell W _ _).size, fun j _ hne => Below.heap_setCell _ _ _ j (fun e => hne (by rw [e]))⟩, by rw [hc]; rfl, frozen_of_row W g k cur _ hg⟩
  rw [← ints_lset, ← t1, Array.toList_setIfInBounds, List.take_set]
def ZTold (w0 : World) (B Bf N : Nat) (v : Nat → Value) (n : Nat → Nat) (Ms : Nat → List Int) (W : World) : Prop := Told w0 B Bf 3 1 N v n (fun j => ints (Ms j)) W
section
variable {w0 W : World} {B Bf Y N : Nat} {v : Nat → Value} {n : Nat → Nat} {Ms : Nat → List Int}
theorem ZTold.list (h : ZTold w0 B Bf N v n Ms W) (ha : Aparts w0 B Bf Y N v n) {j : Nat} (hj : j < N) : W.cell? ⟨Y, j, none⟩ = some (v j) := by
  obtain ⟨cs, t, h1, h2⟩ := ha.blk
  rw [cell?_blk' ((h.frame Y ha.hY ha.ne).trans h1), h2 j hj]
theorem ZTold.len (h : ZTold w0 B Bf N v n Ms W) {j : Nat} (hj : j < N) : (Ms j).length = n j := by have := (h.rows j hj).1; simp only [ints_len] at this; omega
theorem ZTold.form (h : ZTold w0 B Bf N v n Ms W) {j : Nat} (hj : j < N) : ∃ p c, v j = .slice p (n j) c := owns_form (h.rows j hj)
theorem ZTold.at_ (h : ZTold w0 B Bf N v n Ms W) {j : Nat} (hj : j < N) (hp : 0 < n j) : ∃ g c, v j = .slice (some ⟨g, 0, none⟩) (n j) c ∧ n j ≤ c := by
  obtain ⟨_, ⟨_, e⟩ | ⟨g, c, cur, e, _, _, h1, _⟩⟩ := h.rows j hj
  · omega
  · exact ⟨g, c, e, h1⟩
theorem ZTold.set (h : ZTold w0 B Bf N v n Ms W) (ha : Aparts w0 B Bf Y N v n) {i k g c : Nat} (hi : i < N) (hv : v i = .slice (some ⟨g, 0, none⟩) (n i) c) (hk : k < n i) (m : Int) :
    ZTold w0 B Bf N v n (fun j => if j = i then (Ms i).set k m else Ms j) (W.setCell ⟨g, k, none⟩ (.int .i64 m)) ∧ ((W.cell? ⟨g, k, none⟩).isSome = true ∧ W.frozen? ⟨g, k, none⟩ = false) := by
  have hr := h.rows i hi
  rw [hv] at hr
  obtain ⟨h1, h2, h3⟩ := owns_setZ hr (k := k) (by rw [h.len hi]; exact hk) m
  have hs := h.size
  have := h.turn ha.apt hi (x' := ints ((Ms i).set k m)) (by rw [hv]; exact h2) (by rw [hv]; exact h1) (Nat.le_trans ha.hB hs)
  refine ⟨?_, h3⟩
  unfold ZTold
  have e : (fun j => ints (if j = i then (Ms i).set k m else Ms j)) = fun j => if j = i then ints ((Ms i).set k m) else ints (Ms j) := by funext j; split <;> rfl
  rw [e]
  exact this
end
/-- within a list -/
def InZ (w0 : World) (B Bf N : Nat) (v : Nat → Value) (n : Nat → Nat) (i k : Nat) (W : World) : Prop := ∃ Ms, ZTold w0 B Bf N v n Ms W ∧ (∀ j, j < i → Ms j = List.replicate (n j) (mzA j)) ∧ ∀ j, j < k → (Ms i)[j]? = some (mzA i)
theorem InZ.set {w0 W : World} {B Bf Y N : Nat} {v : Nat → Value} {n : Nat → Nat} {i k g c : Nat} (h : InZ w0 B Bf N v n i k W) (ha : Aparts w0 B Bf Y N v n) (hi : i < N) (hv : v i = .slice (some ⟨g, 0, none⟩) (n i) c) (hk : k < n i) :
    InZ w0 B Bf N v n i (k + 1) (W.setCell ⟨g, k, none⟩ (.int .i64 (mzA i))) ∧ ((W.cell? ⟨g, k, none⟩).isSome = true ∧ W.frozen? ⟨g, k, none⟩ = false) := by
  obtain ⟨Ms, h1, h2, h3⟩ := h
  obtain ⟨h4, h5⟩ := h1.set ha hi hv hk (mzA i)
  have hl := h1.len hi
  refine ⟨⟨_, h4, fun j hj => ?_, fun j hj => ?_⟩, h5⟩
  · simp only [if_neg (show ¬ j = i by omega)]; exact h2 j hj
  · simp only [if_true]
    by_cases e : j = k
    · subst e; rw [List.getElem?_set_self (by omega)]
    · rw [List.getElem?_set_ne (by omega)]; exact h3 j (by omega)
theorem InZ.next {w0 W : World} {B Bf N : Nat} {v : Nat → Value} {n : Nat → Nat} {i : Nat} (h : InZ w0 B Bf N v n i (n i) W) (hi : i < N) : InZ w0 B Bf N v n (i + 1) 0 W := by
  obtain ⟨Ms, h1, h2, h3⟩ := h
  refine ⟨Ms, h1, fun j hj => ?_, fun j hj => by omega⟩
  by_cases e : j = i
  · subst e
    apply List.ext_getElem?
    intro q
    have hl := h1.len hi
    rw [List.getElem?_replicate]
    split
    · exact h3 q ‹_›
    · rw [List.getElem?_eq_none (by omega)]
  · exact h2 j (by omega)
theorem InZ.list {w0 W : World} {B Bf Y N : Nat} {v : Nat → Value} {n : Nat → Nat} {i k : Nat} (h : InZ w0 B Bf N v n i k W) (ha : Aparts w0 B Bf Y N v n) {j : Nat} (hj : j < N) : W.cell? ⟨Y, j, none⟩ = some (v j) := by
  obtain ⟨Ms, h1, _⟩ := h
  exact h1.list ha hj
theorem InZ.form {w0 W : World} {B Bf N : Nat} {v : Nat → Value} {n : Nat → Nat} {i k : Nat} (h : InZ w0 B Bf N v n i k W) {j : Nat} (hj : j < N) : ∃ p c, v j = .slice p (n j) c := by
  obtain ⟨Ms, h1, _⟩ := h
  exact h1.form hj
theorem InZ.at_ {w0 W : World} {B Bf N : Nat} {v : Nat → Value} {n : Nat → Nat} {i k : Nat} (h : InZ w0 B Bf N v n i k W) {j : Nat} (hj : j < N) (hp : 0 < n j) : ∃ g c, v j = .slice (some ⟨g, 0, none⟩) (n j) c ∧ n j ≤ c := by
  obtain ⟨Ms, h1, _⟩ := h
  exact h1.at_ hj hp
/-- all lists are marked -/
def zsA (n : Nat → Nat) (j : Nat) : List Value := ints (List.replicate (n j) (mzA j))
def zsB (k j : Nat) : List Value := ints (List.replicate k (mzB j))
theorem InZ.all {w0 W : World} {B Bf N : Nat} {v : Nat → Value} {n : Nat → Nat} (h : InZ w0 B Bf N v n N 0 W) : Told w0 B Bf 3 1 N v n (zsA n) W := by
  obtain ⟨Ms, h1, h2, _⟩ := h
  exact ⟨fun j hj => by have := h1.rows j hj; simp only [h2 j hj] at this; exact this, h1.below, h1.frame, h1.size⟩
def Gz (B : Nat) (v : Nat → Value) (n : Nat → Nat) (i : Nat) (W0 : World) (k : Nat) (x : Value) (W : World) : Prop := Grows W0 B 3 1 (v i) (n i) (zsA n i) k (zsB k i) x W
theorem Gz.step {B : Nat} {v : Nat → Value} {n : Nat → Nat} {i : Nat} {W0 W W' : World} {k g cap : Nat} {x : Value} (h : Gz B v n i W0 k x W)
    (hrow : W'.ownsRow B 3 1 (.slice (some ⟨g, 0, none⟩) (n i + k + 1) cap) (n i + k + 1) (zsA n i ++ zsB k i ++ [.int .i64 (mzB i)])) (hat : x = .slice (some ⟨g, 0, none⟩) (n i + k) cap ∧ W.grownBy W' (some g) ∨ W.heap.size ≤ g ∧ W.grownBy W' none) :
    Gz B v n i W0 (k + 1) (.slice (some ⟨g, 0, none⟩) (n i + k + 1) cap) W' := by
  have := Grows.step (by decide) h hrow hat
  have e : zsB k i ++ [.int .i64 (mzB i)] = zsB (k + 1) i := by unfold zsB; rw [List.replicate_succ', ints_append]; rfl
  rw [e] at this
  exact this
/-- behind the second phase: what the third one reads -/
def Pz3 (w0 : World) (B Bf N : Nat) (v : Nat → Value) (n : Nat → Nat) (G : Value) (W : World) : Prop := ∃ gv, Ph2 w0 B Bf 3 1 37 N v n (zsA n) (zsB 40) 40 gv N G W
section
variable {w0 W : World} {B Bf Y N : Nat} {v : Nat → Value} {n : Nat → Nat} {G : Value}
theorem Pz3.drewN (h : Pz3 w0 B Bf N v n G W) (m : Nat) : Pz3 w0 B Bf N v n G (W.drewN m) := by
  obtain ⟨gv, t, g, a, ne, l⟩ := h
  have hb : Below W.heap.size W (W.drewN m) := below_drewN_refl _ _ _
  exact ⟨gv, ⟨fun j hj => ownsRow_below (t.rows j hj) hb, below_drewN t.below m, t.frame, t.size⟩, fun j hj => ownsRow_below (g j hj) hb, a, ne, ownsRow_below l hb⟩
theorem owns_int {W : World} {B m k : Nat} {v : Value} {L : List Int} {p : Option Addr} {c : Nat} {x : Int} (h : W.ownsRow B 3 1 v m (ints L)) (hv : v = .slice p m c) (hk : L[k]? = some x) : ∃ g, p = some ⟨g, 0, none⟩ ∧ W.cell? ⟨g, k, none⟩ = some (.int .i64 x) := by
  have hlt := (List.getElem?_eq_some_iff.1 hk).1
  have hl := h.1
  rw [ints_len] at hl
  obtain ⟨_, ⟨_, e⟩ | ⟨g, cap, cur, e, _⟩⟩ := id h
  · omega
  · rw [e] at hv
    cases hv
    refine ⟨g, rfl, ?_⟩
    have := h.cells (g := g) (by rw [e]; rfl) k (.int .i64 x) (by rw [ints_idx, hk]; rfl)
    rw [show (⟨g, 0, none⟩ : Addr).add k = ⟨g, k, none⟩ by unfold Addr.add; split <;> simp_all] at this
    exact this
theorem Pz3.reads (h : Pz3 w0 B Bf N v n G W) (ha : Aparts w0 B Bf Y N v n) {i : Nat} (hi : i < N) : ∃ p c gG gc h2 c2, v i = .slice p (n i) c ∧ G = .slice (some ⟨gG, 0, none⟩) N gc ∧ N ≤ gc ∧ n i ≤ c ∧ n i + 40 ≤ c2 ∧ W.cell? ⟨Y, i, none⟩ = some (.slice p (n i) c) ∧ W.cell? ⟨gG, i, none⟩ = some (.slice (some ⟨h2, 0, none⟩) (n i + 40) c2) ∧
    (∀ k, k < n i → (∃ g, p = some ⟨g, 0, none⟩ ∧ W.cell? ⟨g, k, none⟩ = some (.int .i64 (1000 + (i : Int)))) ∧ W.cell? ⟨h2, k, none⟩ = some (.int .i64 (1000 + (i : Int)))) ∧
    (∀ k, n i ≤ k → k < n i + 40 → W.cell? ⟨h2, k, none⟩ = some (.int .i64 (2000 + (i : Int)))) := by
  obtain ⟨gv, hp⟩ := h
  obtain ⟨p, c, hv⟩ := owns_form (hp.told.rows i hi)
  obtain ⟨gG, gc, hG, _, _⟩ := hp.list.form (by omega)
  have hy := ZTold.list (Ms := fun j => List.replicate (n j) (mzA j)) hp.told ha hi
  rw [hv] at hy
  have hgr : W.ownsRow B 3 1 (gv i) (n i + 40) (ints (List.replicate (n i) (mzA i) ++ List.replicate 40 (mzB i))) := by rw [ints_append]; exact hp.grown i hi
  obtain ⟨h2, c2, hgv, _, _⟩ := hgr.form (by omega)
  have hcG := hp.list.cells (g := gG) (by rw [hG]; rfl) i (gv i) (by rw [List.getElem?_map, List.getElem?_range hi]; rfl)
  rw [show (⟨gG, 0, none⟩ : Addr).add i = ⟨gG, i, none⟩ by unfold Addr.add; split <;> simp_all, hgv] at hcG
  have hcap1 : N ≤ gc := by have := hp.list; rw [hG] at this; exact owns_cap this
  have hcap2 : n i + 40 ≤ c2 := by have := hgr; rw [hgv] at this; exact owns_cap this
  have hcap3 : n i ≤ c := by
    obtain ⟨_, ⟨e, e2⟩ | ⟨g, cap, cur, e, _, _, h1, _⟩⟩ := hp.told.rows i hi
    · omega
    · rw [hv] at e; cases e; exact h1
  refine ⟨p, c, gG, gc, h2, c2, hv, hG, hcap1, hcap3, hcap2, hy, hcG, fun k hk => ⟨?_, ?_⟩, fun k hk1 hk2 => ?_⟩
  · exact owns_int (hp.told.rows i hi) hv (x := mzA i) (by rw [List.getElem?_replicate]; simp [hk])
  · obtain ⟨g, e, hc⟩ := owns_int hgr hgv (k := k) (x := mzA i) (by rw [List.getElem?_append_left (by simpa using hk), List.getElem?_replicate]; simp [hk])
    cases e
    exact hc
  · obtain ⟨g, e, hc⟩ := owns_int hgr hgv (k := k) (x := mzB i) (by rw [List.getElem?_append_right (by simpa using hk1), List.getElem?_replicate, List.length_replicate, if_pos (by omega)])
    cases e
    exact hc
end
end Go.Proofs.Ytkkdopfdoommnaa
