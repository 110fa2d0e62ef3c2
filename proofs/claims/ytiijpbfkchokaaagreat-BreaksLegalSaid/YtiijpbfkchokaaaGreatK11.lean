/-
  The laws' own functions over lists of whole numbers: ApartInts: what its three phases keep.
  The laws' own functions over lists of whole numbers: ApartInts: of lists that lie apart it is true.
-/
import Derived.Test.YtiijpbfkchokaaaGreatL6
import Derived.Laws.OwnMore
namespace Go.Proofs.YtiijpbfkchokaaaGreat
open Go.ChangeShapes Go.WideShapes Go.ChangeAt Go.RowKit Go.Shelf
def mzA (i : Nat) : Int := 1000 + (i : Int)
def mzB (i : Nat) : Int := 2000 + (i : Int)
theorem owns_setZ {W : World} {B n c g : Nat} {L : List Int} (h : W.ownsRow B 3 1 (.slice (some ⟨g, 0, none⟩) n c) n (ints L)) {k : Nat} (hk : k < L.length) (m : Int) :
    (W.setCell ⟨g, k, none⟩ (.int .i64 m)).ownsRow B 3 1 (.slice (some ⟨g, 0, none⟩) n c) n (ints (L.set k m)) ∧ W.grownBy (W.setCell ⟨g, k, none⟩ (.int .i64 m)) (some g) ∧ ((W.cell? ⟨g, k, none⟩).isSome = true ∧ W.frozen? ⟨g, k, none⟩ = false) := by
  have hc := h.cells (g := g) rfl k (.int .i64 L[k]) (by rw [ints_idx, List.getElem?_eq_getElem hk]; rfl)
  rw [show (⟨g, 0, none⟩ : Addr).add k = ⟨g, k, none⟩ by unfold Addr.add; split <;> simp_all] at hc
  obtain ⟨l1, ⟨e1, _⟩ | ⟨g1, c1, cur, e1, b1, hg, n1, m1, s1, t1⟩⟩ := id h
  · cases e1
  cases e1
  have hL : L.length = n := by rw [ints_len] at l1; omega
  refine ⟨⟨by rw [ints_len, List.length_set, hL]; omega, .inr ⟨g, c, _, rfl, b1, heap_setCell_same W g k cur _ _ hg, n1, m1, by simp [s1], ?_⟩⟩, ⟨rfl, rfl, rfl, (KeepsWalks.setCell W _ _).size, fun j _ hne => Below.heap_setCell _ _ _ j (fun e => hne (by rw [e]))⟩, by rw [hc]; rfl, frozen_of_row W g k cur _ hg⟩
  rw [← ints_lset, ← t1, Array.toList_setIfInBounds, List.take_set]
def ZTold (w0 : World) (B Bf N : Nat) (v : Nat → Value) (n : Nat → Nat) (Ms : Nat → List Int) (W : World) : Prop := Told w0 B Bf 3 1 N v n (fun j => ints (Ms j)) W
section
variable {w0 W : World} {B Bf Y N : Nat} {v : Nat → Value} {n : Nat → Nat} {Ms : Nat → List Int}
theorem ZTold.list (h : ZTold w0 B Bf N v n Ms W) (ha : Aparts w0 B Bf Y N v n) {j : Nat} (hj : j < N) : W.cell? ⟨Y, j, none⟩ = some (v j) := by
  obtain ⟨cs, t, h1, h2⟩ := ha.blk
  rw [cell?_blk' ((h.frame Y ha.hY ha.ne).trans h1), h2 j hj]
theorem ZTold.len (h : ZTold w0 B Bf N v n Ms W) {j : Nat} (hj : j < N) : (Ms j).length = n j := by have := (h.rows j hj).1; simp only [ints_len] at this; omega
theorem ZTold.form (h : ZTold w0 B Bf N v n Ms W) {j : Nat} (hj : j < N) : ∃ p c, v j = .slice p (n j) c := owns_form (h.rows j hj)
theorem ZTold.at_ (h : ZTold w0 B Bf N v n Ms W) {j : Nat} (hj : j < N) (hp : 0 < n j) : ∃ g c, v j = .slice (some ⟨g, 0, none⟩) (n j) c ∧ n j ≤ c := by
  obtain ⟨_, ⟨_, e⟩ | ⟨g, c, cur, e, _, _, h1, _⟩⟩ := h.rows j hj
  · omega
  · exact ⟨g, c, e, h1⟩
theorem ZTold.set (h : ZTold w0 B Bf N v n Ms W) (ha : Aparts w0 B Bf Y N v n) {i k g c : Nat} (hi : i < N) (hv : v i = .slice (some ⟨g, 0, none⟩) (n i) c) (hk : k < n i) (m : Int) :
    ZTold w0 B Bf N v n (fun j => if j = i then (Ms i).set k m else Ms j) (W.setCell ⟨g, k, none⟩ (.int .i64 m)) ∧ ((W.cell? ⟨g, k, none⟩).isSome = true ∧ W.frozen? ⟨g, k, none⟩ = false) := by
  have hr := h.rows i hi
  rw [hv] at hr
  obtain ⟨h1, h2, h3⟩ := owns_setZ hr (k := k) (by rw [h.len hi]; exact hk) m
  have hs := h.size
  have := h.turn ha.apt hi (x' := ints ((Ms i).set k m)) (by rw [hv]; exact h2) (by rw [hv]; exact h1) (Nat.le_trans ha.hB hs)
  refine ⟨?_, h3⟩
  unfold ZTold
  have e : (fun j => ints (if j = i then (Ms i).set k m else Ms j)) = fun j => if j = i then ints ((Ms i).set k m) else ints (Ms j) := by funext j; split <;> rfl
  rw [e]
  exact this
end
/-- within a list -/
def InZ (w0 : World) (B Bf N : Nat) (v : Nat → Value) (n : Nat → Nat) (i k : Nat) (W : World) : Prop := ∃ Ms, ZTold w0 B Bf N v n Ms W ∧ (∀ j, j < i → Ms j = List.replicate (n j) (mzA j)) ∧ ∀ j, j < k → (Ms i)[j]? = some (mzA i)
theorem InZ.set {w0 W : World} {B Bf Y N : Nat} {v : Nat → Value} {n : Nat → Nat} {i k g c : Nat} (h : InZ w0 B Bf N v n i k W) (ha : Aparts w0 B Bf Y N v n) (hi : i < N) (hv : v i = .slice (some ⟨g, 0, none⟩) (n i) c) (hk : k < n i) :
    InZ w0 B Bf N v n i (k + 1) (W.setCell ⟨g, k, none⟩ (.int .i64 (mzA i))) ∧ ((W.cell? ⟨g, k, none⟩).isSome = true ∧ W.frozen? ⟨g, k, none⟩ = false) := by
  obtain ⟨Ms, h1, h2, h3⟩ := h
  obtain ⟨h4, h5⟩ := h1.set ha hi hv hk (mzA i)
  have hl := h1.len hi
  refine ⟨⟨_, h4, fun j hj => ?_, fun j hj => ?_⟩, h5⟩
  · simp only [if_neg (show ¬ j = i by omega)]; exact h2 j hj
  · simp only [if_true]
    by_cases e : j = k
    · subst e; rw [List.getElem?_set_self (by omega)]
    · rw [List.getElem?_set_ne (by omega)]; exact h3 j (by omega)
theorem InZ.next {w0 W : World} {B Bf N : Nat} {v : Nat → Value} {n : Nat → Nat} {i : Nat} (h : InZ w0 B Bf N v n i (n i) W) (hi : i < N) : InZ w0 B Bf N v n (i + 1) 0 W := by
  obtain ⟨Ms, h1, h2, h3⟩ := h
  refine ⟨Ms, h1, fun j hj => ?_, fun j hj => by omega⟩
  by_cases e : j = i
  · subst e
    apply List.ext_getElem?
    intro q
    have hl := h1.len hi
    rw [List.getElem?_replicate]
    split
    · exact h3 q ‹_›
    · rw [List.getElem?_eq_none (by omega)]
  · exact h2 j (by omega)
theorem InZ.list {w0 W : World} {B Bf Y N : Nat} {v : Nat → Value} {n : Nat → Nat} {i k : Nat} (h : InZ w0 B Bf N v n i k W) (ha : Aparts w0 B Bf Y N v n) {j : Nat} (hj : j < N) : W.cell? ⟨Y, j, none⟩ = some (v j) := by
  obtain ⟨Ms, h1, _⟩ := h
  exact h1.list ha hj
theorem InZ.form {w0 W : World} {B Bf N : Nat} {v : Nat → Value} {n : Nat → Nat} {i k : Nat} (h : InZ w0 B Bf N v n i k W) {j : Nat} (hj : j < N) : ∃ p c, v j = .slice p (n j) c := by
  obtain ⟨Ms, h1, _⟩ := h
  exact h1.form hj
theorem InZ.at_ {w0 W : World} {B Bf N : Nat} {v : Nat → Value} {n : Nat → Nat} {i k : Nat} (h : InZ w0 B Bf N v n i k W) {j : Nat} (hj : j < N) (hp : 0 < n j) : ∃ g c, v j = .slice (some ⟨g, 0, none⟩) (n j) c ∧ n j ≤ c := by
  obtain ⟨Ms, h1, _⟩ := h
  exact h1.at_ hj hp
/-- all lists are marked -/
def zsA (n : Nat → Nat) (j : Nat) : List Value := ints (List.replicate (n j) (mzA j))
def zsB (k j : Nat) : List Value := ints (List.replicate k (mzB j))
theorem InZ.all {w0 W : World} {B Bf N : Nat} {v : Nat → Value} {n : Nat → Nat} (h : InZ w0 B Bf N v n N 0 W) : Told w0 B Bf 3 1 N v n (zsA n) W := by
  obtain ⟨Ms, h1, h2, _⟩ := h
  exact ⟨fun j hj => by have := h1.rows j hj; simp only [h2 j hj] at this; exact this, h1.below, h1.frame, h1.size⟩
def Gz (B : Nat) (v : Nat → Value) (n : Nat → Nat) (i : Nat) (W0 : World) (k : Nat) (x : Value) (W : World) : Prop := Grows W0 B 3 1 (v i) (n i) (zsA n i) k (zsB k i) x W
theorem Gz.step {B : Nat} {v : Nat → Value} {n : Nat → Nat} {i : Nat} {W0 W W' : World} {k g cap : Nat} {x : Value} (h : Gz B v n i W0 k x W)
    (hrow : W'.ownsRow B 3 1 (.slice (some ⟨g, 0, none⟩) (n i + k + 1) cap) (n i + k + 1) (zsA n i ++ zsB k i ++ [.int .i64 (mzB i)])) (hat : x = .slice (some ⟨g, 0, none⟩) (n i + k) cap ∧ W.grownBy W' (some g) ∨ W.heap.size ≤ g ∧ W.grownBy W' none) :
    Gz B v n i W0 (k + 1) (.slice (some ⟨g, 0, none⟩) (n i + k + 1) cap) W' := by
  have := Grows.step (by decide) h hrow hat
  have e : zsB k i ++ [.int .i64 (mzB i)] = zsB (k + 1) i := by unfold zsB; rw [List.replicate_succ', ints_append]; rfl
  rw [e] at this
  exact this
/-- behind the second phase: what the third one reads -/
def Pz3 (w0 : World) (B Bf N : Nat) (v : Nat → Value) (n : Nat → Nat) (G : Value) (W : World) : Prop := ∃ gv, Ph2 w0 B Bf 3 1 41 N v n (zsA n) (zsB 40) 40 gv N G W
section
variable {w0 W : World} {B Bf Y N : Nat} {v : Nat → Value} {n : Nat → Nat} {G : Value}
theorem Pz3.drewN (h : Pz3 w0 B Bf N v n G W) (m : Nat) : Pz3 w0 B Bf N v n G (W.drewN m) := by
  obtain ⟨gv, t, g, a, ne, l⟩ := h
  have hb : Below W.heap.size W (W.drewN m) := below_drewN_refl _ _ _
  exact ⟨gv, ⟨fun j hj => ownsRow_below (t.rows j hj) hb, below_drewN t.below m, t.frame, t.size⟩, fun j hj => ownsRow_below (g j hj) hb, a, ne, ownsRow_below l hb⟩
theorem owns_int {W : World} {B m k : Nat} {v : Value} {L : List Int} {p : Option Addr} {c : Nat} {x : Int} (h : W.ownsRow B 3 1 v m (ints L)) (hv : v = .slice p m c) (hk : L[k]? = some x) : ∃ g, p = some ⟨g, 0, none⟩ ∧ W.cell? ⟨g, k, none⟩ = some (.int .i64 x) := by
  have hlt := (List.getElem?_eq_some_iff.1 hk).1
  have hl := h.1
  rw [ints_len] at hl
  obtain ⟨_, ⟨_, e⟩ | ⟨g, cap, cur, e, _⟩⟩ := id h
  · omega
  · rw [e] at hv
    cases hv
    refine ⟨g, rfl, ?_⟩
    have := h.cells (g := g) (by rw [e]; rfl) k (.int .i64 x) (by rw [ints_idx, hk]; rfl)
    rw [show (⟨g, 0, none⟩ : Addr).add k = ⟨g, k, none⟩ by unfold Addr.add; split <;> simp_all] at this
    exact this
theorem Pz3.reads (h : Pz3 w0 B Bf N v n G W) (ha : Aparts w0 B Bf Y N v n) {i : Nat} (hi : i < N) : ∃ p c gG gc h2 c2, v i = .slice p (n i) c ∧ G = .slice (some ⟨gG, 0, none⟩) N gc ∧ N ≤ gc ∧ n i ≤ c ∧ n i + 40 ≤ c2 ∧ W.cell? ⟨Y, i, none⟩ = some (.slice p (n i) c) ∧ W.cell? ⟨gG, i, none⟩ = some (.slice (some ⟨h2, 0, none⟩) (n i + 40) c2) ∧
    (∀ k, k < n i → (∃ g, p = some ⟨g, 0, none⟩ ∧ W.cell? ⟨g, k, none⟩ = some (.int .i64 (1000 + (i : Int)))) ∧ W.cell? ⟨h2, k, none⟩ = some (.int .i64 (1000 + (i : Int)))) ∧
    (∀ k, n i ≤ k → k < n i + 40 → W.cell? ⟨h2, k, none⟩ = some (.int .i64 (2000 + (i : Int)))) := by
  obtain ⟨gv, hp⟩ := h
  obtain ⟨p, c, hv⟩ := owns_form (hp.told.rows i hi)
  obtain ⟨gG, gc, hG, _, _⟩ := hp.list.form (by omega)
  have hy := ZTold.list (Ms := fun j => List.replicate (n j) (mzA j)) hp.told ha hi
  rw [hv] at hy
  have hgr : W.ownsRow B 3 1 (gv i) (n i + 40) (ints (List.replicate (n i) (mzA i) ++ List.replicate 40 (mzB i))) := by rw [ints_append]; exact hp.grown i hi
  obtain ⟨h2, c2, hgv, _, _⟩ := hgr.form (by omega)
  have hcG := hp.list.cells (g := gG) (by rw [hG]; rfl) i (gv i) (by rw [List.getElem?_map, List.getElem?_range hi]; rfl)
  rw [show (⟨gG, 0, none⟩ : Addr).add i = ⟨gG, i, none⟩ by unfold Addr.add; split <;> simp_all, hgv] at hcG
  have hcap1 : N ≤ gc := by have := hp.list; rw [hG] at this; exact owns_cap this
  have hcap2 : n i + 40 ≤ c2 := by have := hgr; rw [hgv] at this; exact owns_cap this
  have hcap3 : n i ≤ c := by
    obtain ⟨_, ⟨e, e2⟩ | ⟨g, cap, cur, e, _, _, h1, _⟩⟩ := hp.told.rows i hi
    · omega
    · rw [hv] at e; cases e; exact h1
  refine ⟨p, c, gG, gc, h2, c2, hv, hG, hcap1, hcap3, hcap2, hy, hcG, fun k hk => ⟨?_, ?_⟩, fun k hk1 hk2 => ?_⟩
  · exact owns_int (hp.told.rows i hi) hv (x := mzA i) (by rw [List.getElem?_replicate]; simp [hk])
  · obtain ⟨g, e, hc⟩ := owns_int hgr hgv (k := k) (x := mzA i) (by rw [List.getElem?_append_left (by simpa using hk), List.getElem?_replicate]; simp [hk])
    cases e
    exact hc
  · obtain ⟨g, e, hc⟩ := owns_int hgr hgv (k := k) (x := mzB i) (by rw [List.getElem?_append_right (by simpa using hk1), List.getElem?_replicate, List.length_replicate, if_pos (by omega)])
    cases e
    exact hc
end
end Go.Proofs.YtiijpbfkchokaaaGreat
namespace Go.Proofs.YtiijpbfkchokaaaGreat
open Go.ChangeShapes Go.WideShapes Go.ChangeAt Go.RowKit Go.Shelf
theorem info_ints : (Tryz.prog.info? 41).map (fun i => (i.zero, i.size, i.bytes)) = some (some (.slice none 0 0), 1, 24) := by kernel_rfl
set_option maxRecDepth 100000 in
set_option maxHeartbeats 4000000 in
theorem apartInts_any (B Bf Y N : Nat) (v : Nat → Value) (n : Nat → Nat) (Ms : Nat → List Int) (w : World) (ha : Aparts w B Bf Y N v n) (h : ZTold w B Bf N v n Ms w) :
    Calls Tryz.prog 23 #[.slice (some ⟨Y, 0, none⟩) N N] w fun e w' => e = .returned (.bool true) ∧ Below B w w' := by
  have hN := ha.hN
  have HA := Lib.hid ha
  have H0 := Lib.hid (show InZ w B Bf N v n 0 0 w from ⟨Ms, h, fun j hj => by omega, fun j hj => by omega⟩)
  clear ha h
  go_enter Tryz.func23, Tryz.ntmps23
  go_wp2_with fail
  go_loopg [4, 5] (N + 1) (fun gg t4 t5 wr => ∃ i : Nat, gg = N + 1 - i ∧ i ≤ N ∧ t4 = .int .i64 i ∧ InZ w B Bf N v n i 0 wr)
  case atStart => exact ⟨0, rfl, Nat.zero_le _, rfl, H0.out⟩
  case round =>
    obtain ⟨i, rfl, hi, rfl, hr⟩ := hrel
    have hi1 : (0 : Int) ≤ (i : Int) := by omega
    by_cases hlt : i < N
    · have hi2 : (i : Int) < (N : Int) := by omega
      obtain ⟨p, c, hv⟩ := hr.form hlt
      have hc := hr.list HA.out hlt
      rw [hv] at hc
      have hni := HA.out.hn i hlt
      have HR := Lib.hid hr
      have HV := Lib.hid hv
      have hw1 : IntKind.i64.wrap (1000 + (i : Int)) = 1000 + (i : Int) := Go.IntWalk.i64_in _ (by omega)
      clear hr hv
      go_wp2_with fail
      obtain ⟨wo, rfl⟩ : ∃ wo : World, wo = wr := ⟨_, rfl⟩
      go_loopg [5] (n i + 1) (fun gg t5 wr => ∃ k : Nat, gg = n i + 1 - k ∧ k ≤ n i ∧ t5 = .int .i64 k ∧ InZ w B Bf N v n i k wr)
      case atStart => exact ⟨0, rfl, Nat.zero_le _, rfl, HR.out⟩
      case round =>
        obtain ⟨k, rfl, hk, rfl, hr⟩ := hrel
        have hk1 : (0 : Int) ≤ (k : Int) := by omega
        have hcr := hr.list HA.out hlt
        rw [HV.out] at hcr
        by_cases hlk : k < n i
        · have hk2 : (k : Int) < (n i : Int) := by omega
          obtain ⟨g, c', hv2, hcap⟩ := hr.at_ hlt (by omega)
          have he := HV.out.symm.trans hv2
          simp only [Value.slice.injEq] at he
          obtain ⟨rfl, _, rfl⟩ := he
          obtain ⟨h4, h5, h6⟩ := hr.set HA.out hlt hv2 hlk
          obtain ⟨y5, h5⟩ := Option.isSome_iff_exists.1 h5
          have H4 := Lib.hid h4
          clear hr hv2 h4
          go_wp2_with fail
          go_roundg (n i + 1 - (k + 1))
          case measure => omega
          case rel => exact ⟨k + 1, rfl, hlk, by go_num, H4.out⟩
        · have hk2 : (n i : Int) ≤ (k : Int) := by omega
          obtain rfl : k = n i := by omega
          have H4 := Lib.hid (hr.next hlt)
          clear hr
          go_wp2_with fail
          go_roundg (N + 1 - (i + 1))
          case measure => omega
          case rel => exact ⟨i + 1, rfl, hlt, by go_num, H4.out⟩
    · have hi2 : (N : Int) ≤ (i : Int) := by omega
      obtain rfl : N = i := by omega
      have HT := Lib.hid hr.all
      clear hr hi hlt hi1 hi2 H0
      go_wp2_with fail
      obtain ⟨w2, rfl⟩ : ∃ w2 : World, w2 = wr := ⟨_, rfl⟩
      obtain ⟨i0, hi0', hz0, hz1, hz2⟩ := info_parts info_int
      obtain ⟨i1, hi1', hy0, hy1, hy2⟩ := info_parts info_ints
      go_loopg [3, 6, 7, 8] (N + 1) (fun gg t3 t6 t7 t8 wr => ∃ (i : Nat) (gv : Nat → Value), gg = N + 1 - i ∧ i ≤ N ∧ t6 = .int .i64 i ∧ Ph2 w B Bf 3 1 41 N v n (zsA n) (zsB 40) 40 gv i t3 wr)
      case atStart => exact ⟨0, fun _ => undef, rfl, Nat.zero_le _, rfl, Ph2.start _ HT.out⟩
      case round =>
        obtain ⟨i, gv, rfl, hi, rfl, hp⟩ := hrel
        have hi1 : (0 : Int) ≤ (i : Int) := by omega
        obtain ⟨gp, gc, rfl⟩ := owns_form hp.list
        by_cases hlt : i < N
        · have hi2 : (i : Int) < (N : Int) := by omega
          obtain ⟨p, c, hv⟩ := owns_form (hp.told.rows i hlt)
          have hc := ZTold.list (Ms := fun j => List.replicate (n j) (mzA j)) hp.told HA.out hlt
          rw [hv] at hc
          have hni := HA.out.hn i hlt
          have HP := Lib.hid hp
          have HG := Lib.hid (show Gz B v n i wr 0 (v i) wr from Grows.start (hp.told.rows i hlt))
          have HV := Lib.hid hv
          have hw1 : IntKind.i64.wrap (2000 + (i : Int)) = 2000 + (i : Int) := Go.IntWalk.i64_in _ (by omega)
          clear hp hv
          go_wp2_with fail
          obtain ⟨wo, rfl⟩ : ∃ wo : World, wo = wr := ⟨_, rfl⟩
          go_loopg [7, 8] 41 (fun gg t7 t8 wr => ∃ (k : Nat) (p' : Option Addr) (c' : Nat), gg = 40 + 1 - k ∧ k ≤ 40 ∧ t8 = .int .i64 k ∧ t7 = .slice p' (n i + k) c' ∧ Gz B v n i wo k (.slice p' (n i + k) c') wr)
          case atStart => exact ⟨0, _, _, rfl, Nat.zero_le _, rfl, rfl, by rw [Nat.add_zero, ← HV.out]; exact HG.out⟩
          case round =>
            obtain ⟨k, p', c', rfl, hk, rfl, rfl, hr⟩ := hrel
            have hk1 : (0 : Int) ≤ (k : Int) := by omega
            by_cases hlk : k < 40
            · have hk2 : (k : Int) < 40 := by omega
              have HRA : Hid (Gz B v n i wo k (.slice p' (n i + k) c') (wr.alloc (.cells #[.int .i64 (mzB i)] 3))) := Lib.hid (hr.alloc _)
              have hone : Hid (∀ u ∈ [Value.int .i64 (mzB i)], u.oneCell' = true) := Lib.hid (by simp [Value.oneCell'])
              have hBz : B ≤ wr.heap.size := Nat.le_trans HA.out.hB (Nat.le_trans HP.out.told.size hr.by_.size)
              clear hr
              go_wp2_with (at_builtin; refine wpList_append_keeps _ rfl _ _ _ rfl B 3 i0 (.int .i64 0) 1 8 Tryz.underlying41 hi0' hz0 hz1 hz2 rfl (by decide) (.slice p' (n i + k) c') (n i + k) (zsA n i ++ zsB k i) rfl HRA.out.row ⟨wr.heap.size, 0, none⟩ 1 1 [.int .i64 (mzB i)] rfl rfl (World.news_of_block (cs := #[.int .i64 (mzB i)]) (heap_alloc_new _ _)) hone.out (by decide) (by unfold maxLen; omega) (by omega) (by simp; omega) ?_; intro g1 cap1 w1 hown1 hlt1 hat1)
              go_roundg (40 + 1 - (k + 1))
              case measure => omega
              case rel => exact ⟨k + 1, _, _, rfl, hlk, by go_num, rfl, HRA.out.step hown1 hat1⟩
            · have hk2 : (40 : Int) ≤ (k : Int) := by omega
              obtain rfl : k = 40 := by omega
              have HRA : Hid (Gz B v n i wo 40 (.slice p' (n i + 40) c') (wr.alloc (.cells #[.slice p' (n i + 40) c'] 41))) := Lib.hid (hr.alloc _)
              have HL := Lib.hid (HP.out.listIn HA.out.apt hlt HRA.out)
              have hBz : Bf ≤ wr.heap.size := Nat.le_trans HP.out.told.size hr.by_.size
              clear hr
              go_wp2_with (at_builtin; refine wpList_append_keeps _ rfl _ _ _ rfl Bf 41 i1 (.slice none 0 0) 1 24 Tryz.underlying113 hi1' hy0 hy1 hy2 rfl (by decide) (.slice gp i gc) i ((List.range i).map gv) rfl HL.out ⟨wr.heap.size, 0, none⟩ 1 1 [.slice p' (n i + 40) c'] rfl rfl (World.news_of_block (cs := #[.slice p' (n i + 40) c']) (heap_alloc_new _ _)) (by simp [Value.oneCell']) (by decide) (by unfold maxLen; omega) (by omega) (by simp; omega) ?_; intro g1 cap1 w1 hown1 hlt1 hat1)
              go_roundg (N + 1 - (i + 1))
              case measure => omega
              case rel => exact ⟨i + 1, _, rfl, hlt, by go_num, HP.out.step HA.out.apt HA.out.hB hlt HRA.out hown1 hat1⟩
        · have hi2 : (N : Int) ≤ (i : Int) := by omega
          obtain rfl : N = i := by omega
          have HP := Lib.hid (show Pz3 w B Bf N v n (.slice gp N gc) wr from ⟨gv, hp⟩)
          clear hp hi hlt hi1 hi2 HT
          go_wp2_with fail
          obtain ⟨w3, rfl⟩ : ∃ w3 : World, w3 = wr := ⟨_, rfl⟩
          go_loopg [9, 10] (N + 1) (fun gg t9 t10 wr => ∃ i m : Nat, gg = N + 1 - i ∧ i ≤ N ∧ t9 = .int .i64 i ∧ wr = w3.drewN m)
          case atStart => exact ⟨0, 0, rfl, Nat.zero_le _, rfl, rfl⟩
          case round =>
            obtain ⟨i, m, rfl, hi, rfl, rfl⟩ := hrel
            have hi1 : (0 : Int) ≤ (i : Int) := by omega
            by_cases hlt : i < N
            · have hi2 : (i : Int) < (N : Int) := by omega
              obtain ⟨p, c, gG, gc', h2, c2, hv, hG, hcg, hcn, hc2, hy, hyG, hA, hB⟩ := HP.out.reads HA.out hlt
              simp only [Value.slice.injEq] at hG
              obtain ⟨rfl, _, rfl⟩ := hG
              have hni := HA.out.hn i hlt
              have HV := Lib.hid hv
              have RA := Lib.hid hA
              have RB := Lib.hid hB
              have hw1 : IntKind.i64.wrap (1000 + (i : Int)) = 1000 + (i : Int) := Go.IntWalk.i64_in _ (by omega)
              have hw2 : IntKind.i64.wrap (2000 + (i : Int)) = 2000 + (i : Int) := Go.IntWalk.i64_in _ (by omega)
              clear hv hA hB
              go_wp2_with fail
              go_loopg [10] (n i + 41) (fun gg t10 wr => ∃ k m : Nat, gg = n i + 41 - k ∧ k ≤ n i + 40 ∧ t10 = .int .i64 k ∧ wr = w3.drewN m)
              case atStart => exact ⟨0, m, rfl, Nat.zero_le _, rfl, rfl⟩
              case round =>
                obtain ⟨k, m2, rfl, hk, rfl, rfl⟩ := hrel
                have hk1 : (0 : Int) ≤ (k : Int) := by omega
                by_cases hlk : k < n i + 40
                · have hk2 : (k : Int) < (n i : Int) + 40 := by omega
                  by_cases hka : k < n i
                  · have hk3 : (k : Int) < (n i : Int) := by omega
                    obtain ⟨⟨g, rfl, q1⟩, q2⟩ := RA.out k hka
                    go_wp2_with fail
                    go_roundg (n i + 41 - (k + 1))
                    case measure => omega
                    case rel => exact ⟨k + 1, m2, rfl, hlk, by go_num, rfl⟩
                  · have hk3 : (n i : Int) ≤ (k : Int) := by omega
                    have q2 := RB.out k (by omega) hlk
                    go_wp2_with fail
                    go_roundg (n i + 41 - (k + 1))
                    case measure => omega
                    case rel => exact ⟨k + 1, m2, rfl, hlk, by go_num, rfl⟩
                · have hk2 : (n i : Int) + 40 ≤ (k : Int) := by omega
                  go_wp2_with fail
                  go_roundg (N + 1 - (i + 1))
                  case measure => omega
                  case rel => exact ⟨i + 1, m2, rfl, hlt, by go_num, rfl⟩
            · have hi2 : (N : Int) ≤ (i : Int) := by omega
              go_wp2_with fail
              obtain ⟨gv, hp⟩ := HP.out
              have hbl := below_drewN hp.told.below m
              clear hp
              go_ret
              exact ⟨rfl, hbl⟩
end Go.Proofs.YtiijpbfkchokaaaGreat
