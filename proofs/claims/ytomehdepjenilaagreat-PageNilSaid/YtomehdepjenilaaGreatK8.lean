/-
  The laws' own functions over lists of nodes: Apart, its first phase (each list is marked).
-/
import Derived.Test.YtomehdepjenilaaGreatK6
namespace Go.Proofs.YtomehdepjenilaaGreat
open Go.ChangeShapes Go.WideShapes Go.ChangeAt Go.RowKit Go.Shelf
theorem flat_at (L : List Nd) (q : Nat) : (L.flatMap Nd.cells)[q]? = (L[q / 19]?).bind fun m => m.cells[q % 19]? := by
  by_cases h : q / 19 < L.length
  · have e := flat_nodes L (q / 19) h
    rw [List.getElem?_eq_getElem h]
    simp only [Option.bind_some]
    rw [← e, List.getElem?_take_of_lt (by omega), List.getElem?_drop]
    congr 1
    omega
  · rw [List.getElem?_eq_none (by rw [flat_len]; omega), List.getElem?_eq_none (by omega)]; rfl
theorem owns_set {W : World} {B n c g : Nat} {L : List Nd} (h : W.ownsRow B 49 19 (.slice (some ⟨g, 0, none⟩) n c) n (L.flatMap Nd.cells)) {k : Nat} (hk : k < L.length) (m : Nd) :
    (setAgg W g (k * 19) m.arr).ownsRow B 49 19 (.slice (some ⟨g, 0, none⟩) n c) n ((L.set k m).flatMap Nd.cells) ∧ W.grownBy (setAgg W g (k * 19) m.arr) (some g) ∧ there? W g (k * 19) 19 = true := by
  obtain ⟨l1, ⟨e1, _⟩ | ⟨g1, c1, cur, e1, b1, hg, n1, m1, s1, t1⟩⟩ := h
  · cases e1
  cases e1
  have hL : L.length = n := by rw [flat_len] at l1; omega
  have hms : m.arr.toList.length = 19 := by have := Nd.size_arr m; simpa using this
  have hfit : k * 19 + 19 ≤ cur.size := by omega
  have hb := Below.setAgg (Below.refl 0 W) (Nat.zero_le g) (k * 19) m.arr
  refine ⟨⟨by rw [flat_len, List.length_set, hL], .inr ⟨g, c, _, rfl, b1, heap_setCells_same g _ _ _ _ cur W hg, n1, m1, by rw [size_setMany, s1], ?_⟩⟩, ⟨hb.os, hb.tape, hb.output, hb.size, fun j _ hne => heap_setCells_other g j (fun e => hne (by rw [e])) _ _ _⟩, by unfold there?; rw [hg]; simpa using hfit⟩
  apply List.ext_getElem?
  intro q
  rw [flat_at, List.getElem?_take]
  split
  · rename_i hq
    rw [Array.getElem?_toList, get_setMany _ _ _ _ (by rw [hms]; exact hfit), hms]
    have t1' : cur[q]? = (L.flatMap Nd.cells)[q]? := by rw [← t1, List.getElem?_take_of_lt hq]; simp
    rw [t1', flat_at]
    split
    · rename_i hr
      have hk2 : q / 19 = k := by omega
      rw [hk2, List.getElem?_set_self hk]
      show m.cells[q - k * 19]? = m.cells[q % 19]?
      congr 1
      omega
    · rw [List.getElem?_set_ne (by omega)]
  · rename_i hq
    rw [List.getElem?_eq_none (by rw [List.length_set]; omega)]; rfl
def mkA (i : Nat) : Nd := { Nd.zero with kind := 1000 + (i : Int) }
def mkB (i : Nat) : Nd := { Nd.zero with kind := 2000 + (i : Int) }
structure Aparts (w0 : World) (B Bf Y N : Nat) (v : Nat → Value) (n : Nat → Nat) : Prop where
  apt : Apt Bf N v
  hB : B ≤ Bf
  hY : Y < Bf
  ne : ∀ j, j < N → (v j).ownBlock ≠ some Y
  blk : ∃ cs t, w0.heap[Y]? = some (.cells cs t (0, 0)) ∧ ∀ j, j < N → cs[j]? = some (v j)
  hN : N ≤ 100
  hn : ∀ j, j < N → n j ≤ 100000
def NTold (w0 : World) (B Bf N : Nat) (v : Nat → Value) (n : Nat → Nat) (Ms : Nat → List Nd) (W : World) : Prop := Told w0 B Bf 49 19 N v n (fun j => (Ms j).flatMap Nd.cells) W
section
variable {w0 W : World} {B Bf Y N : Nat} {v : Nat → Value} {n : Nat → Nat} {Ms : Nat → List Nd}
theorem NTold.list (h : NTold w0 B Bf N v n Ms W) (ha : Aparts w0 B Bf Y N v n) {j : Nat} (hj : j < N) : W.cell? ⟨Y, j, none⟩ = some (v j) := by
  obtain ⟨cs, t, h1, h2⟩ := ha.blk
  rw [cell?_blk' ((h.frame Y ha.hY ha.ne).trans h1), h2 j hj]
theorem NTold.len (h : NTold w0 B Bf N v n Ms W) {j : Nat} (hj : j < N) : (Ms j).length = n j := by have := (h.rows j hj).1; simp only [flat_len] at this; omega
theorem NTold.form (h : NTold w0 B Bf N v n Ms W) {j : Nat} (hj : j < N) : ∃ p c, v j = .slice p (n j) c := owns_form (h.rows j hj)
theorem NTold.at_ (h : NTold w0 B Bf N v n Ms W) {j : Nat} (hj : j < N) (hp : 0 < n j) : ∃ g c, v j = .slice (some ⟨g, 0, none⟩) (n j) c ∧ n j ≤ c := by
  obtain ⟨_, ⟨_, e⟩ | ⟨g, c, cur, e, _, _, h1, _⟩⟩ := h.rows j hj
  · omega
  · exact ⟨g, c, e, h1⟩
theorem NTold.set (h : NTold w0 B Bf N v n Ms W) (ha : Aparts w0 B Bf Y N v n) {i k g c : Nat} (hi : i < N) (hv : v i = .slice (some ⟨g, 0, none⟩) (n i) c) (hk : k < n i) (m : Nd) :
    NTold w0 B Bf N v n (fun j => if j = i then (Ms i).set k m else Ms j) (setAgg W g (k * 19) m.arr) ∧ there? W g (k * 19) 19 = true := by
  have hr := h.rows i hi
  rw [hv] at hr
  obtain ⟨h1, h2, h3⟩ := owns_set hr (k := k) (by rw [h.len hi]; exact hk) m
  have hs := h.size
  have := h.turn ha.apt hi (x' := ((Ms i).set k m).flatMap Nd.cells) (by rw [hv]; exact h2) (by rw [hv]; exact h1) (Nat.le_trans ha.hB hs)
  refine ⟨?_, h3⟩
  unfold NTold
  have e : (fun j => (if j = i then (Ms i).set k m else Ms j).flatMap Nd.cells) = fun j => if j = i then ((Ms i).set k m).flatMap Nd.cells else (Ms j).flatMap Nd.cells := by funext j; split <;> rfl
  rw [e]
  exact this
end
def InA (w0 : World) (B Bf N : Nat) (v : Nat → Value) (n : Nat → Nat) (i k : Nat) (W : World) : Prop := ∃ Ms, NTold w0 B Bf N v n Ms W ∧ (∀ j, j < i → Ms j = List.replicate (n j) (mkA j)) ∧ ∀ j, j < k → (Ms i)[j]? = some (mkA i)
theorem InA.set {w0 W : World} {B Bf Y N : Nat} {v : Nat → Value} {n : Nat → Nat} {i k g c : Nat} (h : InA w0 B Bf N v n i k W) (ha : Aparts w0 B Bf Y N v n) (hi : i < N) (hv : v i = .slice (some ⟨g, 0, none⟩) (n i) c) (hk : k < n i) :
    InA w0 B Bf N v n i (k + 1) (setAgg W g (k * 19) (mkA i).arr) ∧ there? W g (k * 19) 19 = true := by
  obtain ⟨Ms, h1, h2, h3⟩ := h
  obtain ⟨h4, h5⟩ := h1.set ha hi hv hk (mkA i)
  have hl := h1.len hi
  refine ⟨⟨_, h4, fun j hj => ?_, fun j hj => ?_⟩, h5⟩
  · simp only [if_neg (show ¬ j = i by omega)]; exact h2 j hj
  · simp only [if_true]
    by_cases e : j = k
    · subst e; rw [List.getElem?_set_self (by omega)]
    · rw [List.getElem?_set_ne (by omega)]; exact h3 j (by omega)
theorem InA.next {w0 W : World} {B Bf N : Nat} {v : Nat → Value} {n : Nat → Nat} {i : Nat} (h : InA w0 B Bf N v n i (n i) W) (hi : i < N) : InA w0 B Bf N v n (i + 1) 0 W := by
  obtain ⟨Ms, h1, h2, h3⟩ := h
  refine ⟨Ms, h1, fun j hj => ?_, fun j hj => by omega⟩
  by_cases e : j = i
  · subst e
    apply List.ext_getElem?
    intro q
    have hl := h1.len hi
    rw [List.getElem?_replicate]
    split
    · exact h3 q ‹_›
    · rw [List.getElem?_eq_none (by omega)]
  · exact h2 j (by omega)
theorem InA.list {w0 W : World} {B Bf Y N : Nat} {v : Nat → Value} {n : Nat → Nat} {i k : Nat} (h : InA w0 B Bf N v n i k W) (ha : Aparts w0 B Bf Y N v n) {j : Nat} (hj : j < N) : W.cell? ⟨Y, j, none⟩ = some (v j) := by
  obtain ⟨Ms, h1, _⟩ := h
  exact h1.list ha hj
theorem InA.form {w0 W : World} {B Bf N : Nat} {v : Nat → Value} {n : Nat → Nat} {i k : Nat} (h : InA w0 B Bf N v n i k W) {j : Nat} (hj : j < N) : ∃ p c, v j = .slice p (n j) c := by
  obtain ⟨Ms, h1, _⟩ := h
  exact h1.form hj
theorem InA.at_ {w0 W : World} {B Bf N : Nat} {v : Nat → Value} {n : Nat → Nat} {i k : Nat} (h : InA w0 B Bf N v n i k W) {j : Nat} (hj : j < N) (hp : 0 < n j) : ∃ g c, v j = .slice (some ⟨g, 0, none⟩) (n j) c ∧ n j ≤ c := by
  obtain ⟨Ms, h1, _⟩ := h
  exact h1.at_ hj hp
def xsA (n : Nat → Nat) (j : Nat) : List Value := (List.replicate (n j) (mkA j)).flatMap Nd.cells
def ysB (k j : Nat) : List Value := (List.replicate k (mkB j)).flatMap Nd.cells
theorem InA.all {w0 W : World} {B Bf N : Nat} {v : Nat → Value} {n : Nat → Nat} (h : InA w0 B Bf N v n N 0 W) : Told w0 B Bf 49 19 N v n (xsA n) W := by
  obtain ⟨Ms, h1, h2, _⟩ := h
  exact ⟨fun j hj => by have := h1.rows j hj; simp only [h2 j hj] at this; exact this, h1.below, h1.frame, h1.size⟩
def Gn (B : Nat) (v : Nat → Value) (n : Nat → Nat) (i : Nat) (W0 : World) (k : Nat) (x : Value) (W : World) : Prop := Grows W0 B 49 19 (v i) (n i) (xsA n i) k (ysB k i) x W
theorem Gn.step {B : Nat} {v : Nat → Value} {n : Nat → Nat} {i : Nat} {W0 W W' : World} {k g cap : Nat} {x : Value} (h : Gn B v n i W0 k x W)
    (hrow : W'.ownsRow B 49 19 (.slice (some ⟨g, 0, none⟩) (n i + k + 1) cap) (n i + k + 1) (xsA n i ++ ysB k i ++ (mkB i).cells)) (hat : x = .slice (some ⟨g, 0, none⟩) (n i + k) cap ∧ W.grownBy W' (some g) ∨ W.heap.size ≤ g ∧ W.grownBy W' none) :
    Gn B v n i W0 (k + 1) (.slice (some ⟨g, 0, none⟩) (n i + k + 1) cap) W' := by
  have := Grows.step (by decide) h hrow hat
  have e : ysB k i ++ (mkB i).cells = ysB (k + 1) i := by unfold ysB; rw [List.replicate_succ', List.flatMap_append]; simp
  rw [e] at this
  exact this
def P3 (w0 : World) (B Bf N : Nat) (v : Nat → Value) (n : Nat → Nat) (G : Value) (W : World) : Prop := ∃ gv, Ph2 w0 B Bf 49 19 27 N v n (xsA n) (ysB 40) 40 gv N G W
section
variable {w0 W : World} {B Bf Y N : Nat} {v : Nat → Value} {n : Nat → Nat} {G : Value}
theorem owns_node {W : World} {B m k : Nat} {v : Value} {L : List Nd} {p : Option Addr} {c : Nat} {x : Nd} (h : W.ownsRow B 49 19 v m (L.flatMap Nd.cells)) (hv : v = .slice p m c) (hk : L[k]? = some x) : ∃ g, p = some ⟨g, 0, none⟩ ∧ W.cell? ⟨g, k * 19, none⟩ = some (.int .i64 x.kind) := by
  have hlt := (List.getElem?_eq_some_iff.1 hk).1
  have hl := h.1
  rw [flat_len] at hl
  obtain ⟨_, ⟨_, e⟩ | ⟨g, cap, cur, e, _⟩⟩ := id h
  · omega
  · rw [e] at hv
    cases hv
    refine ⟨g, rfl, ?_⟩
    have h2 : (L.flatMap Nd.cells)[k * 19]? = some (.int .i64 x.kind) := by
      rw [flat_at, show k * 19 / 19 = k by omega, hk, show k * 19 % 19 = 0 by omega]; rfl
    have := h.cells (g := g) (by rw [e]; rfl) (k * 19) _ h2
    rw [show (⟨g, 0, none⟩ : Addr).add (k * 19) = ⟨g, k * 19, none⟩ by unfold Addr.add; split <;> simp_all] at this
    exact this
theorem P3.reads (h : P3 w0 B Bf N v n G W) (ha : Aparts w0 B Bf Y N v n) {i : Nat} (hi : i < N) : ∃ p c gG gc h2 c2, v i = .slice p (n i) c ∧ G = .slice (some ⟨gG, 0, none⟩) N gc ∧ N ≤ gc ∧ n i ≤ c ∧ n i + 40 ≤ c2 ∧ W.cell? ⟨Y, i, none⟩ = some (.slice p (n i) c) ∧ W.cell? ⟨gG, i, none⟩ = some (.slice (some ⟨h2, 0, none⟩) (n i + 40) c2) ∧
    (∀ k, k < n i → (∃ g, p = some ⟨g, 0, none⟩ ∧ W.cell? ⟨g, k * 19, none⟩ = some (.int .i64 (1000 + (i : Int)))) ∧ W.cell? ⟨h2, k * 19, none⟩ = some (.int .i64 (1000 + (i : Int)))) ∧
    (∀ k, n i ≤ k → k < n i + 40 → W.cell? ⟨h2, k * 19, none⟩ = some (.int .i64 (2000 + (i : Int)))) := by
  obtain ⟨gv, hp⟩ := h
  obtain ⟨p, c, hv⟩ := owns_form (hp.told.rows i hi)
  obtain ⟨gG, gc, hG, _, _⟩ := hp.list.form (by omega)
  have hy := NTold.list (Ms := fun j => List.replicate (n j) (mkA j)) hp.told ha hi
  rw [hv] at hy
  have hgr : W.ownsRow B 49 19 (gv i) (n i + 40) ((List.replicate (n i) (mkA i) ++ List.replicate 40 (mkB i)).flatMap Nd.cells) := by rw [List.flatMap_append]; exact hp.grown i hi
  obtain ⟨h2, c2, hgv, _, _⟩ := hgr.form (by omega)
  have hcG := hp.list.cells (g := gG) (by rw [hG]; rfl) i (gv i) (by rw [List.getElem?_map, List.getElem?_range hi]; rfl)
  rw [show (⟨gG, 0, none⟩ : Addr).add i = ⟨gG, i, none⟩ by unfold Addr.add; split <;> simp_all, hgv] at hcG
  have hcap1 : N ≤ gc := by have := hp.list; rw [hG] at this; exact owns_cap this
  have hcap2 : n i + 40 ≤ c2 := by have := hgr; rw [hgv] at this; exact owns_cap this
  have hcap3 : n i ≤ c := by
    obtain ⟨_, ⟨e, e2⟩ | ⟨g, cap, cur, e, _, _, h1, _⟩⟩ := hp.told.rows i hi
    · omega
    · rw [hv] at e; cases e; exact h1
  refine ⟨p, c, gG, gc, h2, c2, hv, hG, hcap1, hcap3, hcap2, hy, hcG, fun k hk => ⟨?_, ?_⟩, fun k hk1 hk2 => ?_⟩
  · exact owns_node (hp.told.rows i hi) hv (x := mkA i) (by rw [List.getElem?_replicate]; simp [hk])
  · obtain ⟨g, e, hc⟩ := owns_node hgr hgv (k := k) (x := mkA i) (by rw [List.getElem?_append_left (by simpa using hk), List.getElem?_replicate]; simp [hk])
    cases e
    exact hc
  · obtain ⟨g, e, hc⟩ := owns_node hgr hgv (k := k) (x := mkB i) (by rw [List.getElem?_append_right (by simpa using hk1), List.getElem?_replicate, List.length_replicate, if_pos (by omega)])
    cases e
    exact hc
end
theorem info_nodes : (Tryz.prog.info? 27).map (fun i => (i.zero, i.size, i.bytes)) = some (some (.slice none 0 0), 1, 24) := by kernel_rfl
set_option maxRecDepth 100000 in
set_option maxHeartbeats 4000000 in
theorem apart_any (B Bf Y N : Nat) (v : Nat → Value) (n : Nat → Nat) (Ms : Nat → List Nd) (w : World) (ha : Aparts w B Bf Y N v n) (h : NTold w B Bf N v n Ms w) :
    Calls Tryz.prog 77 #[.slice (some ⟨Y, 0, none⟩) N N] w fun e w' => e = .returned (.bool true) ∧ Below B w w' := by
  have hN := ha.hN
  have HA := Lib.hid ha
  have H0 := Lib.hid (show InA w B Bf N v n 0 0 w from ⟨Ms, h, fun j hj => by omega, fun j hj => by omega⟩)
  clear ha h
  go_enter Tryz.func77, Tryz.ntmps77
  go_wp2_with fail
  go_loopg [4, 5] (N + 1) (fun gg t4 t5 wr => ∃ i : Nat, gg = N + 1 - i ∧ i ≤ N ∧ t4 = .int .i64 i ∧ InA w B Bf N v n i 0 wr)
  case atStart => exact ⟨0, rfl, Nat.zero_le _, rfl, H0.out⟩
  case round =>
    obtain ⟨i, rfl, hi, rfl, hr⟩ := hrel
    have hi1 : (0 : Int) ≤ (i : Int) := by omega
    by_cases hlt : i < N
    · have hi2 : (i : Int) < (N : Int) := by omega
      obtain ⟨p, c, hv⟩ := hr.form hlt
      have hc := hr.list HA.out hlt
      rw [hv] at hc
      have hni := HA.out.hn i hlt
      have HR := Lib.hid hr
      have HV := Lib.hid hv
      have hw1 : IntKind.i64.wrap (1000 + (i : Int)) = 1000 + (i : Int) := Go.IntWalk.i64_in _ (by omega)
      clear hr hv
      go_wp2_with fail
      obtain ⟨wo, rfl⟩ : ∃ wo : World, wo = wr := ⟨_, rfl⟩
      go_loopg [5] (n i + 1) (fun gg t5 wr => ∃ k : Nat, gg = n i + 1 - k ∧ k ≤ n i ∧ t5 = .int .i64 k ∧ InA w B Bf N v n i k wr)
      case atStart => exact ⟨0, rfl, Nat.zero_le _, rfl, HR.out⟩
      case round =>
        obtain ⟨k, rfl, hk, rfl, hr⟩ := hrel
        have hk1 : (0 : Int) ≤ (k : Int) := by omega
        have hcr := hr.list HA.out hlt
        rw [HV.out] at hcr
        by_cases hlk : k < n i
        · have hk2 : (k : Int) < (n i : Int) := by omega
          obtain ⟨g, c', hv2, hcap⟩ := hr.at_ hlt (by omega)
          have he := HV.out.symm.trans hv2
          simp only [Value.slice.injEq] at he
          obtain ⟨rfl, _, rfl⟩ := he
          obtain ⟨h4, h5⟩ := hr.set HA.out hlt hv2 hlk
          have H4 := Lib.hid h4
          clear hr hv2 h4
          go_wp2_with fail
          go_roundg (n i + 1 - (k + 1))
          case measure => omega
          case rel => exact ⟨k + 1, rfl, hlk, by go_num, H4.out⟩
        · have hk2 : (n i : Int) ≤ (k : Int) := by omega
          obtain rfl : k = n i := by omega
          have H4 := Lib.hid (hr.next hlt)
          clear hr
          go_wp2_with fail
          go_roundg (N + 1 - (i + 1))
          case measure => omega
          case rel => exact ⟨i + 1, rfl, hlt, by go_num, H4.out⟩
    · have hi2 : (N : Int) ≤ (i : Int) := by omega
      obtain rfl : N = i := by omega
      have HT := Lib.hid hr.all
      clear hr hi hlt hi1 hi2 H0
      go_wp2_with fail
      obtain ⟨w2, rfl⟩ : ∃ w2 : World, w2 = wr := ⟨_, rfl⟩
      obtain ⟨i0, hi0', hz0, hz1, hz2⟩ := info_parts info_node
      obtain ⟨i1, hi1', hy0, hy1, hy2⟩ := info_parts info_nodes
      go_loopg [3, 6, 7, 8] (N + 1) (fun gg t3 t6 t7 t8 wr => ∃ (i : Nat) (gv : Nat → Value), gg = N + 1 - i ∧ i ≤ N ∧ t6 = .int .i64 i ∧ Ph2 w B Bf 49 19 27 N v n (xsA n) (ysB 40) 40 gv i t3 wr)
      case atStart => exact ⟨0, fun _ => undef, rfl, Nat.zero_le _, rfl, Ph2.start _ HT.out⟩
      case round =>
        obtain ⟨i, gv, rfl, hi, rfl, hp⟩ := hrel
        have hi1 : (0 : Int) ≤ (i : Int) := by omega
        obtain ⟨gp, gc, rfl⟩ := owns_form hp.list
        by_cases hlt : i < N
        · have hi2 : (i : Int) < (N : Int) := by omega
          obtain ⟨p, c, hv⟩ := owns_form (hp.told.rows i hlt)
          have hc := NTold.list (Ms := fun j => List.replicate (n j) (mkA j)) hp.told HA.out hlt
          rw [hv] at hc
          have hni := HA.out.hn i hlt
          have HP := Lib.hid hp
          have HG := Lib.hid (show Gn B v n i wr 0 (v i) wr from Grows.start (hp.told.rows i hlt))
          have HV := Lib.hid hv
          have hw1 : IntKind.i64.wrap (2000 + (i : Int)) = 2000 + (i : Int) := Go.IntWalk.i64_in _ (by omega)
          clear hp hv
          go_wp2_with fail
          obtain ⟨wo, rfl⟩ : ∃ wo : World, wo = wr := ⟨_, rfl⟩
          go_loopg [7, 8] 41 (fun gg t7 t8 wr => ∃ (k : Nat) (p' : Option Addr) (c' : Nat), gg = 40 + 1 - k ∧ k ≤ 40 ∧ t8 = .int .i64 k ∧ t7 = .slice p' (n i + k) c' ∧ Gn B v n i wo k (.slice p' (n i + k) c') wr)
          case atStart => exact ⟨0, _, _, rfl, Nat.zero_le _, rfl, rfl, by rw [Nat.add_zero, ← HV.out]; exact HG.out⟩
          case round =>
            obtain ⟨k, p', c', rfl, hk, rfl, rfl, hr⟩ := hrel
            have hk1 : (0 : Int) ≤ (k : Int) := by omega
            by_cases hlk : k < 40
            · have hk2 : (k : Int) < 40 := by omega
              have HRA : Hid (Gn B v n i wo k (.slice p' (n i + k) c') (wr.alloc (.cells (mkB i).arr 49))) := Lib.hid (hr.alloc _)
              have hone : Hid (∀ u ∈ (mkB i).cells, u.oneCell' = true) := Lib.hid (by have := nodes_one [mkB i]; simpa using this)
              have hBz : B ≤ wr.heap.size := Nat.le_trans HA.out.hB (Nat.le_trans HP.out.told.size hr.by_.size)
              clear hr
              go_wp2_with (at_builtin; refine wpList_append_keeps _ rfl _ _ _ rfl B 49 i0 (.agg Nd.zero.arr) 19 160 Tryz.underlying27 hi0' hz0 hz1 hz2 rfl (by decide) (.slice p' (n i + k) c') (n i + k) (xsA n i ++ ysB k i) rfl HRA.out.row ⟨wr.heap.size, 0, none⟩ 1 1 (mkB i).cells rfl rfl (World.news_of_block (cs := (mkB i).arr) (heap_alloc_new _ _)) hone.out (by decide) (by unfold maxLen; omega) (by omega) (by simp; omega) ?_; intro g1 cap1 w1 hown1 hlt1 hat1)
              go_roundg (40 + 1 - (k + 1))
              case measure => omega
              case rel => exact ⟨k + 1, _, _, rfl, hlk, by go_num, rfl, HRA.out.step hown1 hat1⟩
            · have hk2 : (40 : Int) ≤ (k : Int) := by omega
              obtain rfl : k = 40 := by omega
              have HRA : Hid (Gn B v n i wo 40 (.slice p' (n i + 40) c') (wr.alloc (.cells #[.slice p' (n i + 40) c'] 27))) := Lib.hid (hr.alloc _)
              have HL := Lib.hid (HP.out.listIn HA.out.apt hlt HRA.out)
              have hBz : Bf ≤ wr.heap.size := Nat.le_trans HP.out.told.size hr.by_.size
              clear hr
              go_wp2_with (at_builtin; refine wpList_append_keeps _ rfl _ _ _ rfl Bf 27 i1 (.slice none 0 0) 1 24 Tryz.underlying153 hi1' hy0 hy1 hy2 rfl (by decide) (.slice gp i gc) i ((List.range i).map gv) rfl HL.out ⟨wr.heap.size, 0, none⟩ 1 1 [.slice p' (n i + 40) c'] rfl rfl (World.news_of_block (cs := #[.slice p' (n i + 40) c']) (heap_alloc_new _ _)) (by simp [Value.oneCell']) (by decide) (by unfold maxLen; omega) (by omega) (by simp; omega) ?_; intro g1 cap1 w1 hown1 hlt1 hat1)
              go_roundg (N + 1 - (i + 1))
              case measure => omega
              case rel => exact ⟨i + 1, _, rfl, hlt, by go_num, HP.out.step HA.out.apt HA.out.hB hlt HRA.out hown1 hat1⟩
        · have hi2 : (N : Int) ≤ (i : Int) := by omega
          obtain rfl : N = i := by omega
          have HP := Lib.hid (show P3 w B Bf N v n (.slice gp N gc) wr from ⟨gv, hp⟩)
          clear hp hi hlt hi1 hi2 HT
          go_wp2_with fail
          obtain ⟨w3, rfl⟩ : ∃ w3 : World, w3 = wr := ⟨_, rfl⟩
          go_loopg [9, 10] (N + 1) (fun gg t9 t10 wr => ∃ i m : Nat, gg = N + 1 - i ∧ i ≤ N ∧ t9 = .int .i64 i ∧ wr = w3.drewN m)
          case atStart => exact ⟨0, 0, rfl, Nat.zero_le _, rfl, rfl⟩
          case round =>
            obtain ⟨i, m, rfl, hi, rfl, rfl⟩ := hrel
            have hi1 : (0 : Int) ≤ (i : Int) := by omega
            by_cases hlt : i < N
            · have hi2 : (i : Int) < (N : Int) := by omega
              obtain ⟨p, c, gG, gc', h2, c2, hv, hG, hcg, hcn, hc2, hy, hyG, hA, hB⟩ := HP.out.reads HA.out hlt
              simp only [Value.slice.injEq] at hG
              obtain ⟨rfl, _, rfl⟩ := hG
              have hni := HA.out.hn i hlt
              have HV := Lib.hid hv
              have RA := Lib.hid hA
              have RB := Lib.hid hB
              have hw1 : IntKind.i64.wrap (1000 + (i : Int)) = 1000 + (i : Int) := Go.IntWalk.i64_in _ (by omega)
              have hw2 : IntKind.i64.wrap (2000 + (i : Int)) = 2000 + (i : Int) := Go.IntWalk.i64_in _ (by omega)
              clear hv hA hB
              go_wp2_with fail
              go_loopg [10] (n i + 41) (fun gg t10 wr => ∃ k m : Nat, gg = n i + 41 - k ∧ k ≤ n i + 40 ∧ t10 = .int .i64 k ∧ wr = w3.drewN m)
              case atStart => exact ⟨0, m, rfl, Nat.zero_le _, rfl, rfl⟩
              case round =>
                obtain ⟨k, m2, rfl, hk, rfl, rfl⟩ := hrel
                have hk1 : (0 : Int) ≤ (k : Int) := by omega
                by_cases hlk : k < n i + 40
                · have hk2 : (k : Int) < (n i : Int) + 40 := by omega
                  by_cases hka : k < n i
                  · have hk3 : (k : Int) < (n i : Int) := by omega
                    obtain ⟨⟨g, rfl, q1⟩, q2⟩ := RA.out k hka
                    go_wp2_with fail
                    go_roundg (n i + 41 - (k + 1))
                    case measure => omega
                    case rel => exact ⟨k + 1, m2, rfl, hlk, by go_num, rfl⟩
                  · have hk3 : (n i : Int) ≤ (k : Int) := by omega
                    have q2 := RB.out k (by omega) hlk
                    go_wp2_with fail
                    go_roundg (n i + 41 - (k + 1))
                    case measure => omega
                    case rel => exact ⟨k + 1, m2, rfl, hlk, by go_num, rfl⟩
                · have hk2 : (n i : Int) + 40 ≤ (k : Int) := by omega
                  go_wp2_with fail
                  go_roundg (N + 1 - (i + 1))
                  case measure => omega
                  case rel => exact ⟨i + 1, m2, rfl, hlt, by go_num, rfl⟩
            · have hi2 : (N : Int) ≤ (i : Int) := by omega
              go_wp2_with fail
              obtain ⟨gv, hp⟩ := HP.out
              have hbl := below_drewN hp.told.below m
              clear hp
              go_ret
              exact ⟨rfl, hbl⟩
end Go.Proofs.YtomehdepjenilaaGreat
