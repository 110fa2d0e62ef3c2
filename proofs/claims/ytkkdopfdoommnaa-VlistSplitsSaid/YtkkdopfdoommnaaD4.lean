/-
  The law VlistSplits: the walk.
-/
import Derived.Test.YtkkdopfdoommnaaD3
import Derived.Test.YtkkdopfdoommnaaK9
import Derived.Sort.AtCall
namespace Go.Proofs.Ytkkdopfdoommnaa
open Go.ChangeShapes Go.WideShapes Go.ChangeAt Go.RowKit Go.Shelf
/-- what both sides tell: the same nodes, in rows of their own -/
theorem split_rows {w2 w3 w4 w5 : World} {L : List Nd} {s : List Nat} {g : Gl} {h d : Int} {v u v' u' : Value} (hl : splitC L s g h d = 0 → L.length ≤ 2000)
    (h1 : splitC L s g h d = 0 → NRow w2 v (L.take (splitP L s h d)) w3 ∧ NRow w2 u (restP L (splitP L s h d) g) w3 ∧ ∀ q, v.ownBlock = some q → u.ownBlock ≠ some q) (h2 : splitC L s g h d ≠ 0 → v = .slice none 0 0 ∧ u = .slice none 0 0)
    (h3 : splitC L s g h d = 0 → NRow w4 v' (L.take (splitP L s h d)) w5 ∧ NRow w4 u' (restP L (splitP L s h d) g) w5 ∧ ∀ q, v'.ownBlock = some q → u'.ownBlock ≠ some q) (h4 : splitC L s g h d ≠ 0 → v' = .slice none 0 0 ∧ u' = .slice none 0 0) :
    ∃ R S : List Nd, R.length ≤ 2000 ∧ S.length ≤ 2000 ∧ w3.ownsRow w2.heap.size 25 19 v R.length (R.flatMap Nd.cells) ∧ w3.ownsRow w2.heap.size 25 19 u S.length (S.flatMap Nd.cells) ∧ (∀ q, v.ownBlock = some q → u.ownBlock ≠ some q) ∧
      w5.ownsRow w4.heap.size 25 19 v' R.length (R.flatMap Nd.cells) ∧ w5.ownsRow w4.heap.size 25 19 u' S.length (S.flatMap Nd.cells) := by
  by_cases h : splitC L s g h d = 0
  · obtain ⟨a1, a2, a3⟩ := h1 h
    obtain ⟨b1, b2, _⟩ := h3 h
    refine ⟨_, _, ?_, ?_, a1, a2, a3, b1, b2⟩
    · have := hl h; simp; omega
    · unfold splitC at h
      split at h
      · split at h
        · split at h
          · split at h
            · cases h
            · omega
          · cases h
        · cases h
      · rename_i h2; exact absurd h h2
  · obtain ⟨rfl, rfl⟩ := h2 h
    obtain ⟨rfl, rfl⟩ := h4 h
    exact ⟨[], [], Nat.zero_le _, Nat.zero_le _, World.ownsRow_nil _ _ _ _, World.ownsRow_nil _ _ _ _, (fun q e => by cases e), World.ownsRow_nil _ _ _ _, World.ownsRow_nil _ _ _ _⟩
/-- Apart of two lists -/
theorem apart_two {W : World} {B Y : Nat} {v u : Value} {R S : List Nd} (hv : W.ownsRow B 25 19 v R.length (R.flatMap Nd.cells)) (hu : W.ownsRow B 25 19 u S.length (S.flatMap Nd.cells)) (hne : ∀ q, v.ownBlock = some q → u.ownBlock ≠ some q) (hl : R.length ≤ 100000 ∧ S.length ≤ 100000) (hY : ∃ t, W.heap[Y]? = some (.cells #[v, u] t (0, 0))) (h1 : v.ownBlock ≠ some Y) (h2 : u.ownBlock ≠ some Y) (hB : B ≤ W.heap.size) :
    Calls Try.prog 36 #[.slice (some ⟨Y, 0, none⟩) 2 2] W fun e w' => e = .returned (.bool true) ∧ Below B W w' := by
  obtain ⟨t, hY⟩ := hY
  refine apart_any B W.heap.size Y 2 (fun j => if j = 0 then v else u) (fun j => if j = 0 then R.length else S.length) (fun j => if j = 0 then R else S) W
    ⟨⟨fun j _ g hg => ?_, fun i j hi hj h g hg => ?_⟩, hB, (Array.getElem?_eq_some_iff.1 hY).1, fun j _ => ?_, ⟨_, t, hY, fun j hj => ?_⟩, by decide, fun j _ => ?_⟩ ⟨fun j hj => ?_, Below.refl _ _, fun _ _ _ => rfl, Nat.le_refl _⟩
  · by_cases e : j = 0
    · simp only [e, if_true] at hg; exact (hv.lt g hg).2
    · simp only [e, if_false] at hg; exact (hu.lt g hg).2
  · by_cases e : i = 0
    · by_cases f : j = 0
      · omega
      · simp only [e, if_true] at hg
        simp only [f, if_false]
        exact hne g hg
    · by_cases f : j = 0
      · simp only [e, if_false] at hg
        simp only [f, if_true]
        exact fun h => hne g h hg
      · omega
  · by_cases e : j = 0
    · simp only [e, if_true]; exact h1
    · simp only [e, if_false]; exact h2
  · match j, hj with
    | 0, _ => rfl
    | 1, _ => rfl
  · by_cases e : j = 0
    · simp only [e, if_true]; exact hl.1
    · simp only [e, if_false]; exact hl.2
  · by_cases e : j = 0
    · simp only [e, if_true]; exact hv
    · simp only [e, if_false]; exact hu
set_option maxRecDepth 100000 in
set_option maxHeartbeats 8000000 in
theorem splits_walk (p0 : Option Addr) (b off cap : Nat) (L : List Nd) (height depth : Int) (g : Gl) (w : World) (hN : NIn w p0 b off cap L) :
    Calls Try.prog 11 #[.slice p0 L.length cap, .int .i64 height, .int .i64 depth, .agg g.arr] w fun e w' => e = .returned (.bool true) ∧ Below w.heap.size w w' := by
  have hlen := hN.len
  have HN := Lib.hid hN
  have Hs := Lib.hid (show checkC L = 0 → Items L 0 (itemsP L) from fun h => itemsP_spec h)
  have Hlen2 := Lib.hid (show splitC L (itemsP L) g height depth = 0 → L.length ≤ 2000 from fun h => by
    unfold splitC at h
    split at h
    · rename_i hc; exact (checkC_zero (colP_check hc)).1
    · rename_i hc; exact absurd h hc)
  have d0 := heap_alloc_new w (.cells g.arr 23)
  have hb0 : Below w.heap.size w (w.alloc (.cells g.arr 23)) := (Below.refl _ _).alloc (Nat.le_refl _) _
  have HL := Lib.hid (lent_any p0 b off cap L (w.alloc (.cells g.arr 23)) (hN.below hb0))
  clear hN
  go_enter Try.func11, Try.ntmps11
  go_upto_region 1 with (fail)
  generalize hwx : w.alloc (.cells g.arr 23) = w1 at d0 hb0 HL ⊢
  have hsz1 : w1.heap.size = w.heap.size + 1 := by rw [← hwx]; simp
  clear hwx
  go_wp2_with fail
  refine HL.out.mono ?_
  clear HL
  rintro e w2 ⟨⟨x, c, rfl, hcx, hown⟩, hb2⟩
  have hX := lentIn_of hown hlen
  have d2 := (hb2.block w.heap.size (by omega)).trans d0
  have hb02 := hb0.trans (hb2.mono hb0.size)
  have HX := Lib.hid hX
  have HP := Lib.hid (vsplit _ x 0 c L (itemsP L) g height depth Hs.out w2 hX.nin)
  have hz2 : w.heap.size < w2.heap.size := by have := hb2.size; omega
  clear hX hown hb0 hb2 d0
  have e2 : agg? w2 w.heap.size 0 5 = some g.arr := by unfold agg?; rw [d2]; simp [Gl.size_arr]
  go_wp2_with fail
  refine HP.out.mono ?_
  clear HP
  rintro e w3 ⟨⟨v, u, rfl, hv1, hv2⟩, hb3⟩
  have Hv1 := Lib.hid hv1
  have Hv2 := Lib.hid hv2
  have HX3 := Lib.hid (HX.out.below hb3)
  have hb03 := hb02.trans (hb3.mono hb02.size)
  have hz3 := Nat.lt_of_lt_of_le hz2 hb3.size
  have d3 := (hb3.block w.heap.size hz2).trans d2
  have hz23 := hb3.size
  have e3 : agg? w3 w.heap.size 0 5 = some g.arr := by unfold agg?; rw [d3]; simp [Gl.size_arr]
  have HQ := Lib.hid (qsplit p0 b off cap L (itemsP L) g height depth Hs.out w3 (HN.out.below hb03))
  clear hv1 hv2 hb3 d2 e2
  go_wp2_with fail
  refine HQ.out.mono ?_
  clear HQ
  rintro e w5 ⟨⟨v', u', rfl, hu1, hu2⟩, hb5⟩
  obtain ⟨R, S, hR0, hS0, hR1, hS1, hne, hR2, hS2⟩ := split_rows Hlen2.out Hv1.out Hv2.out hu1 hu2
  have HX5 := Lib.hid (HX3.out.below hb5)
  have hb05 := hb03.trans (hb5.mono hb03.size)
  have HR1 := Lib.hid (ownsRow_below hR1 hb5)
  have HS1 := Lib.hid (ownsRow_below hS1 hb5)
  have HR2 := Lib.hid hR2
  have HS2 := Lib.hid hS2
  have Hne := Lib.hid hne
  obtain ⟨pv, cv, rfl⟩ := owns_form hR1
  obtain ⟨pu, cu, rfl⟩ := owns_form hS1
  obtain ⟨pv', cv', rfl⟩ := owns_form hR2
  obtain ⟨pu', cu', rfl⟩ := owns_form hS2
  have hxw2 : x < w2.heap.size := HX.out.lt
  have hxge : w.heap.size ≤ x := by have := HX.out.ge; omega
  have hz35 := hb5.size
  have HSt := Lib.hid (HX5.out.stays (HN.out.below hb05))
  clear HX HX3 hb5 hb02 hb03 Hv1 Hv2 hu1 hu2 hR1 hS1 hR2 hS2 hne hcx d3 e3 Hlen2
  generalize splitC L (itemsP L) g height depth = k1
  go_wp2_with (first | (go_at_call 14; refine (num11_any _ _).mono ?_; rintro e w' ⟨rfl, rfl⟩) | (go_at_call 33; refine HSt.out.mono ?_; rintro e w7 ⟨rfl, hb7⟩) | (go_at_call 15; refine (knows_any _).mono ?_; rintro e w8 ⟨rfl, hb8⟩))
  have hb58 := hb7.trans (hb8.mono hb7.size)
  have hz58 := hb58.size
  have HX8 := Lib.hid (HX5.out.below hb58)
  have HR1' := Lib.hid (ownsRow_below HR1.out hb58)
  have HS1' := Lib.hid (ownsRow_below HS1.out hb58)
  have HR2' := Lib.hid (ownsRow_below HR2.out hb58)
  have HS2' := Lib.hid (ownsRow_below HS2.out hb58)
  have hb08 := hb05.trans (hb58.mono hb05.size)
  have HSp := Lib.hid HX8.out.spoil
  clear hb7 hb8 hb58 hb05 HR1 HR2 HS1 HS2 HX5 HSt
  refine HSp.out.mono ?_
  clear HSp
  rintro e w9 ⟨rfl, ht⟩
  have q1 := ht.owns HR1'.out hxw2
  have q2 := ht.owns HS1'.out hxw2
  have q3 := ht.owns HR2'.out (by omega)
  have q4 := ht.owns HS2'.out (by omega)
  have hb09 := hb08.trans (ht.below hxge)
  have hz9 := ht.size
  obtain ⟨_, p1, g1, c1, e1, n1, _⟩ := row_nodes q1 (by omega)
  obtain ⟨_, p2, g2, c2, e2, n2, _⟩ := row_nodes q2 (by omega)
  obtain ⟨_, p3, g3, c3, e3, n3, _⟩ := row_nodes q3 (by omega)
  obtain ⟨_, p4, g4, c4, e4, n4, _⟩ := row_nodes q4 (by omega)
  cases e1
  cases e2
  cases e3
  cases e4
  have HSm : Hid (Calls Try.prog 35 #[.slice pv R.length cv, .slice pv' R.length cv'] w9 fun e w' => e = .returned (.bool true) ∧ ∃ n, w' = w9.drewN n) := Lib.hid ((same_any _ _ g1 0 _ g3 0 _ R R w9 n1 n3).mono fun e w' h => ⟨by rw [h.1]; simp, h.2⟩)
  have HSn : Hid (∀ n, Calls Try.prog 35 #[.slice pu S.length cu, .slice pu' S.length cu'] (w9.drewN n) fun e w' => e = .returned (.bool true) ∧ ∃ m, w' = (w9.drewN n).drewN m) := Lib.hid (fun n => (same_any _ _ g2 0 _ g4 0 _ S S (w9.drewN n) (n2.drewN n) (n4.drewN n)).mono fun e w' h => ⟨by rw [h.1]; simp, h.2⟩)
  have HQ1 := Lib.hid q1
  have HQ2 := Lib.hid q2
  clear q1 q2 q3 q4 n1 n2 n3 n4 HR1' HS1' HR2' HS2' HX8 ht hb08
  go_wp2_with (first | (go_at_call_has 35 pv'; refine HSm.out.mono ?_; rintro e w10 ⟨rfl, nq, rfl⟩) | (go_at_call_has 35 pu'; refine (HSn.out _).mono ?_; rintro e w11 ⟨rfl, nr, rfl⟩))
  refine (apart_two (W := (w9.drewN (nq + nr)).alloc (.cells #[.slice pv R.length cv, .slice pu S.length cu] 26)) (B := w2.heap.size) (Y := w8.heap.size) (v := .slice pv R.length cv) (u := .slice pu S.length cu) (R := R) (S := S) ((ownsRow_below HQ1.out (below_drewN_refl _ _ _)).alloc _) ((ownsRow_below HQ2.out (below_drewN_refl _ _ _)).alloc _) Hne.out ⟨by omega, by omega⟩ ⟨_, by rw [← hz9]; exact heap_alloc_new (w9.drewN (nq + nr)) _⟩ (fun e => by have := (HQ1.out.lt _ e).2; omega) (fun e => by have := (HQ2.out.lt _ e).2; omega) (by simp; omega)).mono ?_
  rintro e w12 ⟨rfl, hb12⟩
  have hbF : Below w.heap.size w w12 := ((below_drewN hb09 (nq + nr)).alloc (by simp; omega) _).trans (hb12.mono (by omega))
  clear HSm HSn hb12 hb09 HQ1 HQ2
  go_wp2_with fail
  go_ret
  exact ⟨rfl, hbF⟩
end Go.Proofs.Ytkkdopfdoommnaa
