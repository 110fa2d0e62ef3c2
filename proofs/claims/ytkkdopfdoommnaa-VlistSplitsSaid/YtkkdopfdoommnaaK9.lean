/-
  The law VlistPrunes: the walk.
-/
import Derived.Test.YtkkdopfdoommnaaQ13
import Derived.Test.YtkkdopfdoommnaaV11
import Derived.Test.YtkkdopfdoommnaaK8
import Derived.Test.YtkkdopfdoommnaaK5
import Derived.Test.YtkkdopfdoommnaaV5
namespace Go.Proofs.Ytkkdopfdoommnaa
open Go.ChangeShapes Go.WideShapes Go.ChangeAt Go.RowKit Go.Shelf
theorem LentIn.spoil {w : World} {B g c : Nat} {L : List Nd} (h : LentIn w B g c L) :
    Calls Try.prog 34 #[.slice (some ⟨g, 0, none⟩) L.length c] w fun e w' => e = .returned (.tuple #[]) ∧ Turn1 g w w' := by
  obtain ⟨cur, h1, h2⟩ := h.blk
  have hc := h.cap
  have hl := h.nin.len
  exact spoil_any g 0 c _ L.length (fun _ => rfl) cur _ w (fun _ => ⟨h1, by omega⟩) (by omega)
/-- what both sides tell: the same nodes, in rows of their own -/
theorem told_rows {w2 w3 w4 w5 : World} {L : List Nd} {s : List Nat} {g : Gl} {v u : Value} (hv1 : prunC L s g = 0 → NRow w2 v (prunF L g s []) w3) (hv2 : prunC L s g ≠ 0 → v = .slice none 0 0) (hu1 : prunC L s g = 0 → NRow w4 u (prunF L g s []) w5) (hu2 : prunC L s g ≠ 0 → u = .slice none 0 0) :
    ∃ R : List Nd, R.length ≤ 2000 ∧ w3.ownsRow w2.heap.size 25 19 v R.length (R.flatMap Nd.cells) ∧ w5.ownsRow w4.heap.size 25 19 u R.length (R.flatMap Nd.cells) := by
  by_cases h : prunC L s g = 0
  · refine ⟨prunF L g s [], ?_, hv1 h, hu1 h⟩
    unfold prunC at h
    split at h
    · split at h
      · split at h
        · cases h
        · omega
      · cases h
    · rename_i h2; exact absurd h h2
  · refine ⟨[], Nat.zero_le _, ?_, ?_⟩
    · rw [hv2 h]; exact World.ownsRow_nil _ _ _ _
    · rw [hu2 h]; exact World.ownsRow_nil _ _ _ _
theorem Turn1.owns {b : Nat} {w w' : World} (h : Turn1 b w w') {B n size : Nat} {E : TypeId} {v : Value} {xs : List Value} (hr : w.ownsRow B E size v n xs) (hb : b < B) : w'.ownsRow B E size v n xs :=
  ownsRow_same hr fun g hg _ => h.other g (fun e => by have := (hr.lt g hg).1; omega)
theorem Turn1.below {b B : Nat} {w w' : World} (h : Turn1 b w w') (hb : B ≤ b) : Below B w w' := ⟨h.base.os, h.base.tape, h.base.output, h.base.size, fun k hk => h.other k (by omega)⟩
/-- Apart of one list -/
theorem apart_one {W : World} {B Y : Nat} {v : Value} {R : List Nd} (hr : W.ownsRow B 25 19 v R.length (R.flatMap Nd.cells)) (hl : R.length ≤ 100000) (hY : ∃ t, W.heap[Y]? = some (.cells #[v] t (0, 0))) (hne : v.ownBlock ≠ some Y) (hB : B ≤ W.heap.size) :
    Calls Try.prog 36 #[.slice (some ⟨Y, 0, none⟩) 1 1] W fun e w' => e = .returned (.bool true) ∧ Below B W w' := by
  obtain ⟨t, hY⟩ := hY
  refine apart_any B W.heap.size Y 1 (fun _ => v) (fun _ => R.length) (fun _ => R) W ⟨⟨fun j _ g hg => (hr.lt g hg).2, fun i j hi hj h => by omega⟩, hB, (Array.getElem?_eq_some_iff.1 hY).1, fun _ _ => hne, ⟨_, t, hY, fun j hj => ?_⟩, by decide, fun _ _ => hl⟩ ⟨fun _ _ => hr, Below.refl _ _, fun _ _ _ => rfl, Nat.le_refl _⟩
  obtain rfl : j = 0 := by omega
  rfl
set_option maxRecDepth 100000 in
set_option maxHeartbeats 8000000 in
theorem prunes_walk (p0 : Option Addr) (b off cap : Nat) (L : List Nd) (g : Gl) (w : World) (hN : NIn w p0 b off cap L) :
    Calls Try.prog 8 #[.slice p0 L.length cap, .agg g.arr] w fun e w' => e = .returned (.bool true) ∧ Below w.heap.size w w' := by
  have hlen := hN.len
  have HN := Lib.hid hN
  have Hs := Lib.hid (show checkC L = 0 → Items L 0 (itemsP L) from fun h => itemsP_spec h)
  have d0 := heap_alloc_new w (.cells g.arr 23)
  have hb0 : Below w.heap.size w (w.alloc (.cells g.arr 23)) := (Below.refl _ _).alloc (Nat.le_refl _) _
  have HL := Lib.hid (lent_any p0 b off cap L (w.alloc (.cells g.arr 23)) (hN.below hb0))
  clear hN
  go_enter Try.func8, Try.ntmps8
  go_upto_region 1 with (fail)
  generalize hwx : w.alloc (.cells g.arr 23) = w1 at d0 hb0 HL ⊢
  have hsz1 : w1.heap.size = w.heap.size + 1 := by rw [← hwx]; simp
  clear hwx
  go_wp2_with fail
  refine HL.out.mono ?_
  clear HL
  rintro e w2 ⟨⟨x, c, rfl, hcx, hown⟩, hb2⟩
  have hX := lentIn_of hown hlen
  have d2 := (hb2.block w.heap.size (by omega)).trans d0
  have hb02 := hb0.trans (hb2.mono hb0.size)
  have HX := Lib.hid hX
  have HP := Lib.hid (vprune _ x 0 c L (itemsP L) g Hs.out w2 hX.nin)
  have hz2 : w.heap.size < w2.heap.size := by have := hb2.size; omega
  clear hX hown hb0 hb2 d0
  have e2 : agg? w2 w.heap.size 0 5 = some g.arr := by unfold agg?; rw [d2]; simp [Gl.size_arr]
  go_wp2_with fail
  refine HP.out.mono ?_
  clear HP
  rintro e w3 ⟨⟨v, rfl, hv1, hv2⟩, hb3⟩
  have Hv1 := Lib.hid hv1
  have Hv2 := Lib.hid hv2
  have HX3 := Lib.hid (HX.out.below hb3)
  have hb03 := hb02.trans (hb3.mono hb02.size)
  have hz3 := Nat.lt_of_lt_of_le hz2 hb3.size
  have d3 := (hb3.block w.heap.size hz2).trans d2
  have HM := Lib.hid (vmarks _ x 0 c L (itemsP L) Hs.out w3 HX3.out.nin)
  have hz23 := hb3.size
  clear hv1 hv2 hb3 d2 e2
  go_wp2_with fail
  refine HM.out.mono ?_
  clear HM
  rintro e w4 ⟨rfl, hb4⟩
  have HX4 := Lib.hid (HX3.out.below hb4)
  have hb04 := hb03.trans (hb4.mono hb03.size)
  have d4 := (hb4.block w.heap.size hz3).trans d3
  have e4 : agg? w4 w.heap.size 0 5 = some g.arr := by unfold agg?; rw [d4]; simp [Gl.size_arr]
  have HQ := Lib.hid (qprune p0 b off cap L (itemsP L) g Hs.out w4 (HN.out.below hb04))
  have hmv : (marksR L (itemsP L)).vals (colP L (itemsP L)) = .tuple #[.string (marksR L (itemsP L)).first, .string (marksR L (itemsP L)).last, .bool (marksR L (itemsP L)).some, .int .i64 (colP L (itemsP L))] := rfl
  rw [hmv]
  go_wp2_with fail
  refine HQ.out.mono ?_
  clear HQ
  rintro e w5 ⟨⟨u, rfl, hu1, hu2⟩, hb5⟩
  have Hu1 := Lib.hid hu1
  have Hu2 := Lib.hid hu2
  have HX5 := Lib.hid (HX4.out.below hb5)
  have hb05 := hb04.trans (hb5.mono hb04.size)
  have HR := Lib.hid (qmarks p0 b off cap L (itemsP L) Hs.out w5 (HN.out.below hb05))
  clear hu1 hu2 d3 d4 e4
  go_wp2_with fail
  refine HR.out.mono ?_
  clear HR
  rintro e w6 ⟨rfl, hb6⟩
  have HX6 := Lib.hid (HX5.out.below hb6)
  have hb06 := hb05.trans (hb6.mono hb05.size)
  rw [hmv]
  have Hmv := Lib.hid hmv
  clear hmv
  obtain ⟨R, hR1, hR2, hR3⟩ := told_rows Hv1.out Hv2.out Hu1.out Hu2.out
  have HR2 := Lib.hid (ownsRow_below (ownsRow_below (ownsRow_below hR2 hb4) hb5) hb6)
  have HR3 := Lib.hid (ownsRow_below hR3 hb6)
  obtain ⟨pv, cv, rfl⟩ := owns_form hR2
  obtain ⟨pu, cu, rfl⟩ := owns_form hR3
  have hxw2 : x < w2.heap.size := HX.out.lt
  have hxge : w.heap.size ≤ x := by have := HX.out.ge; omega
  have hz24 : w2.heap.size ≤ w4.heap.size := Nat.le_trans hz23 hb4.size
  have hz46 : w4.heap.size ≤ w6.heap.size := Nat.le_trans hb5.size hb6.size
  have HS := Lib.hid (HX6.out.stays (HN.out.below hb06))
  have HX6' := Lib.hid HX6.out
  clear HX HX3 HX4 HX5 HX6 hb4 hb5 hb6 hb02 hb03 hb04 hb05 Hv1 Hv2 Hu1 Hu2 hR2 hR3 hcx
  generalize prunC L (itemsP L) g = k1
  generalize marksR L (itemsP L) = k2
  generalize colP L (itemsP L) = k3
  go_wp2_with (first | (go_at_call 14; refine (num11_any _ _).mono ?_; rintro e w' ⟨rfl, rfl⟩) | (go_at_call 33; refine HS.out.mono ?_; rintro e w7 ⟨rfl, hb7⟩) | (go_at_call 15; refine (knows_any _).mono ?_; rintro e w8 ⟨rfl, hb8⟩))
  have hb68 := hb7.trans (hb8.mono hb7.size)
  have hz68 := hb68.size
  have HX8 := Lib.hid (HX6'.out.below hb68)
  have HR2' := Lib.hid (ownsRow_below HR2.out hb68)
  have HR3' := Lib.hid (ownsRow_below HR3.out hb68)
  have hb08 := hb06.trans (hb68.mono hb06.size)
  have HSp := Lib.hid HX8.out.spoil
  clear hb7 hb8 hb68 hb06 HR2 HR3 HX6' HS Hmv
  refine HSp.out.mono ?_
  clear HSp
  rintro e w9 ⟨rfl, ht⟩
  have hq2 := ht.owns HR2'.out hxw2
  have hq3 := ht.owns HR3'.out (by omega)
  have hb09 := hb08.trans (ht.below hxge)
  have hz9 := ht.size
  obtain ⟨_, p2, g2, c2, e2, n2, _⟩ := row_nodes hq2 (by omega)
  obtain ⟨_, p3, g3, c3, e3, n3, _⟩ := row_nodes hq3 (by omega)
  cases e2
  cases e3
  have HSm : Hid (Calls Try.prog 35 #[.slice pv R.length cv, .slice pu R.length cu] w9 fun e w' => e = .returned (.bool true) ∧ ∃ n, w' = w9.drewN n) := Lib.hid ((same_any _ _ g2 0 _ g3 0 _ R R w9 n2 n3).mono fun e w' h => ⟨by rw [h.1]; simp, h.2⟩)
  have HQ2 := Lib.hid hq2
  clear hq2 hq3 n2 n3 HR2' HR3' HX8 ht hb08
  go_wp2_with (first | (go_at_call 35; refine HSm.out.mono ?_; rintro e w10 ⟨rfl, nq, rfl⟩))
  refine (apart_one (W := (w9.drewN nq).alloc (.cells #[.slice pv R.length cv] 26)) (B := w2.heap.size) (Y := w8.heap.size) (v := .slice pv R.length cv) (R := R) ((ownsRow_below HQ2.out (below_drewN_refl _ _ _)).alloc _) (by omega) ⟨_, by rw [← hz9]; exact heap_alloc_new (w9.drewN nq) _⟩ (fun e => by have := (HQ2.out.lt _ e).2; omega) (by simp; omega)).mono ?_
  rintro e w11 ⟨rfl, hb11⟩
  have hbF : Below w.heap.size w w11 := ((below_drewN hb09 nq).alloc (by simp; omega) _).trans (hb11.mono (by omega))
  clear HSm hb11 hb09 HQ2
  go_wp2_with fail
  go_ret
  exact ⟨rfl, hbF⟩
end Go.Proofs.Ytkkdopfdoommnaa
