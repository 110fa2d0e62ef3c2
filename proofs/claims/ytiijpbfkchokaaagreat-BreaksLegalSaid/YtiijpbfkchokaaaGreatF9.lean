/-
  The law BreaksLegal, walked: both sides' Legal and Width answer alike.
-/
import Derived.Test.YtiijpbfkchokaaaGreatF8
import Derived.Test.YtiijpbfkchokaaaGreatK11
import Derived.Test.YtiijpbfkchokaaaGreatTame4
import Derived.Test.YtiijpbfkchokaaaGreatG4
namespace Go.Proofs.YtiijpbfkchokaaaGreat
open Go.ChangeShapes Go.WideShapes Go.ChangeAt Go.RowKit
attribute [local go_sem ↓] Go.wp_at_zero Go.wp_at_succ
/-- ApartInts of two lists -/
theorem apartInts_two9 {W : World} {B Y n : Nat} {v u : Value} {a b : List Int} (hv : W.ownsRow B 3 1 v n (ints a)) (hu : W.ownsRow B 3 1 u n (ints b)) (hne : ∀ g, v.ownBlock = some g → u.ownBlock ≠ some g) (hl : n ≤ 100000) (hY : ∃ t, W.heap[Y]? = some (.cells #[v, u] t (0, 0))) (h1 : v.ownBlock ≠ some Y) (h2 : u.ownBlock ≠ some Y) (hB : B ≤ W.heap.size) :
    Calls Tryz.prog 23 #[.slice (some ⟨Y, 0, none⟩) 2 2] W fun e w' => e = .returned (.bool true) ∧ Below B W w' := by
  obtain ⟨t, hY⟩ := hY
  refine apartInts_any B W.heap.size Y 2 (fun j => if j = 0 then v else u) (fun _ => n) (fun j => if j = 0 then a else b) W
    ⟨⟨fun j _ g hg => ?_, fun i j hi hj h g hg => ?_⟩, hB, (Array.getElem?_eq_some_iff.1 hY).1, fun j _ => ?_, ⟨_, t, hY, fun j hj => ?_⟩, by decide, fun _ _ => hl⟩ ⟨fun j hj => ?_, Below.refl _ _, fun _ _ _ => rfl, Nat.le_refl _⟩
  · by_cases e : j = 0
    · simp only [e, if_true] at hg; exact (hv.lt g hg).2
    · simp only [e, if_false] at hg; exact (hu.lt g hg).2
  · by_cases e : i = 0
    · by_cases f : j = 0
      · omega
      · simp only [e, if_true] at hg
        simp only [f, if_false]
        exact hne g hg
    · by_cases f : j = 0
      · simp only [e, if_false] at hg
        simp only [f, if_true]
        exact fun h => hne g h hg
      · omega
  · by_cases e : j = 0
    · simp only [e, if_true]; exact h1
    · simp only [e, if_false]; exact h2
  · match j, hj with
    | 0, _ => rfl
    | 1, _ => rfl
  · by_cases e : j = 0
    · simp only [e, if_true]; exact hv
    · simp only [e, if_false]; exact hu
set_option maxRecDepth 100000 in
set_option maxHeartbeats 8000000 in
theorem legal9_walk (P : Pm) (g off2 : Nat) (S : List Sh2) (L : List Nd) (b off cap : Nat) (p0 : Option Addr) (line : Int) (hl : line ≤ 9223372036854775807) (w : World) (hS : ShIn w P g off2 S) (hN : NIn w p0 b off cap L) :
    Calls Tryz.prog 5 #[.slice p0 L.length cap, .agg P.arr, .int .i64 line] w fun e w' => e = .returned (.bool true) ∧ Below w.heap.size w w' := by
  obtain ⟨s, hs⟩ : ∃ s : List Nat, checkC L = 0 → Items L 0 s := ⟨itemsP L, fun h => itemsP_spec h⟩
  obtain ⟨X0, hX0⟩ : ∃ X0, w.heap.size = X0 := ⟨_, rfl⟩
  have hlen := hN.len
  have hb0 : Below w.heap.size w (w.alloc (.cells P.arr 27)) := (Below.refl _ _).alloc (Nat.le_refl _) _
  have d0 : PAt (w.alloc (.cells P.arr 27)) X0 P := by rw [← hX0]; exact heap_alloc_new w _
  go_enter Tryz.func5, Tryz.ntmps5
  go_upto_region 1 with (fail)
  generalize w.alloc (.cells P.arr 27) = w1 at hb0 d0 ⊢
  have hS1 := hS.below hb0
  have hN1 := hN.below hb0
  have HA : Hid (∀ W, Below w1.heap.size w1 W → agg? W X0 0 24 = some P.arr) := Lib.hid fun W hb => by
    have h1 : PAt W X0 P := (hb.block X0 (Array.getElem?_eq_some_iff.1 d0).1).trans d0
    rw [agg?_blk' h1 0 24 (by rw [Pm.size_arr]; decide)]; simp [Pm.arr, Pm.cells]
  have Hb0 := Lib.hid hb0
  have HL := Lib.hid (lent_any p0 b off cap L w1 hN1)
  have HSN := Lib.hid (And.intro hS1 hN1)
  have HX0 := Lib.hid hX0
  have Hs := Lib.hid hs
  clear hs hS hN hS1 hN1 hb0 d0 hX0
  go_upto_region 2 with (go_at_call 7; refine HL.out.mono ?_; clear HL; rintro e w2 ⟨⟨x, c, rfl, hcx, hown⟩, hb2⟩)
  have HX := Lib.hid (lentIn_of hown hlen)
  have HP := Lib.hid (vLegal P g off2 S L x 0 c _ s Hs.out w2 (HSN.out.1.below hb2) HX.out.nin)
  have a2 := HA.out w2 hb2
  have Hb2 := Lib.hid hb2
  clear hown hcx hb2
  obtain ⟨E, hE⟩ : ∃ E, opE P S L s = E := ⟨_, rfl⟩
  obtain ⟨BL, hBL⟩ : ∃ BL, (if E = 0 then brkP L P s else []) = BL := ⟨_, rfl⟩
  have hBn : BL.length ≤ 3000 := by
    rw [← hBL]
    split
    · rename_i h0
      have := brkP_len (L := L) (P := P) (s := s)
      have hc : checkC L = 0 := by
        rw [← hE] at h0
        unfold opE at h0
        split at h0
        · unfold paC at h0
          split at h0
          · rename_i h1; exact h1
          · rename_i h1; exact absurd h0 h1
        · rename_i h1; exact absurd h0 h1
      have h2 := (Hs.out hc).len
      have h3 := (checkC_zero hc).1
      omega
    · simp
  have hla : (atsI BL).length = BL.length := by simp [atsI]
  have hlq : (pensI BL).length = BL.length := by simp [pensI]
  have HE := Lib.hid (And.intro hE hBL)
  clear hE hBL
  go_upto_region 3 with (go_at_call 16; refine HP.out.mono ?_; clear HP; rintro e w3 hp; rw [HE.out.1] at hp; obtain ⟨v, u, rfl, hv, hu, hne⟩ := hp.good; have hb3 := hp.below; clear hp)
  rw [HE.out.2] at hv hu
  have hb13 := Hb2.out.trans (hb3.mono Hb2.out.size)
  have a3 := HA.out w3 hb13
  have HV3 := Lib.hid (And.intro hv (And.intro hu hne))
  have HX3 := Lib.hid (HX.out.below hb3)
  have hz23 := hb3.size
  have HWd := Lib.hid (vWidth P g off2 S line hl w3 (HSN.out.1.below hb13))
  have Hb3 := Lib.hid hb13
  clear hv hu hne hb3 hb13 a2 HX
  obtain ⟨A, B, C, hW⟩ : ∃ A B C, WidR P S line = .returned (.tuple #[.int .i64 A, .int .i64 B, .int .i64 C]) := ⟨_, _, _, rfl⟩
  rw [hW] at HWd
  have HW := Lib.hid hW
  clear hW
  go_upto_region 4 with (go_at_call 17; refine HWd.out.mono ?_; clear HWd; rintro e w4 ⟨rfl, hb4⟩)
  have hb14 := Hb3.out.trans (hb4.mono Hb3.out.size)
  have a4 := HA.out w4 hb14
  have HQ := Lib.hid (q9legal P g off2 S p0 b off cap L s Hs.out w4 (HSN.out.1.below hb14) (HSN.out.2.below hb14))
  rw [HE.out.1] at HQ
  have Hb4 := Lib.hid (And.intro hb4 hb14)
  clear hb4 hb14 a3
  go_upto_region 5 with (go_at_call 18; refine HQ.out.mono ?_; clear HQ; rintro e w5 hp; obtain ⟨v2, u2, rfl, hv2, hu2, -⟩ := hp.good; have hb5 := hp.below; clear hp)
  rw [HE.out.2] at hv2 hu2
  have hb15 := Hb4.out.2.trans (hb5.mono Hb4.out.2.size)
  have a5 := HA.out w5 hb15
  have HQW := Lib.hid (q9width P g off2 S line hl w5 (HSN.out.1.below hb15))
  rw [HW.out] at HQW
  have HV5 := Lib.hid (And.intro hv2 hu2)
  have Hb5 := Lib.hid (And.intro hb5 hb15)
  clear hv2 hu2 hb5 hb15 a4
  go_upto_region 6 with (go_at_call 19; refine HQW.out.mono ?_; clear HQW; rintro e w6 ⟨rfl, hb6⟩)
  have hb36 : Below w3.heap.size w3 w6 := (Hb4.out.1.trans (Hb5.out.1.mono Hb4.out.1.size)).trans (hb6.mono (Nat.le_trans Hb4.out.1.size Hb5.out.1.size))
  have hb16 : Below w1.heap.size w1 w6 := Hb3.out.trans (hb36.mono Hb3.out.size)
  have hv6 := ownsRow_below HV3.out.1 hb36
  have hu6 := ownsRow_below HV3.out.2.1 hb36
  have hv26 := ownsRow_below HV5.out.1 hb6
  have hu26 := ownsRow_below HV5.out.2 hb6
  obtain ⟨pv, gv, cv, ev, lv, zv⟩ := zin_of hv6
  obtain ⟨pu, gu, cu, eu, lu, zu⟩ := zin_of hu6
  obtain ⟨pv2, gv2, cv2, ev2, lv2, zv2⟩ := zin_of hv26
  obtain ⟨pu2, gu2, cu2, eu2, lu2, zu2⟩ := zin_of hu26
  rw [hla] at ev ev2
  rw [hlq] at eu eu2
  subst ev eu ev2 eu2
  clear lv lu lv2 lu2 a5
  have HX6 := Lib.hid (HX3.out.below hb36)
  have HV6 := Lib.hid (And.intro hv6 hu6)
  have HNe := Lib.hid HV3.out.2.2
  have HSa : Hid (∀ W, Below w6.heap.size w6 W → Calls Tryz.prog 22 #[.slice pv BL.length cv, .slice pv2 BL.length cv2] W fun e w' => e = .returned (.bool true) ∧ ∃ n, w' = W.drewN n) := Lib.hid fun W hb => by have := sameInts_eq pv pv2 gv cv gv2 cv2 (atsI BL) W (zv.below hb) (zv2.below hb) (by omega); rwa [hla] at this
  have HSp : Hid (∀ W, Below w6.heap.size w6 W → Calls Tryz.prog 22 #[.slice pu BL.length cu, .slice pu2 BL.length cu2] W fun e w' => e = .returned (.bool true) ∧ ∃ n, w' = W.drewN n) := Lib.hid fun W hb => by have := sameInts_eq pu pu2 gu cu gu2 cu2 (pensI BL) W (zu.below hb) (zu2.below hb) (by omega); rwa [hlq] at this
  have HSt : Hid (∀ W, Below w6.heap.size w6 W → Calls Tryz.prog 12 #[.slice (some ⟨x, 0, none⟩) L.length c, .slice p0 L.length cap] W fun e w' => e = .returned (.bool true) ∧ Below W.heap.size W w') := Lib.hid fun W hb => (HX6.out.below hb).stays (HSN.out.2.below (hb16.trans (hb.mono hb16.size)))
  have HCk : Hid (∀ W, Below w6.heap.size w6 W → Calls Tryz.prog 20 #[.agg P.arr] W fun e w' => e = .returned (.int .i64 (pmC P S)) ∧ Below W.heap.size W w') := Lib.hid fun W hb => vcheckP P g off2 S W (HSN.out.1.below (hb16.trans (hb.mono hb16.size)))
  have HQk : Hid (∀ W, Below w6.heap.size w6 W → Calls Tryz.prog 21 #[.agg P.arr] W fun e w' => e = .returned (.int .i64 (pmC P S)) ∧ Below W.heap.size W w') := Lib.hid fun W hb => q9check P g off2 S W (HSN.out.1.below (hb16.trans (hb.mono hb16.size)))
  replace HA : Hid (∀ W, Below w6.heap.size w6 W → agg? W X0 0 24 = some P.arr) := Lib.hid fun W hb => HA.out W (hb16.trans (hb.mono hb16.size))
  obtain ⟨D, hD⟩ : ∃ D, pmC P S = D := ⟨_, rfl⟩
  rw [hD] at HCk HQk
  have e1 : (D == D) = true := by simp
  have e2 : (E == E) = true := by simp
  have e3 : (A == A) = true := by simp
  have e4 : (B == B) = true := by simp
  have e5 : (C == C) = true := by simp
  have hbase : Below w.heap.size w w6 := Hb0.out.trans (hb16.mono Hb0.out.size)
  have hz13 := Hb3.out.size
  have hz36 := hb36.size
  have Hbase := Lib.hid hbase
  clear hD zv zu zv2 zu2 hv6 hu6 hv26 hu26 hla hlq hb36 hb16 hb6 hbase HX3 HX6 HV3 HV5 Hb4 Hb5 Hb3 HE HW Hs HSN
  refine Rest.region follows ?_
  refine Rest.tame 46 (fun W => Below w6.heap.size w6 W) (by kernel_rfl) (Below.refl _ _).drew ?_
  simp only [Nat.reduceSub, List.drop_zero, List.take_succ_cons, List.take_zero]
  iterate 46 first
    | (refine TW.cons_n rfl _ (by intro wT hT R hR K hK; simp only [Act.put, List.setIfInBounds_toArray, List.set_cons_zero, List.set_cons_succ] at hK; have aP := HA.out _ hT; go_step; first | (go_at_call 20; refine (HCk.out _ hT).mono ?_; rintro e w9 ⟨rfl, hb9⟩; exact hK _ _ (hR _ (hT.trans (hb9.mono hT.size)))) | (go_at_call 21; refine (HQk.out _ hT).mono ?_; rintro e w9 ⟨rfl, hb9⟩; exact hK _ _ (hR _ (hT.trans (hb9.mono hT.size)))) | (go_at_call 11; refine (num9_any _ _).mono ?_; rintro e w9 ⟨rfl, rfl⟩; exact hK _ _ (hR _ hT)) | (go_at_call_has 22 pv; refine (HSa.out _ hT).mono ?_; rintro e w9 ⟨rfl, n9, rfl⟩; exact hK _ _ (hR _ (below_drewN hT _))) | (go_at_call_has 22 pu; refine (HSp.out _ hT).mono ?_; rintro e w9 ⟨rfl, n9, rfl⟩; exact hK _ _ (hR _ (below_drewN hT _))) | (go_at_call 12; refine (HSt.out _ hT).mono ?_; rintro e w9 ⟨rfl, hb9⟩; exact hK _ _ (hR _ (hT.trans (hb9.mono hT.size)))) | exact hK _ _ (hR _ hT)) ?_; try simp only [Act.put, List.setIfInBounds_toArray, List.set_cons_zero, List.set_cons_succ])
    | (refine TW.cons_g _ _ _ rfl rfl rfl _ (by intro wT hT R hR K hK; simp only [Act.put, List.setIfInBounds_toArray, List.set_cons_zero, List.set_cons_succ] at hK; have aP := HA.out _ hT; go_step; first | (go_at_call 20; refine (HCk.out _ hT).mono ?_; rintro e w9 ⟨rfl, hb9⟩; exact hK _ _ (hR _ (hT.trans (hb9.mono hT.size)))) | (go_at_call 21; refine (HQk.out _ hT).mono ?_; rintro e w9 ⟨rfl, hb9⟩; exact hK _ _ (hR _ (hT.trans (hb9.mono hT.size)))) | (go_at_call 11; refine (num9_any _ _).mono ?_; rintro e w9 ⟨rfl, rfl⟩; exact hK _ _ (hR _ hT)) | (go_at_call_has 22 pv; refine (HSa.out _ hT).mono ?_; rintro e w9 ⟨rfl, n9, rfl⟩; exact hK _ _ (hR _ (below_drewN hT _))) | (go_at_call_has 22 pu; refine (HSp.out _ hT).mono ?_; rintro e w9 ⟨rfl, n9, rfl⟩; exact hK _ _ (hR _ (below_drewN hT _))) | (go_at_call 12; refine (HSt.out _ hT).mono ?_; rintro e w9 ⟨rfl, hb9⟩; exact hK _ _ (hR _ (hT.trans (hb9.mono hT.size)))) | exact hK _ _ (hR _ hT)) ?_; try simp only [Act.put, List.setIfInBounds_toArray, List.set_cons_zero, List.set_cons_succ])
  refine TW.nil fun w7 h7 => ?_
  have HV7 := Lib.hid (And.intro (ownsRow_below HV6.out.1 h7) (ownsRow_below HV6.out.2 h7))
  have Hb7 := Lib.hid (Hbase.out.trans (h7.mono Hbase.out.size))
  have hz67 := h7.size
  clear h7 HA HSa HSp HSt HCk HQk HV6
  refine Rest.step rfl (by kernel_rfl) rfl ?_
  go_step
  refine Rest.step rfl (by kernel_rfl) rfl ?_
  go_step
  refine (apartInts_two9 (W := w7.alloc (.cells #[.slice pv BL.length cv, .slice pu BL.length cu] 41)) (B := w2.heap.size) (Y := w7.heap.size) (HV7.out.1.alloc _) (HV7.out.2.alloc _) HNe.out (by omega) ⟨_, heap_alloc_new w7 _⟩ (fun e => by have := (HV7.out.1.lt _ e).2; omega) (fun e => by have := (HV7.out.2.lt _ e).2; omega) (by simp; omega)).mono ?_
  rintro e w8 ⟨rfl, hb8⟩
  have hb28 : Below w.heap.size w w8 := (Hb7.out.alloc (by have := Hb7.out.size; omega) _).trans (hb8.mono (by have := Hb7.out.size; have := Hb2.out.size; have := Hb0.out.size; omega))
  have Hb8 := Lib.hid hb28
  clear hb8 hb28 HV7
  refine Rest.tame 53 (fun W => Below w8.heap.size w8 W) (by kernel_rfl) (Below.refl _ _) ?_
  simp only [Nat.reduceSub, List.drop_succ_cons, List.drop_zero, List.take_succ_cons, List.take_zero]
  iterate 5 first
    | (refine TW.cons_n rfl _ (by intro wT hT R hR K hK; simp only [Act.put, List.setIfInBounds_toArray, List.set_cons_zero, List.set_cons_succ] at hK; skip; go_step; first | (go_at_call 13; refine (knows9_any _).mono ?_; rintro e w9 ⟨rfl, hb9⟩; exact hK _ _ (hR _ (hT.trans (hb9.mono hT.size)))) | exact hK _ _ (hR _ hT)) ?_; try simp only [Act.put, List.setIfInBounds_toArray, List.set_cons_zero, List.set_cons_succ])
    | (refine TW.cons_g _ _ _ rfl rfl rfl _ (by intro wT hT R hR K hK; simp only [Act.put, List.setIfInBounds_toArray, List.set_cons_zero, List.set_cons_succ] at hK; skip; go_step; first | (go_at_call 13; refine (knows9_any _).mono ?_; rintro e w9 ⟨rfl, hb9⟩; exact hK _ _ (hR _ (hT.trans (hb9.mono hT.size)))) | exact hK _ _ (hR _ hT)) ?_; try simp only [Act.put, List.setIfInBounds_toArray, List.set_cons_zero, List.set_cons_succ])
  refine TW.nil fun w9 h9 => ?_
  refine Rest.done ?_
  go_wp2_with fail
  go_ret
  exact ⟨rfl, Hb8.out.trans (h9.mono Hb8.out.size)⟩
end Go.Proofs.YtiijpbfkchokaaaGreat
