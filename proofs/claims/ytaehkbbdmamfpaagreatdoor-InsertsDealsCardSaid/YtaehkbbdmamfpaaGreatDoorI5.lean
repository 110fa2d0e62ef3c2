/-
  Inserts: classes in memory; which may be; a class by its number: the program's.
-/
import Derived.Test.YtaehkbbdmamfpaaGreatDoorL4
import Derived.Test.YtaehkbbdmamfpaaGreatDoorI8
import Derived.Sort.AtCall
set_option maxRecDepth 100000
set_option maxHeartbeats 8000000
namespace Go.Proofs.YtaehkbbdmamfpaaGreatDoor
open Go.ChangeShapes Go.WideShapes Go.ChangeAt Go.RowKit
section
attribute [local go_sem ↓] Go.wp_at_zero Go.wp_at_succ
structure CIn (w : World) (p : Option Addr) (b off cap : Nat) (C : List Cl) : Prop where
 hp : C ≠ [] -> p = some ⟨b, off, none⟩
 hb : C ≠ [] -> b < w.heap.size
 cl : ∀ j, (h : j < C.length) -> agg? w b (off + j * 8) 8 = some C[j].arr
 cap' : C.length <= cap
 len : C.length * 64 <= 140737488351232
section
variable {w w' : World} {p : Option Addr} {b off cap : Nat} {C : List Cl}
theorem CIn.below (h : CIn w p b off cap C) (hb : Below w.heap.size w w') : CIn w' p b off cap C :=
 ⟨h.hp, fun e => Nat.lt_of_lt_of_le (h.hb e) hb.size, fun j hj => ((zbc hb).2.2.1 _ _ _ (h.hb (by intro e; rw [e] at hj; simp at hj))).trans (h.cl j hj), h.cap', h.len⟩
theorem CIn.at_ (h : CIn w p b off cap C) {j : Nat} (hj : j < C.length) : p = some ⟨b, off, none⟩ := h.hp (by intro e; rw [e] at hj; simp at hj)
end
theorem iclass (p0 : Option Addr) (b off cap : Nat) (C : List Cl) (k : Nat) (hk : k <= 1000000) (w : World) (hC : CIn w p0 b off cap C) :
 Calls Tryz.prog 71 #[.slice p0 C.length cap, .int .i64 k] w fun e w' => e = .returned (.agg (zcv C k).arr) /\ Below w.heap.size w w' := by
 have hk0 : (0 : Int) <= (k : Int) := by omega
 by_cases hlt : k < C.length
 ·
  have hv := zzh (show zcv C k = C[k] by unfold zcv; rw [Int.toNat_natCast, List.getElem?_eq_getElem hlt]; rfl)
  have ha : ∀ W, Below w.heap.size w W -> agg? W b (off + k * 8) 8 = some C[k].arr := fun W hb => (hC.below hb).cl k hlt
  have hlt1 : (k : Int) < (C.length : Int) := by omega
  have hlt2 : decide (k < C.length) = true := decide_eq_true hlt
  obtain rfl := hC.at_ hlt
  have a1 := ha _ ((Below.refl _ _).alloc (Nat.le_refl _) (.cells (Cl.mk 0 0 0 ⟨0, 0, 0, 0, 0⟩).arr 55))
  generalize C[k] = y at hv a1
  clear hC ha hlt
  go_enter Tryz.func71, Tryz.ntmps71
  go_wp2_with fail
  refine ret_cl rfl w.heap.size 0 y rfl (agg?_Cl _ _ _ _ _ rfl) rfl ⟨by rw [hv.out], (Below.refl _ _).alloc (Nat.le_refl _) _⟩
 ·
  have hv := zzh (show zcv C k = Cl.plain by unfold zcv; rw [Int.toNat_natCast, List.getElem?_eq_none (by omega)]; rfl)
  have hlt1 : ¬ ((k : Int) < (C.length : Int)) := by omega
  have hlt2 : decide (k < C.length) = false := decide_eq_false hlt
  clear hC hlt
  go_enter Tryz.func71, Tryz.ntmps71
  go_wp2_with fail
  refine ret_cl rfl w.heap.size 0 Cl.plain rfl (agg?_Cl _ _ _ _ _ rfl) rfl ⟨by rw [hv.out], (Below.refl _ _).alloc (Nat.le_refl _) _⟩
theorem icheckC (p0 : Option Addr) (b off cap : Nat) (C : List Cl) (w : World) (hC : CIn w p0 b off cap C) :
 Calls Tryz.prog 54 #[.slice p0 C.length cap] w fun e w' => e = .returned (.int .i64 (clsC C)) /\ Below w.heap.size w w' := by
 have H := zzh hC
 have hl := hC.len
 clear hC
 by_cases hn : 255 < C.length
 ·
  have hv := zzh (show clsC C = 1 by unfold clsC; rw [if_pos hn])
  have hn1 : (255 : Int) < (C.length : Int) := by omega
  clear hn
  go_enter Tryz.func54, Tryz.ntmps54
  go_wp2_with fail
  go_ret
  exact ⟨zan hv.out.symm, Below.refl _ _⟩
 have hn1 : ¬ ((255 : Int) < (C.length : Int)) := by omega
 have HV : Hid (clsC C = if C.all zaR then 0 else 1) := zzh (by unfold clsC; rw [if_neg hn])
 go_enter Tryz.func54, Tryz.ntmps54
 go_wp2_with fail
 go_loopg [10] (C.length + 1) (fun gg t10 wr => ∃ k : Nat, gg = C.length + 1 - k /\ k <= C.length /\ t10 = .int .i64 k /\ (∀ j (h : j < C.length), j < k -> zaR C[j] = true) /\ Below w.heap.size w wr)
 case atStart => exact ⟨0, rfl, Nat.zero_le _, rfl, fun j _ hj => by omega, Below.refl _ _⟩
 case round =>
  obtain ⟨k, rfl, hk, rfl, hok, hb⟩ := hrel
  have hk0 : (0 : Int) <= (k : Int) := by omega
  by_cases hlt : k < C.length
  ·
   have hlt1 : (k : Int) < (C.length : Int) := by omega
   have hlt2 : decide (k < C.length) = true := decide_eq_true hlt
   have ha := (H.out.below hb).cl k hlt
   obtain rfl := H.out.at_ hlt
   have hgood : zaR C[k] = true -> ∀ j (h : j < C.length), j < k + 1 -> zaR C[j] = true := fun h j hj hj2 => by
    by_cases e : j = k
    · subst e; exact h
    · exact hok j hj (by omega)
   have hbad : zaR C[k] = false -> clsC C = 1 := fun h => by
    rw [HV.out, if_neg]
    intro h2
    rw [List.all_eq_true.1 h2 _ (List.getElem_mem hlt)] at h
    cases h
   have Hg := zzh hgood
   have Hbd := zzh hbad
   generalize C[k] = y at ha Hg Hbd
   have Hb := zzh hb
   clear hgood hbad hok hb hlt HV
   go_upto_region 6 with (fail)
   have hbx := zzh ((Below.refl wr.heap.size wr).alloc (Nat.le_refl _) (.cells y.arr 55))
   have d0 := heap_alloc_new wr (.cells y.arr 55)
   have Hbl := zzh (Hb.out.trans (hbx.out.mono Hb.out.size))
   generalize wr.alloc (.cells y.arr 55) = w2 at d0 Hbl ⊢
   obtain ⟨Q, hQ⟩ : ∃ Q, wr.heap.size = Q := ⟨_, rfl⟩
   rw [hQ] at d0 ⊢
   clear hQ ha hbx Hb
   have hQl : Q < w2.heap.size := (Array.getElem?_eq_some_iff.1 d0).1
   have D0 : Hid (∀ W, Below w2.heap.size w2 W -> W.heap[Q]? = some (.cells y.arr 55 (0, 0))) := zzh fun W hb => (hb.block Q hQl).trans d0
   have x0 : w2.cell? ⟨Q, 0, none⟩ = some (.int .i64 y.scale) := by rw [cell?_blk' d0]; rfl
   have x1 : w2.cell? ⟨Q, 1, none⟩ = some (.int .i64 y.most) := by rw [cell?_blk' d0]; rfl
   have x2 : w2.cell? ⟨Q, 2, none⟩ = some (.int .i64 y.have_) := by rw [cell?_blk' d0]; rfl
   have x3 : agg? w2 Q 3 5 = some y.skip.arr := by rw [agg?_blk' d0 3 5 (by rw [Cl.size_arr]; decide)]; rfl
   have HG := zzh (zbr y.skip w2)
   clear d0
   go_cut [61] from 14 to 61 (fun s61 wx => s61 = .bool (!zaR y) /\ Below w2.heap.size w2 wx)
   case first =>
    clear Hg Hbd Hbl
    by_cases h1 : y.scale < 0
    ·
     have hv := zzh (show zaR y = false by simp [zaR]; omega)
     have hd : decide (y.scale < 0) = true := decide_eq_true h1
     clear h1
     go_wp2_with fail
     go_meet
     exact ⟨by rw [hv.out]; rfl, Below.refl _ _⟩
    have hd1 : decide (y.scale < 0) = false := decide_eq_false h1
    by_cases h2 : 100000 < y.scale
    ·
     have hv := zzh (show zaR y = false by simp [zaR]; omega)
     have hd : decide (100000 < y.scale) = true := decide_eq_true h2
     clear h1 h2
     go_wp2_with fail
     go_meet
     exact ⟨by rw [hv.out]; rfl, Below.refl _ _⟩
    have hd2 : decide (100000 < y.scale) = false := decide_eq_false h2
    by_cases h3 : y.most < 0
    ·
     have hv := zzh (show zaR y = false by simp [zaR]; omega)
     have hd : decide (y.most < 0) = true := decide_eq_true h3
     clear h1 h2 h3
     go_wp2_with fail
     go_meet
     exact ⟨by rw [hv.out]; rfl, Below.refl _ _⟩
    have hd3 : decide (y.most < 0) = false := decide_eq_false h3
    have HM := zzh fun W => idimen_any y.most W
    cases h4 : zac y.most
    ·
     have hv := zzh (show zaR y = false by simp [zaR]; simp [zac] at h4; omega)
     rw [h4] at HM
     clear h1 h2 h3 h4
     go_wp2_with (go_at_call 40; refine (HM.out _).mono ?_; rintro e w' ⟨rfl, rfl⟩)
     go_meet
     exact ⟨by rw [hv.out]; rfl, Below.refl _ _⟩
    rw [h4] at HM
    by_cases h5 : y.have_ < 0
    ·
     have hv := zzh (show zaR y = false by simp [zaR]; omega)
     have hd : decide (y.have_ < 0) = true := decide_eq_true h5
     clear h1 h2 h3 h4 h5
     go_wp2_with (go_at_call 40; refine (HM.out _).mono ?_; rintro e w' ⟨rfl, rfl⟩)
     go_meet
     exact ⟨by rw [hv.out]; rfl, Below.refl _ _⟩
    have hd5 : decide (y.have_ < 0) = false := decide_eq_false h5
    have HH := zzh fun W => idimen_any y.have_ W
    cases h6 : zac y.have_
    ·
     have hv := zzh (show zaR y = false by simp [zaR]; simp [zac] at h6; omega)
     rw [h6] at HH
     clear h1 h2 h3 h4 h5 h6
     go_wp2_with (first | (go_at_call_has 40 y.most; refine (HM.out _).mono ?_; rintro e w' ⟨rfl, rfl⟩) | (go_at_call_has 40 y.have_; refine (HH.out _).mono ?_; rintro e w' ⟨rfl, rfl⟩))
     go_meet
     exact ⟨by rw [hv.out]; rfl, Below.refl _ _⟩
    rw [h6] at HH
    cases h7 : y.skip.good
    ·
     have hv := zzh (show zaR y = false by simp [zaR, h7])
     rw [h7] at HG
     clear h1 h2 h3 h4 h5 h6 h7
     go_wp2_with (first | (go_at_call_has 40 y.most; refine (HM.out _).mono ?_; rintro e w' ⟨rfl, rfl⟩) | (go_at_call_has 40 y.have_; refine (HH.out _).mono ?_; rintro e w' ⟨rfl, rfl⟩) | (go_at_call 91; refine HG.out.mono ?_; rintro e w7 ⟨rfl, hb7⟩))
     go_meet
     exact ⟨by rw [hv.out]; rfl, hb7⟩
    rw [h7] at HG
    have hdm : 0 <= y.most /\ y.most <= 1073741823 := by simp [zac] at h4; omega
    have hdh : 0 <= y.have_ /\ y.have_ <= 1073741823 := by simp [zac] at h6; omega
    cases h8 : (y.skip.ho == 0)
    ·
     have h8' : (y.skip.ho != 0) = true := by rw [bne, h8]; rfl
     cases h9 : (y.skip.shr == 0)
     ·
      have h9' : (y.skip.shr != 0) = true := by rw [bne, h9]; rfl
      have hv := zzh (show zaR y = false by simp [zaR, h8, h9])
      clear h1 h2 h3 h4 h5 h6 h7 h8 h9 hdm hdh
      go_wp2_with (first | (go_at_call_has 40 y.most; refine (HM.out _).mono ?_; rintro e w' ⟨rfl, rfl⟩) | (go_at_call_has 40 y.have_; refine (HH.out _).mono ?_; rintro e w' ⟨rfl, rfl⟩) | (go_at_call 91; refine HG.out.mono ?_; rintro e w7 ⟨rfl, hb7⟩; have d7 := D0.out w7 hb7; have y7 : w7.cell? ⟨Q, 7, none⟩ = some (.int .i64 y.skip.ho) := (by rw [cell?_blk' d7]; rfl); have y5 : w7.cell? ⟨Q, 5, none⟩ = some (.int .i64 y.skip.shr) := (by rw [cell?_blk' d7]; rfl)))
      go_meet
      exact ⟨by rw [hv.out]; rfl, hb7⟩
     ·
      have h9' : (y.skip.shr != 0) = false := by rw [bne, h9]; rfl
      have hv := zzh (show zaR y = true by simp [zaR, h7, h9, hdm, hdh]; omega)
      clear h1 h2 h3 h4 h5 h6 h7 h8 h9 hdm hdh
      go_wp2_with (first | (go_at_call_has 40 y.most; refine (HM.out _).mono ?_; rintro e w' ⟨rfl, rfl⟩) | (go_at_call_has 40 y.have_; refine (HH.out _).mono ?_; rintro e w' ⟨rfl, rfl⟩) | (go_at_call 91; refine HG.out.mono ?_; rintro e w7 ⟨rfl, hb7⟩; have d7 := D0.out w7 hb7; have y7 : w7.cell? ⟨Q, 7, none⟩ = some (.int .i64 y.skip.ho) := (by rw [cell?_blk' d7]; rfl); have y5 : w7.cell? ⟨Q, 5, none⟩ = some (.int .i64 y.skip.shr) := (by rw [cell?_blk' d7]; rfl)))
      go_meet
      exact ⟨by rw [hv.out]; rfl, hb7⟩
    ·
     have h8' : (y.skip.ho != 0) = false := by rw [bne, h8]; rfl
     have hv := zzh (show zaR y = true by simp [zaR, h7, h8, hdm, hdh]; omega)
     clear h1 h2 h3 h4 h5 h6 h7 h8 hdm hdh
     go_wp2_with (first | (go_at_call_has 40 y.most; refine (HM.out _).mono ?_; rintro e w' ⟨rfl, rfl⟩) | (go_at_call_has 40 y.have_; refine (HH.out _).mono ?_; rintro e w' ⟨rfl, rfl⟩) | (go_at_call 91; refine HG.out.mono ?_; rintro e w7 ⟨rfl, hb7⟩; have d7 := D0.out w7 hb7; have y7 : w7.cell? ⟨Q, 7, none⟩ = some (.int .i64 y.skip.ho) := (by rw [cell?_blk' d7]; rfl)))
     go_meet
     exact ⟨by rw [hv.out]; rfl, hb7⟩
   case rest =>
    obtain ⟨rfl, hb9⟩ := hcut
    have HB := zzh (Hbl.out.trans (hb9.mono Hbl.out.size))
    clear hb9 x0 x1 x2 x3 HG Hbl
    cases hc : zaR y
    ·
     have hv := zzh (Hbd.out hc)
     clear Hg Hbd
     go_wp2_with fail
     go_ret
     exact ⟨zan hv.out.symm, HB.out⟩
    ·
     have hv := zzh (Hg.out hc)
     clear Hg Hbd
     go_wp2_with fail
     go_roundg (C.length + 1 - (k + 1))
     case measure => omega
     case rel => exact ⟨k + 1, rfl, by omega, by go_num, hv.out, HB.out⟩
  ·
   have hlt1 : ¬ ((k : Int) < (C.length : Int)) := by omega
   have hlt2 : decide (k < C.length) = false := decide_eq_false hlt
   have hv := zzh (show clsC C = 0 by
    rw [HV.out, if_pos]
    rw [List.all_eq_true]
    intro y hy
    obtain ⟨j, hj, rfl⟩ := List.getElem_of_mem hy
    exact hok j hj (by omega))
   clear hok hlt
   go_wp2_with fail
   go_ret
   exact ⟨zan hv.out.symm, hb⟩
end
section
attribute [local go_sem ↓] Go.wp_at_zero Go.wp_at_succ
theorem insE_skip {L : List Nd} {x : Nat} {r : List Nat} (h : (nth L x).kind ≠ 13) : insE L (x :: r) = insE L r := by rw [insE, if_neg h]
theorem insE_bad {L : List Nd} {x : Nat} {r : List Nat} (h : (nth L x).kind = 13) (h2 : colQ (insP L x) ≠ 0) : insE L (x :: r) = colQ (insP L x) := by rw [insE, if_pos h, if_neg h2]
theorem insE_good {L : List Nd} {x : Nat} {r : List Nat} (h : (nth L x).kind = 13) (h2 : colQ (insP L x) = 0) : insE L (x :: r) = insE L r := by rw [insE, if_pos h, if_pos h2]
theorem icheck (p0 : Option Addr) (b off cap : Nat) (L : List Nd) (pc : Option Addr) (bc oc cc : Nat) (C : List Cl) (w : World) (hN : NIn w p0 b off cap L) (hC : CIn w pc bc oc cc C) :
 Calls Tryz.prog 28 #[.slice p0 L.length cap, .slice pc C.length cc] w fun e w' => e = .returned (.int .i64 (accE L C)) /\ Below w.heap.size w w' := by
 have HC := zzh (icheckC pc bc oc cc C w hC)
 have H := zzh hN
 have HL : Hid (∀ W, Below w.heap.size w W -> Calls Tryz.prog 55 #[.slice p0 L.length cap] W (LegPost W L (itsP L))) := zzh fun W hb => vlegal p0 b off cap L _ zaO W (H.out.below hb)
 have hl := hN.len
 clear hN hC
 obtain ⟨E1, hE1⟩ : ∃ E1, clsC C = E1 := ⟨_, rfl⟩
 rw [hE1] at HC
 by_cases h1 : E1 = 0
 case neg =>
  have hv := zzh (show accE L C = E1 by unfold accE; rw [if_neg (by rw [hE1]; exact h1), hE1])
  have h1' : (E1 != 0) = true := by simpa using h1
  clear hE1 h1
  go_enter Tryz.func28, Tryz.ntmps28
  go_wp2_with (go_at_call 54; refine HC.out.mono ?_; rintro e w2 ⟨rfl, hb2⟩)
  go_ret
  exact ⟨zan hv.out.symm, hb2⟩
 subst h1
 have hA : accE L C = if colQ L = 0 then insE L (itsP L) else colQ L := by unfold accE; rw [if_pos hE1]
 have hcq : colP L (itsP L) = colQ L := rfl
 obtain ⟨E2, hE2⟩ : ∃ E2, colQ L = E2 := ⟨_, rfl⟩
 rw [hE2] at hA hcq
 by_cases h2 : E2 = 0
 case neg =>
  have hv := zzh (show accE L C = E2 by rw [hA, if_neg h2])
  have h2' : (E2 != 0) = true := by simpa using h2
  have Hcq := zzh hcq
  clear hA h2 hE1 hE2 hcq
  go_enter Tryz.func28, Tryz.ntmps28
  go_wp2_with (first | (go_at_call 54; refine HC.out.mono ?_; rintro e w2 ⟨rfl, hb2⟩) | (go_at_call 55; refine (HL.out _ hb2).mono ?_; rintro e w3 hp; obtain ⟨v, u, rfl, hv2, hu2, -⟩ := hp.ex; (have hb3 := hp.below); (obtain ⟨pv, kv, cv, rfl⟩ := owns_sl hv2); (obtain ⟨pu, ku, cu, rfl⟩ := owns_sl hu2); clear hp hv2 hu2; rw [Hcq.out]))
  go_ret
  exact ⟨zan hv.out.symm, hb2.trans (hb3.mono hb2.size)⟩
 subst h2
 have hck := zam hE2
 have hs := zaO hck
 have hll := (zaj hck).1
 rw [if_pos rfl] at hA
 have HA := zzh hA
 have Hck := zzh hck
 have Hs := zzh hs
 have Hcq := zzh hcq
 obtain ⟨s, hss⟩ : ∃ s, itsP L = s := ⟨_, rfl⟩
 rw [hss] at Hs HA
 clear hA hck hs hcq hE1 hE2 hss
 go_enter Tryz.func28, Tryz.ntmps28
 go_upto_region 7 with (first | (go_at_call 54; refine HC.out.mono ?_; clear HC; rintro e w2 ⟨rfl, hb2⟩) | (go_at_call 55; refine (HL.out _ hb2).mono ?_; clear HL; rintro e w3 hp; obtain ⟨v, u, rfl, hv2, hu2, -⟩ := hp.ex; (have hb3 := hp.below); (obtain ⟨pv, kv, cv, rfl⟩ := owns_sl hv2); (obtain ⟨pu, ku, cu, rfl⟩ := owns_sl hu2); clear hp hv2 hu2; rw [Hcq.out]))
 have HB := zzh (hb2.trans (hb3.mono hb2.size))
 clear hb2 hb3 Hcq
 go_wp2_with fail
 go_loopg [9] (s.length + 1) (fun gg t9 wr => ∃ (pos : Nat) (d r : List Nat), gg = r.length + 1 /\ t9 = .int .i64 pos /\ s = d ++ r /\ Items L pos r /\ insE L s = insE L r /\ Below w.heap.size w wr)
 case atStart => exact ⟨0, [], s, rfl, rfl, rfl, Hs.out, rfl, HB.out⟩
 case round =>
  clear HB
  obtain ⟨pos, d, r, rfl, rfl, hsd, hit, hie, hb⟩ := hrel
  have hp1 : (0 : Int) <= (pos : Int) := by omega
  cases hit with
  | done =>
   have hv := zzh (show accE L C = 0 by rw [HA.out, hie]; rfl)
   clear hsd hie
   go_wp2_with fail
   go_ret
   exact ⟨zan hv.out.symm, hb⟩
  | @step _ m r hi hm hit2 =>
   have hmem : pos ∈ s := by rw [hsd]; simp
   have hp2 : (pos : Int) < (L.length : Int) := by omega
   have hN := H.out.below hb
   have xa : wr.cell? ⟨b, off + pos * 19, none⟩ = some (.int .i64 (nth L pos).kind) := zau (hN.nth hi) 0 _ rfl
   obtain rfl := hN.at_ hi
   have Hsd := zzh hsd
   have HIt := zzh hit2
   have Hb := zzh hb
   have HItem : Hid (∀ W, Below w.heap.size w W -> Calls Tryz.prog 30 #[.slice (some ⟨b, off, none⟩) L.length cap, .int .i64 pos] W fun e w' => e = .returned (.tuple #[.int .i64 ((pos + m : Nat) : Int), .int .i64 0]) /\ Below W.heap.size W w') := zzh fun W hw => item9 _ b off cap L s Hck.out Hs.out pos m hmem hm W (H.out.below hw)
   by_cases hk : (nth L pos).kind = 13
   case neg =>
    have hk' : ((nth L pos).kind == 13) = false := by simpa using hk
    have Hie := zzh (hie.trans (insE_skip hk))
    generalize (nth L pos).kind = kk at xa hk'
    clear hsd hit2 hb hmem hm hN hie hk
    go_wp2_with (go_at_call 30; refine (HItem.out _ Hb.out).mono ?_; rintro e w4 ⟨rfl, hb4⟩)
    go_roundg (r.length + 1)
    case measure => simp only [List.length_cons]; omega
    case rel => exact ⟨pos + m, d ++ [pos], r, rfl, by go_num, by rw [Hsd.out]; simp, HIt.out, Hie.out, Hb.out.trans (hb4.mono Hb.out.size)⟩
   have HIn := zzh (inside9 (some ⟨b, off, none⟩) b off cap L s Hck.out Hs.out pos hmem hk wr hN)
   have hXl := insP_le (L := L) pos
   have HieG := zzh (fun h => hie.trans (insE_good (r := r) hk h))
   have HieB := zzh (fun h => hie.trans (insE_bad (r := r) hk h))
   rw [hk] at xa
   obtain ⟨X, hX⟩ : ∃ X, insP L pos = X := ⟨_, rfl⟩
   rw [hX] at HIn HieG HieB hXl
   clear hsd hit2 hb hmem hm hN hie hk hX
   have hcX : colP X (itsP X) = colQ X := rfl
   obtain ⟨E3, hE3⟩ : ∃ E3, colQ X = E3 := ⟨_, rfl⟩
   rw [hE3] at hcX HieG HieB
   have HcX := zzh hcX
   clear hcX hE3
   go_upto_region 11 with (go_at_call 56; refine HIn.out.mono ?_; clear HIn; rintro e w4 ⟨⟨v, rfl, hv4⟩, hb4⟩; obtain ⟨_, p4, g4, c4, rfl, hN4, _⟩ := zbS hv4 (by omega))
   have HLX := zzh (vlegal p4 g4 0 c4 X _ zaO w4 hN4)
   have Hb4 := zzh (Hb.out.trans (hb4.mono Hb.out.size))
   clear hv4 hN4 hb4 Hb
   by_cases h3 : E3 = 0
   ·
    subst h3
    go_wp2_with (first | (go_at_call 55; refine HLX.out.mono ?_; clear HLX; rintro e w5 hp; obtain ⟨v, u, rfl, hv2, hu2, -⟩ := hp.ex; (have hb5 := Hb4.out.trans (hp.below.mono Hb4.out.size)); (obtain ⟨pv, kv, cv, rfl⟩ := owns_sl hv2); (obtain ⟨pu, ku, cu, rfl⟩ := owns_sl hu2); clear hp hv2 hu2; rw [HcX.out]) | (go_at_call 30; refine (HItem.out _ hb5).mono ?_; rintro e w6 ⟨rfl, hb6⟩))
    go_roundg (r.length + 1)
    case measure => simp only [List.length_cons]; omega
    case rel => exact ⟨pos + m, d ++ [pos], r, rfl, by go_num, by rw [Hsd.out]; simp, HIt.out, HieG.out trivial, hb5.trans (hb6.mono hb5.size)⟩
   ·
    have h3' : (E3 != 0) = true := by simpa using h3
    have hv := zzh (show accE L C = E3 by rw [HA.out]; exact HieB.out h3)
    clear h3
    go_wp2_with (go_at_call 55; refine HLX.out.mono ?_; clear HLX; rintro e w5 hp; obtain ⟨v, u, rfl, hv2, hu2, -⟩ := hp.ex; (have hb5 := Hb4.out.trans (hp.below.mono Hb4.out.size)); (obtain ⟨pv, kv, cv, rfl⟩ := owns_sl hv2); (obtain ⟨pu, ku, cu, rfl⟩ := owns_sl hu2); clear hp hv2 hu2; rw [HcX.out])
    go_ret
    exact ⟨zan hv.out.symm, hb5⟩
end
end Go.Proofs.YtaehkbbdmamfpaaGreatDoor
