/-
  The document's Chosen and Best.
-/
import Derived.Test.YtkkdopfdoommnaaC10
import Derived.StillTailTactics
namespace Go.Proofs.Ytkkdopfdoommnaa
open Go.ChangeShapes Go.WideShapes Go.ChangeAt Go.RowKit
theorem cell_lt {w : World} {p : Addr} {v : Value} (h : w.cell? p = some v) : p.block < w.heap.size := by
  rcases Nat.lt_or_ge p.block w.heap.size with h1 | h1
  · exact h1
  · have e : w.heap[p.block]? = none := Array.getElem?_eq_none h1
    simp [World.cell?, e] at h
theorem cell_below {w w' : World} {p : Addr} {v : Value} (h : w.cell? p = some v) (hb : Below w.heap.size w w') : w'.cell? p = some v := (hb.cell (cell_lt h)).trans h
theorem ahead_stop {L : List Nd} {s : List Nat} {h d : Int} {f : Bool} {b : Nat} {l : Int} {x : Nat × Int} {r : List (Nat × Int)} {c : Int} (e : (atB L s h d x).2.2 = c) (hst : c = 1073741823 ∨ x.2 ≤ -10000) :
    chosF L s h d f b l (x :: r) = if c ≤ l ∧ (c < 1073741823 ∨ f = true) then (x.1, c) else (b, l) := by
  subst e
  rw [chosF, if_pos hst]
theorem ahead_on {L : List Nd} {s : List Nat} {h d : Int} {f : Bool} {b : Nat} {l : Int} {x : Nat × Int} {r : List (Nat × Int)} {c : Int} (e : (atB L s h d x).2.2 = c) (h1 : c ≠ 1073741823) (h2 : ¬ x.2 ≤ -10000) :
    chosF L s h d f b l (x :: r) = if c ≤ l ∧ (c < 1073741823 ∨ f = true) then chosF L s h d false x.1 c r else chosF L s h d false b l r := by
  subst e
  rw [chosF, if_neg (by rintro (h | h); exact h1 h; exact h2 h)]
  split <;> rfl
set_option maxRecDepth 100000 in
set_option maxHeartbeats 8000000 in
theorem qchosen (p0 : Option Addr) (b off cap : Nat) (L : List Nd) (s : List Nat) (hck : colP L s = 0) (hs : Items L 0 s) (height depth : Int) (hdm : (dimenB height && dimenB depth) = true) (w : World) (hN : NIn w p0 b off cap L) :
    Calls Try.prog 75 #[.slice p0 L.length cap, .int .i64 height, .int .i64 depth] w fun e w' => e = .returned (.tuple #[.int .i64 ((chosF L s height depth true 0 1073741823 (legalP L s)).1 : Nat), .int .i64 (chosF L s height depth true 0 1073741823 (legalP L s)).2]) ∧ Below w.heap.size w w' := by
  have H := Lib.hid hN
  have hkd := items_kind0 hs (colP_check hck)
  have hl := (checkC_zero (colP_check hck)).1
  have hr := check_right (colP_check hck)
  have hnb : ∀ x ∈ s, NdB (nth L x) := fun x hx => nb_of (hr _ (by rw [nth_get (hs.lt x hx).2]; exact List.getElem_mem _))
  have HP := Lib.hid (qplaces p0 b off cap L s hs (fun x hx => (hkd x hx).1) hl w hN)
  have hd2 : (-1073741823 ≤ height ∧ height ≤ 1073741823) ∧ -1073741823 ≤ depth ∧ depth ≤ 1073741823 := by simpa [dimenB] using hdm
  have HPr : Hid (∀ j (hj : j < (legalP L s).length), ∀ W, Below w.heap.size w W → Calls Try.prog 74 #[.slice p0 L.length cap, .int .i64 ((legalP L s)[j].1 : Nat), .int .i64 (legalP L s)[j].2, .int .i64 height, .int .i64 depth] W fun e w' => e = .returned (.int .i64 (atB L s height depth (legalP L s)[j]).2.2) ∧ Below W.heap.size W w') := Lib.hid fun j hj W hb =>
    qprice p0 b off cap L s hs (fun x hx => (hkd x hx).1) hnb hl _ (legalP_at hj).1 _ height depth hd2.2 hd2.1 (by have := legalP_pen hj; omega) W (H.out.below hb)
  have HLe : Hid (∀ j (hj : j < (legalP L s).length), (atB L s height depth (legalP L s)[j]).2.2 ≤ 1073741823) := Lib.hid fun j hj => costP_le _ _ _ (legalP_pen hj)
  have hll : (legalP L s).length ≤ 2001 := by have := legalP_len L s; have := hs.len; omega
  clear hck hs hkd hr hnb hl hd2 hdm hN
  generalize legalP L s = P at *
  go_enter Try.func75, Try.ntmps75
  go_wp2_with fail
  refine HP.out.mono ?_
  clear HP
  rintro e w2 ⟨⟨v, u, rfl, hT⟩, hb2⟩
  have hla : (atsP P).length = P.length := by simp [atsP]
  have hlp : (pensP P).length = P.length := by simp [pensP]
  obtain ⟨pv, gv, cv, ev, lv, zv⟩ := zin_of hT.rv
  obtain ⟨pu, gu, cu, eu, lu, zu⟩ := zin_of hT.ru
  rw [hla] at ev
  rw [hlp] at eu
  subst ev eu
  have ZV : Hid (∀ i (hi : i < P.length), pv = some ⟨gv, 0, none⟩ ∧ ∀ W, Below w2.heap.size w2 W → W.cell? ⟨gv, i, none⟩ = some (.int .i64 (P[i].1 : Nat))) := Lib.hid fun i hi => ⟨zv.hp (fun e => by rw [e] at hla; simp at hla; omega), fun W hb => cell_below (by have := zv.at_ i (by omega); simpa [atsP] using this) hb⟩
  have ZU : Hid (∀ i (hi : i < P.length), pu = some ⟨gu, 0, none⟩ ∧ ∀ W, Below w2.heap.size w2 W → W.cell? ⟨gu, i, none⟩ = some (.int .i64 P[i].2)) := Lib.hid fun i hi => ⟨zu.hp (fun e => by rw [e] at hlp; simp at hlp; omega), fun W hb => cell_below (by have := zu.at_ i (by omega); simpa [pensP] using this) hb⟩
  have hcv : P.length ≤ cv := by have := zv.cap; omega
  have hcu : P.length ≤ cu := by have := zu.cap; omega
  clear zv zu lv lu hla hlp hT
  have HB2 := Lib.hid hb2
  clear hb2
  go_wp2_with fail
  go_loopg [10, 11, 12] (P.length + 1) (fun gg t10 t11 t12 wr => ∃ (i bst : Nat) (least : Int), gg = P.length + 1 - i ∧ i ≤ P.length ∧ t10 = .int .i64 bst ∧ t11 = .int .i64 least ∧ t12 = .int .i64 i ∧ chosF L s height depth true 0 1073741823 P = chosF L s height depth (decide (i = 0)) bst least (P.drop i) ∧ Below w2.heap.size w2 wr)
  case atStart => exact ⟨0, 0, 1073741823, rfl, Nat.zero_le _, rfl, rfl, rfl, rfl, Below.refl _ _⟩
  case round =>
    obtain ⟨i, bst, least, rfl, hi, rfl, rfl, rfl, hv, hbr⟩ := hrel
    have HBR := Lib.hid hbr
    have hi1 : (0 : Int) ≤ (i : Int) := by omega
    by_cases hin : i < P.length
    · have hi2 : (i : Int) < (P.length : Int) := by omega
      have hi3 : (i : Int) < (cv : Int) := by omega
      have hi4 : (i : Int) < (cu : Int) := by omega
      obtain rfl := (ZV.out i hin).1
      obtain rfl := (ZU.out i hin).1
      have CV := Lib.hid (ZV.out i hin).2
      have CU := Lib.hid (ZU.out i hin).2
      have HPk := Lib.hid (HPr.out i hin)
      have hle := HLe.out i hin
      rw [List.drop_eq_getElem_cons hin] at hv
      generalize P[i] = x at CV CU HPk hle hv
      obtain ⟨c, hc⟩ : ∃ c, (atB L s height depth x).2.2 = c := ⟨_, rfl⟩
      have Hc := Lib.hid hc
      rw [hc] at HPk hle
      have HV := Lib.hid hv
      have Hin := Lib.hid hin
      obtain ⟨t, q⟩ := x
      clear hv hc hin hbr
      by_cases h1 : c ≤ least
      · by_cases hA : c = 1073741823
        · by_cases h0 : i = 0
          · have hge : 1073741823 ≤ c := by omega
            have hcb : (c == 1073741823) = true := by simp [hA]
            have hi0 : ((i : Int) == 0) = true := by simp [h0]
            have H0 := Lib.hid h0
            clear h0
            have HA := Lib.hid hA
            clear hA
            have hcw := CV.out wr HBR.out
            have huw := CU.out wr HBR.out
            go_wp2_with fail
            refine wp_region_still_tail 11 (by kernel_rfl) (by kernel_rfl) ?_
            simp only [List.take_succ_cons, List.take_zero, List.drop_succ_cons, List.drop_zero]
            repeat still_step
            refine wpStill_nil ?_
            change wpList _ _ _ _ _ wr.drew
            have HW3 := Lib.hid (HBR.out.drew)
            have HPw := Lib.hid (HPk.out wr.drew (HB2.out.trans (HW3.out.mono HB2.out.size)))
            clear HPk
            go_wp2_with (go_at_call 74; refine HPw.out.mono ?_; rintro e w6 ⟨rfl, hb6⟩; have hb26 : Below w2.heap.size w2 w6 := HW3.out.trans (hb6.mono HW3.out.size); have hcw6 := CV.out w6 hb26; have huw6 := CU.out w6 hb26)
            have HVz := Lib.hid (HV.out.trans ((ahead_stop Hc.out (by exact .inl HA.out)).trans (by exact if_pos ⟨h1, .inr (by simp [H0.out])⟩)))
            go_ret2
            exact ⟨by rw [HVz.out]; rfl, HB2.out.trans (hb26.mono HB2.out.size)⟩
          · have hge : 1073741823 ≤ c := by omega
            have hcb : (c == 1073741823) = true := by simp [hA]
            have hi0 : ((i : Int) == 0) = false := by simp [h0]
            have hcw := CV.out wr HBR.out
            have huw := CU.out wr HBR.out
            go_wp2_with fail
            refine wp_region_still_tail 11 (by kernel_rfl) (by kernel_rfl) ?_
            simp only [List.take_succ_cons, List.take_zero, List.drop_succ_cons, List.drop_zero]
            repeat still_step
            refine wpStill_nil ?_
            change wpList _ _ _ _ _ wr.drew
            have HW3 := Lib.hid (HBR.out.drew)
            have HPw := Lib.hid (HPk.out wr.drew (HB2.out.trans (HW3.out.mono HB2.out.size)))
            clear HPk
            go_wp2_with (go_at_call 74; refine HPw.out.mono ?_; rintro e w6 ⟨rfl, hb6⟩; have hb26 : Below w2.heap.size w2 w6 := HW3.out.trans (hb6.mono HW3.out.size); have hcw6 := CV.out w6 hb26; have huw6 := CU.out w6 hb26)
            have HVz := Lib.hid (HV.out.trans ((ahead_stop Hc.out (by exact .inl hA)).trans (by exact if_neg (fun h => h.2.elim (fun h => by omega) (fun h => h0 (of_decide_eq_true h))))))
            go_ret2
            exact ⟨by rw [HVz.out]; rfl, HB2.out.trans (hb26.mono HB2.out.size)⟩
        · by_cases hq : q ≤ -10000
          · have hlt : c < 1073741823 := by omega
            have hcb : (c == 1073741823) = false := by simp [hA]
            have hcw := CV.out wr HBR.out
            have huw := CU.out wr HBR.out
            go_wp2_with fail
            refine wp_region_still_tail 11 (by kernel_rfl) (by kernel_rfl) ?_
            simp only [List.take_succ_cons, List.take_zero, List.drop_succ_cons, List.drop_zero]
            repeat still_step
            refine wpStill_nil ?_
            change wpList _ _ _ _ _ wr.drew
            have HW3 := Lib.hid (HBR.out.drew)
            have HPw := Lib.hid (HPk.out wr.drew (HB2.out.trans (HW3.out.mono HB2.out.size)))
            clear HPk
            go_wp2_with (go_at_call 74; refine HPw.out.mono ?_; rintro e w6 ⟨rfl, hb6⟩; have hb26 : Below w2.heap.size w2 w6 := HW3.out.trans (hb6.mono HW3.out.size); have hcw6 := CV.out w6 hb26; have huw6 := CU.out w6 hb26)
            have HVz := Lib.hid (HV.out.trans ((ahead_stop Hc.out (by exact .inr hq)).trans (by exact if_pos ⟨h1, .inl hlt⟩)))
            go_ret2
            exact ⟨by rw [HVz.out]; rfl, HB2.out.trans (hb26.mono HB2.out.size)⟩
          · have hlt : c < 1073741823 := by omega
            have hcb : (c == 1073741823) = false := by simp [hA]
            have hq2 : -10000 < q := by omega
            have hcw := CV.out wr HBR.out
            have huw := CU.out wr HBR.out
            go_wp2_with fail
            refine wp_region_still_tail 11 (by kernel_rfl) (by kernel_rfl) ?_
            simp only [List.take_succ_cons, List.take_zero, List.drop_succ_cons, List.drop_zero]
            repeat still_step
            refine wpStill_nil ?_
            change wpList _ _ _ _ _ wr.drew
            have HW3 := Lib.hid (HBR.out.drew)
            have HPw := Lib.hid (HPk.out wr.drew (HB2.out.trans (HW3.out.mono HB2.out.size)))
            clear HPk
            go_wp2_with (go_at_call 74; refine HPw.out.mono ?_; rintro e w6 ⟨rfl, hb6⟩; have hb26 : Below w2.heap.size w2 w6 := HW3.out.trans (hb6.mono HW3.out.size); have hcw6 := CV.out w6 hb26; have huw6 := CU.out w6 hb26)
            go_roundg (P.length + 1 - (i + 1))
            case measure => have := Hin.out; omega
            case rel =>
              refine ⟨i + 1, t, c, rfl, Hin.out, rfl, rfl, by go_num, ?_, hb26⟩
              rw [HV.out, ahead_on Hc.out hA (show ¬ q ≤ -10000 by omega), decide_eq_false (Nat.succ_ne_zero i)]
              exact if_pos ⟨h1, .inl hlt⟩
      · by_cases hA : c = 1073741823
        · have hn : least < c := by omega
          have hcb : (c == 1073741823) = true := by simp [hA]
          have hcw := CV.out wr HBR.out
          have huw := CU.out wr HBR.out
          go_wp2_with fail
          refine wp_region_still_tail 11 (by kernel_rfl) (by kernel_rfl) ?_
          simp only [List.take_succ_cons, List.take_zero, List.drop_succ_cons, List.drop_zero]
          repeat still_step
          refine wpStill_nil ?_
          change wpList _ _ _ _ _ wr.drew
          have HW3 := Lib.hid (HBR.out.drew)
          have HPw := Lib.hid (HPk.out wr.drew (HB2.out.trans (HW3.out.mono HB2.out.size)))
          clear HPk
          go_wp2_with (go_at_call 74; refine HPw.out.mono ?_; rintro e w6 ⟨rfl, hb6⟩; have hb26 : Below w2.heap.size w2 w6 := HW3.out.trans (hb6.mono HW3.out.size); have hcw6 := CV.out w6 hb26; have huw6 := CU.out w6 hb26)
          have HVz := Lib.hid (HV.out.trans ((ahead_stop Hc.out (by exact .inl hA)).trans (by exact if_neg (fun h => absurd h.1 (by omega)))))
          go_ret2
          exact ⟨by rw [HVz.out]; rfl, HB2.out.trans (hb26.mono HB2.out.size)⟩
        · by_cases hq : q ≤ -10000
          · have hn : least < c := by omega
            have hcb : (c == 1073741823) = false := by simp [hA]
            have hcw := CV.out wr HBR.out
            have huw := CU.out wr HBR.out
            go_wp2_with fail
            refine wp_region_still_tail 11 (by kernel_rfl) (by kernel_rfl) ?_
            simp only [List.take_succ_cons, List.take_zero, List.drop_succ_cons, List.drop_zero]
            repeat still_step
            refine wpStill_nil ?_
            change wpList _ _ _ _ _ wr.drew
            have HW3 := Lib.hid (HBR.out.drew)
            have HPw := Lib.hid (HPk.out wr.drew (HB2.out.trans (HW3.out.mono HB2.out.size)))
            clear HPk
            go_wp2_with (go_at_call 74; refine HPw.out.mono ?_; rintro e w6 ⟨rfl, hb6⟩; have hb26 : Below w2.heap.size w2 w6 := HW3.out.trans (hb6.mono HW3.out.size); have hcw6 := CV.out w6 hb26; have huw6 := CU.out w6 hb26)
            have HVz := Lib.hid (HV.out.trans ((ahead_stop Hc.out (by exact .inr hq)).trans (by exact if_neg (fun h => absurd h.1 (by omega)))))
            go_ret2
            exact ⟨by rw [HVz.out]; rfl, HB2.out.trans (hb26.mono HB2.out.size)⟩
          · have hn : least < c := by omega
            have hcb : (c == 1073741823) = false := by simp [hA]
            have hq2 : -10000 < q := by omega
            have hcw := CV.out wr HBR.out
            have huw := CU.out wr HBR.out
            go_wp2_with fail
            refine wp_region_still_tail 11 (by kernel_rfl) (by kernel_rfl) ?_
            simp only [List.take_succ_cons, List.take_zero, List.drop_succ_cons, List.drop_zero]
            repeat still_step
            refine wpStill_nil ?_
            change wpList _ _ _ _ _ wr.drew
            have HW3 := Lib.hid (HBR.out.drew)
            have HPw := Lib.hid (HPk.out wr.drew (HB2.out.trans (HW3.out.mono HB2.out.size)))
            clear HPk
            go_wp2_with (go_at_call 74; refine HPw.out.mono ?_; rintro e w6 ⟨rfl, hb6⟩; have hb26 : Below w2.heap.size w2 w6 := HW3.out.trans (hb6.mono HW3.out.size); have hcw6 := CV.out w6 hb26; have huw6 := CU.out w6 hb26)
            go_roundg (P.length + 1 - (i + 1))
            case measure => have := Hin.out; omega
            case rel =>
              refine ⟨i + 1, bst, least, rfl, Hin.out, rfl, rfl, by go_num, ?_, hb26⟩
              rw [HV.out, ahead_on Hc.out hA (show ¬ q ≤ -10000 by omega), decide_eq_false (Nat.succ_ne_zero i)]
              exact if_neg (fun h => absurd h.1 (by omega))
    · have hi2 : (P.length : Int) ≤ (i : Int) := by omega
      have hv2 : chosF L s height depth true 0 1073741823 P = (bst, least) := by rw [hv, List.drop_eq_nil_of_le (by omega)]; rfl
      have HV := Lib.hid hv2
      clear hv hv2 hin
      go_wp2_with fail
      go_ret2
      exact ⟨by rw [HV.out]; rfl, HB2.out.trans (HBR.out.mono HB2.out.size)⟩
end Go.Proofs.Ytkkdopfdoommnaa
