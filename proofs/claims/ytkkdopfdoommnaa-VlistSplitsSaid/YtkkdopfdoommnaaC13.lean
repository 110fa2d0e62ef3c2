/-
  The document's Chosen and Best.
  The document's Best.
-/
import Derived.Test.YtkkdopfdoommnaaD1
import Derived.StillTailTactics
import Derived.BigQuiet
namespace Go.Proofs.Ytkkdopfdoommnaa
open Go.ChangeShapes Go.WideShapes Go.ChangeAt Go.RowKit
theorem cell_lt {w : World} {p : Addr} {v : Value} (h : w.cell? p = some v) : p.block < w.heap.size := by
  rcases Nat.lt_or_ge p.block w.heap.size with h1 | h1
  · exact h1
  · have e : w.heap[p.block]? = none := Array.getElem?_eq_none h1
    simp [World.cell?, e] at h
theorem cell_below {w w' : World} {p : Addr} {v : Value} (h : w.cell? p = some v) (hb : Below w.heap.size w w') : w'.cell? p = some v := (hb.cell (cell_lt h)).trans h
theorem ahead_stop {L : List Nd} {s : List Nat} {h d : Int} {f : Bool} {b : Nat} {l : Int} {x : Nat × Int} {r : List (Nat × Int)} {c : Int} (e : (atB L s h d x).2.2 = c) (hst : c = 1073741823 ∨ x.2 ≤ -10000) :
    chosF L s h d f b l (x :: r) = if c ≤ l ∧ (c < 1073741823 ∨ f = true) then (x.1, c) else (b, l) := by
  subst e
  rw [chosF, if_pos hst]
theorem ahead_on {L : List Nd} {s : List Nat} {h d : Int} {f : Bool} {b : Nat} {l : Int} {x : Nat × Int} {r : List (Nat × Int)} {c : Int} (e : (atB L s h d x).2.2 = c) (h1 : c ≠ 1073741823) (h2 : ¬ x.2 ≤ -10000) :
    chosF L s h d f b l (x :: r) = if c ≤ l ∧ (c < 1073741823 ∨ f = true) then chosF L s h d false x.1 c r else chosF L s h d false b l r := by
  subst e
  rw [chosF, if_neg (by rintro (h | h); exact h1 h; exact h2 h)]
  split <;> rfl
set_option maxRecDepth 100000 in
set_option maxHeartbeats 8000000 in
theorem qchosen (p0 : Option Addr) (b off cap : Nat) (L : List Nd) (s : List Nat) (hck : colP L s = 0) (hs : Items L 0 s) (height depth : Int) (hdm : (dimenB height && dimenB depth) = true) (w : World) (hN : NIn w p0 b off cap L) :
    Calls Try.prog 75 #[.slice p0 L.length cap, .int .i64 height, .int .i64 depth] w fun e w' => e = .returned (.tuple #[.int .i64 ((chosF L s height depth true 0 1073741823 (legalP L s)).1 : Nat), .int .i64 (chosF L s height depth true 0 1073741823 (legalP L s)).2]) ∧ Below w.heap.size w w' := by
  have H := Lib.hid hN
  have hkd := items_kind0 hs (colP_check hck)
  have hl := (checkC_zero (colP_check hck)).1
  have hr := check_right (colP_check hck)
  have hnb : ∀ x ∈ s, NdB (nth L x) := fun x hx => nb_of (hr _ (by rw [nth_get (hs.lt x hx).2]; exact List.getElem_mem _))
  have HP := Lib.hid (qplaces p0 b off cap L s hs (fun x hx => (hkd x hx).1) hl w hN)
  have hd2 : (-1073741823 ≤ height ∧ height ≤ 1073741823) ∧ -1073741823 ≤ depth ∧ depth ≤ 1073741823 := by simpa [dimenB] using hdm
  have HPr : Hid (∀ j (hj : j < (legalP L s).length), ∀ W, Below w.heap.size w W → Calls Try.prog 74 #[.slice p0 L.length cap, .int .i64 ((legalP L s)[j].1 : Nat), .int .i64 (legalP L s)[j].2, .int .i64 height, .int .i64 depth] W fun e w' => e = .returned (.int .i64 (atB L s height depth (legalP L s)[j]).2.2) ∧ Below W.heap.size W w') := Lib.hid fun j hj W hb =>
    qprice p0 b off cap L s hs (fun x hx => (hkd x hx).1) hnb hl _ (legalP_at hj).1 _ height depth hd2.2 hd2.1 (by have := legalP_pen hj; omega) W (H.out.below hb)
  have HLe : Hid (∀ j (hj : j < (legalP L s).length), (atB L s height depth (legalP L s)[j]).2.2 ≤ 1073741823) := Lib.hid fun j hj => costP_le _ _ _ (legalP_pen hj)
  have hll : (legalP L s).length ≤ 2001 := by have := legalP_len L s; have := hs.len; omega
  clear hck hs hkd hr hnb hl hd2 hdm hN
  generalize legalP L s = P at *
  go_enter Try.func75, Try.ntmps75
  go_wp2_with fail
  refine HP.out.mono ?_
  clear HP
  rintro e w2 ⟨⟨v, u, rfl, hT⟩, hb2⟩
  have hla : (atsP P).length = P.length := by simp [atsP]
  have hlp : (pensP P).length = P.length := by simp [pensP]
  obtain ⟨pv, gv, cv, ev, lv, zv⟩ := zin_of hT.rv
  obtain ⟨pu, gu, cu, eu, lu, zu⟩ := zin_of hT.ru
  rw [hla] at ev
  rw [hlp] at eu
  subst ev eu
  have ZV : Hid (∀ i (hi : i < P.length), pv = some ⟨gv, 0, none⟩ ∧ ∀ W, Below w2.heap.size w2 W → W.cell? ⟨gv, i, none⟩ = some (.int .i64 (P[i].1 : Nat))) := Lib.hid fun i hi => ⟨zv.hp (fun e => by rw [e] at hla; simp at hla; omega), fun W hb => cell_below (by have := zv.at_ i (by omega); simpa [atsP] using this) hb⟩
  have ZU : Hid (∀ i (hi : i < P.length), pu = some ⟨gu, 0, none⟩ ∧ ∀ W, Below w2.heap.size w2 W → W.cell? ⟨gu, i, none⟩ = some (.int .i64 P[i].2)) := Lib.hid fun i hi => ⟨zu.hp (fun e => by rw [e] at hlp; simp at hlp; omega), fun W hb => cell_below (by have := zu.at_ i (by omega); simpa [pensP] using this) hb⟩
  have hcv : P.length ≤ cv := by have := zv.cap; omega
  have hcu : P.length ≤ cu := by have := zu.cap; omega
  clear zv zu lv lu hla hlp hT
  have HB2 := Lib.hid hb2
  clear hb2
  go_wp2_with fail
  go_loopg [10, 11, 12] (P.length + 1) (fun gg t10 t11 t12 wr => ∃ (i bst : Nat) (least : Int), gg = P.length + 1 - i ∧ i ≤ P.length ∧ t10 = .int .i64 bst ∧ t11 = .int .i64 least ∧ t12 = .int .i64 i ∧ chosF L s height depth true 0 1073741823 P = chosF L s height depth (decide (i = 0)) bst least (P.drop i) ∧ Below w2.heap.size w2 wr)
  case atStart => exact ⟨0, 0, 1073741823, rfl, Nat.zero_le _, rfl, rfl, rfl, rfl, Below.refl _ _⟩
  case round =>
    obtain ⟨i, bst, least, rfl, hi, rfl, rfl, rfl, hv, hbr⟩ := hrel
    have HBR := Lib.hid hbr
    have hi1 : (0 : Int) ≤ (i : Int) := by omega
    by_cases hin : i < P.length
    · have hi2 : (i : Int) < (P.length : Int) := by omega
      have hi3 : (i : Int) < (cv : Int) := by omega
      have hi4 : (i : Int) < (cu : Int) := by omega
      obtain rfl := (ZV.out i hin).1
      obtain rfl := (ZU.out i hin).1
      have CV := Lib.hid (ZV.out i hin).2
      have CU := Lib.hid (ZU.out i hin).2
      have HPk := Lib.hid (HPr.out i hin)
      have hle := HLe.out i hin
      rw [List.drop_eq_getElem_cons hin] at hv
      generalize P[i] = x at CV CU HPk hle hv
      obtain ⟨c, hc⟩ : ∃ c, (atB L s height depth x).2.2 = c := ⟨_, rfl⟩
      have Hc := Lib.hid hc
      rw [hc] at HPk hle
      have HV := Lib.hid hv
      have Hin := Lib.hid hin
      obtain ⟨t, q⟩ := x
      clear hv hc hin hbr
      by_cases h1 : c ≤ least
      · by_cases hA : c = 1073741823
        · by_cases h0 : i = 0
          · have hge : 1073741823 ≤ c := by omega
            have hcb : (c == 1073741823) = true := by simp [hA]
            have hi0 : ((i : Int) == 0) = true := by simp [h0]
            have H0 := Lib.hid h0
            clear h0
            have HA := Lib.hid hA
            clear hA
            have hcw := CV.out wr HBR.out
            have huw := CU.out wr HBR.out
            go_wp2_with fail
            refine wp_region_still_tail 11 (by kernel_rfl) (by kernel_rfl) ?_
            simp only [List.take_succ_cons, List.take_zero, List.drop_succ_cons, List.drop_zero]
            repeat still_step
            refine wpStill_nil ?_
            change wpList _ _ _ _ _ wr.drew
            have HW3 := Lib.hid (HBR.out.drew)
            have HPw := Lib.hid (HPk.out wr.drew (HB2.out.trans (HW3.out.mono HB2.out.size)))
            clear HPk
            go_wp2_with (go_at_call 74; refine HPw.out.mono ?_; rintro e w6 ⟨rfl, hb6⟩; have hb26 : Below w2.heap.size w2 w6 := HW3.out.trans (hb6.mono HW3.out.size); have hcw6 := CV.out w6 hb26; have huw6 := CU.out w6 hb26)
            have HVz := Lib.hid (HV.out.trans ((ahead_stop Hc.out (by exact .inl HA.out)).trans (by exact if_pos ⟨h1, .inr (by simp [H0.out])⟩)))
            go_ret2
            exact ⟨by rw [HVz.out]; rfl, HB2.out.trans (hb26.mono HB2.out.size)⟩
          · have hge : 1073741823 ≤ c := by omega
            have hcb : (c == 1073741823) = true := by simp [hA]
            have hi0 : ((i : Int) == 0) = false := by simp [h0]
            have hcw := CV.out wr HBR.out
            have huw := CU.out wr HBR.out
            go_wp2_with fail
            refine wp_region_still_tail 11 (by kernel_rfl) (by kernel_rfl) ?_
            simp only [List.take_succ_cons, List.take_zero, List.drop_succ_cons, List.drop_zero]
            repeat still_step
            refine wpStill_nil ?_
            change wpList _ _ _ _ _ wr.drew
            have HW3 := Lib.hid (HBR.out.drew)
            have HPw := Lib.hid (HPk.out wr.drew (HB2.out.trans (HW3.out.mono HB2.out.size)))
            clear HPk
            go_wp2_with (go_at_call 74; refine HPw.out.mono ?_; rintro e w6 ⟨rfl, hb6⟩; have hb26 : Below w2.heap.size w2 w6 := HW3.out.trans (hb6.mono HW3.out.size); have hcw6 := CV.out w6 hb26; have huw6 := CU.out w6 hb26)
            have HVz := Lib.hid (HV.out.trans ((ahead_stop Hc.out (by exact .inl hA)).trans (by exact if_neg (fun h => h.2.elim (fun h => by omega) (fun h => h0 (of_decide_eq_true h))))))
            go_ret2
            exact ⟨by rw [HVz.out]; rfl, HB2.out.trans (hb26.mono HB2.out.size)⟩
        · by_cases hq : q ≤ -10000
          · have hlt : c < 1073741823 := by omega
            have hcb : (c == 1073741823) = false := by simp [hA]
            have hcw := CV.out wr HBR.out
            have huw := CU.out wr HBR.out
            go_wp2_with fail
            refine wp_region_still_tail 11 (by kernel_rfl) (by kernel_rfl) ?_
            simp only [List.take_succ_cons, List.take_zero, List.drop_succ_cons, List.drop_zero]
            repeat still_step
            refine wpStill_nil ?_
            change wpList _ _ _ _ _ wr.drew
            have HW3 := Lib.hid (HBR.out.drew)
            have HPw := Lib.hid (HPk.out wr.drew (HB2.out.trans (HW3.out.mono HB2.out.size)))
            clear HPk
            go_wp2_with (go_at_call 74; refine HPw.out.mono ?_; rintro e w6 ⟨rfl, hb6⟩; have hb26 : Below w2.heap.size w2 w6 := HW3.out.trans (hb6.mono HW3.out.size); have hcw6 := CV.out w6 hb26; have huw6 := CU.out w6 hb26)
            have HVz := Lib.hid (HV.out.trans ((ahead_stop Hc.out (by exact .inr hq)).trans (by exact if_pos ⟨h1, .inl hlt⟩)))
            go_ret2
            exact ⟨by rw [HVz.out]; rfl, HB2.out.trans (hb26.mono HB2.out.size)⟩
          · have hlt : c < 1073741823 := by omega
            have hcb : (c == 1073741823) = false := by simp [hA]
            have hq2 : -10000 < q := by omega
            have hcw := CV.out wr HBR.out
            have huw := CU.out wr HBR.out
            go_wp2_with fail
            refine wp_region_still_tail 11 (by kernel_rfl) (by kernel_rfl) ?_
            simp only [List.take_succ_cons, List.take_zero, List.drop_succ_cons, List.drop_zero]
            repeat still_step
            refine wpStill_nil ?_
            change wpList _ _ _ _ _ wr.drew
            have HW3 := Lib.hid (HBR.out.drew)
            have HPw := Lib.hid (HPk.out wr.drew (HB2.out.trans (HW3.out.mono HB2.out.size)))
            clear HPk
            go_wp2_with (go_at_call 74; refine HPw.out.mono ?_; rintro e w6 ⟨rfl, hb6⟩; have hb26 : Below w2.heap.size w2 w6 := HW3.out.trans (hb6.mono HW3.out.size); have hcw6 := CV.out w6 hb26; have huw6 := CU.out w6 hb26)
            go_roundg (P.length + 1 - (i + 1))
            case measure => have := Hin.out; omega
            case rel =>
              refine ⟨i + 1, t, c, rfl, Hin.out, rfl, rfl, by go_num, ?_, hb26⟩
              rw [HV.out, ahead_on Hc.out hA (show ¬ q ≤ -10000 by omega), decide_eq_false (Nat.succ_ne_zero i)]
              exact if_pos ⟨h1, .inl hlt⟩
      · by_cases hA : c = 1073741823
        · have hn : least < c := by omega
          have hcb : (c == 1073741823) = true := by simp [hA]
          have hcw := CV.out wr HBR.out
          have huw := CU.out wr HBR.out
          go_wp2_with fail
          refine wp_region_still_tail 11 (by kernel_rfl) (by kernel_rfl) ?_
          simp only [List.take_succ_cons, List.take_zero, List.drop_succ_cons, List.drop_zero]
          repeat still_step
          refine wpStill_nil ?_
          change wpList _ _ _ _ _ wr.drew
          have HW3 := Lib.hid (HBR.out.drew)
          have HPw := Lib.hid (HPk.out wr.drew (HB2.out.trans (HW3.out.mono HB2.out.size)))
          clear HPk
          go_wp2_with (go_at_call 74; refine HPw.out.mono ?_; rintro e w6 ⟨rfl, hb6⟩; have hb26 : Below w2.heap.size w2 w6 := HW3.out.trans (hb6.mono HW3.out.size); have hcw6 := CV.out w6 hb26; have huw6 := CU.out w6 hb26)
          have HVz := Lib.hid (HV.out.trans ((ahead_stop Hc.out (by exact .inl hA)).trans (by exact if_neg (fun h => absurd h.1 (by omega)))))
          go_ret2
          exact ⟨by rw [HVz.out]; rfl, HB2.out.trans (hb26.mono HB2.out.size)⟩
        · by_cases hq : q ≤ -10000
          · have hn : least < c := by omega
            have hcb : (c == 1073741823) = false := by simp [hA]
            have hcw := CV.out wr HBR.out
            have huw := CU.out wr HBR.out
            go_wp2_with fail
            refine wp_region_still_tail 11 (by kernel_rfl) (by kernel_rfl) ?_
            simp only [List.take_succ_cons, List.take_zero, List.drop_succ_cons, List.drop_zero]
            repeat still_step
            refine wpStill_nil ?_
            change wpList _ _ _ _ _ wr.drew
            have HW3 := Lib.hid (HBR.out.drew)
            have HPw := Lib.hid (HPk.out wr.drew (HB2.out.trans (HW3.out.mono HB2.out.size)))
            clear HPk
            go_wp2_with (go_at_call 74; refine HPw.out.mono ?_; rintro e w6 ⟨rfl, hb6⟩; have hb26 : Below w2.heap.size w2 w6 := HW3.out.trans (hb6.mono HW3.out.size); have hcw6 := CV.out w6 hb26; have huw6 := CU.out w6 hb26)
            have HVz := Lib.hid (HV.out.trans ((ahead_stop Hc.out (by exact .inr hq)).trans (by exact if_neg (fun h => absurd h.1 (by omega)))))
            go_ret2
            exact ⟨by rw [HVz.out]; rfl, HB2.out.trans (hb26.mono HB2.out.size)⟩
          · have hn : least < c := by omega
            have hcb : (c == 1073741823) = false := by simp [hA]
            have hq2 : -10000 < q := by omega
            have hcw := CV.out wr HBR.out
            have huw := CU.out wr HBR.out
            go_wp2_with fail
            refine wp_region_still_tail 11 (by kernel_rfl) (by kernel_rfl) ?_
            simp only [List.take_succ_cons, List.take_zero, List.drop_succ_cons, List.drop_zero]
            repeat still_step
            refine wpStill_nil ?_
            change wpList _ _ _ _ _ wr.drew
            have HW3 := Lib.hid (HBR.out.drew)
            have HPw := Lib.hid (HPk.out wr.drew (HB2.out.trans (HW3.out.mono HB2.out.size)))
            clear HPk
            go_wp2_with (go_at_call 74; refine HPw.out.mono ?_; rintro e w6 ⟨rfl, hb6⟩; have hb26 : Below w2.heap.size w2 w6 := HW3.out.trans (hb6.mono HW3.out.size); have hcw6 := CV.out w6 hb26; have huw6 := CU.out w6 hb26)
            go_roundg (P.length + 1 - (i + 1))
            case measure => have := Hin.out; omega
            case rel =>
              refine ⟨i + 1, bst, least, rfl, Hin.out, rfl, rfl, by go_num, ?_, hb26⟩
              rw [HV.out, ahead_on Hc.out hA (show ¬ q ≤ -10000 by omega), decide_eq_false (Nat.succ_ne_zero i)]
              exact if_neg (fun h => absurd h.1 (by omega))
    · have hi2 : (P.length : Int) ≤ (i : Int) := by omega
      have hv2 : chosF L s height depth true 0 1073741823 P = (bst, least) := by rw [hv, List.drop_eq_nil_of_le (by omega)]; rfl
      have HV := Lib.hid hv2
      clear hv hv2 hin
      go_wp2_with fail
      go_ret2
      exact ⟨by rw [HV.out]; rfl, HB2.out.trans (HBR.out.mono HB2.out.size)⟩
end Go.Proofs.Ytkkdopfdoommnaa
namespace Go.Proofs.Ytkkdopfdoommnaa
open Go.ChangeShapes Go.WideShapes Go.ChangeAt Go.RowKit
theorem stepB_form {L : List Nd} {s : List Nat} {h d : Int} {o : Option (Nat × Int × Int)} {x : Nat × Int} {Z : Nat → Prop} (ho : ∀ y, o = some y → Z y.1 ∧ y.2.1 = (measP L s y.1 d).1.nat + (measP L s y.1 d).2) (hx : Z x.1) : ∀ y, stepB L s h d o x = some y → Z y.1 ∧ y.2.1 = (measP L s y.1 d).1.nat + (measP L s y.1 d).2 := by
  intro y hy
  cases o with
  | none => cases hy; exact ⟨hx, rfl⟩
  | some z =>
    simp only [stepB] at hy
    split at hy
    · cases hy; exact ⟨hx, rfl⟩
    · cases hy; exact ho _ rfl
theorem bestF_form {L : List Nd} {s : List Nat} {h d : Int} {Z : Nat → Prop} : ∀ (r : List (Nat × Int)) (o : Option (Nat × Int × Int)), (∀ y, o = some y → Z y.1 ∧ y.2.1 = (measP L s y.1 d).1.nat + (measP L s y.1 d).2) → (∀ x ∈ r, Z x.1) → ∀ y, bestF L s h d o r = some y → Z y.1 ∧ y.2.1 = (measP L s y.1 d).1.nat + (measP L s y.1 d).2
  | [], o, ho, _, y, hy => ho y hy
  | x :: r, o, ho, hr, y, hy => by
    rw [bestF] at hy
    split at hy
    · exact stepB_form ho (hr x List.mem_cons_self) y hy
    · exact bestF_form r _ (stepB_form ho (hr x List.mem_cons_self)) (fun z hz => hr z (List.mem_cons_of_mem _ hz)) y hy
/-- the best break, as the document has it -/
theorem bestO_chos (L : List Nd) (s : List Nat) (h d : Int) : ∃ y : Nat × Int × Int, bestO L s h d = some y ∧ (y.1 ∈ s ∨ y.1 = L.length) ∧ y.2.1 = (measP L s y.1 d).1.nat + (measP L s y.1 d).2 ∧ chosF L s h d true 0 1073741823 (legalP L s) = (y.1, y.2.2) := by
  have hpen : ∀ z ∈ legalP L s, z.2 < 10000 := fun z hz => by
    obtain ⟨j, hj, rfl⟩ := List.getElem_of_mem hz
    exact legalP_pen hj
  have hmem : ∀ z ∈ legalP L s, z.1 ∈ s ∨ z.1 = L.length := fun z hz => by
    obtain ⟨j, hj, rfl⟩ := List.getElem_of_mem hz
    exact (legalP_at hj).1
  have hne : legalP L s ≠ [] := by unfold legalP; simp
  unfold bestO
  generalize legalP L s = P at *
  cases P with
  | nil => exact absurd rfl hne
  | cons x r =>
    have h1 := chosF_all L s h d x r hpen
    cases hb : bestF L s h d none (x :: r) with
    | none => rw [hb] at h1; cases h1
    | some y =>
      rw [hb] at h1
      obtain ⟨h2, h3⟩ := bestF_form (Z := fun t => t ∈ s ∨ t = L.length) (x :: r) none (fun y hy => by cases hy) hmem y hb
      exact ⟨y, rfl, h2, h3, (Option.some.inj h1).symm⟩
set_option maxRecDepth 100000 in
set_option maxHeartbeats 8000000 in
theorem qbest (p0 : Option Addr) (b off cap : Nat) (L : List Nd) (s : List Nat) (hs : checkC L = 0 → Items L 0 s) (height depth : Int) (w : World) (hN : NIn w p0 b off cap L) :
    Calls Try.prog 45 #[.slice p0 L.length cap, .int .i64 height, .int .i64 depth] w fun e w' => e = .returned (.tuple #[.int .i64 (bA (bestR L s height depth).1), .int .i64 (bS (bestR L s height depth).1), .int .i64 (bL (bestR L s height depth).1), .int .i64 (bestR L s height depth).2]) ∧ Below w.heap.size w w' := by
  have HC := Lib.hid (qcolumn p0 b off cap L s hs w hN)
  have H := Lib.hid hN
  have Hs := Lib.hid hs
  clear hN hs
  go_enter Try.func45, Try.ntmps45
  go_wp2_with fail
  refine HC.out.mono ?_
  clear HC
  rintro e w1 ⟨rfl, hb1⟩
  by_cases hck : colP L s = 0
  · have hs := Hs.out (colP_check hck)
    have hkd := items_kind0 hs (colP_check hck)
    have hl := (checkC_zero (colP_check hck)).1
    have hr := check_right (colP_check hck)
    have hnb : ∀ x ∈ s, NdB (nth L x) := fun x hx => nb_of (hr _ (by rw [nth_get (hs.lt x hx).2]; exact List.getElem_mem _))
    have Hck := Lib.hid hck
    have HD := Lib.hid (qdimen11 height w1)
    have HE := Lib.hid (qdimen11 depth w1)
    rw [hck]
    clear hck
    cases hd1 : dimenB height
    · have HV := Lib.hid (show bestR L s height depth = (none, 11) by unfold bestR; rw [if_pos Hck.out]; simp [hd1])
      rw [hd1] at HD
      clear hd1 hs hkd hl hr hnb Hs H HE
      go_wp2_with (go_at_call 71; refine HD.out.mono ?_; rintro e w5 ⟨rfl, rfl⟩)
      (try simp only [Exit.inBlock, Exit.then])
      refine bodyPost_ret (results_tmp4 rfl _ _ _) rfl ?_
      exact ⟨by rw [HV.out]; rfl, hb1⟩
    · rw [hd1] at HD
      cases hd2 : dimenB depth
      · have HV := Lib.hid (show bestR L s height depth = (none, 11) by unfold bestR; rw [if_pos Hck.out]; simp [hd1, hd2])
        rw [hd2] at HE
        clear hd1 hd2 hs hkd hl hr hnb Hs H
        go_wp2_with (first | (go_at_call_has 71 (Value.int IntKind.i64 height); refine HD.out.mono ?_; rintro e w5 ⟨rfl, rfl⟩) | (go_at_call_has 71 (Value.int IntKind.i64 depth); refine HE.out.mono ?_; rintro e w5 ⟨rfl, rfl⟩))
        (try simp only [Exit.inBlock, Exit.then])
        refine bodyPost_ret (results_tmp4 rfl _ _ _) rfl ?_
        exact ⟨by rw [HV.out]; rfl, hb1⟩
      · obtain ⟨y, hy, hyz, hym, hyc⟩ := bestO_chos L s height depth
        have HV := Lib.hid (show bestR L s height depth = (some y, 0) by unfold bestR; rw [if_pos Hck.out]; simp [hd1, hd2, hy])
        have hd3 : (-1073741823 ≤ height ∧ height ≤ 1073741823) ∧ -1073741823 ≤ depth ∧ depth ≤ 1073741823 := by simpa [dimenB] using (show (dimenB height && dimenB depth) = true by rw [hd1, hd2]; rfl)
        have HCh := Lib.hid (qchosen p0 b off cap L s Hck.out hs height depth (by rw [hd1, hd2]; rfl) w1 (H.out.below hb1))
        rw [hyc] at HCh
        have HZ : Hid (∀ W, Below w.heap.size w W → Calls Try.prog 72 #[.slice p0 L.length cap, .int .i64 (y.1 : Nat), .int .i64 depth] W fun e w' => e = .returned (.tuple #[.agg (measP L s y.1 depth).1.arr, .int .i64 (measP L s y.1 depth).2]) ∧ Below W.heap.size W w') := Lib.hid fun W hb => qsized p0 b off cap L s hs (fun x hx => (hkd x hx).1) hnb hl y.1 hyz depth hd3.2 W (H.out.below hb)
        have hmb := meas_bound (L := L) y.1 hnb (by have := hs.len; omega) hd3.2
        rw [hd2] at HE
        have Hym := Lib.hid hym
        clear hd1 hd2 hs hkd hl hr hnb Hs H hy hyz hym hyc hd3
        obtain ⟨t, sz, c⟩ := y
        simp only at HCh HZ hmb Hym
        generalize measP L s t depth = mm at HZ hmb Hym
        obtain ⟨T, dd⟩ := mm
        simp only at hmb Hym
        obtain ⟨⟨m1, m2⟩, m3, m4⟩ := hmb
        go_wp2_with (first
          | (go_at_call 75; refine HCh.out.mono ?_; rintro e w6 ⟨rfl, hb6⟩; have hb06 := hb1.trans (hb6.mono hb1.size))
          | (go_at_call 72; refine (HZ.out _ hb06).mono ?_; rintro e w7 ⟨rfl, hb7⟩; go_upto_region 8 with (fail))
          | (go_at_call_has 71 (Value.int IntKind.i64 height); refine HD.out.mono ?_; rintro e w5 ⟨rfl, rfl⟩) | (go_at_call_has 71 (Value.int IntKind.i64 depth); refine HE.out.mono ?_; rintro e w5 ⟨rfl, rfl⟩))
        have hb07 := hb06.trans (hb7.mono hb06.size)
        have aT : TAt (w7.alloc (.cells T.arr 68)) w7.heap.size T := heap_alloc_new w7 _
        have hb08 := hb07.alloc hb07.size (.cells T.arr 68)
        clear hb07 hb7 hb6 hb06 HCh HZ HD HE
        generalize w7.alloc (.cells T.arr 68) = w8 at aT hb08 ⊢
        generalize w7.heap.size = X at aT ⊢
        have a1 : w8.cell? ⟨X, 0, none⟩ = some (.int .i64 T.nat) := agg_cell aT.agg 0 _ rfl
        go_wp2_with fail
        go_quiet (fail)
        go_wp2_with fail
        (try simp only [Exit.inBlock, Exit.then])
        refine bodyPost_ret (results_tmp4 rfl _ _ _) rfl ?_
        exact ⟨by rw [HV.out]; simp only [bA, bS, bL, Hym.out]; rfl, below_drewN hb08 _⟩
  · have hck' : ((colP L s : Int) != 0) = true := by simpa using hck
    have HR := Lib.hid (show bestR L s height depth = (none, colP L s) by unfold bestR; rw [if_neg hck])
    clear hck
    go_wp2_with fail
    (try simp only [Exit.inBlock, Exit.then])
    refine bodyPost_ret (results_tmp4 rfl _ _ _) rfl ?_
    exact ⟨by rw [HR.out]; rfl, hb1⟩
end Go.Proofs.Ytkkdopfdoommnaa
