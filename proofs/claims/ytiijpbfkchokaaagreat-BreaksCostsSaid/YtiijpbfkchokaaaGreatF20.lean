/-
  The document's side of layer 9: what breaks cost (wrong, Takes, Lines, Cost).
-/
import Derived.Test.YtiijpbfkchokaaaGreatW6
import Derived.Test.YtiijpbfkchokaaaGreatB24
import Derived.Test.YtiijpbfkchokaaaGreatF19
namespace Go.Proofs.YtiijpbfkchokaaaGreat
open Go.ChangeShapes Go.WideShapes Go.ChangeAt Go.RowKit
attribute [local go_sem ↓] Go.wp_at_zero Go.wp_at_succ
set_option maxRecDepth 100000 in
set_option maxHeartbeats 4000000 in
theorem q9wrong (P : Pm) (g off2 : Nat) (S : List Sh2) (p0 : Option Addr) (b off cap : Nat) (L : List Nd) (s : List Nat) (hs : checkC L = 0 → Items L 0 s) (tol ext : Int) (w : World) (hS : ShIn w P g off2 S) (hN : NIn w p0 b off cap L) :
    Calls Tryz.prog 31 #[.slice p0 L.length cap, .agg P.arr, .int .i64 tol, .int .i64 ext] w fun e w' => e = .returned (.int .i64 (tryE P S L s tol ext)) ∧ Below w.heap.size w w' := by
  have hb0 : Below w.heap.size w (w.alloc (.cells P.arr 27)) := (Below.refl _ _).alloc (Nat.le_refl _) _
  have d0 : PAt (w.alloc (.cells P.arr 27)) w.heap.size P := heap_alloc_new w _
  have HBo := Lib.hid (q9both P g off2 S p0 cap L s _ (hS.below hb0) fun W hb => q9paragraph p0 b off cap L s hs W ((hN.below hb0).below hb))
  obtain ⟨r, hr⟩ : ∃ r, tryE P S L s tol ext = r := ⟨_, rfl⟩
  have HR := Lib.hid hr
  rw [hr]
  obtain ⟨E, hE⟩ : ∃ E, opE P S L s = E := ⟨_, rfl⟩
  have HE := Lib.hid hE
  rw [hE] at HBo
  clear hs hS hN hE hr
  go_enter Tryz.func31, Tryz.ntmps31
  go_upto_region 1 with (fail)
  obtain ⟨X0, hX0⟩ : ∃ X0, w.heap.size = X0 := ⟨_, rfl⟩
  rw [hX0] at d0 ⊢
  generalize w.alloc (.cells P.arr 27) = w1 at hb0 d0 HBo ⊢
  have a0 : agg? w1 X0 0 24 = some P.arr := by rw [agg?_blk' d0 0 24 (by rw [Pm.size_arr]; decide)]; simp [Pm.arr, Pm.cells]
  have Hb0 := Lib.hid hb0
  clear hb0 d0 hX0
  by_cases h0 : E = 0
  · subst h0
    have hre : r = if tol < 0 ∨ ext < 0 ∨ 1073741823 < tol ∨ 1073741823 < ext then 11 else 0 := by rw [← HR.out]; unfold tryE; rw [if_pos HE.out]
    have HRe := Lib.hid hre
    clear hre HR
    go_upto_region 4 with (go_at_call 40; refine HBo.out.mono ?_; clear HBo; rintro e w2 ⟨rfl, hb2⟩)
    clear a0
    have HD1 := Lib.hid (q9dimen tol w2)
    have HD2 := Lib.hid (q9dimen ext w2)
    by_cases h1 : tol < 0
    · have h1' : decide (tol < 0) = true := decide_eq_true h1
      have hr2 : r = 11 := by rw [HRe.out, if_pos (.inl h1)]
      subst hr2
      clear HRe h1
      go_wp2_with fail
      go_ret
      exact ⟨rfl, Hb0.out.trans (hb2.mono Hb0.out.size)⟩
    · by_cases h2 : 1073741823 < tol
      · have hd : dimenB tol = false := by simp [dimenB]; omega
        have hr2 : r = 11 := by rw [HRe.out, if_pos (.inr (.inr (.inl h2)))]
        subst hr2
        have h1' : 0 ≤ tol := by omega
        rw [hd] at HD1
        clear HRe h1 h2 hd
        go_wp2_with (go_at_call 48; refine HD1.out.mono ?_; rintro e w5 ⟨rfl, rfl⟩)
        go_ret
        exact ⟨rfl, Hb0.out.trans (hb2.mono Hb0.out.size)⟩
      · have hd : dimenB tol = true := by simp [dimenB]; omega
        have h1' : 0 ≤ tol := by omega
        rw [hd] at HD1
        by_cases h3 : ext < 0
        · have h3' : decide (ext < 0) = true := decide_eq_true h3
          have hr2 : r = 11 := by rw [HRe.out, if_pos (.inr (.inl h3))]
          subst hr2
          clear HRe h1 h2 hd h3
          go_wp2_with (go_at_call 48; refine HD1.out.mono ?_; rintro e w5 ⟨rfl, rfl⟩)
          go_ret
          exact ⟨rfl, Hb0.out.trans (hb2.mono Hb0.out.size)⟩
        · have h3' : 0 ≤ ext := by omega
          by_cases h4 : 1073741823 < ext
          · have hd2 : dimenB ext = false := by simp [dimenB]; omega
            have hr2 : r = 11 := by rw [HRe.out, if_pos (.inr (.inr (.inr h4)))]
            subst hr2
            rw [hd2] at HD2
            clear HRe h1 h2 hd h3 h4 hd2
            go_wp2_with (first | (go_at_call_has 48 (Value.int IntKind.i64 tol); refine HD1.out.mono ?_; rintro e w5 ⟨rfl, rfl⟩) | (go_at_call_has 48 (Value.int IntKind.i64 ext); refine HD2.out.mono ?_; rintro e w5 ⟨rfl, rfl⟩))
            go_ret
            exact ⟨rfl, Hb0.out.trans (hb2.mono Hb0.out.size)⟩
          · have hd2 : dimenB ext = true := by simp [dimenB]; omega
            have hr2 : r = 0 := by rw [HRe.out, if_neg (by omega)]
            subst hr2
            rw [hd2] at HD2
            clear HRe h1 h2 hd h3 h4 hd2
            go_wp2_with (first | (go_at_call_has 48 (Value.int IntKind.i64 tol); refine HD1.out.mono ?_; rintro e w5 ⟨rfl, rfl⟩) | (go_at_call_has 48 (Value.int IntKind.i64 ext); refine HD2.out.mono ?_; rintro e w5 ⟨rfl, rfl⟩))
            go_ret
            exact ⟨rfl, Hb0.out.trans (hb2.mono Hb0.out.size)⟩
  · have hne : (E != 0) = true := by simpa using h0
    have hre : r = E := by rw [← HR.out]; unfold tryE; rw [if_neg (by rw [HE.out]; exact h0), HE.out]
    subst hre
    clear HR
    go_wp2_with (go_at_call 40; refine HBo.out.mono ?_; clear HBo; rintro e w2 ⟨rfl, hb2⟩)
    go_ret
    exact ⟨rfl, Hb0.out.trans (hb2.mono Hb0.out.size)⟩
/-- Places, its rows as lists that can be read -/
theorem places_read {w w' : World} {B : List (Nat × Int)} {e : Ending} (h : PlacesPost w B e w') : ∃ pv gv cv pu gu cu, e = .returned (.tuple #[.slice pv B.length cv, .slice pu B.length cu]) ∧ ZIn w' pv gv cv (atsI B) ∧ ZIn w' pu gu cu (pensI B) ∧ B.length ≤ cv ∧ B.length ≤ cu := by
  obtain ⟨v, u, rfl, hv, hu, _⟩ := h.out
  obtain ⟨pv, gv, cv, ev, lv, zv⟩ := zin_of hv
  obtain ⟨pu, gu, cu, eu, lu, zu⟩ := zin_of hu
  have ha : (atsI B).length = B.length := by simp [atsI]
  have hp : (pensI B).length = B.length := by simp [pensI]
  have c1 := zv.cap
  have c2 := zu.cap
  rw [ha] at ev c1
  rw [hp] at eu c2
  exact ⟨pv, gv, cv, pu, gu, cu, by rw [ev, eu], zv, zu, c1, c2⟩
theorem ats_cell {W : World} {p : Option Addr} {g c : Nat} {B : List (Nat × Int)} (h : ZIn W p g c (atsI B)) {k : Nat} {z : Nat × Int} (hz : B[k]? = some z) : p = some ⟨g, 0, none⟩ ∧ W.cell? ⟨g, k, none⟩ = some (.int .i64 z.1) := by
  have hk := (List.getElem?_eq_some_iff.1 hz).1
  have hkl : k < (atsI B).length := by simpa [atsI] using hk
  refine ⟨h.hp (by intro e; rw [e] at hkl; simp at hkl), ?_⟩
  rw [h.at_ k hkl]
  have : (atsI B)[k]? = some (z.1 : Int) := by unfold atsI; rw [List.getElem?_map, hz]; rfl
  rw [(List.getElem?_eq_some_iff.1 this).2]
theorem pens_cell {W : World} {p : Option Addr} {g c : Nat} {B : List (Nat × Int)} (h : ZIn W p g c (pensI B)) {k : Nat} {z : Nat × Int} (hz : B[k]? = some z) : p = some ⟨g, 0, none⟩ ∧ W.cell? ⟨g, k, none⟩ = some (.int .i64 z.2) := by
  have hk := (List.getElem?_eq_some_iff.1 hz).1
  have hkl : k < (pensI B).length := by simpa [pensI] using hk
  refine ⟨h.hp (by intro e; rw [e] at hkl; simp at hkl), ?_⟩
  rw [h.at_ k hkl]
  have : (pensI B)[k]? = some z.2 := by unfold pensI; rw [List.getElem?_map, hz]; rfl
  rw [(List.getElem?_eq_some_iff.1 this).2]
theorem takes_hit {x : Nat × Int} {r : List (Nat × Int)} {t : List Int} : takesW (x :: r) ((x.1 : Int) :: t) = takesW r t := by rw [takesW, if_pos rfl]
theorem takes_miss {x : Nat × Int} {r : List (Nat × Int)} {c : List Int} (h : ∀ y t, c = y :: t → y ≠ (x.1 : Int)) : takesW (x :: r) c = if x.2 ≤ -10000 then false else takesW r c := by
  cases c with
  | nil => rw [takesW]
  | cons y t => rw [takesW, if_neg (h y t rfl)]
set_option maxRecDepth 100000 in
set_option maxHeartbeats 8000000 in
theorem q9takes (P : Pm) (p0 : Option Addr) (b off cap : Nat) (L : List Nd) (hc : checkC L = 0) (s : List Nat) (hs : Items L 0 s) (c : List Int) (pc : Option Addr) (gc oc cc : Nat) (hcl : c.length ≤ 9223372036854775807) (w : World) (hN : NIn w p0 b off cap L) (hZ : ZOn w pc gc oc cc c) :
    Calls Tryz.prog 37 #[.slice p0 L.length cap, .agg P.arr, .slice pc c.length cc] w fun e w' => e = .returned (.bool (takesW (brkP L P s) c)) ∧ Below w.heap.size w w' := by
  have hb0 : Below w.heap.size w (w.alloc (.cells P.arr 27)) := (Below.refl _ _).alloc (Nat.le_refl _) _
  have d0 : PAt (w.alloc (.cells P.arr 27)) w.heap.size P := heap_alloc_new w _
  have HPl := Lib.hid (q9places P p0 b off cap L hc s hs _ (hN.below hb0))
  have hBn : (brkP L P s).length ≤ 2001 := by
    have := brkP_len (L := L) (P := P) (s := s)
    have := hs.len
    have := (checkC_zero hc).1
    omega
  have hcc := hZ.cap
  have HZ := Lib.hid hZ
  obtain ⟨BL, hBL⟩ : ∃ BL, brkP L P s = BL := ⟨_, rfl⟩
  rw [hBL] at HPl hBn ⊢
  obtain ⟨nc, hnc⟩ : ∃ nc, c.length = nc := ⟨_, rfl⟩
  rw [hnc] at hcl hcc ⊢
  have Hnc := Lib.hid hnc
  obtain ⟨R, hR⟩ : ∃ R, takesW BL c = R := ⟨_, rfl⟩
  rw [hR]
  have HR := Lib.hid hR
  clear hc hs hN hZ hBL hnc hR
  go_enter Tryz.func37, Tryz.ntmps37
  go_upto_region 1 with (fail)
  obtain ⟨X0, hX0⟩ : ∃ X0, w.heap.size = X0 := ⟨_, rfl⟩
  rw [hX0] at d0 ⊢
  generalize w.alloc (.cells P.arr 27) = w1 at hb0 d0 HPl ⊢
  have a0 : agg? w1 X0 0 24 = some P.arr := by rw [agg?_blk' d0 0 24 (by rw [Pm.size_arr]; decide)]; simp [Pm.arr, Pm.cells]
  have Hb0 := Lib.hid hb0
  clear hb0 d0 hX0
  go_upto_region 3 with (go_at_call 41; refine HPl.out.mono ?_; clear HPl; rintro e w2 hp; obtain ⟨pv, gv, cv, pu, gu, cu, rfl, zv, zu, k1, k2⟩ := places_read hp; have hb2 := hp.below; clear hp)
  clear a0
  have hb02 := Hb0.out.trans (hb2.mono Hb0.out.size)
  have HZ2 := Lib.hid (HZ.out.below hb02)
  have Hv := Lib.hid zv
  have Hu := Lib.hid zu
  have Hb2 := Lib.hid hb02
  obtain ⟨n, hn⟩ : ∃ n, BL.length = n := ⟨_, rfl⟩
  rw [hn] at hBn k1 k2
  simp only [hn]
  have Hn := Lib.hid hn
  clear zv zu hb2 hb02 hn HZ
  go_wp2_with fail
  go_loopg [9, 10] (n + 1) (fun gg t9 t10 wr => ∃ k j : Nat, gg = n + 1 - k ∧ k ≤ n ∧ j ≤ nc ∧ t9 = .int .i64 j ∧ t10 = .int .i64 k ∧ takesW (BL.drop k) (c.drop j) = R ∧ Below w2.heap.size w2 wr)
  case atStart => exact ⟨0, 0, rfl, Nat.zero_le _, Nat.zero_le _, rfl, rfl, by rw [List.drop_zero, List.drop_zero]; exact HR.out, Below.refl _ _⟩
  case round =>
    obtain ⟨k, j, rfl, hk, hj, rfl, rfl, hrn, hb⟩ := hrel
    have Hrn := Lib.hid hrn
    have HB := Lib.hid hb
    have hk0 : (0 : Int) ≤ (k : Int) := by omega
    have hj0 : (0 : Int) ≤ (j : Int) := by omega
    clear hrn hb HR
    by_cases hlt : k < n
    · have hk1 : (k : Int) < (n : Int) := by omega
      obtain ⟨z, hz⟩ : ∃ z, BL[k]? = some z := ⟨_, List.getElem?_eq_getElem (by rw [Hn.out]; exact hlt)⟩
      obtain ⟨rfl, cg2⟩ := ats_cell (Hv.out.below HB.out) hz
      obtain ⟨rfl, cg3⟩ := pens_cell (Hu.out.below HB.out) hz
      obtain ⟨a, q⟩ := z
      simp only at cg2 cg3
      have hdr : BL.drop k = (a, q) :: BL.drop (k + 1) := by
        have hk9 : k < BL.length := by rw [Hn.out]; exact hlt
        rw [List.drop_eq_getElem_cons hk9]
        congr 1
        exact (List.getElem?_eq_some_iff.1 hz).2
      have Hdr := Lib.hid hdr
      obtain ⟨mt, hmt⟩ : ∃ mt, (decide (j < nc) && (c.getD j 0 == (a : Int))) = mt := ⟨_, rfl⟩
      have Hmt := Lib.hid hmt
      have hlt2 : decide (k < n) = true := decide_eq_true hlt
      clear hz hdr hmt hlt
      go_upto_region 6 with (fail)
      go_cut [37] from 23 to 37 (fun s37 wx => s37 = .bool mt ∧ Below wr.heap.size wr wx)
      case first =>
        by_cases hjn : j < nc
        · have hj1 : (j : Int) < (nc : Int) := by omega
          have hj2 : decide (j < nc) = true := decide_eq_true hjn
          have hcz := HZ2.out.below HB.out
          have hjc : j < c.length := by rw [Hnc.out]; exact hjn
          have cj := hcz.at_ j hjc
          obtain rfl := hcz.hp (by intro e; rw [e] at hjc; simp at hjc)
          have e1 : (c[j] == (a : Int)) = mt := by rw [← Hmt.out]; simp [hjn, List.getElem?_eq_getElem hjc]
          generalize c[j] = y at cj e1
          clear hcz hjn hjc
          refine Rest.region follows ?_
          refine Rest.tame 15 (fun W => wr.drew = W) (by kernel_rfl) rfl ?_
          simp only [Nat.reduceSub, List.drop_zero, List.take_succ_cons, List.take_zero]
          iterate 15 first
            | (refine TW.cons_n rfl _ (by intro wT hT R hR K hK; simp only [Act.put, List.setIfInBounds_toArray, List.set_cons_zero, List.set_cons_succ] at hK; subst hT; have x1 : wr.drew.cell? ⟨gc, oc + j, none⟩ = some (.int .i64 y) := cj; have x2 : wr.drew.cell? ⟨gv, k, none⟩ = some (.int .i64 (a : Int)) := cg2; go_step; exact hK _ _ (hR _ rfl)) ?_; try simp only [Act.put, List.setIfInBounds_toArray, List.set_cons_zero, List.set_cons_succ])
            | (refine TW.skip_g _ _ _ rfl rfl rfl ?_; try simp only [Act.put, List.setIfInBounds_toArray, List.set_cons_zero, List.set_cons_succ])
            | (refine TW.skip_u _ _ _ rfl rfl rfl ?_; try simp only [Act.put, List.setIfInBounds_toArray, List.set_cons_zero, List.set_cons_succ])
            | (refine TW.cons_g _ _ _ rfl rfl rfl _ (by intro wT hT R hR K hK; simp only [Act.put, List.setIfInBounds_toArray, List.set_cons_zero, List.set_cons_succ] at hK; subst hT; have x1 : wr.drew.cell? ⟨gc, oc + j, none⟩ = some (.int .i64 y) := cj; have x2 : wr.drew.cell? ⟨gv, k, none⟩ = some (.int .i64 (a : Int)) := cg2; go_step; exact hK _ _ (hR _ rfl)) ?_; try simp only [Act.put, List.setIfInBounds_toArray, List.set_cons_zero, List.set_cons_succ])
          refine TW.nil fun w9 h9 => ?_
          subst h9
          refine Rest.done ?_
          go_wp2_with fail
          go_meet
          exact ⟨rfl, (Below.refl _ _).drew⟩
        · have hj2 : decide (j < nc) = false := decide_eq_false hjn
          have e1 : mt = false := by rw [← Hmt.out]; simp [hjn]
          subst e1
          clear hjn
          refine Rest.region follows ?_
          refine Rest.tame 15 (fun W => wr.drew = W) (by kernel_rfl) rfl ?_
          simp only [Nat.reduceSub, List.drop_zero, List.take_succ_cons, List.take_zero]
          iterate 15 first
            | (refine TW.cons_n rfl _ (by intro wT hT R hR K hK; simp only [Act.put, List.setIfInBounds_toArray, List.set_cons_zero, List.set_cons_succ] at hK; subst hT; go_step; exact hK _ _ (hR _ rfl)) ?_; try simp only [Act.put, List.setIfInBounds_toArray, List.set_cons_zero, List.set_cons_succ])
            | (refine TW.skip_g _ _ _ rfl rfl rfl ?_; try simp only [Act.put, List.setIfInBounds_toArray, List.set_cons_zero, List.set_cons_succ])
            | (refine TW.skip_u _ _ _ rfl rfl rfl ?_; try simp only [Act.put, List.setIfInBounds_toArray, List.set_cons_zero, List.set_cons_succ])
            | (refine TW.cons_g _ _ _ rfl rfl rfl _ (by intro wT hT R hR K hK; simp only [Act.put, List.setIfInBounds_toArray, List.set_cons_zero, List.set_cons_succ] at hK; subst hT; go_step; exact hK _ _ (hR _ rfl)) ?_; try simp only [Act.put, List.setIfInBounds_toArray, List.set_cons_zero, List.set_cons_succ])
          refine TW.nil fun w9 h9 => ?_
          subst h9
          refine Rest.done ?_
          go_wp2_with fail
          go_meet
          exact ⟨rfl, (Below.refl _ _).drew⟩
      case rest =>
        obtain ⟨rfl, hb5⟩ := hcut
        have hb25 := HB.out.trans (hb5.mono HB.out.size)
        cases hb9 : mt
        case true =>
          subst hb9
          have hm := Hmt.out
          simp only [Bool.and_eq_true, decide_eq_true_eq, beq_iff_eq] at hm
          obtain ⟨hjn, hca⟩ := hm
          have hjc : j < c.length := by rw [Hnc.out]; exact hjn
          have hcd : c.drop j = (a : Int) :: c.drop (j + 1) := by
            rw [List.drop_eq_getElem_cons hjc]
            congr 1
            rw [← hca]
            simp [List.getElem?_eq_getElem hjc]
          have Hr2 := Lib.hid (show takesW (BL.drop (k + 1)) (c.drop (j + 1)) = R by
            have := Hrn.out
            rw [Hdr.out, hcd] at this
            rw [← this]
            exact (takes_hit (x := (a, q))).symm)
          clear hca hcd hjc Hmt Hrn cg2 cg3
          go_wp2_with fail
          go_roundg (n + 1 - (k + 1))
          case measure => omega
          case rel => exact ⟨k + 1, j + 1, rfl, by omega, hjn, by go_num, by go_num, Hr2.out, hb25⟩
        case false =>
          subst hb9
          have hm : ∀ y t, c.drop j = y :: t → y ≠ (a : Int) := fun y t hyt e => by
            have hjc : j < c.length := by
              rcases Nat.lt_or_ge j c.length with h1 | h1
              · exact h1
              · rw [List.drop_eq_nil_of_le h1] at hyt; cases hyt
            rw [List.drop_eq_getElem_cons hjc] at hyt
            have h1 := Hmt.out
            have h2 : c.getD j 0 = (a : Int) := by
              rw [← e, ← (List.cons.inj hyt).1]
              simp [List.getElem?_eq_getElem hjc]
            rw [h2, show decide (j < nc) = true from decide_eq_true (by rw [← Hnc.out]; exact hjc)] at h1
            simp at h1
          have hms := takes_miss (x := (a, q)) (r := BL.drop (k + 1)) (c := c.drop j) hm
          have cg5 : wc.cell? ⟨gu, k, none⟩ = some (.int .i64 q) := cell_below9 cg3 hb5
          by_cases hq : q ≤ -10000
          · have hR2 : false = R := by
              have := Hrn.out
              rw [Hdr.out, hms, if_pos hq] at this
              exact this
            have hq2 : decide (q ≤ -10000) = true := decide_eq_true hq
            subst hR2
            clear hms hm hq
            go_wp2_with fail
            go_ret
            exact ⟨rfl, Hb2.out.trans (hb25.mono Hb2.out.size)⟩
          · have Hr2 := Lib.hid (show takesW (BL.drop (k + 1)) (c.drop j) = R by
              have := Hrn.out
              rw [Hdr.out, hms, if_neg hq] at this
              exact this)
            have hq2 : decide (q ≤ -10000) = false := decide_eq_false hq
            clear hms hm hq Hrn
            go_wp2_with fail
            go_roundg (n + 1 - (k + 1))
            case measure => omega
            case rel => exact ⟨k + 1, j, rfl, by omega, hj, rfl, by go_num, Hr2.out, hb25⟩
    · have hlt2 : decide (k < n) = false := decide_eq_false hlt
      have hkn : k = n := by omega
      have hdr : BL.drop k = [] := List.drop_eq_nil_of_le (by rw [Hn.out]; omega)
      have hR2 : decide (j = nc) = R := by
        have h1 := Hrn.out
        rw [hdr] at h1
        rw [← h1]
        by_cases hjn : j = nc
        · rw [List.drop_eq_nil_of_le (by rw [Hnc.out]; omega)]; simp [takesW, hjn]
        · have : c.drop j ≠ [] := by
            intro e
            have := congrArg List.length e
            rw [List.length_drop, Hnc.out] at this
            simp at this
            omega
          cases h3 : c.drop j with
          | nil => exact absurd h3 this
          | cons => simp [takesW, hjn]
      clear hlt hdr hkn Hrn
      by_cases hjn : j = nc
      · have h3 : ((j : Int) == (nc : Int)) = true := by rw [beq_iff_eq]; omega
        have h2 : (j == nc) = true := by simpa using hjn
        obtain rfl : true = R := by rw [← hR2]; simp [hjn]
        clear hjn hR2
        go_wp2_with fail
        go_ret
        exact ⟨rfl, Hb2.out.trans (HB.out.mono Hb2.out.size)⟩
      · have h3 : ((j : Int) == (nc : Int)) = false := by rw [beq_eq_false_iff_ne]; omega
        have h2 : (j == nc) = false := by simpa using hjn
        obtain rfl : false = R := by rw [← hR2]; simp [hjn]
        clear hjn hR2
        go_wp2_with fail
        go_ret
        exact ⟨rfl, Hb2.out.trans (HB.out.mono Hb2.out.size)⟩
end Go.Proofs.YtiijpbfkchokaaaGreat
