/-
  Layer 9: the law BreaksBest, walked.
-/
import Derived.Test.YtiijpbfkchokaaaG6
import Derived.Test.YtiijpbfkchokaaaG2
namespace Go.Proofs.Ytiijpbfkchokaaa
open Go.ChangeShapes Go.WideShapes Go.ChangeAt Go.RowKit
attribute [local go_sem ↓] Go.wp_at_zero Go.wp_at_succ
theorem ShIn.loose {w : World} {P : Pm} {g off2 : Nat} {S : List Sh2} (h : ShIn w P g off2 S) (x : Int) : ShIn w { P with loose := x } g off2 S := ⟨h.hp, h.hb, h.n, h.at_, h.cap, h.len⟩
/-- a row of numbers as a slice of numbers, whatever comes behind -/
theorem row_ints {w : World} {B n : Nat} {v : Value} {l : List Int} (h : w.ownsRow B 3 1 v n (ints l)) : ∃ p g c, v = .slice p l.length c ∧ n = l.length ∧ (l ≠ [] → g < w.heap.size) ∧ ZIn w p g c l := by
  obtain ⟨p, g, c, e1, e2, h3⟩ := zin_of h
  refine ⟨p, g, c, e1, e2, fun hne => ?_, h3⟩
  have h4 := h.lt
  rw [e1, h3.hp hne] at h4
  exact (h4 g rfl).2
theorem zin_still {w w' : World} {p : Option Addr} {g c : Nat} {l : List Int} (h : ZIn w p g c l) (hb : Below w.heap.size w w') : ZIn w' p g c l := h.below hb
set_option maxRecDepth 100000 in
set_option maxHeartbeats 8000000 in
theorem best9_walk (P : Pm) (g off2 : Nat) (S : List Sh2) (L : List Nd) (b off cap : Nat) (p0 : Option Addr) (tol ext : Int) (pt : Option Addr) (bt ot ct : Nat) (t : List Bool) (w : World) (hS : ShIn w P g off2 S) (hN : NIn w p0 b off cap L) (ht : BIn w pt bt ot ct t) :
    Calls Try.prog 4 #[.slice p0 L.length cap, .agg P.arr, .int .i64 tol, .int .i64 ext, .slice pt t.length ct] w fun e w' => e = .returned (.bool true) ∧ Below w.heap.size w w' := by
  obtain ⟨s, hs⟩ : ∃ s : List Nat, checkC L = 0 → Items L 0 s := ⟨itemsP L, fun h => itemsP_spec h⟩
  obtain ⟨X0, hX0⟩ : ∃ X0, w.heap.size = X0 := ⟨_, rfl⟩
  have hb0 : Below w.heap.size w (w.alloc (.cells P.arr 27)) := (Below.refl _ _).alloc (Nat.le_refl _) _
  have d0 : PAt (w.alloc (.cells P.arr 27)) X0 P := by rw [← hX0]; exact heap_alloc_new w _
  go_enter Try.func4, Try.ntmps4
  go_upto_region 1 with (fail)
  generalize w.alloc (.cells P.arr 27) = w1 at hb0 d0 ⊢
  have x8 : w1.cell? ⟨X0, 8, none⟩ = some (.int .i64 P.loose) := by rw [cell?_blk' d0]; rfl
  have f8 : w1.frozen? ⟨X0, 8, none⟩ = false := frozen_of_row w1 X0 8 _ _ d0
  go_upto_region 2 with (fail)
  have d2 : PAt (w1.setCell ⟨X0, 8, none⟩ (.int .i64 0)) X0 { P with loose := 0 } := by
    unfold PAt at *
    rw [heap_setCell_same _ _ _ _ _ _ d0, Pm.set8]
  have hb2 : Below w.heap.size w (w1.setCell ⟨X0, 8, none⟩ (.int .i64 0)) := hb0.setCell (p := ⟨X0, 8, none⟩) (by simp only; omega) _
  clear d0 hb0 x8 f8
  generalize w1.setCell ⟨X0, 8, none⟩ (.int .i64 0) = w2 at d2 hb2 ⊢
  have hS2 := (hS.below hb2).loose 0
  have hN2 := hN.below hb2
  have ht2 := ht.below hb2
  have Hb2 := Lib.hid (And.intro hb2 hX0)
  clear hS hN ht hb2 hX0
  obtain ⟨Q, hQ⟩ : ∃ Q : Pm, { P with loose := 0 } = Q := ⟨_, rfl⟩
  have hQl : Q.loose = 0 := by rw [← hQ]
  rw [hQ] at d2 hS2
  clear hQ
  have Hd : Hid (∀ W, Below w2.heap.size w2 W → agg? W X0 0 24 = some Q.arr) := Lib.hid fun W hb => by
    have h1 : PAt W X0 Q := (hb.block X0 (Array.getElem?_eq_some_iff.1 d2).1).trans d2
    rw [agg?_blk' h1 0 24 (by rw [Pm.size_arr]; decide)]; simp [Pm.arr, Pm.cells]
  have HLg : Hid (∀ W, Below w2.heap.size w2 W → Calls Try.prog 10 #[.slice p0 L.length cap, .agg Q.arr] W (LegalPost W Q L s (opE Q S L s))) := Lib.hid fun W hb => vLegal Q g off2 S L b off cap p0 s hs W (hS2.below hb) (hN2.below hb)
  have HCh : Hid (∀ W, Below w2.heap.size w2 W → Calls Try.prog 6 #[.slice p0 L.length cap, .agg Q.arr, .int .i64 tol, .int .i64 ext, .bool true] W (ChPost W (chR Q S L s tol ext true))) := Lib.hid fun W hb => vChoose Q g off2 S L b off cap p0 s hs tol ext true W (hS2.below hb) (hN2.below hb)
  have HCo : Hid (∀ W, Below w2.heap.size w2 W → ∀ c pc gc cc, c.length ≤ 100000000 → ZIn W pc gc cc c → Calls Try.prog 12 #[.slice p0 L.length cap, .agg Q.arr, .int .i64 tol, .int .i64 ext, .slice pc c.length cc] W (RowPost W (cstR Q S L s tol ext c))) := Lib.hid fun W hb c pc gc cc hc hz => vCost Q g off2 S L b off cap p0 s hs tol ext c pc gc cc hc W (hS2.below hb) (hN2.below hb) hz
  have HT : Hid (∀ W, Below w2.heap.size w2 W → BIn W pt bt ot ct t) := Lib.hid fun W hb => ht2.below hb
  have Hs := Lib.hid hs
  have a2 := Hd.out w2 (Below.refl _ _)
  have hQ9 := Lib.hid hQl
  clear d2 hS2 hN2 ht2 hs hQl
  obtain ⟨E, hE⟩ : ∃ E, opE Q S L s = E := ⟨_, rfl⟩
  obtain ⟨F, hF⟩ : ∃ F, tryE Q S L s tol ext = F := ⟨_, rfl⟩
  have HE := Lib.hid (And.intro hE hF)
  rw [hE] at HLg
  clear hE hF
  go_upto_region 3 with (go_at_call 10; refine (HLg.out w2 (Below.refl _ _)).mono ?_; rintro e w3 hp; obtain ⟨v, u, rfl, hv, hu, -⟩ := hp.good; have hb3 := hp.below; clear hp)
  have a3 := Hd.out w3 hb3
  have Hv := Lib.hid (And.intro hv (And.intro hu hb3))
  clear hv hu a2
  go_upto_region 4 with (go_at_call 6; refine (HCh.out w3 hb3).mono ?_; rintro e w4 hp; obtain ⟨v2, rfl, hrow⟩ := hp.out; have hb4 := hp.below; clear hp)
  have Hb4 := Lib.hid (And.intro hrow (And.intro hb4 (hb3.trans (hb4.mono hb3.size))))
  clear hrow hb4 hb3 a3
  by_cases hF0 : F = 0
  case neg =>
    have hr : chR Q S L s tol ext true = ([], 0, F) := by
      unfold chR
      rw [if_neg (by rw [HE.out.2]; exact hF0), HE.out.2]
    have h90 : F ≠ 90 := by rw [← HE.out.2]; exact (tryE_90 Q S L s tol ext).1
    have hrow := Hb4.out.1
    rw [hr] at hrow ⊢
    obtain ⟨po, co, rfl⟩ := owns_form hrow
    have hF9 : (F != 0) = true := by simpa using hF0
    have hF8 : (F != 90) = true := by simpa using h90
    have hF7 : (F == 90) = false := by simpa using h90
    have hbb := Hb2.out.1.trans (Hb4.out.2.2.mono Hb2.out.1.size)
    clear hr hrow hF0 h90
    simp only [List.length_nil]
    cases hE9 : (E != 0)
    all_goals
      go_wp2_with (first | (go_at_call 7; refine (num9_any _ _).mono ?_; rintro e w' ⟨rfl, rfl⟩) | (go_at_call 8; refine (knows9_any _).mono ?_; rintro e w' ⟨rfl, hbk⟩))
      go_ret
      exact ⟨rfl, hbb.trans (hbk.mono hbb.size)⟩
  subst hF0
  have hok := tryE_zero Hs.out HE.out.2
  obtain ⟨y, ls, hr, hy, hyb⟩ := choose_zero hok HE.out.2 hQ9.out
  obtain ⟨a, ms, ha, hat⟩ := way_some hok t
  have hE0 : E = 0 := by
    by_cases h : E = 0
    · exact h
    · have h1 := tryE_op (tol := tol) (ext := ext) (show opE Q S L s ≠ 0 by rw [HE.out.1]; exact h)
      rw [HE.out.2, HE.out.1] at h1
      exact h1.symm
  subst hE0
  obtain ⟨BL, hBL⟩ : ∃ BL, brkP L Q s = BL := ⟨_, rfl⟩
  have hBn : BL.length ≤ 3000 := by
    rw [← hBL]
    have := brkP_len (L := L) (P := Q) (s := s)
    have := hok.items.len
    have := (checkC_zero hok.chk).1
    omega
  have hvr := Hv.out.1
  have hur := Hv.out.2.1
  rw [if_pos rfl, hBL] at hvr hur
  obtain ⟨pa, ga, ca, rfl, -, -, hza⟩ := row_ints hvr
  obtain ⟨pq, gq, cq, rfl, -, -, hzq⟩ := row_ints hur
  have hla : (atsI BL).length = BL.length := by simp [atsI]
  have hlq : (pensI BL).length = BL.length := by simp [pensI]
  rw [hla, hlq]
  have hrow := Hb4.out.1
  rw [hr] at hrow ⊢
  try simp only at hrow
  try simp only
  obtain ⟨po, co, rfl⟩ := owns_form hrow
  have hc1 := cost_of HE.out.2 ha
  have hc2 := cost_of HE.out.2 hy
  rw [hat, hBL] at hc1
  have hll := hy.len
  have hlm := ha.len
  have hsl : (someW BL t).length ≤ 3000 := by have := someW_len BL t; omega
  have hlw := leastW_of hyb.path ha.path (hyb.best a ms ha.path)
  have Hk := Lib.hid (And.intro hok (And.intro hy (And.intro ha (And.intro hc1 (And.intro hc2 hlw)))))
  have Hz := Lib.hid (And.intro hza (And.intro hzq hrow))
  have Hsl := Lib.hid hsl
  clear hok hy ha hyb hat hc1 hc2 hlw hvr hur hza hzq hrow hla hlq hr Hv hBL hsl
  go_upto_region 6 with (first | (go_at_call 7; refine (num9_any _ _).mono ?_; rintro e w' ⟨rfl, rfl⟩) | (go_at_call 8; refine (knows9_any _).mono ?_; rintro e w5 ⟨rfl, hbk⟩))
  have hb45 : Below w2.heap.size w2 w5 := Hb4.out.2.2.trans (hbk.mono Hb4.out.2.2.size)
  have hb34 := Hb4.out.2.1
  have hza5 : ZIn w5 pa ga ca (atsI BL) := zin_still (zin_still Hz.out.1 hb34) hbk
  have hzq5 : ZIn w5 pq gq cq (pensI BL) := zin_still (zin_still Hz.out.2.1 hb34) hbk
  have HSo := Lib.hid (vsome BL hBn pa ga ca pq gq cq pt bt ot ct t w5 hza5 hzq5 (HT.out w5 hb45))
  have hrow5 := ownsRow_below Hz.out.2.2 hbk
  have H5 := Lib.hid (And.intro hb45 hrow5)
  have a5 := Hd.out w5 hb45
  clear hza5 hzq5 hb45 hb34 hrow5 hbk Hz
  go_upto_region 7 with (go_at_call 11; refine HSo.out.mono ?_; clear HSo; rintro e w6 ⟨v6, rfl, hrow6, hb6⟩)
  obtain ⟨p6, g6, c6, rfl, -, -, hz6⟩ := row_ints hrow6
  have hb26 := H5.out.1.trans (hb6.mono H5.out.1.size)
  have HC6 := Lib.hid (HCo.out w6 hb26 (someW BL t) p6 g6 c6 (by have := Hsl.out; omega) hz6)
  have a6 := Hd.out w6 hb26
  have H6 := Lib.hid (And.intro hb26 (ownsRow_below H5.out.2 hb6))
  clear hrow6 hz6 hb26 hb6 a5 H5
  go_upto_region 9 with (go_at_call 12; refine HC6.out.mono ?_; clear HC6; rintro e w7 hp; rw [Hk.out.2.2.2.1] at hp; obtain ⟨v7, rfl, hrow7⟩ := hp.out; have hb7 := hp.below; clear hp)
  have hb27 := H6.out.1.trans (hb7.mono H6.out.1.size)
  try simp only at hrow7
  have H7 := Lib.hid (And.intro hb27 (And.intro (ownsRow_below H6.out.2 hb7) hrow7))
  clear hb27 hb7 hrow7 a6 H6
  obtain ⟨n, hn⟩ : ∃ n, ls.length = n := ⟨_, rfl⟩
  have Hn := Lib.hid hn
  try simp only
  rw [hn] at hll ⊢
  clear hn
  obtain ⟨C1, hC1⟩ : ∃ C1, w7.heap.size = C1 := ⟨_, rfl⟩
  have HC1 := Lib.hid hC1
  obtain ⟨i0, hi0', hz0, hz1, hz2'⟩ := info_parts info_intb
  clear hC1
  go_wp2_with fail
  go_loopg [20, 21] (n + 1) (fun gg t20 t21 wr => ∃ k : Nat, gg = n + 1 - k ∧ k ≤ n ∧ t21 = .int .i64 k ∧ wr.ownsRow C1 3 1 t20 k (ints ((ls.map Bk.at_).take k)) ∧ Below C1 w7 wr)
  case atStart => exact ⟨0, rfl, Nat.zero_le _, rfl, World.ownsRow_nil _ _ _ _, Below.refl _ _⟩
  case round =>
    obtain ⟨k, rfl, hk, rfl, hrk, hbk⟩ := hrel
    have hk0 : (0 : Int) ≤ (k : Int) := by omega
    have hb7r : Below w7.heap.size w7 wr := by rw [HC1.out]; exact hbk
    by_cases hlt : k < n
    · have hk1 : (k : Int) < (n : Int) := by omega
      have hlt2 : decide (k < n) = true := decide_eq_true hlt
      have hkl : k < ls.length := by rw [Hn.out]; exact hlt
      obtain ⟨g2, c2, e2, hcc, -, ak⟩ := bk_row9 (i := k) (ownsRow_below H7.out.2.1 hb7r) hkl
      rw [Hn.out] at e2 hcc
      cases e2
      have htk : (ls.map Bk.at_).take (k + 1) = (ls.map Bk.at_).take k ++ [ls[k].at_] := by
        rw [List.take_add_one, List.getElem?_map, List.getElem?_eq_getElem hkl]; rfl
      have Htk := Lib.hid htk
      generalize ls[k] = x at ak htk Htk
      have cx : wr.cell? ⟨g2, k * 6, none⟩ = some (.int .i64 x.at_) := by have h1 := agg_cell ak 0 (.int .i64 x.at_) rfl; rwa [Nat.add_zero] at h1
      obtain ⟨pr, cr, rfl⟩ := owns_form hrk
      have Hrow := Lib.hid (hrk.alloc (.cells #[.int .i64 x.at_] 3))
      have hbase : C1 ≤ (wr.alloc (.cells #[.int .i64 x.at_] 3)).heap.size := by rw [World.size_alloc, ← HC1.out]; have := hb7r.size; omega
      have H1 : Hid (∀ u ∈ [Value.int .i64 x.at_], u.oneCell' = true) := Lib.hid (by simp [Value.oneCell'])
      have hqq : Hid (∀ q, (Value.slice pr k cr).ownBlock = some q → C1 ≤ q) := Lib.hid fun q hq => (hrk.lt q hq).1
      have Hbb := Lib.hid (hbk.trans (((Below.refl wr.heap.size wr).alloc (Nat.le_refl _) (.cells #[.int .i64 x.at_] 3)).mono (by rw [← HC1.out]; exact hb7r.size)))
      clear ak hrk hbk hb7r htk hkl hlt
      go_upto_region 11 with (at_builtin; refine wpList_append_lies _ rfl (.tmp 84) (.tmp 90) 40 rfl C1 3 i0 (.int .i64 0) 1 8 Try.underlying40 hi0' hz0 hz1 hz2' rfl (by decide) (.slice pr k cr) k (ints ((ls.map Bk.at_).take k)) rfl Hrow.out ⟨wr.heap.size, 0, none⟩ 1 1 [.int .i64 x.at_] rfl rfl (World.news_of_block (cs := #[.int .i64 x.at_]) (heap_alloc_new _ _)) H1.out (by decide) (by unfold maxLen; omega) (by omega) hbase _ rfl ?_; intro g9 cap9 w9 hown9 hgrow9 hat9 hlt9)
      have HF : Hid (w9.ownsRow C1 3 1 (.slice (some ⟨g9, 0, none⟩) (k + 1) cap9) (k + 1) (ints ((ls.map Bk.at_).take (k + 1))) ∧ Below C1 w7 w9) := Lib.hid ⟨by
        rw [Htk.out]
        have e1 : ∀ q : List Int, ints (q ++ [x.at_]) = ints q ++ [.int .i64 x.at_] := fun q => by unfold ints; rw [List.map_append]; rfl
        rw [e1]
        exact hown9, Hbb.out.trans (grown_below hgrow9 hbase hqq.out)⟩
      clear hown9 hgrow9 hat9 hlt9 Hrow H1 hqq Hbb hbase cx Htk
      go_wp2_with fail
      go_roundg (n + 1 - (k + 1))
      case measure => omega
      case rel => exact ⟨k + 1, rfl, by omega, by go_num, HF.out.1, HF.out.2⟩
    · have hkn : k = n := by omega
      subst hkn
      have hlt2 : decide (k < k) = false := decide_eq_false (by omega)
      have hown : (ls.map Bk.at_).take k = natsI y.ats := by
        rw [← Hk.out.2.1.ats, List.take_of_length_le (by rw [List.length_map, Hn.out]; exact Nat.le_refl _)]
      rw [hown] at hrk
      obtain ⟨p8, g8, c8, rfl, -, -, hz8⟩ := row_ints hrk
      have hbr := H7.out.1.trans (hb7r.mono H7.out.1.size)
      have hnl : (natsI y.ats).length = k := by rw [← hown, List.length_take, List.length_map, Hn.out]; omega
      have hC8 := HCo.out wr hbr (natsI y.ats) p8 g8 c8 (by omega) hz8
      rw [hnl] at hC8 ⊢
      have HC8 := Lib.hid hC8
      have a8 := Hd.out wr hbr
      have H8 := Lib.hid (And.intro hbr (And.intro (ownsRow_below H7.out.2.1 hb7r) (ownsRow_below H7.out.2.2 hb7r)))
      clear hrk hbk hz8 hbr hb7r hlt hown hC8 hnl
      go_upto_region 14 with (go_at_call 12; refine HC8.out.mono ?_; clear HC8; rintro e w9 hp; rw [Hk.out.2.2.2.2.1] at hp; obtain ⟨v9, rfl, hrow9⟩ := hp.out; have hb9 := hp.below; clear hp)
      try simp only at hrow9
      have H9 := Lib.hid (And.intro (H8.out.1.trans (hb9.mono H8.out.1.size)) (And.intro (ownsRow_below H8.out.2.1 hb9) (And.intro (ownsRow_below H8.out.2.2 hb9) hrow9)))
      obtain ⟨p9, c9, rfl⟩ := owns_form hrow9
      rw [Hn.out]
      clear hb9 hrow9 H8 a8
      go_upto_region 16 with (first | (go_at_call 7; refine (num9_any _ _).mono ?_; rintro e w' ⟨rfl, rfl⟩) | (go_at_call 8; refine (knows9_any _).mono ?_; rintro e w5 ⟨rfl, hbk⟩))
      have HA : Hid (∀ i (hi : i < ls.length), (∃ g2, po = some ⟨g2, 0, none⟩ ∧ k ≤ co ∧ ∀ m, agg? (w9.drewN m) g2 (i * 6) 6 = some ls[i].arr) ∧ ∃ g2, p9 = some ⟨g2, 0, none⟩ ∧ k ≤ c9 ∧ ∀ m, agg? (w9.drewN m) g2 (i * 6) 6 = some ls[i].arr) := Lib.hid fun i hi => by
        obtain ⟨q1, r1, e1, l1, -, a1⟩ := bk_row9 (i := i) H9.out.2.1 hi
        obtain ⟨q2, r2, e2, l2, -, a2⟩ := bk_row9 (i := i) H9.out.2.2.2 hi
        rw [Hn.out] at e1 l1 e2 l2
        cases e1
        cases e2
        exact ⟨⟨q1, rfl, l1, fun m => a1⟩, ⟨q2, rfl, l2, fun m => a2⟩⟩
      go_wp2_with fail
      go_loopg [24] (k + 1) (fun gg t24 wr => ∃ (i m : Nat), gg = k + 1 - i ∧ i ≤ k ∧ t24 = .int .i64 i ∧ wr = w9.drewN m)
      case atStart => exact ⟨0, 0, rfl, Nat.zero_le _, rfl, rfl⟩
      case round =>
        obtain ⟨i, m, rfl, hi, rfl, rfl⟩ := hrel
        have hi0 : (0 : Int) ≤ (i : Int) := by omega
        by_cases hlt : i < k
        · have hi1 : (i : Int) < (k : Int) := by omega
          have hlt3 : decide (i < k) = true := decide_eq_true hlt
          have hil : i < ls.length := by rw [Hn.out]; exact hlt
          obtain ⟨⟨q1, e1, l1, A1⟩, ⟨q2, e2, l2, A2⟩⟩ := HA.out i hil
          subst e1
          subst e2
          generalize ls[i] = x at A1 A2
          have HA1 := Lib.hid A1
          have HA2 := Lib.hid A2
          clear A1 A2 hlt hil
          go_upto_region 19 with (fail)
          refine Rest.region follows ?_
          refine Rest.tame 9 (fun W => ∃ k, W = w9.drewN k) (by kernel_rfl) (by first | exact isd ⟨_, rfl⟩ | exact isd ⟨0, rfl⟩) ?_
          simp only [Nat.reduceSub, List.drop_zero, List.take_succ_cons, List.take_zero]
          iterate 9 first
            | (refine TW.cons_n rfl _ (by intro wT hT R hR K hK; simp only [Act.put, List.setIfInBounds_toArray, List.set_cons_zero, List.set_cons_succ] at hK; obtain ⟨nt, rfl⟩ := hT; have ya := HA1.out nt; have yb := HA2.out nt; go_step; exact hK _ _ (hR _ ⟨_, rfl⟩)) ?_; try simp only [Act.put, List.setIfInBounds_toArray, List.set_cons_zero, List.set_cons_succ])
          refine TW.nil fun w10 h10 => ?_
          obtain ⟨n10, rfl⟩ := h10
          refine Rest.done ?_
          go_wp2_with fail
          go_roundg (k + 1 - (i + 1))
          case measure => omega
          case rel => exact ⟨i + 1, _, rfl, by omega, by go_num, rfl⟩
        · have hik : i = k := by omega
          subst hik
          have hlt3 : decide (i < i) = false := decide_eq_false (by omega)
          have hbd : Below w9.heap.size w9 (w9.drewN m) := below_drewN_refl _ _ _
          have hw1 := vweigh _ _ ls Hk.out.2.1.bk (by rw [Hn.out]; omega) (w9.drewN m) (ownsRow_below H9.out.2.1 hbd)
          have hr2 := ownsRow_below H9.out.2.2.1 hbd
          have hw2 : ∀ W, Below (w9.drewN m).heap.size (w9.drewN m) W → _ := fun W hb => vweigh _ _ ms Hk.out.2.2.1.bk (by omega) W (ownsRow_below hr2 hb)
          rw [Hn.out] at hw1
          have HW1 := Lib.hid hw1
          have HW2 := Lib.hid hw2
          have hbb := Hb2.out.1.trans ((H9.out.1.trans (hbd.mono H9.out.1.size)).mono Hb2.out.1.size)
          have Hbb := Lib.hid hbb
          clear hw1 hw2 hr2 hbb hbd hlt
          go_wp2_with fail
          refine HW1.out.mono ?_
          rintro e w10 ⟨rfl, hb10⟩
          go_wp2_with fail
          refine (HW2.out w10 hb10).mono ?_
          rintro e w11 ⟨rfl, hb11⟩
          go_wp2_with fail
          refine (vleast (i3W (weighW ls)) (i3W (weighW ms)) w11).mono ?_
          rintro e w12 ⟨rfl, hb12⟩
          have hle : leastW ((i3W (weighW ls)).a, (i3W (weighW ls)).b, (i3W (weighW ls)).c) ((i3W (weighW ms)).a, (i3W (weighW ms)).b, (i3W (weighW ms)).c) = true := Hk.out.2.2.2.2.2
          rw [hle]
          have hbz := Hbb.out.trans (((hb10.trans (hb11.mono hb10.size)).trans (hb12.mono (Nat.le_trans hb10.size hb11.size))).mono Hbb.out.size)
          go_wp2_with fail
          go_ret
          exact ⟨rfl, hbz⟩
end Go.Proofs.Ytiijpbfkchokaaa
