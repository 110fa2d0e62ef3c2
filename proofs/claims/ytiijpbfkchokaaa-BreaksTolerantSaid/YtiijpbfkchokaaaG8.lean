/-
  Layer 9: the law BreaksTolerant, walked.
-/
import Derived.Test.YtiijpbfkchokaaaG7
namespace Go.Proofs.Ytiijpbfkchokaaa
open Go.ChangeShapes Go.WideShapes Go.ChangeAt Go.RowKit
attribute [local go_sem ↓] Go.wp_at_zero Go.wp_at_succ
theorem oneB_over (P : Pm) (tol : Int) (T : Tt) (w q : Int) (df dt de : Bool) (to_ before : Int) : (oneB P tol T w q df dt de to_ before).over = (if 10000 < (judP T w).1 then T.nat - w - T.h0 else 0) ∧ (oneB P tol T w q df dt de to_ before).cls = (judP T w).2 ∧ (oneB P tol T w q df dt de to_ before).bad = (judP T w).1 ∧ (oneB P tol T w q df dt de to_ before).isBad = decide (tol < (judP T w).1 ∨ 10000 < (judP T w).1) := by
  unfold oneB
  by_cases h : tol < (judP T w).1 ∨ 10000 < (judP T w).1
  · simp only [if_pos h, decide_eq_true h, true_and]
  · simp only [if_neg h, decide_eq_false h, true_and]
theorem oneB_eq (P : Pm) (t1 t2 : Int) (T : Tt) (w q : Int) (df dt de : Bool) (to_ before : Int) (h : (oneB P t1 T w q df dt de to_ before).isBad = (oneB P t2 T w q df dt de to_ before).isBad) : oneB P t1 T w q df dt de to_ before = oneB P t2 T w q df dt de to_ before := by
  have h1 := (oneB_over P t1 T w q df dt de to_ before).2.2.2
  have h2 := (oneB_over P t2 T w q df dt de to_ before).2.2.2
  rw [h1, h2, decide_eq_decide] at h
  unfold oneB
  by_cases h3 : t1 < (judP T w).1 ∨ 10000 < (judP T w).1
  · simp only [if_pos h3, if_pos (h.1 h3)]
  · simp only [if_neg h3, if_neg (fun e => h3 (h.2 e))]
theorem tols_of (L : List Nd) (P : Pm) (S : List Sh2) (s : List Nat) (t1 t2 ext : Int) (h : t1 ≤ t2) : Tols t1 (oneP L P S s t1 ext) (oneP L P S s t2 ext) := by
  refine ⟨fun f x line before => ?_, fun f x line before => ?_, fun f x line before hb => ?_, fun f x line before hb => ?_, fun f x line before hb => ?_⟩
  · unfold oneP
    rw [(oneB_over P t1 _ _ _ _ _ _ _ _).1, (oneB_over P t2 _ _ _ _ _ _ _ _).1]
  · unfold oneP
    rw [(oneB_over P t1 _ _ _ _ _ _ _ _).2.1, (oneB_over P t2 _ _ _ _ _ _ _ _).2.1]
  · unfold oneP at hb ⊢
    rw [(oneB_over P t2 _ _ _ _ _ _ _ _).2.2.2, decide_eq_true_eq] at hb
    rw [(oneB_over P t1 _ _ _ _ _ _ _ _).2.2.2, decide_eq_true_eq]
    omega
  · unfold oneP at hb ⊢
    exact oneB_eq _ _ _ _ _ _ _ _ _ _ _ hb
  · unfold oneP at hb ⊢
    rw [(oneB_over P t2 _ _ _ _ _ _ _ _).2.2.1] at hb
    refine oneB_eq _ _ _ _ _ _ _ _ _ _ _ ?_
    rw [(oneB_over P t1 _ _ _ _ _ _ _ _).2.2.2, (oneB_over P t2 _ _ _ _ _ _ _ _).2.2.2, decide_eq_decide]
    omega
theorem tryE_tol (P : Pm) (S : List Sh2) (L : List Nd) (s : List Nat) (t1 t2 ext : Int) (h1 : 0 ≤ t1 ∧ t1 ≤ 1073741823) (h2 : 0 ≤ t2 ∧ t2 ≤ 1073741823) : tryE P S L s t1 ext = tryE P S L s t2 ext := by
  unfold tryE
  have e : (t1 < 0 ∨ ext < 0 ∨ 1073741823 < t1 ∨ 1073741823 < ext) ↔ (t2 < 0 ∨ ext < 0 ∨ 1073741823 < t2 ∨ 1073741823 < ext) := by omega
  by_cases h : (t1 < 0 ∨ ext < 0 ∨ 1073741823 < t1 ∨ 1073741823 < ext)
  · rw [if_pos h, if_pos (e.1 h)]
  · rw [if_neg h, if_neg (fun q => h (e.2 q))]
theorem tm_bounds (x : Int) : -20000 < Int.tmod x 20000 ∧ Int.tmod x 20000 < 20000 := by
  have h1 := Int.tmod_lt_of_pos x (show (0 : Int) < 20000 by decide)
  have h2 := Int.lt_tmod_of_pos x (show (0 : Int) < 20000 by decide)
  omega
theorem tm_nonneg {x : Int} (h : 0 ≤ x) : 0 ≤ Int.tmod x 20000 := Int.tmod_nonneg 20000 h
/-- a number made small -/
def sm (x : Int) : Int := Int.tmod (Int.tmod x 20000 + 20000) 20000
theorem sm_bounds (x : Int) : 0 ≤ sm x ∧ sm x < 20000 := by
  have h1 := tm_bounds x
  have h2 := tm_bounds (Int.tmod x 20000 + 20000)
  have h3 := tm_nonneg (show (0 : Int) ≤ Int.tmod x 20000 + 20000 by omega)
  unfold sm
  omega
set_option maxRecDepth 100000 in
set_option maxHeartbeats 8000000 in
theorem tolerant9_walk (P : Pm) (g off2 : Nat) (S : List Sh2) (L : List Nd) (b off cap : Nat) (p0 : Option Addr) (tol more ext : Int) (w : World) (hS : ShIn w P g off2 S) (hN : NIn w p0 b off cap L) :
    Calls Try.prog 3 #[.slice p0 L.length cap, .agg P.arr, .int .i64 tol, .int .i64 more, .int .i64 ext] w fun e w' => e = .returned (.bool true) ∧ Below w.heap.size w w' := by
  obtain ⟨s, hs⟩ : ∃ s : List Nat, checkC L = 0 → Items L 0 s := ⟨itemsP L, fun h => itemsP_spec h⟩
  obtain ⟨X0, hX0⟩ : ∃ X0, w.heap.size = X0 := ⟨_, rfl⟩
  have hb0 : Below w.heap.size w (w.alloc (.cells P.arr 27)) := (Below.refl _ _).alloc (Nat.le_refl _) _
  have d0 : PAt (w.alloc (.cells P.arr 27)) X0 P := by rw [← hX0]; exact heap_alloc_new w _
  go_enter Try.func3, Try.ntmps3
  go_upto_region 1 with (fail)
  generalize w.alloc (.cells P.arr 27) = w1 at hb0 d0 ⊢
  have x8 : w1.cell? ⟨X0, 8, none⟩ = some (.int .i64 P.loose) := by rw [cell?_blk' d0]; rfl
  have f8 : w1.frozen? ⟨X0, 8, none⟩ = false := frozen_of_row w1 X0 8 _ _ d0
  go_upto_region 2 with (fail)
  have d2 : PAt (w1.setCell ⟨X0, 8, none⟩ (.int .i64 0)) X0 { P with loose := 0 } := by
    unfold PAt at *
    rw [heap_setCell_same _ _ _ _ _ _ d0, Pm.set8]
  have hb2 : Below w.heap.size w (w1.setCell ⟨X0, 8, none⟩ (.int .i64 0)) := hb0.setCell (p := ⟨X0, 8, none⟩) (by simp only; omega) _
  clear d0 hb0 x8 f8
  generalize w1.setCell ⟨X0, 8, none⟩ (.int .i64 0) = w2 at d2 hb2 ⊢
  have hS2 := (hS.below hb2).loose 0
  have hN2 := hN.below hb2
  have Hb2 := Lib.hid (And.intro hb2 hX0)
  clear hS hN hb2 hX0
  obtain ⟨Q, hQ⟩ : ∃ Q : Pm, { P with loose := 0 } = Q := ⟨_, rfl⟩
  have hQl : Q.loose = 0 := by rw [← hQ]
  rw [hQ] at d2 hS2
  clear hQ
  have Hd : Hid (∀ W, Below w2.heap.size w2 W → agg? W X0 0 24 = some Q.arr) := Lib.hid fun W hb => by
    have h1 : PAt W X0 Q := (hb.block X0 (Array.getElem?_eq_some_iff.1 d2).1).trans d2
    rw [agg?_blk' h1 0 24 (by rw [Pm.size_arr]; decide)]; simp [Pm.arr, Pm.cells]
  have HCh : Hid (∀ W, Below w2.heap.size w2 W → ∀ t, Calls Try.prog 6 #[.slice p0 L.length cap, .agg Q.arr, .int .i64 t, .int .i64 ext, .bool true] W (ChPost W (chR Q S L s t ext true))) := Lib.hid fun W hb t => vChoose Q g off2 S L b off cap p0 s hs t ext true W (hS2.below hb) (hN2.below hb)
  have Hs := Lib.hid hs
  have a2 := Hd.out w2 (Below.refl _ _)
  have hQ9 := Lib.hid hQl
  clear d2 hS2 hN2 hs hQl
  -- the two tolerances
  obtain ⟨t1, ht1⟩ : ∃ t1, sm tol = t1 := ⟨_, rfl⟩
  obtain ⟨m1, hm1⟩ : ∃ m1, sm more = m1 := ⟨_, rfl⟩
  have hb1 := sm_bounds tol
  have hb2 := sm_bounds more
  have hr1 := tm_bounds tol
  have hr2 := tm_bounds more
  rw [ht1] at hb1
  rw [hm1] at hb2
  unfold sm at ht1 hm1
  obtain ⟨r1, er1⟩ : ∃ r1, Int.tmod tol 20000 = r1 := ⟨_, rfl⟩
  obtain ⟨r2, er2⟩ : ∃ r2, Int.tmod more 20000 = r2 := ⟨_, rfl⟩
  rw [er1] at hr1 ht1
  rw [er2] at hr2 hm1
  have hw1 : IntKind.i64.wrap (r1 + 20000) = r1 + 20000 := Go.IntWalk.i64_in _ (by omega)
  have hw2 : IntKind.i64.wrap (r2 + 20000) = r2 + 20000 := Go.IntWalk.i64_in _ (by omega)
  have hw3 : IntKind.i64.wrap (t1 + m1) = t1 + m1 := Go.IntWalk.i64_in _ (by omega)
  go_upto_region 4 with (fail)
  obtain ⟨t2, ht2⟩ : ∃ t2, t1 + m1 = t2 := ⟨_, rfl⟩
  have hb3 : 0 ≤ t2 ∧ t2 ≤ 1073741823 := by omega
  have hw4 : IntKind.i64.wrap (t1 + m1) = t2 := hw3.trans ht2
  have h12 : t1 ≤ t2 := by omega
  have HT := Lib.hid (And.intro hb1 (And.intro hb3 h12))
  obtain ⟨F, hF⟩ : ∃ F, tryE Q S L s t1 ext = F := ⟨_, rfl⟩
  have hF2 : tryE Q S L s t2 ext = F := by rw [← hF]; exact tryE_tol Q S L s t2 t1 ext hb3 (by omega)
  have HE := Lib.hid (And.intro hF hF2)
  clear hF hF2 hw1 hw2 hw3 ht1 hm1 er1 er2 hr1 hr2 hb2 ht2 hb3 h12
  go_upto_region 5 with (go_at_call 6; refine (HCh.out w2 (Below.refl _ _) t1).mono ?_; rintro e w3 hp; obtain ⟨v1, rfl, hrow1⟩ := hp.out; have hb3 := hp.below; clear hp)
  have a3 := Hd.out w3 hb3
  have H3 := Lib.hid (And.intro hrow1 hb3)
  have hb3' := Lib.hid hb3
  clear hrow1 hb3 a2
  go_upto_region 6 with (go_at_call 6; refine (HCh.out w3 hb3'.out t2).mono ?_; rintro e w4 hp; obtain ⟨v2, rfl, hrow2⟩ := hp.out; have hb4 := hp.below; clear hp)
  have H4 := Lib.hid (And.intro hrow2 (And.intro (hb3'.out.trans (hb4.mono hb3'.out.size)) (ownsRow_below H3.out.1 hb4)))
  clear hrow2 hb4 H3 hb3' a3 hw4
  by_cases hF0 : F = 0
  case neg =>
    have hr1 : chR Q S L s t1 ext true = ([], 0, F) := by
      unfold chR
      rw [if_neg (by rw [HE.out.1]; exact hF0), HE.out.1]
    have hr2 : chR Q S L s t2 ext true = ([], 0, F) := by
      unfold chR
      rw [if_neg (by rw [HE.out.2]; exact hF0), HE.out.2]
    rw [hr1, hr2]
    have hF9 : (F != 0) = true := by simpa using hF0
    have hF8 : (F == F) = true := by simp
    have hbb := Hb2.out.1.trans (H4.out.2.1.mono Hb2.out.1.size)
    clear hr1 hr2 hF0
    go_wp2_with (first | (go_at_call 7; refine (num9_any _ _).mono ?_; rintro e w' ⟨rfl, rfl⟩) | (go_at_call 8; refine (knows9_any _).mono ?_; rintro e w6 ⟨rfl, hbk⟩))
    go_ret
    exact ⟨rfl, hbb.trans (hbk.mono hbb.size)⟩
  subst hF0
  have hok1 := tryE_zero Hs.out HE.out.1
  have hok2 := tryE_zero Hs.out HE.out.2
  obtain ⟨y1, l1, hr1, hy1, hyb1⟩ := choose_zero hok1 HE.out.1 hQ9.out
  obtain ⟨y2, l2, hr2, hy2, hyb2⟩ := choose_zero hok2 HE.out.2 hQ9.out
  obtain ⟨e1, e2, e3⟩ := tolerant (brk_ok (P := Q) hok1.items) (tols_of L Q S s t1 t2 ext HT.out.2.2) hyb1 hyb2
  obtain ⟨s1, s2, _, _⟩ := hy1.path.sums
  obtain ⟨u1, u2, _, _⟩ := hy2.path.sums
  have f1 : (i3W (weighW l1)).a = (i3W (weighW l2)).a := by
    show (l1.map Bk.over).sum = (l2.map Bk.over).sum
    rw [← s1, ← u1]; exact e1
  have f2 : (i3W (weighW l2)).b ≤ (i3W (weighW l1)).b := by
    show (l2.map fun b => if b.isBad then (1 : Int) else 0).sum ≤ (l1.map fun b => if b.isBad then (1 : Int) else 0).sum
    rw [← s2, ← u2]; exact e2
  have hrow1 := H4.out.2.2
  have hrow2 := H4.out.1
  rw [hr1] at hrow1
  rw [hr2] at hrow2
  rw [hr1, hr2]
  try simp only at hrow1 hrow2
  try simp only
  obtain ⟨po1, co1, rfl⟩ := owns_form hrow1
  obtain ⟨po2, co2, rfl⟩ := owns_form hrow2
  have hl1 := hy1.len
  have hl2 := hy2.len
  have Hk := Lib.hid (And.intro hy1.bk (And.intro hy2.bk e3))
  have Hf := Lib.hid (And.intro f1 f2)
  have hb24 := H4.out.2.1
  obtain ⟨n1, hn1⟩ : ∃ n1, l1.length = n1 := ⟨_, rfl⟩
  obtain ⟨n2, hn2⟩ : ∃ n2, l2.length = n2 := ⟨_, rfl⟩
  have Hn := Lib.hid (And.intro hn1 hn2)
  have Hr := Lib.hid (And.intro hrow1 hrow2)
  rw [hn1] at hl1 ⊢
  rw [hn2] at hl2 ⊢
  clear hok1 hok2 hr1 hr2 hy1 hy2 hyb1 hyb2 e1 e2 e3 s1 s2 u1 u2 f1 f2 hrow1 hrow2 H4 hn1 hn2
  rename_i q1 q2 q3 q4
  clear q1 q2 q3 q4
  go_upto_region 8 with (first | (go_at_call 7; refine (num9_any _ _).mono ?_; rintro e w' ⟨rfl, rfl⟩) | (go_at_call 8; refine (knows9_any _).mono ?_; rintro e w6 ⟨rfl, hbk⟩))
  have hb46 := Lib.hid (And.intro hbk (hb24.trans (hbk.mono hb24.size)))
  have hw1 := vweigh _ _ l1 Hk.out.1 (by rw [Hn.out.1]; omega) w6 (ownsRow_below Hr.out.1 hbk)
  have hr2 := ownsRow_below Hr.out.2 hbk
  have HW2 : Hid (∀ W, Below w6.heap.size w6 W → Calls Try.prog 9 #[.slice po2 n2 co2] W fun e w' => e = .returned (.agg (i3W (weighW l2)).arr) ∧ Below W.heap.size W w') := Lib.hid fun W hb => by
    have h1 := vweigh _ _ l2 Hk.out.2.1 (by rw [Hn.out.2]; omega) W (ownsRow_below hr2 hb)
    rw [Hn.out.2] at h1
    exact h1
  rw [Hn.out.1] at hw1
  have HW1 := Lib.hid hw1
  clear hw1 hr2 hb24 hbk
  generalize i3W (weighW l1) = x at HW1 Hf
  generalize i3W (weighW l2) = z at HW2 Hf
  go_upto_region 9 with (go_at_call 9; refine HW1.out.mono ?_; clear HW1; rintro e w7 ⟨rfl, hb7⟩)
  obtain ⟨ZA, hZA⟩ : ∃ ZA, w7.heap.size = ZA := ⟨_, rfl⟩
  have hba := (Below.refl w7.heap.size w7).alloc (Nat.le_refl _) (.cells x.arr 34)
  have hx8 : I3At (w7.alloc (.cells x.arr 34)) ZA x := by rw [← hZA]; exact heap_alloc_new w7 _
  have hb8 := hb7.trans (hba.mono hb7.size)
  rw [hZA]
  clear hba hb7 hZA
  generalize w7.alloc (.cells x.arr 34) = w8 at hx8 hb8 ⊢
  have HX8 := Lib.hid (And.intro hx8 hb8)
  clear hx8
  go_upto_region 10 with (go_at_call 9; refine (HW2.out w8 hb8).mono ?_; rintro e w9 ⟨rfl, hb9⟩)
  obtain ⟨ZB, hZB⟩ : ∃ ZB, w9.heap.size = ZB := ⟨_, rfl⟩
  have hba := (Below.refl w9.heap.size w9).alloc (Nat.le_refl _) (.cells z.arr 34)
  have hz10 : I3At (w9.alloc (.cells z.arr 34)) ZB z := by rw [← hZB]; exact heap_alloc_new w9 _
  have hb10 := hb9.trans (hba.mono hb9.size)
  have hx10 : I3At (w9.alloc (.cells z.arr 34)) ZA x := (hb10.block ZA (Array.getElem?_eq_some_iff.1 HX8.out.1).1).trans HX8.out.1
  have hb6 := HX8.out.2.trans (hb10.mono HX8.out.2.size)
  rw [hZB]
  clear hba hb9 hZB hb10 hb8
  generalize w9.alloc (.cells z.arr 34) = w10 at hz10 hx10 hb6 ⊢
  have c1 : w10.cell? ⟨ZA, 0, none⟩ = some (.int .i64 x.a) := hx10.cell 0 _ rfl
  have c2 : w10.cell? ⟨ZB, 0, none⟩ = some (.int .i64 z.a) := hz10.cell 0 _ rfl
  have c3 : w10.cell? ⟨ZB, 1, none⟩ = some (.int .i64 z.b) := hz10.cell 1 _ rfl
  have c4 : w10.cell? ⟨ZA, 1, none⟩ = some (.int .i64 x.b) := hx10.cell 1 _ rfl
  have k1 : (x.a != z.a) = false := by simpa using Hf.out.1
  have k2 : decide (x.b < z.b) = false := decide_eq_false (by have := Hf.out.2; omega)
  have H10 := Lib.hid (And.intro (hb46.out.1.trans (hb6.mono hb46.out.1.size)) (hb46.out.2.trans (hb6.mono hb46.out.2.size)))
  clear hz10 hx10 hb6
  have hxz : x.a = z.a := Hf.out.1
  clear hxz
  go_upto_region 12 with (fail)
  clear c1 c2 c3 c4 k1 k2 HX8 HW2
  have Hr10 := Lib.hid (And.intro (ownsRow_below Hr.out.1 H10.out.1) (ownsRow_below Hr.out.2 H10.out.1))
  have HA : Hid (∀ i (hi : i < l2.length), ∃ g2, po2 = some ⟨g2, 0, none⟩ ∧ n2 ≤ co2 ∧ ∀ m, agg? (w10.drewN m) g2 (i * 6) 6 = some l2[i].arr) := Lib.hid fun i hi => by
    obtain ⟨q1, r1, e1, l1', -, a1⟩ := bk_row9 (i := i) Hr10.out.2 hi
    rw [Hn.out.2] at e1 l1'
    cases e1
    exact ⟨q1, rfl, l1', fun m => a1⟩
  have HA1 : Hid (∀ i (hi : i < l1.length), ∃ g2, po1 = some ⟨g2, 0, none⟩ ∧ n1 ≤ co1 ∧ ∀ m, agg? (w10.drewN m) g2 (i * 6) 6 = some l1[i].arr) := Lib.hid fun i hi => by
    obtain ⟨q1, r1, e1, l1', -, a1⟩ := bk_row9 (i := i) Hr10.out.1 hi
    rw [Hn.out.1] at e1 l1'
    cases e1
    exact ⟨q1, rfl, l1', fun m => a1⟩
  have Hend := Lib.hid (Hb2.out.1.trans (H10.out.2.mono Hb2.out.1.size))
  go_wp2_with fail
  go_loopg [19] (n2 + 1) (fun gg t19 wr => ∃ i : Nat, gg = n2 + 1 - i ∧ i ≤ n2 ∧ t19 = .int .i64 i ∧ (∀ x ∈ l2.take i, x.bad ≤ t1) ∧ wr = w10)
  case atStart => exact ⟨0, rfl, Nat.zero_le _, rfl, (fun x hx => by simp at hx), rfl⟩
  case round =>
    obtain ⟨i, rfl, hi, rfl, hle, rfl⟩ := hrel
    have hi0 : (0 : Int) ≤ (i : Int) := by omega
    by_cases hlt : i < n2
    · have hi1 : (i : Int) < (n2 : Int) := by omega
      have hlt2 : decide (i < n2) = true := decide_eq_true hlt
      have hil : i < l2.length := by rw [Hn.out.2]; exact hlt
      obtain ⟨q1, e1, lc, A1⟩ := HA.out i hil
      subst e1
      have htk : l2.take (i + 1) = l2.take i ++ [l2[i]] := by
        rw [List.take_add_one, List.getElem?_eq_getElem hil]; rfl
      generalize l2[i] = y at A1 htk
      have cb : wr.cell? ⟨q1, i * 6 + 1, none⟩ = some (.int .i64 y.bad) := agg_cell (A1 0) 1 _ rfl
      by_cases hq : t1 < y.bad
      · have hq2 : decide (t1 < y.bad) = true := decide_eq_true hq
        clear hle htk A1 hil hlt hq
        go_wp2_with fail
        go_ret
        exact ⟨rfl, Hend.out⟩
      · have hq2 : decide (t1 < y.bad) = false := decide_eq_false hq
        have Hle : Hid (∀ x ∈ l2.take (i + 1), x.bad ≤ t1) := Lib.hid fun x hx => by
          rw [htk] at hx
          rcases List.mem_append.1 hx with h | h
          · exact hle x h
          · rw [List.mem_singleton.1 h]; omega
        clear hle htk A1 hil hlt hq
        go_wp2_with fail
        go_roundg (n2 + 1 - (i + 1))
        case measure => omega
        case rel => exact ⟨i + 1, rfl, by omega, by go_num, Hle.out, rfl⟩
    · have hin : i = n2 := by omega
      subst hin
      have hlt2 : decide (i < i) = false := decide_eq_false (by omega)
      have heq : l1 = l2 := Hk.out.2.2 (fun x hx => hle x (by rw [List.take_of_length_le (by rw [Hn.out.2]; exact Nat.le_refl _)]; exact hx))
      have hnn : n1 = i := by rw [← Hn.out.1, heq]; exact Hn.out.2
      subst heq
      subst hnn
      have hnn2 : ((n1 : Int) != (n1 : Int)) = false := by simp
      clear hle hlt
      obtain ⟨WW, hWW⟩ : ∃ WW, WW = wr := ⟨_, rfl⟩
      subst hWW
      go_wp2_with fail
      go_loopg [20] (n1 + 1) (fun gg t20 wr2 => ∃ (j m : Nat), gg = n1 + 1 - j ∧ j ≤ n1 ∧ t20 = .int .i64 j ∧ wr2 = WW.drewN m)
      case atStart => exact ⟨0, 0, rfl, Nat.zero_le _, rfl, rfl⟩
      case round =>
        obtain ⟨j, m, rfl, hj, rfl, rfl⟩ := hrel
        have hj0 : (0 : Int) ≤ (j : Int) := by omega
        by_cases hlt : j < n1
        · have hj1 : (j : Int) < (n1 : Int) := by omega
          have hlt3 : decide (j < n1) = true := decide_eq_true hlt
          have hjl : j < l1.length := by rw [Hn.out.1]; exact hlt
          obtain ⟨q1, e1, lc1, A1⟩ := HA1.out j hjl
          obtain ⟨q2, e2, lc2, A2⟩ := HA.out j hjl
          subst e1
          subst e2
          generalize l1[j] = y at A1 A2
          have HA1' := Lib.hid A1
          have HA2' := Lib.hid A2
          clear A1 A2 hlt hjl
          go_upto_region 22 with (fail)
          refine Rest.region follows ?_
          refine Rest.tame 9 (fun W => ∃ k, W = WW.drewN k) (by kernel_rfl) (by first | exact isd ⟨_, rfl⟩ | exact isd ⟨0, rfl⟩) ?_
          simp only [Nat.reduceSub, List.drop_zero, List.take_succ_cons, List.take_zero]
          iterate 9 first
            | (refine TW.cons_n rfl _ (by intro wT hT R hR K hK; simp only [Act.put, List.setIfInBounds_toArray, List.set_cons_zero, List.set_cons_succ] at hK; obtain ⟨nt, rfl⟩ := hT; have ya := HA1'.out nt; have yb := HA2'.out nt; go_step; exact hK _ _ (hR _ ⟨_, rfl⟩)) ?_; try simp only [Act.put, List.setIfInBounds_toArray, List.set_cons_zero, List.set_cons_succ])
          refine TW.nil fun w11 h11 => ?_
          obtain ⟨n11, rfl⟩ := h11
          refine Rest.done ?_
          go_wp2_with fail
          go_roundg (n1 + 1 - (j + 1))
          case measure => omega
          case rel => exact ⟨j + 1, _, rfl, by omega, by go_num, rfl⟩
        · have hjk : j = n1 := by omega
          subst hjk
          have hlt3 : decide (j < j) = false := decide_eq_false (by omega)
          clear hlt
          go_wp2_with fail
          go_ret
          exact ⟨rfl, below_drewN Hend.out _⟩
end Go.Proofs.Ytiijpbfkchokaaa
