/-
  Inserts: how much of the page a size takes; classes by their numbers: the program's.
-/
import Derived.Test.YtaehkbbdmamfpaaGreatDoorC5
import Derived.Test.YtaehkbbdmamfpaaGreatDoorI1
import Derived.Laws.AppendOwnNone
set_option maxRecDepth 100000
set_option maxHeartbeats 2000000
namespace Go.Proofs.YtaehkbbdmamfpaaGreatDoor
open Go.ChangeShapes Go.WideShapes Go.ChangeAt Go.RowKit
attribute [local go_sem ↓] Go.wp_at_zero Go.wp_at_succ
theorem idimen_any (x : Int) (w : World) : Calls Tryz.prog 40 #[.int .i64 x] w fun e w' => e = .returned (.bool (dimenB x)) ∧ w = w' := by
  go_enter Tryz.func40, Tryz.ntmps40
  go_wp2
  all_goals go_ret
  all_goals exact ⟨by simp [dimenB]; omega, rfl⟩
theorem iheld_any (x : Int) (w : World) : Calls Tryz.prog 42 #[.int .i64 x] w fun e w' => e = .returned (.int .i64 (holdI x)) ∧ w = w' := by
  go_enter Tryz.func42, Tryz.ntmps42
  go_wp2
  all_goals go_ret
  all_goals exact ⟨ret_i1 (by unfold holdI; omega), rfl⟩
theorem ihuge_any (a b : Int) (w : World) : Calls Tryz.prog 43 #[.int .i64 a, .int .i64 b] w fun e w' => e = .returned (.int .i64 (hugeI a b)) ∧ w = w' := by
  cases ha : decide (a < 0) <;> cases hb : decide (b < 0)
  all_goals
    have hv := hugeI a b
    have Hv : Hid (hugeI a b = if decide (a < 0) = decide (b < 0) then 70368744177664 else -70368744177664) := Lib.hid rfl
    rw [ha, hb] at Hv
    go_enter Tryz.func43, Tryz.ntmps43
    go_wp2
    go_ret
    exact ⟨by rw [Hv.out]; rfl, rfl⟩
theorem tdiv_bound (x y : Int) (K : Int) (h1 : -K ≤ x) (h2 : x ≤ K) (hy : 1 ≤ y) : -K ≤ x.tdiv y ∧ x.tdiv y ≤ K := by
  have hk : 0 ≤ K := by omega
  rcases Int.le_total 0 x with h | h
  · have a1 : 0 ≤ x.tdiv y := Int.tdiv_nonneg h (by omega)
    have a2 : x.tdiv y ≤ x := Int.tdiv_le_self _ h
    omega
  · have e : x.tdiv y = -((-x).tdiv y) := by rw [Int.neg_tdiv, Int.neg_neg]
    have a1 : 0 ≤ (-x).tdiv y := Int.tdiv_nonneg (by omega) (by omega)
    have a2 : (-x).tdiv y ≤ -x := Int.tdiv_le_self _ (by omega)
    omega
theorem mul_small (q k t v : Int) (hq : max q (-q) ≤ t) (ht : (70368744177664 : Int).tdiv v = t) (hv : max k (-k) = v) (h1 : 1 ≤ v) : wrap64 (q * k) = q * k := by
  rw [Int.tdiv_eq_ediv_of_nonneg (by omega)] at ht
  have h2 : t * v ≤ 70368744177664 := by rw [← ht]; exact Int.ediv_mul_le _ (by omega)
  have key : ∀ u : Int, 0 ≤ u → u ≤ t → 0 ≤ u * v ∧ u * v ≤ 70368744177664 := fun u h0 h3 =>
    ⟨Int.mul_nonneg h0 (by omega), Int.le_trans (Int.mul_le_mul_of_nonneg_right h3 (by omega)) h2⟩
  have hb : -70368744177664 ≤ q * k ∧ q * k ≤ 70368744177664 := by
    rcases Int.le_total 0 q with hq0 | hq0 <;> rcases Int.le_total 0 k with hk0 | hk0
    · have := key q hq0 (by omega)
      rw [show v = k by omega] at this
      omega
    · have := key q hq0 (by omega)
      rw [show v = -k by omega, Int.mul_neg] at this
      omega
    · have := key (-q) (by omega) (by omega)
      rw [show v = k by omega, Int.neg_mul] at this
      omega
    · have := key (-q) (by omega) (by omega)
      rw [show v = -k by omega, Int.neg_mul_neg] at this
      omega
  unfold wrap64
  omega
theorem iscaled_any (x k : Int) (h1 : -4611686018427387904 ≤ x) (h2 : x ≤ 4611686018427387904) (k1 : -4611686018427387904 ≤ k) (k2 : k ≤ 4611686018427387904) (w : World) :
    Calls Tryz.prog 19 #[.int .i64 x, .int .i64 k] w fun e w' => e = .returned (.int .i64 (scalI x k)) ∧ w = w' := by
  by_cases hk : k = 1000
  · subst hk
    have hv := Lib.hid (show scalI x 1000 = holdI x by unfold scalI; rw [if_pos rfl])
    go_enter Tryz.func19, Tryz.ntmps19
    go_wp2_with (go_at_call 42; refine (iheld_any _ _).mono ?_; rintro e w' ⟨rfl, rfl⟩)
    go_ret
    exact ⟨ret_i1 hv.out.symm, rfl⟩
  have hk' : (k == 1000) = false := by simpa using hk
  have hq := tdiv_bound x 1000 4611686018427387904 h1 h2 (by omega)
  have hv : scalI x k = (if x.tdiv 1000 = 0 ∨ k = 0 then 0 else
    if 70368744177664 < x.tdiv 1000 ∨ x.tdiv 1000 < -70368744177664 ∨ 70368744177664 < k ∨ k < -70368744177664 then hugeI (x.tdiv 1000) k else
    if (70368744177664 : Int).tdiv (max k (-k)) < max (x.tdiv 1000) (-(x.tdiv 1000)) then hugeI (x.tdiv 1000) k else holdI (x.tdiv 1000 * k)) := by
    unfold scalI; rw [if_neg hk]
  obtain ⟨q, hqq⟩ : ∃ q, x.tdiv 1000 = q := ⟨_, rfl⟩
  rw [hqq] at hq hv
  obtain ⟨q1, q2⟩ := hq
  have hw : wrap64 q = q := by unfold wrap64; omega
  have hqx : wrap64 (x.tdiv 1000) = q := by rw [hqq, hw]
  have Hv := Lib.hid hv
  clear hv
  go_enter Tryz.func19, Tryz.ntmps19
  go_upto_region 4 with (fail)
  have hq0 : (q == 0) = decide (q = 0) := rfl
  by_cases e1 : q = 0
  · have hv1 := Lib.hid (show scalI x k = 0 by rw [Hv.out, if_pos (.inl e1)])
    have e1' : (q == 0) = true := by simpa using e1
    clear hqq hqx hw
    go_wp2_with fail
    go_ret
    exact ⟨ret_i1 hv1.out.symm, rfl⟩
  have e1' : (q == 0) = false := by simpa using e1
  by_cases e2 : k = 0
  · have hv1 := Lib.hid (show scalI x k = 0 by rw [Hv.out, if_pos (.inr e2)])
    have e2' : (k == 0) = true := by simpa using e2
    clear hqq hqx hw e2
    go_wp2_with fail
    all_goals
      go_ret
      exact ⟨ret_i1 hv1.out.symm, rfl⟩
  have e2' : (k == 0) = false := by simpa using e2
  rw [if_neg (by omega)] at Hv
  by_cases b : 70368744177664 < q ∨ q < -70368744177664 ∨ 70368744177664 < k ∨ k < -70368744177664
  · have hv1 := Lib.hid (show scalI x k = hugeI q k by rw [Hv.out, if_pos b])
    have hways : 70368744177664 < q ∨ (¬ 70368744177664 < q ∧ q < -70368744177664) ∨ (¬ 70368744177664 < q ∧ ¬ q < -70368744177664 ∧ 70368744177664 < k) ∨ (¬ 70368744177664 < q ∧ ¬ q < -70368744177664 ∧ ¬ 70368744177664 < k ∧ k < -70368744177664) := by omega
    clear hqq hqx hw b hq0
    rcases hways with b1 | ⟨b1, b2⟩ | ⟨b1, b2, b3⟩ | ⟨b1, b2, b3, b4⟩
    all_goals
      go_wp2_with (go_at_call 43; refine (ihuge_any _ _ _).mono ?_; rintro e w' ⟨rfl, rfl⟩)
      go_ret
      exact ⟨ret_i1 hv1.out.symm, rfl⟩
  rw [if_neg b] at Hv
  obtain ⟨u, hu⟩ : ∃ u, max q (-q) = u := ⟨_, rfl⟩
  obtain ⟨v, hv⟩ : ∃ v, max k (-k) = v := ⟨_, rfl⟩
  rw [hu, hv] at Hv
  have b1 : ¬ 70368744177664 < q := by omega
  have b2 : ¬ q < -70368744177664 := by omega
  have b3 : ¬ 70368744177664 < k := by omega
  have b4 : ¬ k < -70368744177664 := by omega
  clear b hq0
  go_upto_region 8 with (fail)
  have hu1 : 1 ≤ u ∧ u ≤ 70368744177664 := by omega
  have hv1 : 1 ≤ v ∧ v ≤ 70368744177664 := by omega
  go_cut [6, 7] from 37 to 44 (fun s6 s7 wx => s6 = .int .i64 u ∧ s7 = .int .i64 v ∧ w = wx)
  case first =>
    have hways : (q < 0 ∧ k < 0) ∨ (q < 0 ∧ ¬ k < 0) ∨ (¬ q < 0 ∧ k < 0) ∨ (¬ q < 0 ∧ ¬ k < 0) := by omega
    clear hqq hqx hw Hv e1' e2' hk' hk
    go_wp2_with fail
    all_goals
      go_meet
      exact ⟨by congr 1; omega, by congr 1; omega, rfl⟩
  case rest =>
    obtain ⟨rfl, rfl, rfl⟩ := hcut
    have ht := tdiv_bound 70368744177664 v 70368744177664 (by omega) (by omega) (by omega)
    have htv : wrap64 ((70368744177664 : Int).tdiv v) = (70368744177664 : Int).tdiv v := by unfold wrap64; omega
    have hv0 : (v == 0) = false := by simp; omega
    obtain ⟨t, htt⟩ : ∃ t, (70368744177664 : Int).tdiv v = t := ⟨_, rfl⟩
    rw [htt] at Hv htv
    have Htt := Lib.hid htt
    by_cases hlt : t < u
    · have hvv := Lib.hid (show scalI x k = hugeI q k by rw [Hv.out, if_pos hlt])
      clear Hv hu hv
      go_wp2_with (go_at_call 43; refine (ihuge_any _ _ _).mono ?_; rintro e w' ⟨rfl, rfl⟩)
      go_ret
      exact ⟨ret_i1 hvv.out.symm, rfl⟩
    · have hvv := Lib.hid (show scalI x k = holdI (q * k) by rw [Hv.out, if_neg hlt])
      have hm := Lib.hid (mul_small q k t v (by omega) htt hv hv1.1)
      clear Hv hu hv
      go_wp2_with (go_at_call 42; refine (iheld_any _ _).mono ?_; rintro e w' ⟨rfl, rfl⟩)
      go_ret
      exact ⟨ret_i1 (by rw [hvv.out, hm.out]), rfl⟩
end Go.Proofs.YtaehkbbdmamfpaaGreatDoor
namespace Go.Proofs.YtaehkbbdmamfpaaGreatDoor
open Go.ChangeShapes Go.WideShapes Go.ChangeAt Go.RowKit
attribute [local go_sem ↓] Go.wp_at_zero Go.wp_at_succ
/-! ### Plain -/
theorem top_kinds {L : List Nd} {s : List Nat} (hc : checkC L = 0) (hs : Items L 0 s) {x : Nat} (hx : x ∈ s) : (nth L x).kind ≠ 6 ∧ (nth L x).kind ≠ 11 := by
  obtain ⟨_, d, _, hr⟩ := checkC_zero hc
  obtain ⟨d1, h1⟩ := items_run2 hs (by rw [List.drop_zero]; exact hr) x hx
  have hlt := (hs.lt x hx).2
  rw [List.drop_eq_getElem_cons hlt] at h1
  unfold runC at h1
  split at h1
  · obtain ⟨⟨X, d2⟩, h2, _⟩ := Option.bind_eq_some_iff.1 h1
    rw [nth_get hlt]
    exact (stepC_len h2).2 rfl
  · cases h1
theorem opens_two {L : List Nd} {x m : Nat} (hlt : x < L.length) (ho : opensK (nth L x).kind = true) (hm : behC (L.drop x) 0 = some m) : 2 ≤ m := by
  rw [List.drop_eq_getElem_cons hlt, behC, ← nth_get hlt] at hm
  have hb : behN (nth L x).kind 0 = 1 := by unfold behN; rw [if_pos ho]; rfl
  rw [hb, if_neg (by decide)] at hm
  obtain ⟨k, hk, rfl⟩ := Option.map_eq_some_iff.1 hm
  have := behC_pos _ _ _ hk
  omega
theorem insP_eq {L : List Nd} {x m : Nat} (hm : behC (L.drop x) 0 = some m) : insP L x = sl L (x + 1) (m - 2) := by unfold insP; rw [hm]; rfl
theorem insP_len {L : List Nd} {x m : Nat} (hm : behC (L.drop x) 0 = some m) (h2 : 2 ≤ m) : (insP L x).length = m - 2 := by
  have hp := behC_pos _ _ _ hm
  rw [List.length_drop] at hp
  rw [insP_eq hm, sl_len (by omega)]
theorem its_of {L : List Nd} (h : checkC L = 0) : Items L 0 (itsP L) := by
  obtain ⟨s, hs⟩ := items_of_check h
  rw [itsP_eq hs]
  exact hs
theorem colQ_check {L : List Nd} (h : colQ L = 0) : checkC L = 0 := colP_check h
theorem insP_le {L : List Nd} (x : Nat) : (insP L x).length ≤ L.length := by unfold insP sl; simp; omega
theorem owns_sl {w : World} {base : Nat} {e : TypeId} {size : Nat} {v : Value} {n : Nat} {xs : List Value} (h : w.ownsRow base e size v n xs) : ∃ p k c, v = .slice p k c := by
  obtain ⟨p, c, e⟩ := owns_form h
  exact ⟨p, _, c, e⟩
/-! ### The program's -/
theorem item9 (p0 : Option Addr) (b off cap : Nat) (L : List Nd) (s : List Nat) (hc : checkC L = 0) (hs : Items L 0 s) (x m : Nat) (hx : x ∈ s) (hm : behC (L.drop x) 0 = some m) (w : World) (hN : NIn w p0 b off cap L) :
    Calls Tryz.prog 30 #[.slice p0 L.length cap, .int .i64 x] w fun e w' => e = .returned (.tuple #[.int .i64 ((x + m : Nat) : Int), .int .i64 0]) ∧ Below w.heap.size w w' := by
  have hlt := (hs.lt x hx).2
  obtain ⟨k6, k11⟩ := top_kinds hc hs hx
  have HC := Lib.hid (check_any p0 b off cap L w hN)
  rw [hc] at HC
  have HB : Hid (∀ W, Below w.heap.size w W → Calls Tryz.prog 57 #[.slice p0 L.length cap, .int .i64 x] W fun e w' => e = .returned (.bool true) ∧ W = w') := Lib.hid fun W hb => begins_any p0 b off cap L x hlt k6 k11 W (hN.below hb)
  have HE : Hid (∀ W, Below w.heap.size w W → Calls Tryz.prog 58 #[.slice p0 L.length cap, .int .i64 x] W fun e w' => e = .returned (.int .i64 ((x + m : Nat) : Int)) ∧ Below W.heap.size W w') := Lib.hid fun W hb => end9 p0 b off cap L x m W (hN.below hb) hm
  clear hc hs hx hm hN hlt k6 k11
  go_enter Tryz.func30, Tryz.ntmps30
  go_wp2_with fail
  refine HC.out.mono ?_
  clear HC
  rintro e w2 ⟨rfl, hb2⟩
  have HB2 := Lib.hid (HB.out _ hb2)
  have HE2 := Lib.hid (HE.out _ hb2)
  clear HB HE
  go_wp2_with (first | (go_at_call 57; refine HB2.out.mono ?_; rintro e w3 ⟨rfl, rfl⟩) | (go_at_call 58; refine HE2.out.mono ?_; rintro e w4 ⟨rfl, hb4⟩))
  go_ret2
  exact ⟨rfl, hb2.trans (hb4.mono hb2.size)⟩
theorem copied9 (b off cap : Nat) (X : List Nd) (hX : X.length ≤ 2000) (w : World) (hN : NIn w (some ⟨b, off, none⟩) b off cap X) :
    Calls Tryz.prog 106 #[.slice (some ⟨b, off, none⟩) X.length cap] w fun e w' => (∃ v, e = .returned v ∧ NRow w v X w') ∧ Below w.heap.size w w' := by
  obtain ⟨i0, hi0', hz0, hz1, hz2⟩ := info_parts info_node
  have hnil : w.ownsRow w.heap.size 53 19 (.slice none 0 0) 0 [] := World.ownsRow_nil _ _ _ _
  have Hn := Lib.hid (And.intro hN.news (nodes_one X))
  clear hN
  go_enter Tryz.func106, Tryz.ntmps106
  go_wp2_with (at_builtin; refine wpList_append_own _ rfl _ _ _ rfl w.heap.size 53 i0 (.agg Nd.zero.arr) 19 160 Tryz.underlying22 hi0' hz0 hz1 hz2 rfl (by decide) (.slice none 0 0) 0 [] rfl hnil ⟨b, off, none⟩ X.length cap (X.flatMap Nd.cells) rfl (flat_len X) Hn.out.1 Hn.out.2 (by unfold maxLen; omega) (by omega) (Nat.le_refl _) ?_; intro v7 w7 hown7 hgrow7 _)
  go_ret
  refine ⟨⟨v7, rfl, ?_⟩, (Below.refl _ _).grown hgrow7 (Nat.le_refl _) (fun q hq => by cases hq)⟩
  unfold NRow
  simpa using hown7
theorem inside9 (p0 : Option Addr) (b off cap : Nat) (L : List Nd) (s : List Nat) (hc : checkC L = 0) (hs : Items L 0 s) (x : Nat) (hx : x ∈ s) (hk : (nth L x).kind = 13) (w : World) (hN : NIn w p0 b off cap L) :
    Calls Tryz.prog 56 #[.slice p0 L.length cap, .int .i64 x] w fun e w' => (∃ v, e = .returned (.tuple #[v, .int .i64 0]) ∧ NRow w v (insP L x) w') ∧ Below w.heap.size w w' := by
  have hlt := (hs.lt x hx).2
  have hll := (checkC_zero hc).1
  obtain ⟨k6, k11⟩ := top_kinds hc hs hx
  obtain ⟨m, hm⟩ := hs.at_ x hx
  have ho : opensK (nth L x).kind = true := by rw [hk]; decide
  have h2 := opens_two hlt ho hm
  have hp := behC_pos _ _ _ hm
  rw [List.length_drop] at hp
  have hil := insP_len hm h2
  have HC := Lib.hid (check_any p0 b off cap L w hN)
  rw [hc] at HC
  have HB : Hid (∀ W, Below w.heap.size w W → Calls Tryz.prog 57 #[.slice p0 L.length cap, .int .i64 x] W fun e w' => e = .returned (.bool true) ∧ W = w') := Lib.hid fun W hb => begins_any p0 b off cap L x hlt k6 k11 W (hN.below hb)
  have HE : Hid (∀ W, Below w.heap.size w W → Calls Tryz.prog 58 #[.slice p0 L.length cap, .int .i64 x] W fun e w' => e = .returned (.int .i64 ((x + m : Nat) : Int)) ∧ Below W.heap.size W w') := Lib.hid fun W hb => end9 p0 b off cap L x m W (hN.below hb) hm
  have HO : Hid (∀ W, Calls Tryz.prog 47 #[.agg (nth L x).arr] W fun e w' => e = .returned (.bool true) ∧ Below W.heap.size W w') := Lib.hid fun W => by have := opens_any (nth L x) W; rwa [ho] at this
  have HA : Hid (∀ W, Below w.heap.size w W → agg? W b (off + x * 19) 19 = some (nth L x).arr) := Lib.hid fun W hb => (hN.below hb).nth hlt
  have HY : Hid (∀ W, Below w.heap.size w W → NIn W (some ⟨b, off + (x + 1) * 19, none⟩) b (off + (x + 1) * 19) (cap - (x + 1)) (insP L x)) := Lib.hid fun W hb => by
    have h1 := ((hN.below hb).drop (x + 1) (by omega)).take (m - 2)
    rw [hN.at_ hlt] at h1
    rw [insP_eq hm]
    exact h1
  have hx1 : (0 : Int) ≤ (x : Int) := by omega
  have hx2 : (x : Int) < (L.length : Int) := by omega
  have hx3 : (x : Int) ≤ 2000 := by omega
  have hcp := hN.cap'
  obtain rfl := hN.at_ hlt
  obtain ⟨X, hX⟩ : ∃ X, insP L x = X := ⟨_, rfl⟩
  rw [hX] at HY hil
  have HXX := Lib.hid hX
  generalize nth L x = n at HO HA
  clear hc hs hx hm hN hlt k6 k11 hk ho hX
  go_enter Tryz.func56, Tryz.ntmps56
  go_wp2_with fail
  refine HC.out.mono ?_
  clear HC
  rintro e w2 ⟨rfl, hb2⟩
  have HB2 := Lib.hid (HB.out _ hb2)
  have a2 := HA.out _ hb2
  have HE2 := Lib.hid (fun (W : World) (h : Below w2.heap.size w2 W) => HE.out W (hb2.trans (h.mono hb2.size)))
  have HO2 := Lib.hid (HO.out w2)
  clear HB HE HO
  have hm2 : (2 : Int) ≤ (m : Int) := by omega
  have hxm : (x : Int) + (m : Int) ≤ (L.length : Int) := by omega
  go_wp2_with (first | (go_at_call 57; refine HB2.out.mono ?_; rintro e w3 ⟨rfl, rfl⟩) | (go_at_call 47; refine HO2.out.mono ?_; rintro e w4 ⟨rfl, hb4⟩) | (go_at_call 58; refine (HE2.out _ hb4).mono ?_; rintro e w5 ⟨rfl, hb5⟩))
  have hz : x + m - 1 - (x + 1) = X.length := by rw [hil]; omega
  rw [hz]
  have hb35 := hb2.trans ((hb4.trans (hb5.mono hb4.size)).mono hb2.size)
  refine (copied9 b _ _ X (by omega) w5 (HY.out w5 hb35)).mono ?_
  rintro e w6 ⟨⟨v, rfl, hv⟩, hb6⟩
  go_wp2_with fail
  go_ret2
  rw [HXX.out]
  exact ⟨⟨v, rfl, nrow_base hv hb35.size⟩, hb35.trans (hb6.mono hb35.size)⟩
end Go.Proofs.YtaehkbbdmamfpaaGreatDoor
