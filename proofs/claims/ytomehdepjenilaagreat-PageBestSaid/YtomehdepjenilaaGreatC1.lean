/-
  Badness, of numbers that are not far: the program's and the document's.
-/
import Derived.Test.YtomehdepjenilaaGreatH2
import Derived.Test.YtomehdepjenilaaGreatQ1
set_option maxRecDepth 100000
set_option maxHeartbeats 4000000
namespace Go.Proofs.YtomehdepjenilaaGreat
open Go.ChangeShapes Go.WideShapes Go.ChangeAt Go.RowKit
theorem vfar_no (x : Int) (w : World) (h1 : -2147483647 ≤ x) (h2 : x ≤ 2147483647) : Calls Tryz.prog 178 #[.int .i64 x] w fun e w' => e = .returned (.bool false) ∧ w = w' := by
  go_enter Tryz.func178, Tryz.ntmps178
  go_wp2
  all_goals go_ret
  all_goals exact ⟨ret_bool (by simp; omega), rfl⟩
theorem anyFar2 (f : Nat → Int) (Y : Nat) (w : World) (h0 : ∀ k, k < 2 → w.cell? ⟨Y, k, none⟩ = some (.int .i64 (f k)) ∧ -2147483647 ≤ f k ∧ f k ≤ 2147483647) :
    Calls Tryz.prog 166 #[.slice (some ⟨Y, 0, none⟩) 2 2] w fun e w' => e = .returned (.bool false) ∧ w = w' := by
  have H := Lib.hid h0
  clear h0
  go_enter Tryz.func166, Tryz.ntmps166
  go_wp2_with fail
  go_loopg [7] 3 (fun gg t7 wr => ∃ k : Nat, gg = 3 - k ∧ k ≤ 2 ∧ t7 = .int .i64 k ∧ w = wr)
  case atStart => exact ⟨0, rfl, by omega, rfl, rfl⟩
  case round =>
    obtain ⟨k, rfl, hk, rfl, rfl⟩ := hrel
    have hk1 : (0 : Int) ≤ (k : Int) := by omega
    by_cases hlt : k < 2
    · have hk2 : (k : Int) < 2 := by omega
      obtain ⟨x1, x2, x3⟩ := H.out k hlt
      generalize f k = y at x1 x2 x3
      go_wp2_with (go_at_call 178; refine (vfar_no _ _ x2 x3).mono ?_; rintro e w' ⟨rfl, rfl⟩)
      go_roundg (3 - (k + 1))
      case measure => omega
      case rel => exact ⟨k + 1, rfl, hlt, by go_num, rfl⟩
    · have hk2 : (2 : Int) ≤ (k : Int) := by omega
      go_wp2_with fail
      go_ret
      exact ⟨rfl, rfl⟩
theorem cells2 {W : World} {Y : Nat} {x y : Value} {t : TypeId} (h : W.heap[Y]? = some (.cells #[x, y] t (0, 0))) : W.cell? ⟨Y, 0, none⟩ = some x ∧ W.cell? ⟨Y, 1, none⟩ = some y := by
  constructor <;> simp [World.cell?, h]
theorem two_near {W : World} {Y : Nat} {x y : Int} {t : TypeId} (h : W.heap[Y]? = some (.cells #[.int .i64 x, .int .i64 y] t (0, 0))) (h1 : -2147483647 ≤ x ∧ x ≤ 2147483647) (h2 : -2147483647 ≤ y ∧ y ≤ 2147483647) :
    ∀ k, k < 2 → W.cell? ⟨Y, k, none⟩ = some (.int .i64 (if k = 0 then x else y)) ∧ -2147483647 ≤ (if k = 0 then x else y) ∧ (if k = 0 then x else y) ≤ 2147483647 := by
  intro k hk
  obtain ⟨a, b⟩ := cells2 h
  match k, hk with
  | 0, _ => exact ⟨a, h1⟩
  | 1, _ => exact ⟨b, h2⟩
def badR (t s : Int) : Int := if t ≤ 7230584 then t * 297 / s else if 1663497 ≤ s then t / (s / 297) else t
def badP (t s : Int) : Int := if t = 0 then 0 else if s < 1 then 10000 else if 1290 < badR t s then 10000 else (badR t s * badR t s * badR t s + 131072) / 262144
theorem cube_le (r : Int) (h0 : 0 ≤ r) (h1 : r ≤ 1290) : 0 ≤ r * r ∧ r * r ≤ 1664100 ∧ 0 ≤ r * r * r ∧ r * r * r ≤ 2146689000 := by
  have a := Int.mul_nonneg h0 h0
  have b : r * r ≤ 1290 * 1290 := Int.mul_le_mul h1 h1 h0 (by decide)
  have c := Int.mul_nonneg a h0
  have d : r * r * r ≤ 1290 * 1290 * 1290 := Int.mul_le_mul b h1 h0 (by decide)
  omega
theorem wrap_in (x : Int) (h0 : 0 ≤ x) (h1 : x ≤ 9000000000000000000) : wrap64 x = x := by
  unfold wrap64
  omega
theorem bad_hi (t s : Int) (ht : 0 < t) (hs : 1 ≤ s) (h : 1290 < badR t s) : badP t s = 10000 := by
  simp only [badP, if_neg (show t ≠ 0 by omega), if_neg (show ¬ s < 1 by omega), if_pos h]
theorem bad_lo (t s : Int) {r : Int} (ht : 0 < t) (hs : 1 ≤ s) (hr : badR t s = r) (h0 : 0 ≤ r) (h : r ≤ 1290) : wrap64 (wrap64 (wrap64 (r * r) * r) + 131072) / 262144 = badP t s := by
  obtain ⟨a, b, c, d⟩ := cube_le r h0 h
  simp only [badP, if_neg (show t ≠ 0 by omega), if_neg (show ¬ s < 1 by omega), hr, if_neg (show ¬ 1290 < r by omega)]
  rw [wrap_in (r * r) a (by omega), wrap_in (r * r * r) c (by omega), wrap_in _ (by omega) (by omega)]
theorem qfar_no (x : Int) (w : World) (h1 : -2147483647 ≤ x) (h2 : x ≤ 2147483647) : Calls Tryz.prog 83 #[.int .i64 x] w fun e w' => e = .returned (.bool false) ∧ w = w' := by
  have h := qfar x w
  have e : farB x = false := by simp [farB, withinB]; omega
  rwa [e] at h
theorem ret_i2 {a b : Int} {v : Value} (h : a = b) : Ending.returned (.tuple #[.int .i64 a, v]) = .returned (.tuple #[.int .i64 b, v]) := by rw [h]
theorem bad_lo' (t s : Int) {r : Int} (ht : 0 < t) (hs : 1 ≤ s) (hr : badR t s = r) (h0 : 0 ≤ r) (h : r ≤ 1290) : wrap64 ((wrap64 (wrap64 (wrap64 (r * r) * r) + 131072)).tdiv 262144) = badP t s := by
  obtain ⟨a, b, c, d⟩ := cube_le r h0 h
  have e := bad_lo t s ht hs hr h0 h
  rw [wrap_in (r * r) a (by omega), wrap_in (r * r * r) c (by omega), wrap_in (r * r * r + 131072) (by omega) (by omega)] at e ⊢
  rw [Int.tdiv_eq_ediv_of_nonneg (by omega), wrap_in _ (by omega) (by omega)]
  exact e
theorem vbad_z (t s : Int) (w : World) (h0 : t = 0) (ht : t ≤ 2147483647) (hs1 : -2147483647 ≤ s) (hs2 : s ≤ 2147483647) :
    Calls Tryz.prog 152 #[.int .i64 t, .int .i64 s] w fun e w' => e = .returned (.tuple #[.int .i64 (badP t s), .int .i64 0]) ∧ Below w.heap.size w w' := by
  have HF := Lib.hid (anyFar2 (fun k => if k = 0 then t else s) w.heap.size (w.alloc (.cells #[.int .i64 t, .int .i64 s] 3)) (two_near (heap_alloc_new w _) (by omega) (by omega)))
  have hu := And.intro ht (And.intro hs1 hs2)
  clear hu
  subst h0
  have hv : badP 0 s = 0 := rfl
  have Hv := Lib.hid hv
  clear hv
  go_enter Tryz.func152, Tryz.ntmps152
  go_wp2_with (go_at_call 166; refine HF.out.mono ?_; rintro e w' ⟨rfl, rfl⟩)
  all_goals go_ret2
  all_goals exact ⟨ret_i2 Hv.out.symm, (Below.refl _ _).alloc (Nat.le_refl _) _⟩
theorem vbad_n (t s : Int) (w : World) (h0 : 0 < t) (h1 : s < 1) (ht : t ≤ 2147483647) (hs1 : -2147483647 ≤ s) (hs2 : s ≤ 2147483647) :
    Calls Tryz.prog 152 #[.int .i64 t, .int .i64 s] w fun e w' => e = .returned (.tuple #[.int .i64 (badP t s), .int .i64 0]) ∧ Below w.heap.size w w' := by
  have HF := Lib.hid (anyFar2 (fun k => if k = 0 then t else s) w.heap.size (w.alloc (.cells #[.int .i64 t, .int .i64 s] 3)) (two_near (heap_alloc_new w _) (by omega) (by omega)))
  have hu := And.intro ht (And.intro hs1 hs2)
  clear hu
  have hte : t ≠ 0 := by omega
  have hv : badP t s = 10000 := by simp only [badP, if_neg hte, if_pos h1]
  have Hv := Lib.hid hv
  clear hv
  go_enter Tryz.func152, Tryz.ntmps152
  go_wp2_with (go_at_call 166; refine HF.out.mono ?_; rintro e w' ⟨rfl, rfl⟩)
  all_goals go_ret2
  all_goals exact ⟨ret_i2 Hv.out.symm, (Below.refl _ _).alloc (Nat.le_refl _) _⟩
theorem vbad_s (t s : Int) (w : World) (h0 : 0 < t) (h1 : 1 ≤ s) (h2 : t ≤ 7230584) (ht : t ≤ 2147483647) (hs1 : -2147483647 ≤ s) (hs2 : s ≤ 2147483647) :
    Calls Tryz.prog 152 #[.int .i64 t, .int .i64 s] w fun e w' => e = .returned (.tuple #[.int .i64 (badP t s), .int .i64 0]) ∧ Below w.heap.size w w' := by
  have HF := Lib.hid (anyFar2 (fun k => if k = 0 then t else s) w.heap.size (w.alloc (.cells #[.int .i64 t, .int .i64 s] 3)) (two_near (heap_alloc_new w _) (by omega) (by omega)))
  have hu := And.intro ht (And.intro hs1 hs2)
  clear hu
  have hse : s ≠ 0 := by omega
  have hte : t ≠ 0 := by omega
  have hr : badR t s = t * 297 / s := by simp only [badR, if_pos h2]
  have hm : 0 ≤ t * 297 / s := Int.ediv_nonneg (by omega) (by omega)
  have hm2 : t * 297 / s ≤ 2147483448 := Int.le_trans (Int.ediv_le_self _ (by omega)) (by omega)
  have Hr := Lib.hid hr
  clear hr
  go_enter Tryz.func152, Tryz.ntmps152
  go_wp2_with (go_at_call 166; refine HF.out.mono ?_; rintro e w' ⟨rfl, rfl⟩)
  all_goals go_ret2
  all_goals first
    | exact ⟨ret_i2 (bad_hi t s (by omega) (by omega) (by rw [Hr.out]; omega)).symm, (Below.refl _ _).alloc (Nat.le_refl _) _⟩
    | exact ⟨ret_i2 (bad_lo t s (by omega) (by omega) Hr.out (by omega) (by omega)), (Below.refl _ _).alloc (Nat.le_refl _) _⟩
theorem vbad_m (t s : Int) (w : World) (h0 : 7230584 < t) (h1 : 1663497 ≤ s) (ht : t ≤ 2147483647) (hs1 : -2147483647 ≤ s) (hs2 : s ≤ 2147483647) :
    Calls Tryz.prog 152 #[.int .i64 t, .int .i64 s] w fun e w' => e = .returned (.tuple #[.int .i64 (badP t s), .int .i64 0]) ∧ Below w.heap.size w w' := by
  have HF := Lib.hid (anyFar2 (fun k => if k = 0 then t else s) w.heap.size (w.alloc (.cells #[.int .i64 t, .int .i64 s] 3)) (two_near (heap_alloc_new w _) (by omega) (by omega)))
  have hu := And.intro ht (And.intro hs1 hs2)
  clear hu
  have hse : 1 ≤ s := by omega
  have hte : t ≠ 0 := by omega
  have hsn : s / 297 ≠ 0 := by omega
  have hs0 : 0 ≤ s / 297 := by omega
  have hsx : s / 297 ≤ 2147483647 := by omega
  have hr : badR t s = t / (s / 297) := by simp only [badR, if_neg (show ¬ t ≤ 7230584 by omega), if_pos h1]
  have hm : 0 ≤ t / (s / 297) := Int.ediv_nonneg (by omega) (by omega)
  have hm2 : t / (s / 297) ≤ 2147483647 := Int.le_trans (Int.ediv_le_self _ (by omega)) (by omega)
  have Hr := Lib.hid hr
  clear hr
  go_enter Tryz.func152, Tryz.ntmps152
  go_wp2_with (go_at_call 166; refine HF.out.mono ?_; rintro e w' ⟨rfl, rfl⟩)
  all_goals go_ret2
  all_goals first
    | exact ⟨ret_i2 (bad_hi t s (by omega) (by omega) (by rw [Hr.out]; omega)).symm, (Below.refl _ _).alloc (Nat.le_refl _) _⟩
    | exact ⟨ret_i2 (bad_lo t s (by omega) (by omega) Hr.out (by omega) (by omega)), (Below.refl _ _).alloc (Nat.le_refl _) _⟩
theorem vbad_w (t s : Int) (w : World) (h0 : 7230584 < t) (h1 : 1 ≤ s) (h2 : s < 1663497) (ht : t ≤ 2147483647) (hs1 : -2147483647 ≤ s) (hs2 : s ≤ 2147483647) :
    Calls Tryz.prog 152 #[.int .i64 t, .int .i64 s] w fun e w' => e = .returned (.tuple #[.int .i64 (badP t s), .int .i64 0]) ∧ Below w.heap.size w w' := by
  have HF := Lib.hid (anyFar2 (fun k => if k = 0 then t else s) w.heap.size (w.alloc (.cells #[.int .i64 t, .int .i64 s] 3)) (two_near (heap_alloc_new w _) (by omega) (by omega)))
  have hu := And.intro ht (And.intro hs1 hs2)
  clear hu
  have hte : t ≠ 0 := by omega
  have hr : badR t s = t := by simp only [badR, if_neg (show ¬ t ≤ 7230584 by omega), if_neg (show ¬ 1663497 ≤ s by omega)]
  have Hr := Lib.hid hr
  clear hr
  go_enter Tryz.func152, Tryz.ntmps152
  go_wp2_with (go_at_call 166; refine HF.out.mono ?_; rintro e w' ⟨rfl, rfl⟩)
  all_goals go_ret2
  all_goals exact ⟨ret_i2 (bad_hi t s (by omega) (by omega) (by rw [Hr.out]; omega)).symm, (Below.refl _ _).alloc (Nat.le_refl _) _⟩
theorem vbadness (t s : Int) (w : World) (h0 : 0 ≤ t) (ht : t ≤ 2147483647) (hs1 : -2147483647 ≤ s) (hs2 : s ≤ 2147483647) :
    Calls Tryz.prog 152 #[.int .i64 t, .int .i64 s] w fun e w' => e = .returned (.tuple #[.int .i64 (badP t s), .int .i64 0]) ∧ Below w.heap.size w w' := by
  by_cases a : t = 0
  · exact vbad_z t s w a ht hs1 hs2
  by_cases b : s < 1
  · exact vbad_n t s w (by omega) b ht hs1 hs2
  by_cases c : t ≤ 7230584
  · exact vbad_s t s w (by omega) (by omega) c ht hs1 hs2
  by_cases d : 1663497 ≤ s
  · exact vbad_m t s w (by omega) d ht hs1 hs2
  · exact vbad_w t s w (by omega) (by omega) (by omega) ht hs1 hs2
theorem qbad_z (t s : Int) (w : World) (h0 : t = 0) (ht : t ≤ 2147483647) (hs1 : -2147483647 ≤ s) (hs2 : s ≤ 2147483647) :
    Calls Tryz.prog 70 #[.int .i64 t, .int .i64 s] w fun e w' => e = .returned (.tuple #[.int .i64 (badP t s), .int .i64 0]) ∧ Below w.heap.size w w' := by
  have hu := And.intro ht (And.intro hs1 hs2)
  clear hu
  subst h0
  have hv : badP 0 s = 0 := rfl
  have Hv := Lib.hid hv
  clear hv
  go_enter Tryz.func70, Tryz.ntmps70
  go_wp2_with (go_at_call 83; refine (qfar_no _ _ (by omega) (by omega)).mono ?_; rintro e w' ⟨rfl, rfl⟩)
  all_goals go_ret2
  all_goals exact ⟨ret_i2 Hv.out.symm, Below.refl _ _⟩
theorem qbad_n (t s : Int) (w : World) (h0 : 0 < t) (h1 : s < 1) (ht : t ≤ 2147483647) (hs1 : -2147483647 ≤ s) (hs2 : s ≤ 2147483647) :
    Calls Tryz.prog 70 #[.int .i64 t, .int .i64 s] w fun e w' => e = .returned (.tuple #[.int .i64 (badP t s), .int .i64 0]) ∧ Below w.heap.size w w' := by
  have hu := And.intro ht (And.intro hs1 hs2)
  clear hu
  have hte : t ≠ 0 := by omega
  have hv : badP t s = 10000 := by simp only [badP, if_neg hte, if_pos h1]
  have Hv := Lib.hid hv
  clear hv
  go_enter Tryz.func70, Tryz.ntmps70
  go_wp2_with (go_at_call 83; refine (qfar_no _ _ (by omega) (by omega)).mono ?_; rintro e w' ⟨rfl, rfl⟩)
  all_goals go_ret2
  all_goals exact ⟨ret_i2 Hv.out.symm, Below.refl _ _⟩
theorem qbad_s (t s : Int) (w : World) (h0 : 0 < t) (h1 : 1 ≤ s) (h2 : t ≤ 7230584) (ht : t ≤ 2147483647) (hs1 : -2147483647 ≤ s) (hs2 : s ≤ 2147483647) :
    Calls Tryz.prog 70 #[.int .i64 t, .int .i64 s] w fun e w' => e = .returned (.tuple #[.int .i64 (badP t s), .int .i64 0]) ∧ Below w.heap.size w w' := by
  have hu := And.intro ht (And.intro hs1 hs2)
  clear hu
  have hse : s ≠ 0 := by omega
  have hte : t ≠ 0 := by omega
  have hr : badR t s = t * 297 / s := by simp only [badR, if_pos h2]
  have hm : 0 ≤ t * 297 / s := Int.ediv_nonneg (by omega) (by omega)
  have hm2 : t * 297 / s ≤ 2147483448 := Int.le_trans (Int.ediv_le_self _ (by omega)) (by omega)
  have hc : t * 297 = 297 * t := Int.mul_comm _ _
  rw [hc] at hr hm hm2
  clear hc
  have Hr := Lib.hid hr
  clear hr
  go_enter Tryz.func70, Tryz.ntmps70
  go_wp2_with (go_at_call 83; refine (qfar_no _ _ (by omega) (by omega)).mono ?_; rintro e w' ⟨rfl, rfl⟩)
  all_goals go_ret2
  all_goals first
    | exact ⟨ret_i2 (bad_hi t s (by omega) (by omega) (by rw [Hr.out]; omega)).symm, Below.refl _ _⟩
    | exact ⟨ret_i2 (bad_lo' t s (by omega) (by omega) Hr.out (by omega) (by omega)), Below.refl _ _⟩
theorem qbad_m (t s : Int) (w : World) (h0 : 7230584 < t) (h1 : 1663497 ≤ s) (ht : t ≤ 2147483647) (hs1 : -2147483647 ≤ s) (hs2 : s ≤ 2147483647) :
    Calls Tryz.prog 70 #[.int .i64 t, .int .i64 s] w fun e w' => e = .returned (.tuple #[.int .i64 (badP t s), .int .i64 0]) ∧ Below w.heap.size w w' := by
  have hu := And.intro ht (And.intro hs1 hs2)
  clear hu
  have hse : 1 ≤ s := by omega
  have hte : t ≠ 0 := by omega
  have hsn : s / 297 ≠ 0 := by omega
  have hs0 : 0 ≤ s / 297 := by omega
  have hsx : s / 297 ≤ 2147483647 := by omega
  have hr : badR t s = t / (s / 297) := by simp only [badR, if_neg (show ¬ t ≤ 7230584 by omega), if_pos h1]
  have hm : 0 ≤ t / (s / 297) := Int.ediv_nonneg (by omega) (by omega)
  have hm2 : t / (s / 297) ≤ 2147483647 := Int.le_trans (Int.ediv_le_self _ (by omega)) (by omega)
  have Hr := Lib.hid hr
  clear hr
  go_enter Tryz.func70, Tryz.ntmps70
  go_wp2_with (go_at_call 83; refine (qfar_no _ _ (by omega) (by omega)).mono ?_; rintro e w' ⟨rfl, rfl⟩)
  all_goals go_ret2
  all_goals first
    | exact ⟨ret_i2 (bad_hi t s (by omega) (by omega) (by rw [Hr.out]; omega)).symm, Below.refl _ _⟩
    | exact ⟨ret_i2 (bad_lo' t s (by omega) (by omega) Hr.out (by omega) (by omega)), Below.refl _ _⟩
theorem qbad_w (t s : Int) (w : World) (h0 : 7230584 < t) (h1 : 1 ≤ s) (h2 : s < 1663497) (ht : t ≤ 2147483647) (hs1 : -2147483647 ≤ s) (hs2 : s ≤ 2147483647) :
    Calls Tryz.prog 70 #[.int .i64 t, .int .i64 s] w fun e w' => e = .returned (.tuple #[.int .i64 (badP t s), .int .i64 0]) ∧ Below w.heap.size w w' := by
  have hu := And.intro ht (And.intro hs1 hs2)
  clear hu
  have hte : t ≠ 0 := by omega
  have hr : badR t s = t := by simp only [badR, if_neg (show ¬ t ≤ 7230584 by omega), if_neg (show ¬ 1663497 ≤ s by omega)]
  have Hr := Lib.hid hr
  clear hr
  go_enter Tryz.func70, Tryz.ntmps70
  go_wp2_with (go_at_call 83; refine (qfar_no _ _ (by omega) (by omega)).mono ?_; rintro e w' ⟨rfl, rfl⟩)
  all_goals go_ret2
  all_goals exact ⟨ret_i2 (bad_hi t s (by omega) (by omega) (by rw [Hr.out]; omega)).symm, Below.refl _ _⟩
theorem qbadness (t s : Int) (w : World) (h0 : 0 ≤ t) (ht : t ≤ 2147483647) (hs1 : -2147483647 ≤ s) (hs2 : s ≤ 2147483647) :
    Calls Tryz.prog 70 #[.int .i64 t, .int .i64 s] w fun e w' => e = .returned (.tuple #[.int .i64 (badP t s), .int .i64 0]) ∧ Below w.heap.size w w' := by
  by_cases a : t = 0
  · exact qbad_z t s w a ht hs1 hs2
  by_cases b : s < 1
  · exact qbad_n t s w (by omega) b ht hs1 hs2
  by_cases c : t ≤ 7230584
  · exact qbad_s t s w (by omega) (by omega) c ht hs1 hs2
  by_cases d : 1663497 ≤ s
  · exact qbad_m t s w (by omega) d ht hs1 hs2
  · exact qbad_w t s w (by omega) (by omega) (by omega) ht hs1 hs2
end Go.Proofs.YtomehdepjenilaaGreat
