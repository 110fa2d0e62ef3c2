/-
  Layer 20: may a sign be: one walk a kind.
-/
import Derived.Test.YtkkdopfdoommnaaM1
namespace Go.Proofs.Ytkkdopfdoommnaa
open Go.ChangeShapes Go.WideShapes Go.ChangeAt Go.RowKit
attribute [local go_sem ↓] Go.wp_at_zero Go.wp_at_succ

set_option maxRecDepth 100000 in
set_option maxHeartbeats 1000000 in
theorem good_7a (f c n : Int) (g : Gl) (w : World) (hn : ((n : Int) == 1) = true) : Calls Try.prog 125 #[.agg (Sn.mk (7) f c n g).arr] w fun e w' => e = .returned (.bool (goodB (Sn.mk (7) f c n g))) ∧ Below w.heap.size w w' := by
  go_enter Try.func125, Try.ntmps125
  go_wp2_with fail
  all_goals go_ret
  all_goals exact ⟨ret_bool (by have hn' : n = 1 := (by simpa using hn); subst hn'; rfl), ((Below.refl _ _).alloc (Nat.le_refl _) _).alloc (by simp) _⟩

set_option maxRecDepth 100000 in
set_option maxHeartbeats 1000000 in
theorem good_7b (f c n : Int) (g : Gl) (w : World) (hn : ((n : Int) == 1) = false) (he : eqSn { kind := 7, fam := f, char := c, n := n, glue := g } { kind := 7, fam := f, char := c, n := Sn.zero.n, glue := Sn.zero.glue } = true) : Calls Try.prog 125 #[.agg (Sn.mk (7) f c n g).arr] w fun e w' => e = .returned (.bool (goodB (Sn.mk (7) f c n g))) ∧ Below w.heap.size w w' := by
  have hn' : ¬ n = 1 := by simpa using hn
  go_enter Try.func125, Try.ntmps125
  go_wp2_with fail
  all_goals go_region
  all_goals go_wp2_with fail
  all_goals go_ret
  all_goals exact ⟨ret_bool (by first | (simp [goodB, *]; done) | (simp [goodB, *]; omega)), (((Below.refl _ _).alloc (Nat.le_refl _) _).alloc (by simp) _).drew⟩

set_option maxRecDepth 100000 in
set_option maxHeartbeats 1000000 in
theorem good_7c (f c n : Int) (g : Gl) (w : World) (hn : ((n : Int) == 1) = false) (he : eqSn { kind := 7, fam := f, char := c, n := n, glue := g } { kind := 7, fam := f, char := c, n := Sn.zero.n, glue := Sn.zero.glue } = false) : Calls Try.prog 125 #[.agg (Sn.mk (7) f c n g).arr] w fun e w' => e = .returned (.bool (goodB (Sn.mk (7) f c n g))) ∧ Below w.heap.size w w' := by
  have hn' : ¬ n = 1 := by simpa using hn
  go_enter Try.func125, Try.ntmps125
  go_wp2_with fail
  all_goals go_region
  all_goals go_wp2_with fail
  all_goals go_ret
  all_goals exact ⟨ret_bool (by first | (simp [goodB, *]; done) | (simp [goodB, *]; omega)), (((Below.refl _ _).alloc (Nat.le_refl _) _).alloc (by simp) _).drew⟩

set_option maxRecDepth 100000 in
set_option maxHeartbeats 1000000 in
theorem good_8a (f c n : Int) (g : Gl) (w : World) (hn : ((n : Int) == 1) = true) : Calls Try.prog 125 #[.agg (Sn.mk (8) f c n g).arr] w fun e w' => e = .returned (.bool (goodB (Sn.mk (8) f c n g))) ∧ Below w.heap.size w w' := by
  go_enter Try.func125, Try.ntmps125
  go_wp2_with fail
  all_goals go_ret
  all_goals exact ⟨ret_bool (by have hn' : n = 1 := (by simpa using hn); subst hn'; rfl), ((Below.refl _ _).alloc (Nat.le_refl _) _).alloc (by simp) _⟩

set_option maxRecDepth 100000 in
set_option maxHeartbeats 1000000 in
theorem good_8b (f c n : Int) (g : Gl) (w : World) (hn : ((n : Int) == 1) = false) (he : eqSn { kind := 8, fam := f, char := c, n := n, glue := g } { kind := 8, fam := f, char := c, n := Sn.zero.n, glue := Sn.zero.glue } = true) : Calls Try.prog 125 #[.agg (Sn.mk (8) f c n g).arr] w fun e w' => e = .returned (.bool (goodB (Sn.mk (8) f c n g))) ∧ Below w.heap.size w w' := by
  have hn' : ¬ n = 1 := by simpa using hn
  go_enter Try.func125, Try.ntmps125
  go_wp2_with fail
  all_goals go_region
  all_goals go_wp2_with fail
  all_goals go_ret
  all_goals exact ⟨ret_bool (by first | (simp [goodB, *]; done) | (simp [goodB, *]; omega)), (((Below.refl _ _).alloc (Nat.le_refl _) _).alloc (by simp) _).drew⟩

set_option maxRecDepth 100000 in
set_option maxHeartbeats 1000000 in
theorem good_8c (f c n : Int) (g : Gl) (w : World) (hn : ((n : Int) == 1) = false) (he : eqSn { kind := 8, fam := f, char := c, n := n, glue := g } { kind := 8, fam := f, char := c, n := Sn.zero.n, glue := Sn.zero.glue } = false) : Calls Try.prog 125 #[.agg (Sn.mk (8) f c n g).arr] w fun e w' => e = .returned (.bool (goodB (Sn.mk (8) f c n g))) ∧ Below w.heap.size w w' := by
  have hn' : ¬ n = 1 := by simpa using hn
  go_enter Try.func125, Try.ntmps125
  go_wp2_with fail
  all_goals go_region
  all_goals go_wp2_with fail
  all_goals go_ret
  all_goals exact ⟨ret_bool (by first | (simp [goodB, *]; done) | (simp [goodB, *]; omega)), (((Below.refl _ _).alloc (Nat.le_refl _) _).alloc (by simp) _).drew⟩

set_option maxRecDepth 100000 in
set_option maxHeartbeats 1000000 in
theorem good_13a (f c n : Int) (g : Gl) (w : World) (hn : ((n : Int) == 1) = true) : Calls Try.prog 125 #[.agg (Sn.mk (13) f c n g).arr] w fun e w' => e = .returned (.bool (goodB (Sn.mk (13) f c n g))) ∧ Below w.heap.size w w' := by
  go_enter Try.func125, Try.ntmps125
  go_wp2_with fail
  all_goals go_ret
  all_goals exact ⟨ret_bool (by have hn' : n = 1 := (by simpa using hn); subst hn'; rfl), ((Below.refl _ _).alloc (Nat.le_refl _) _).alloc (by simp) _⟩

set_option maxRecDepth 100000 in
set_option maxHeartbeats 1000000 in
theorem good_13b (f c n : Int) (g : Gl) (w : World) (hn : ((n : Int) == 1) = false) (he : eqSn { kind := 13, fam := f, char := c, n := n, glue := g } { kind := 13, fam := f, char := c, n := Sn.zero.n, glue := Sn.zero.glue } = true) : Calls Try.prog 125 #[.agg (Sn.mk (13) f c n g).arr] w fun e w' => e = .returned (.bool (goodB (Sn.mk (13) f c n g))) ∧ Below w.heap.size w w' := by
  have hn' : ¬ n = 1 := by simpa using hn
  go_enter Try.func125, Try.ntmps125
  go_wp2_with fail
  all_goals go_region
  all_goals go_wp2_with fail
  all_goals go_ret
  all_goals exact ⟨ret_bool (by first | (simp [goodB, *]; done) | (simp [goodB, *]; omega)), (((Below.refl _ _).alloc (Nat.le_refl _) _).alloc (by simp) _).drew⟩

set_option maxRecDepth 100000 in
set_option maxHeartbeats 1000000 in
theorem good_13c (f c n : Int) (g : Gl) (w : World) (hn : ((n : Int) == 1) = false) (he : eqSn { kind := 13, fam := f, char := c, n := n, glue := g } { kind := 13, fam := f, char := c, n := Sn.zero.n, glue := Sn.zero.glue } = false) : Calls Try.prog 125 #[.agg (Sn.mk (13) f c n g).arr] w fun e w' => e = .returned (.bool (goodB (Sn.mk (13) f c n g))) ∧ Below w.heap.size w w' := by
  have hn' : ¬ n = 1 := by simpa using hn
  go_enter Try.func125, Try.ntmps125
  go_wp2_with fail
  all_goals go_region
  all_goals go_wp2_with fail
  all_goals go_ret
  all_goals exact ⟨ret_bool (by first | (simp [goodB, *]; done) | (simp [goodB, *]; omega)), (((Below.refl _ _).alloc (Nat.le_refl _) _).alloc (by simp) _).drew⟩

set_option maxRecDepth 100000 in
set_option maxHeartbeats 1000000 in
theorem good_14a (f c n : Int) (g : Gl) (w : World) (hn : ((n : Int) == 1) = true) : Calls Try.prog 125 #[.agg (Sn.mk (14) f c n g).arr] w fun e w' => e = .returned (.bool (goodB (Sn.mk (14) f c n g))) ∧ Below w.heap.size w w' := by
  go_enter Try.func125, Try.ntmps125
  go_wp2_with fail
  all_goals go_ret
  all_goals exact ⟨ret_bool (by have hn' : n = 1 := (by simpa using hn); subst hn'; rfl), ((Below.refl _ _).alloc (Nat.le_refl _) _).alloc (by simp) _⟩

set_option maxRecDepth 100000 in
set_option maxHeartbeats 1000000 in
theorem good_14b (f c n : Int) (g : Gl) (w : World) (hn : ((n : Int) == 1) = false) (he : eqSn { kind := 14, fam := f, char := c, n := n, glue := g } { kind := 14, fam := f, char := c, n := Sn.zero.n, glue := Sn.zero.glue } = true) : Calls Try.prog 125 #[.agg (Sn.mk (14) f c n g).arr] w fun e w' => e = .returned (.bool (goodB (Sn.mk (14) f c n g))) ∧ Below w.heap.size w w' := by
  have hn' : ¬ n = 1 := by simpa using hn
  go_enter Try.func125, Try.ntmps125
  go_wp2_with fail
  all_goals go_region
  all_goals go_wp2_with fail
  all_goals go_ret
  all_goals exact ⟨ret_bool (by first | (simp [goodB, *]; done) | (simp [goodB, *]; omega)), (((Below.refl _ _).alloc (Nat.le_refl _) _).alloc (by simp) _).drew⟩

set_option maxRecDepth 100000 in
set_option maxHeartbeats 1000000 in
theorem good_14c (f c n : Int) (g : Gl) (w : World) (hn : ((n : Int) == 1) = false) (he : eqSn { kind := 14, fam := f, char := c, n := n, glue := g } { kind := 14, fam := f, char := c, n := Sn.zero.n, glue := Sn.zero.glue } = false) : Calls Try.prog 125 #[.agg (Sn.mk (14) f c n g).arr] w fun e w' => e = .returned (.bool (goodB (Sn.mk (14) f c n g))) ∧ Below w.heap.size w w' := by
  have hn' : ¬ n = 1 := by simpa using hn
  go_enter Try.func125, Try.ntmps125
  go_wp2_with fail
  all_goals go_region
  all_goals go_wp2_with fail
  all_goals go_ret
  all_goals exact ⟨ret_bool (by first | (simp [goodB, *]; done) | (simp [goodB, *]; omega)), (((Below.refl _ _).alloc (Nat.le_refl _) _).alloc (by simp) _).drew⟩

set_option maxRecDepth 100000 in
set_option maxHeartbeats 1000000 in
theorem good_9b (f c n : Int) (g : Gl) (w : World) (he : eqSn { kind := 9, fam := f, char := c, n := n, glue := g } { kind := 9, fam := Sn.zero.fam, char := Sn.zero.char, n := n, glue := Sn.zero.glue } = true) : Calls Try.prog 125 #[.agg (Sn.mk (9) f c n g).arr] w fun e w' => e = .returned (.bool (goodB (Sn.mk (9) f c n g))) ∧ Below w.heap.size w w' := by
  go_enter Try.func125, Try.ntmps125
  go_wp2_with fail
  all_goals go_ret
  all_goals exact ⟨ret_bool (by first | (simp [goodB, *]; done) | (simp [goodB, *]; omega)), ((Below.refl _ _).alloc (Nat.le_refl _) _).alloc (by simp) _⟩

set_option maxRecDepth 100000 in
set_option maxHeartbeats 1000000 in
theorem good_15b (f c n : Int) (g : Gl) (w : World) (he : eqSn { kind := 15, fam := f, char := c, n := n, glue := g } { kind := 15, fam := Sn.zero.fam, char := Sn.zero.char, n := n, glue := Sn.zero.glue } = true) : Calls Try.prog 125 #[.agg (Sn.mk (15) f c n g).arr] w fun e w' => e = .returned (.bool (goodB (Sn.mk (15) f c n g))) ∧ Below w.heap.size w w' := by
  go_enter Try.func125, Try.ntmps125
  go_wp2_with fail
  all_goals go_ret
  all_goals exact ⟨ret_bool (by first | (simp [goodB, *]; done) | (simp [goodB, *]; omega)), ((Below.refl _ _).alloc (Nat.le_refl _) _).alloc (by simp) _⟩

set_option maxRecDepth 100000 in
set_option maxHeartbeats 1000000 in
theorem good_18b (f c n : Int) (g : Gl) (w : World) (he : eqSn { kind := 18, fam := f, char := c, n := n, glue := g } { kind := 18, fam := Sn.zero.fam, char := Sn.zero.char, n := n, glue := Sn.zero.glue } = true) : Calls Try.prog 125 #[.agg (Sn.mk (18) f c n g).arr] w fun e w' => e = .returned (.bool (goodB (Sn.mk (18) f c n g))) ∧ Below w.heap.size w w' := by
  go_enter Try.func125, Try.ntmps125
  go_wp2_with fail
  all_goals go_ret
  all_goals exact ⟨ret_bool (by first | (simp [goodB, *]; done) | (simp [goodB, *]; omega)), ((Below.refl _ _).alloc (Nat.le_refl _) _).alloc (by simp) _⟩

set_option maxRecDepth 100000 in
set_option maxHeartbeats 1000000 in
theorem good_10b (f c n : Int) (g : Gl) (w : World) (he : eqSn { kind := 10, fam := f, char := c, n := n, glue := g } { kind := 10, fam := f, char := c, n := Sn.zero.n, glue := Sn.zero.glue } = true) : Calls Try.prog 125 #[.agg (Sn.mk (10) f c n g).arr] w fun e w' => e = .returned (.bool (goodB (Sn.mk (10) f c n g))) ∧ Below w.heap.size w w' := by
  go_enter Try.func125, Try.ntmps125
  go_wp2_with fail
  all_goals go_region
  all_goals go_wp2_with fail
  all_goals go_ret
  all_goals exact ⟨ret_bool (by first | (simp [goodB, *]; done) | (simp [goodB, *]; omega)), (((Below.refl _ _).alloc (Nat.le_refl _) _).alloc (by simp) _).drew⟩

set_option maxRecDepth 100000 in
set_option maxHeartbeats 1000000 in
theorem good_17b (f c n : Int) (g : Gl) (w : World) (he : eqSn { kind := 17, fam := f, char := c, n := n, glue := g } { kind := 17, fam := Sn.zero.fam, char := Sn.zero.char, n := n, glue := Sn.zero.glue } = true) : Calls Try.prog 125 #[.agg (Sn.mk (17) f c n g).arr] w fun e w' => e = .returned (.bool (goodB (Sn.mk (17) f c n g))) ∧ Below w.heap.size w w' := by
  go_enter Try.func125, Try.ntmps125
  go_wp2_with (first | (go_at_call 143; refine (mdimen_any _ _).mono ?_; rintro e w' ⟨rfl, rfl⟩) | (go_at_call 76; refine (gcheck_any _ _).mono ?_; rintro e w1 ⟨rfl, hb1⟩))
  all_goals go_ret
  all_goals exact ⟨ret_bool (by first | (simp [goodB, *]; done) | (simp [goodB, *]; omega)), ((Below.refl _ _).alloc (Nat.le_refl _) _).alloc (by simp) _⟩

set_option maxRecDepth 100000 in
set_option maxHeartbeats 1000000 in
theorem good_16b (f c n : Int) (g : Gl) (w : World) (he : eqSn { kind := 16, fam := f, char := c, n := n, glue := g } { kind := 16, fam := Sn.zero.fam, char := Sn.zero.char, n := Sn.zero.n, glue := g } = true) : Calls Try.prog 125 #[.agg (Sn.mk (16) f c n g).arr] w fun e w' => e = .returned (.bool (goodB (Sn.mk (16) f c n g))) ∧ Below w.heap.size w w' := by
  go_enter Try.func125, Try.ntmps125
  go_wp2_with (first | (go_at_call 143; refine (mdimen_any _ _).mono ?_; rintro e w' ⟨rfl, rfl⟩) | (go_at_call 76; refine (gcheck_any _ _).mono ?_; rintro e w1 ⟨rfl, hb1⟩))
  all_goals go_ret
  all_goals exact ⟨ret_bool (by first | (simp [goodB, *]; done) | (simp [goodB, *]; omega)), (((Below.refl _ _).alloc (Nat.le_refl _) _).alloc (by simp) _).trans (hb1.mono (by simp; omega))⟩

set_option maxRecDepth 100000 in
set_option maxHeartbeats 1000000 in
theorem good_9c (f c n : Int) (g : Gl) (w : World) (he : eqSn { kind := 9, fam := f, char := c, n := n, glue := g } { kind := 9, fam := Sn.zero.fam, char := Sn.zero.char, n := n, glue := Sn.zero.glue } = false) : Calls Try.prog 125 #[.agg (Sn.mk (9) f c n g).arr] w fun e w' => e = .returned (.bool (goodB (Sn.mk (9) f c n g))) ∧ Below w.heap.size w w' := by
  go_enter Try.func125, Try.ntmps125
  go_wp2_with fail
  all_goals go_ret
  all_goals exact ⟨ret_bool (by first | (simp [goodB, *]; done) | (simp [goodB, *]; omega)), ((Below.refl _ _).alloc (Nat.le_refl _) _).alloc (by simp) _⟩

set_option maxRecDepth 100000 in
set_option maxHeartbeats 1000000 in
theorem good_15c (f c n : Int) (g : Gl) (w : World) (he : eqSn { kind := 15, fam := f, char := c, n := n, glue := g } { kind := 15, fam := Sn.zero.fam, char := Sn.zero.char, n := n, glue := Sn.zero.glue } = false) : Calls Try.prog 125 #[.agg (Sn.mk (15) f c n g).arr] w fun e w' => e = .returned (.bool (goodB (Sn.mk (15) f c n g))) ∧ Below w.heap.size w w' := by
  go_enter Try.func125, Try.ntmps125
  go_wp2_with fail
  all_goals go_ret
  all_goals exact ⟨ret_bool (by first | (simp [goodB, *]; done) | (simp [goodB, *]; omega)), ((Below.refl _ _).alloc (Nat.le_refl _) _).alloc (by simp) _⟩

set_option maxRecDepth 100000 in
set_option maxHeartbeats 1000000 in
theorem good_18c (f c n : Int) (g : Gl) (w : World) (he : eqSn { kind := 18, fam := f, char := c, n := n, glue := g } { kind := 18, fam := Sn.zero.fam, char := Sn.zero.char, n := n, glue := Sn.zero.glue } = false) : Calls Try.prog 125 #[.agg (Sn.mk (18) f c n g).arr] w fun e w' => e = .returned (.bool (goodB (Sn.mk (18) f c n g))) ∧ Below w.heap.size w w' := by
  go_enter Try.func125, Try.ntmps125
  go_wp2_with fail
  all_goals go_ret
  all_goals exact ⟨ret_bool (by first | (simp [goodB, *]; done) | (simp [goodB, *]; omega)), ((Below.refl _ _).alloc (Nat.le_refl _) _).alloc (by simp) _⟩

set_option maxRecDepth 100000 in
set_option maxHeartbeats 1000000 in
theorem good_10c (f c n : Int) (g : Gl) (w : World) (he : eqSn { kind := 10, fam := f, char := c, n := n, glue := g } { kind := 10, fam := f, char := c, n := Sn.zero.n, glue := Sn.zero.glue } = false) : Calls Try.prog 125 #[.agg (Sn.mk (10) f c n g).arr] w fun e w' => e = .returned (.bool (goodB (Sn.mk (10) f c n g))) ∧ Below w.heap.size w w' := by
  go_enter Try.func125, Try.ntmps125
  go_wp2_with fail
  all_goals go_region
  all_goals go_wp2_with fail
  all_goals go_ret
  all_goals exact ⟨ret_bool (by first | (simp [goodB, *]; done) | (simp [goodB, *]; omega)), (((Below.refl _ _).alloc (Nat.le_refl _) _).alloc (by simp) _).drew⟩

set_option maxRecDepth 100000 in
set_option maxHeartbeats 1000000 in
theorem good_17c (f c n : Int) (g : Gl) (w : World) (he : eqSn { kind := 17, fam := f, char := c, n := n, glue := g } { kind := 17, fam := Sn.zero.fam, char := Sn.zero.char, n := n, glue := Sn.zero.glue } = false) : Calls Try.prog 125 #[.agg (Sn.mk (17) f c n g).arr] w fun e w' => e = .returned (.bool (goodB (Sn.mk (17) f c n g))) ∧ Below w.heap.size w w' := by
  go_enter Try.func125, Try.ntmps125
  go_wp2_with (first | (go_at_call 143; refine (mdimen_any _ _).mono ?_; rintro e w' ⟨rfl, rfl⟩) | (go_at_call 76; refine (gcheck_any _ _).mono ?_; rintro e w1 ⟨rfl, hb1⟩))
  all_goals go_ret
  all_goals exact ⟨ret_bool (by first | (simp [goodB, *]; done) | (simp [goodB, *]; omega)), ((Below.refl _ _).alloc (Nat.le_refl _) _).alloc (by simp) _⟩

set_option maxRecDepth 100000 in
set_option maxHeartbeats 1000000 in
theorem good_16c (f c n : Int) (g : Gl) (w : World) (he : eqSn { kind := 16, fam := f, char := c, n := n, glue := g } { kind := 16, fam := Sn.zero.fam, char := Sn.zero.char, n := Sn.zero.n, glue := g } = false) : Calls Try.prog 125 #[.agg (Sn.mk (16) f c n g).arr] w fun e w' => e = .returned (.bool (goodB (Sn.mk (16) f c n g))) ∧ Below w.heap.size w w' := by
  go_enter Try.func125, Try.ntmps125
  go_wp2_with (first | (go_at_call 143; refine (mdimen_any _ _).mono ?_; rintro e w' ⟨rfl, rfl⟩) | (go_at_call 76; refine (gcheck_any _ _).mono ?_; rintro e w1 ⟨rfl, hb1⟩))
  all_goals go_ret
  all_goals exact ⟨ret_bool (by first | (simp [goodB, *]; done) | (simp [goodB, *]; omega)), ((Below.refl _ _).alloc (Nat.le_refl _) _).alloc (by simp) _⟩

set_option maxRecDepth 100000 in
set_option maxHeartbeats 1000000 in
theorem good_11a (f c n : Int) (g : Gl) (w : World)  : Calls Try.prog 125 #[.agg (Sn.mk (11) f c n g).arr] w fun e w' => e = .returned (.bool (goodB (Sn.mk (11) f c n g))) ∧ Below w.heap.size w w' := by
  go_enter Try.func125, Try.ntmps125
  go_wp2_with fail
  all_goals go_ret
  all_goals exact ⟨ret_bool (by first | (simp [goodB]; done) | (simp [goodB]; rfl)), ((Below.refl _ _).alloc (Nat.le_refl _) _).alloc (by simp) _⟩

set_option maxRecDepth 100000 in
set_option maxHeartbeats 1000000 in
theorem good_12a (f c n : Int) (g : Gl) (w : World)  : Calls Try.prog 125 #[.agg (Sn.mk (12) f c n g).arr] w fun e w' => e = .returned (.bool (goodB (Sn.mk (12) f c n g))) ∧ Below w.heap.size w w' := by
  go_enter Try.func125, Try.ntmps125
  go_wp2_with fail
  all_goals go_ret
  all_goals exact ⟨ret_bool (by first | (simp [goodB]; done) | (simp [goodB]; rfl)), ((Below.refl _ _).alloc (Nat.le_refl _) _).alloc (by simp) _⟩

set_option maxRecDepth 100000 in
set_option maxHeartbeats 1000000 in
theorem good_19a (f c n : Int) (g : Gl) (w : World)  : Calls Try.prog 125 #[.agg (Sn.mk (19) f c n g).arr] w fun e w' => e = .returned (.bool (goodB (Sn.mk (19) f c n g))) ∧ Below w.heap.size w w' := by
  go_enter Try.func125, Try.ntmps125
  go_wp2_with fail
  all_goals go_ret
  all_goals exact ⟨ret_bool (by first | (simp [goodB]; done) | (simp [goodB]; rfl)), ((Below.refl _ _).alloc (Nat.le_refl _) _).alloc (by simp) _⟩

set_option maxRecDepth 100000 in
set_option maxHeartbeats 1000000 in
theorem good_20a (f c n : Int) (g : Gl) (w : World)  : Calls Try.prog 125 #[.agg (Sn.mk (20) f c n g).arr] w fun e w' => e = .returned (.bool (goodB (Sn.mk (20) f c n g))) ∧ Below w.heap.size w w' := by
  go_enter Try.func125, Try.ntmps125
  go_wp2_with fail
  all_goals go_ret
  all_goals exact ⟨ret_bool (by first | (simp [goodB]; done) | (simp [goodB]; rfl)), ((Below.refl _ _).alloc (Nat.le_refl _) _).alloc (by simp) _⟩

set_option maxRecDepth 100000 in
set_option maxHeartbeats 1000000 in
theorem good_21a (f c n : Int) (g : Gl) (w : World)  : Calls Try.prog 125 #[.agg (Sn.mk (21) f c n g).arr] w fun e w' => e = .returned (.bool (goodB (Sn.mk (21) f c n g))) ∧ Below w.heap.size w w' := by
  go_enter Try.func125, Try.ntmps125
  go_wp2_with fail
  all_goals go_ret
  all_goals exact ⟨ret_bool (by first | (simp [goodB]; done) | (simp [goodB]; rfl)), ((Below.refl _ _).alloc (Nat.le_refl _) _).alloc (by simp) _⟩

set_option maxRecDepth 100000 in
set_option maxHeartbeats 1000000 in
theorem good_22a (f c n : Int) (g : Gl) (w : World)  : Calls Try.prog 125 #[.agg (Sn.mk (22) f c n g).arr] w fun e w' => e = .returned (.bool (goodB (Sn.mk (22) f c n g))) ∧ Below w.heap.size w w' := by
  go_enter Try.func125, Try.ntmps125
  go_wp2_with fail
  all_goals go_ret
  all_goals exact ⟨ret_bool (by first | (simp [goodB]; done) | (simp [goodB]; rfl)), ((Below.refl _ _).alloc (Nat.le_refl _) _).alloc (by simp) _⟩

set_option maxRecDepth 100000 in
set_option maxHeartbeats 1000000 in
theorem good_lo (k f c n : Int) (g : Gl) (w : World) (hk : k < 1) : Calls Try.prog 125 #[.agg (Sn.mk (k) f c n g).arr] w fun e w' => e = .returned (.bool (goodB (Sn.mk (k) f c n g))) ∧ Below w.heap.size w w' := by
  go_enter Try.func125, Try.ntmps125
  go_wp2_with fail
  all_goals go_ret
  all_goals exact ⟨ret_bool (by have hh := hk; rw [goodB]; repeat (rw [if_neg (by simp only; omega)])), ((Below.refl _ _).alloc (Nat.le_refl _) _).alloc (by simp) _⟩

set_option maxRecDepth 100000 in
set_option maxHeartbeats 1000000 in
theorem good_hi (k f c n : Int) (g : Gl) (w : World) (hk : 22 < k) : Calls Try.prog 125 #[.agg (Sn.mk (k) f c n g).arr] w fun e w' => e = .returned (.bool (goodB (Sn.mk (k) f c n g))) ∧ Below w.heap.size w w' := by
  go_enter Try.func125, Try.ntmps125
  go_wp2_with fail
  all_goals go_ret
  all_goals exact ⟨ret_bool (by have hh := hk; rw [goodB]; repeat (rw [if_neg (by simp only; omega)])), ((Below.refl _ _).alloc (Nat.le_refl _) _).alloc (by simp) _⟩

end Go.Proofs.Ytkkdopfdoommnaa
