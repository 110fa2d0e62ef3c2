/-
  Layer 20: may a sign be: one walk a kind.
-/
import Derived.Test.YtkkdopfdoommnaaM1
namespace Go.Proofs.Ytkkdopfdoommnaa
open Go.ChangeShapes Go.WideShapes Go.ChangeAt Go.RowKit
attribute [local go_sem ↓] Go.wp_at_zero Go.wp_at_succ

set_option maxRecDepth 100000 in
set_option maxHeartbeats 1000000 in
theorem good_1a (f c n : Int) (g : Gl) (w : World) (hn : ((n : Int) == 1) = true) : Calls Try.prog 125 #[.agg (Sn.mk (1) f c n g).arr] w fun e w' => e = .returned (.bool (goodB (Sn.mk (1) f c n g))) ∧ Below w.heap.size w w' := by
  go_enter Try.func125, Try.ntmps125
  go_wp2_with fail
  all_goals go_ret
  all_goals exact ⟨ret_bool (by have hn' : n = 1 := (by simpa using hn); subst hn'; rfl), ((Below.refl _ _).alloc (Nat.le_refl _) _).alloc (by simp) _⟩

set_option maxRecDepth 100000 in
set_option maxHeartbeats 1000000 in
theorem good_1b (f c n : Int) (g : Gl) (w : World) (hn : ((n : Int) == 1) = false) (he : eqSn { kind := 1, fam := f, char := c, n := n, glue := g } { kind := 1, fam := f, char := c, n := Sn.zero.n, glue := Sn.zero.glue } = true) : Calls Try.prog 125 #[.agg (Sn.mk (1) f c n g).arr] w fun e w' => e = .returned (.bool (goodB (Sn.mk (1) f c n g))) ∧ Below w.heap.size w w' := by
  have hn' : ¬ n = 1 := by simpa using hn
  go_enter Try.func125, Try.ntmps125
  go_wp2_with fail
  all_goals go_region
  all_goals go_wp2_with fail
  all_goals go_ret
  all_goals exact ⟨ret_bool (by first | (simp [goodB, *]; done) | (simp [goodB, *]; omega)), (((Below.refl _ _).alloc (Nat.le_refl _) _).alloc (by simp) _).drew⟩

set_option maxRecDepth 100000 in
set_option maxHeartbeats 1000000 in
theorem good_1c (f c n : Int) (g : Gl) (w : World) (hn : ((n : Int) == 1) = false) (he : eqSn { kind := 1, fam := f, char := c, n := n, glue := g } { kind := 1, fam := f, char := c, n := Sn.zero.n, glue := Sn.zero.glue } = false) : Calls Try.prog 125 #[.agg (Sn.mk (1) f c n g).arr] w fun e w' => e = .returned (.bool (goodB (Sn.mk (1) f c n g))) ∧ Below w.heap.size w w' := by
  have hn' : ¬ n = 1 := by simpa using hn
  go_enter Try.func125, Try.ntmps125
  go_wp2_with fail
  all_goals go_region
  all_goals go_wp2_with fail
  all_goals go_ret
  all_goals exact ⟨ret_bool (by first | (simp [goodB, *]; done) | (simp [goodB, *]; omega)), (((Below.refl _ _).alloc (Nat.le_refl _) _).alloc (by simp) _).drew⟩

set_option maxRecDepth 100000 in
set_option maxHeartbeats 1000000 in
theorem good_2a (f c n : Int) (g : Gl) (w : World) (hn : ((n : Int) == 1) = true) : Calls Try.prog 125 #[.agg (Sn.mk (2) f c n g).arr] w fun e w' => e = .returned (.bool (goodB (Sn.mk (2) f c n g))) ∧ Below w.heap.size w w' := by
  go_enter Try.func125, Try.ntmps125
  go_wp2_with fail
  all_goals go_ret
  all_goals exact ⟨ret_bool (by have hn' : n = 1 := (by simpa using hn); subst hn'; rfl), ((Below.refl _ _).alloc (Nat.le_refl _) _).alloc (by simp) _⟩

set_option maxRecDepth 100000 in
set_option maxHeartbeats 1000000 in
theorem good_2b (f c n : Int) (g : Gl) (w : World) (hn : ((n : Int) == 1) = false) (he : eqSn { kind := 2, fam := f, char := c, n := n, glue := g } { kind := 2, fam := f, char := c, n := Sn.zero.n, glue := Sn.zero.glue } = true) : Calls Try.prog 125 #[.agg (Sn.mk (2) f c n g).arr] w fun e w' => e = .returned (.bool (goodB (Sn.mk (2) f c n g))) ∧ Below w.heap.size w w' := by
  have hn' : ¬ n = 1 := by simpa using hn
  go_enter Try.func125, Try.ntmps125
  go_wp2_with fail
  all_goals go_region
  all_goals go_wp2_with fail
  all_goals go_ret
  all_goals exact ⟨ret_bool (by first | (simp [goodB, *]; done) | (simp [goodB, *]; omega)), (((Below.refl _ _).alloc (Nat.le_refl _) _).alloc (by simp) _).drew⟩

set_option maxRecDepth 100000 in
set_option maxHeartbeats 1000000 in
theorem good_2c (f c n : Int) (g : Gl) (w : World) (hn : ((n : Int) == 1) = false) (he : eqSn { kind := 2, fam := f, char := c, n := n, glue := g } { kind := 2, fam := f, char := c, n := Sn.zero.n, glue := Sn.zero.glue } = false) : Calls Try.prog 125 #[.agg (Sn.mk (2) f c n g).arr] w fun e w' => e = .returned (.bool (goodB (Sn.mk (2) f c n g))) ∧ Below w.heap.size w w' := by
  have hn' : ¬ n = 1 := by simpa using hn
  go_enter Try.func125, Try.ntmps125
  go_wp2_with fail
  all_goals go_region
  all_goals go_wp2_with fail
  all_goals go_ret
  all_goals exact ⟨ret_bool (by first | (simp [goodB, *]; done) | (simp [goodB, *]; omega)), (((Below.refl _ _).alloc (Nat.le_refl _) _).alloc (by simp) _).drew⟩

set_option maxRecDepth 100000 in
set_option maxHeartbeats 1000000 in
theorem good_3a (f c n : Int) (g : Gl) (w : World) (hn : ((n : Int) == 1) = true) : Calls Try.prog 125 #[.agg (Sn.mk (3) f c n g).arr] w fun e w' => e = .returned (.bool (goodB (Sn.mk (3) f c n g))) ∧ Below w.heap.size w w' := by
  go_enter Try.func125, Try.ntmps125
  go_wp2_with fail
  all_goals go_ret
  all_goals exact ⟨ret_bool (by have hn' : n = 1 := (by simpa using hn); subst hn'; rfl), ((Below.refl _ _).alloc (Nat.le_refl _) _).alloc (by simp) _⟩

set_option maxRecDepth 100000 in
set_option maxHeartbeats 1000000 in
theorem good_3b (f c n : Int) (g : Gl) (w : World) (hn : ((n : Int) == 1) = false) (he : eqSn { kind := 3, fam := f, char := c, n := n, glue := g } { kind := 3, fam := f, char := c, n := Sn.zero.n, glue := Sn.zero.glue } = true) : Calls Try.prog 125 #[.agg (Sn.mk (3) f c n g).arr] w fun e w' => e = .returned (.bool (goodB (Sn.mk (3) f c n g))) ∧ Below w.heap.size w w' := by
  have hn' : ¬ n = 1 := by simpa using hn
  go_enter Try.func125, Try.ntmps125
  go_wp2_with fail
  all_goals go_region
  all_goals go_wp2_with fail
  all_goals go_ret
  all_goals exact ⟨ret_bool (by first | (simp [goodB, *]; done) | (simp [goodB, *]; omega)), (((Below.refl _ _).alloc (Nat.le_refl _) _).alloc (by simp) _).drew⟩

set_option maxRecDepth 100000 in
set_option maxHeartbeats 1000000 in
theorem good_3c (f c n : Int) (g : Gl) (w : World) (hn : ((n : Int) == 1) = false) (he : eqSn { kind := 3, fam := f, char := c, n := n, glue := g } { kind := 3, fam := f, char := c, n := Sn.zero.n, glue := Sn.zero.glue } = false) : Calls Try.prog 125 #[.agg (Sn.mk (3) f c n g).arr] w fun e w' => e = .returned (.bool (goodB (Sn.mk (3) f c n g))) ∧ Below w.heap.size w w' := by
  have hn' : ¬ n = 1 := by simpa using hn
  go_enter Try.func125, Try.ntmps125
  go_wp2_with fail
  all_goals go_region
  all_goals go_wp2_with fail
  all_goals go_ret
  all_goals exact ⟨ret_bool (by first | (simp [goodB, *]; done) | (simp [goodB, *]; omega)), (((Below.refl _ _).alloc (Nat.le_refl _) _).alloc (by simp) _).drew⟩

set_option maxRecDepth 100000 in
set_option maxHeartbeats 1000000 in
theorem good_4a (f c n : Int) (g : Gl) (w : World) (hn : ((n : Int) == 1) = true) : Calls Try.prog 125 #[.agg (Sn.mk (4) f c n g).arr] w fun e w' => e = .returned (.bool (goodB (Sn.mk (4) f c n g))) ∧ Below w.heap.size w w' := by
  go_enter Try.func125, Try.ntmps125
  go_wp2_with fail
  all_goals go_ret
  all_goals exact ⟨ret_bool (by have hn' : n = 1 := (by simpa using hn); subst hn'; rfl), ((Below.refl _ _).alloc (Nat.le_refl _) _).alloc (by simp) _⟩

set_option maxRecDepth 100000 in
set_option maxHeartbeats 1000000 in
theorem good_4b (f c n : Int) (g : Gl) (w : World) (hn : ((n : Int) == 1) = false) (he : eqSn { kind := 4, fam := f, char := c, n := n, glue := g } { kind := 4, fam := f, char := c, n := Sn.zero.n, glue := Sn.zero.glue } = true) : Calls Try.prog 125 #[.agg (Sn.mk (4) f c n g).arr] w fun e w' => e = .returned (.bool (goodB (Sn.mk (4) f c n g))) ∧ Below w.heap.size w w' := by
  have hn' : ¬ n = 1 := by simpa using hn
  go_enter Try.func125, Try.ntmps125
  go_wp2_with fail
  all_goals go_region
  all_goals go_wp2_with fail
  all_goals go_ret
  all_goals exact ⟨ret_bool (by first | (simp [goodB, *]; done) | (simp [goodB, *]; omega)), (((Below.refl _ _).alloc (Nat.le_refl _) _).alloc (by simp) _).drew⟩

set_option maxRecDepth 100000 in
set_option maxHeartbeats 1000000 in
theorem good_4c (f c n : Int) (g : Gl) (w : World) (hn : ((n : Int) == 1) = false) (he : eqSn { kind := 4, fam := f, char := c, n := n, glue := g } { kind := 4, fam := f, char := c, n := Sn.zero.n, glue := Sn.zero.glue } = false) : Calls Try.prog 125 #[.agg (Sn.mk (4) f c n g).arr] w fun e w' => e = .returned (.bool (goodB (Sn.mk (4) f c n g))) ∧ Below w.heap.size w w' := by
  have hn' : ¬ n = 1 := by simpa using hn
  go_enter Try.func125, Try.ntmps125
  go_wp2_with fail
  all_goals go_region
  all_goals go_wp2_with fail
  all_goals go_ret
  all_goals exact ⟨ret_bool (by first | (simp [goodB, *]; done) | (simp [goodB, *]; omega)), (((Below.refl _ _).alloc (Nat.le_refl _) _).alloc (by simp) _).drew⟩

set_option maxRecDepth 100000 in
set_option maxHeartbeats 1000000 in
theorem good_5a (f c n : Int) (g : Gl) (w : World) (hn : ((n : Int) == 1) = true) : Calls Try.prog 125 #[.agg (Sn.mk (5) f c n g).arr] w fun e w' => e = .returned (.bool (goodB (Sn.mk (5) f c n g))) ∧ Below w.heap.size w w' := by
  go_enter Try.func125, Try.ntmps125
  go_wp2_with fail
  all_goals go_ret
  all_goals exact ⟨ret_bool (by have hn' : n = 1 := (by simpa using hn); subst hn'; rfl), ((Below.refl _ _).alloc (Nat.le_refl _) _).alloc (by simp) _⟩

set_option maxRecDepth 100000 in
set_option maxHeartbeats 1000000 in
theorem good_5b (f c n : Int) (g : Gl) (w : World) (hn : ((n : Int) == 1) = false) (he : eqSn { kind := 5, fam := f, char := c, n := n, glue := g } { kind := 5, fam := f, char := c, n := Sn.zero.n, glue := Sn.zero.glue } = true) : Calls Try.prog 125 #[.agg (Sn.mk (5) f c n g).arr] w fun e w' => e = .returned (.bool (goodB (Sn.mk (5) f c n g))) ∧ Below w.heap.size w w' := by
  have hn' : ¬ n = 1 := by simpa using hn
  go_enter Try.func125, Try.ntmps125
  go_wp2_with fail
  all_goals go_region
  all_goals go_wp2_with fail
  all_goals go_ret
  all_goals exact ⟨ret_bool (by first | (simp [goodB, *]; done) | (simp [goodB, *]; omega)), (((Below.refl _ _).alloc (Nat.le_refl _) _).alloc (by simp) _).drew⟩

set_option maxRecDepth 100000 in
set_option maxHeartbeats 1000000 in
theorem good_5c (f c n : Int) (g : Gl) (w : World) (hn : ((n : Int) == 1) = false) (he : eqSn { kind := 5, fam := f, char := c, n := n, glue := g } { kind := 5, fam := f, char := c, n := Sn.zero.n, glue := Sn.zero.glue } = false) : Calls Try.prog 125 #[.agg (Sn.mk (5) f c n g).arr] w fun e w' => e = .returned (.bool (goodB (Sn.mk (5) f c n g))) ∧ Below w.heap.size w w' := by
  have hn' : ¬ n = 1 := by simpa using hn
  go_enter Try.func125, Try.ntmps125
  go_wp2_with fail
  all_goals go_region
  all_goals go_wp2_with fail
  all_goals go_ret
  all_goals exact ⟨ret_bool (by first | (simp [goodB, *]; done) | (simp [goodB, *]; omega)), (((Below.refl _ _).alloc (Nat.le_refl _) _).alloc (by simp) _).drew⟩

set_option maxRecDepth 100000 in
set_option maxHeartbeats 1000000 in
theorem good_6a (f c n : Int) (g : Gl) (w : World) (hn : ((n : Int) == 1) = true) : Calls Try.prog 125 #[.agg (Sn.mk (6) f c n g).arr] w fun e w' => e = .returned (.bool (goodB (Sn.mk (6) f c n g))) ∧ Below w.heap.size w w' := by
  go_enter Try.func125, Try.ntmps125
  go_wp2_with fail
  all_goals go_ret
  all_goals exact ⟨ret_bool (by have hn' : n = 1 := (by simpa using hn); subst hn'; rfl), ((Below.refl _ _).alloc (Nat.le_refl _) _).alloc (by simp) _⟩

set_option maxRecDepth 100000 in
set_option maxHeartbeats 1000000 in
theorem good_6b (f c n : Int) (g : Gl) (w : World) (hn : ((n : Int) == 1) = false) (he : eqSn { kind := 6, fam := f, char := c, n := n, glue := g } { kind := 6, fam := f, char := c, n := Sn.zero.n, glue := Sn.zero.glue } = true) : Calls Try.prog 125 #[.agg (Sn.mk (6) f c n g).arr] w fun e w' => e = .returned (.bool (goodB (Sn.mk (6) f c n g))) ∧ Below w.heap.size w w' := by
  have hn' : ¬ n = 1 := by simpa using hn
  go_enter Try.func125, Try.ntmps125
  go_wp2_with fail
  all_goals go_region
  all_goals go_wp2_with fail
  all_goals go_ret
  all_goals exact ⟨ret_bool (by first | (simp [goodB, *]; done) | (simp [goodB, *]; omega)), (((Below.refl _ _).alloc (Nat.le_refl _) _).alloc (by simp) _).drew⟩

set_option maxRecDepth 100000 in
set_option maxHeartbeats 1000000 in
theorem good_6c (f c n : Int) (g : Gl) (w : World) (hn : ((n : Int) == 1) = false) (he : eqSn { kind := 6, fam := f, char := c, n := n, glue := g } { kind := 6, fam := f, char := c, n := Sn.zero.n, glue := Sn.zero.glue } = false) : Calls Try.prog 125 #[.agg (Sn.mk (6) f c n g).arr] w fun e w' => e = .returned (.bool (goodB (Sn.mk (6) f c n g))) ∧ Below w.heap.size w w' := by
  have hn' : ¬ n = 1 := by simpa using hn
  go_enter Try.func125, Try.ntmps125
  go_wp2_with fail
  all_goals go_region
  all_goals go_wp2_with fail
  all_goals go_ret
  all_goals exact ⟨ret_bool (by first | (simp [goodB, *]; done) | (simp [goodB, *]; omega)), (((Below.refl _ _).alloc (Nat.le_refl _) _).alloc (by simp) _).drew⟩

end Go.Proofs.Ytkkdopfdoommnaa
