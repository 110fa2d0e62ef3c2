/-
  nodes: what the small functions of layer 5 hand back: fields in their bounds, the fields that a kind does not name.
-/
import Derived.Test.YtkkdopfdoommnaaBase
namespace Go.Proofs.Ytkkdopfdoommnaa
open Go.ChangeShapes Go.WideShapes Go.ChangeAt Go.RowKit

def dimenB (x : Int) : Bool := decide (-1073741823 ≤ x ∧ x ≤ 1073741823)
def withinB (x lo hi : Int) : Bool := decide (lo ≤ x ∧ x ≤ hi)
def dims1 (x : Int) : Bool := dimenB x
def dims2 (x y : Int) : Bool := dimenB x && dimenB y
def dims3 (x y z : Int) : Bool := dimenB x && dimenB y && dimenB z
def dims4 (x y z t : Int) : Bool := dimenB x && dimenB y && dimenB z && dimenB t

theorem r_kinds1 (n : Nd) (w : World) : Calls Try.prog 100 #[.agg n.arr] w fun e w' => e = .returned (.agg ({n with font := 0, char := 0, w := 0, h := 0, d := 0} : Nd).arr) ∧ Below w.heap.size w w' := by
  go_enter Try.func100, Try.ntmps100
  go_wp2
  refine ret_nd rfl (w.heap.size + 1) 0 _ rfl (agg?_nd _ _ _ _ _ (by simp)) rfl ⟨rfl, ?_⟩
  exact ((Below.refl _ _).alloc (Nat.le_refl _) _).alloc (by simp) _

theorem r_kinds3 (n : Nd) (w : World) : Calls Try.prog 102 #[.agg n.arr] w fun e w' => e = .returned (.agg ({n with w := 0, h := 0, d := 0, shift := 0, sign := 0, order := 0, num := 0, den := 0} : Nd).arr) ∧ Below w.heap.size w w' := by
  go_enter Try.func102, Try.ntmps102
  go_wp2
  refine ret_nd rfl (w.heap.size + 1) 0 _ rfl (agg?_nd _ _ _ _ _ (by simp)) rfl ⟨rfl, ?_⟩
  exact ((Below.refl _ _).alloc (Nat.le_refl _) _).alloc (by simp) _

theorem r_kinds4 (n : Nd) (w : World) : Calls Try.prog 103 #[.agg n.arr] w fun e w' => e = .returned (.agg ({n with w := 0} : Nd).arr) ∧ Below w.heap.size w w' := by
  go_enter Try.func103, Try.ntmps103
  go_wp2
  refine ret_nd rfl (w.heap.size + 1) 0 _ rfl (agg?_nd _ _ _ _ _ (by simp)) rfl ⟨rfl, ?_⟩
  exact ((Below.refl _ _).alloc (Nat.le_refl _) _).alloc (by simp) _

theorem r_kinds5 (n : Nd) (w : World) : Calls Try.prog 104 #[.agg n.arr] w fun e w' => e = .returned (.agg ({n with text := ⟨#[]⟩} : Nd).arr) ∧ Below w.heap.size w w' := by
  go_enter Try.func104, Try.ntmps104
  go_wp2
  refine ret_nd rfl (w.heap.size + 1) 0 _ rfl (agg?_nd _ _ _ _ _ (by simp)) rfl ⟨rfl, ?_⟩
  exact ((Below.refl _ _).alloc (Nat.le_refl _) _).alloc (by simp) _

theorem r_kinds9 (n : Nd) (w : World) : Calls Try.prog 112 #[.agg n.arr] w fun e w' => e = .returned (.agg ({n with w := 0, h := 0, d := 0, sub := 0} : Nd).arr) ∧ Below w.heap.size w w' := by
  go_enter Try.func112, Try.ntmps112
  go_wp2
  refine ret_nd rfl (w.heap.size + 1) 0 _ rfl (agg?_nd _ _ _ _ _ (by simp)) rfl ⟨rfl, ?_⟩
  exact ((Below.refl _ _).alloc (Nat.le_refl _) _).alloc (by simp) _

theorem r_kinds11 (n : Nd) (w : World) : Calls Try.prog 117 #[.agg n.arr] w fun e w' => e = .returned (.agg ({n with glue := .zero, sub := 0} : Nd).arr) ∧ Below w.heap.size w w' := by
  go_enter Try.func117, Try.ntmps117
  go_wp2
  refine ret_nd rfl (w.heap.size + 1) 0 _ rfl (agg?_nd _ _ _ _ _ (by simp)) rfl ⟨rfl, ?_⟩
  exact ((Below.refl _ _).alloc (Nat.le_refl _) _).alloc (by simp) _

theorem r_kinds13 (n : Nd) (w : World) : Calls Try.prog 119 #[.agg n.arr] w fun e w' => e = .returned (.agg ({n with w := 0, sub := 0} : Nd).arr) ∧ Below w.heap.size w w' := by
  go_enter Try.func119, Try.ntmps119
  go_wp2
  refine ret_nd rfl (w.heap.size + 1) 0 _ rfl (agg?_nd _ _ _ _ _ (by simp)) rfl ⟨rfl, ?_⟩
  exact ((Below.refl _ _).alloc (Nat.le_refl _) _).alloc (by simp) _

theorem r_kinds15 (n : Nd) (w : World) : Calls Try.prog 121 #[.agg n.arr] w fun e w' => e = .returned (.agg ({n with pen := 0} : Nd).arr) ∧ Below w.heap.size w w' := by
  go_enter Try.func121, Try.ntmps121
  go_wp2
  refine ret_nd rfl (w.heap.size + 1) 0 _ rfl (agg?_nd _ _ _ _ _ (by simp)) rfl ⟨rfl, ?_⟩
  exact ((Below.refl _ _).alloc (Nat.le_refl _) _).alloc (by simp) _

theorem r_kinds17 (n : Nd) (w : World) : Calls Try.prog 123 #[.agg n.arr] w fun e w' => e = .returned (.agg ({n with sub := 0, h := 0, d := 0, pen := 0, glue := .zero} : Nd).arr) ∧ Below w.heap.size w w' := by
  go_enter Try.func123, Try.ntmps123
  go_wp2
  refine ret_nd rfl (w.heap.size + 1) 0 _ rfl (agg?_nd _ _ _ _ _ (by simp)) rfl ⟨rfl, ?_⟩
  exact ((Below.refl _ _).alloc (Nat.le_refl _) _).alloc (by simp) _

theorem r_all (n : Nd) (w : World) : Calls Try.prog 115 #[.agg n.arr] w fun e w' => e = .returned (.agg n.arr) ∧ Below w.heap.size w w' := by
  go_enter Try.func115, Try.ntmps115
  go_wp2
  refine ret_nd rfl (w.heap.size + 1) 0 _ rfl (agg?_nd _ _ _ _ _ (by simp)) rfl ⟨rfl, ?_⟩
  exact ((Below.refl _ _).alloc (Nat.le_refl _) _).alloc (by simp) _

theorem within_any (x lo hi : Int) (w : World) : Calls Try.prog 110 #[.int .i64 x, .int .i64 lo, .int .i64 hi] w fun e w' => e = .returned (.bool (withinB x lo hi)) ∧ w = w' := by
  go_enter Try.func110, Try.ntmps110
  go_wp2
  all_goals go_ret
  all_goals exact ⟨by simp [withinB]; omega, rfl⟩

end Go.Proofs.Ytkkdopfdoommnaa
