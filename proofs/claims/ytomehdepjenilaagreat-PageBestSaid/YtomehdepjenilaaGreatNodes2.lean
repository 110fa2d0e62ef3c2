/-
  nodes: what the small functions of layer 5 hand back: fields in their bounds, the fields that a kind does not name.
-/
import Derived.Test.YtomehdepjenilaaGreatEq
namespace Go.Proofs.YtomehdepjenilaaGreat
open Go.ChangeShapes Go.WideShapes Go.ChangeAt Go.RowKit

def dimenB (x : Int) : Bool := decide (-1073741823 ≤ x ∧ x ≤ 1073741823)
def withinB (x lo hi : Int) : Bool := decide (lo ≤ x ∧ x ≤ hi)
def dims1 (x : Int) : Bool := dimenB x
def dims2 (x y : Int) : Bool := dimenB x && dimenB y
def dims3 (x y z : Int) : Bool := dimenB x && dimenB y && dimenB z
def dims4 (x y z t : Int) : Bool := dimenB x && dimenB y && dimenB z && dimenB t

theorem r_kinds1 (n : Nd) (w : World) : Calls Tryz.prog 118 #[.agg n.arr] w fun e w' => e = .returned (.agg ({n with font := 0, char := 0, w := 0, h := 0, d := 0} : Nd).arr) ∧ Below w.heap.size w w' := by
  go_enter Tryz.func118, Tryz.ntmps118
  go_wp2
  refine ret_nd rfl (w.heap.size + 1) 0 _ rfl (agg?_nd _ _ _ _ _ (by simp)) rfl ⟨rfl, ?_⟩
  exact ((Below.refl _ _).alloc (Nat.le_refl _) _).alloc (by simp) _

theorem r_kinds3 (n : Nd) (w : World) : Calls Tryz.prog 120 #[.agg n.arr] w fun e w' => e = .returned (.agg ({n with w := 0, h := 0, d := 0, shift := 0, sign := 0, order := 0, num := 0, den := 0} : Nd).arr) ∧ Below w.heap.size w w' := by
  go_enter Tryz.func120, Tryz.ntmps120
  go_wp2
  refine ret_nd rfl (w.heap.size + 1) 0 _ rfl (agg?_nd _ _ _ _ _ (by simp)) rfl ⟨rfl, ?_⟩
  exact ((Below.refl _ _).alloc (Nat.le_refl _) _).alloc (by simp) _

theorem r_kinds4 (n : Nd) (w : World) : Calls Tryz.prog 121 #[.agg n.arr] w fun e w' => e = .returned (.agg ({n with w := 0} : Nd).arr) ∧ Below w.heap.size w w' := by
  go_enter Tryz.func121, Tryz.ntmps121
  go_wp2
  refine ret_nd rfl (w.heap.size + 1) 0 _ rfl (agg?_nd _ _ _ _ _ (by simp)) rfl ⟨rfl, ?_⟩
  exact ((Below.refl _ _).alloc (Nat.le_refl _) _).alloc (by simp) _

theorem r_kinds5 (n : Nd) (w : World) : Calls Tryz.prog 122 #[.agg n.arr] w fun e w' => e = .returned (.agg ({n with text := ⟨#[]⟩} : Nd).arr) ∧ Below w.heap.size w w' := by
  go_enter Tryz.func122, Tryz.ntmps122
  go_wp2
  refine ret_nd rfl (w.heap.size + 1) 0 _ rfl (agg?_nd _ _ _ _ _ (by simp)) rfl ⟨rfl, ?_⟩
  exact ((Below.refl _ _).alloc (Nat.le_refl _) _).alloc (by simp) _

theorem r_kinds9 (n : Nd) (w : World) : Calls Tryz.prog 130 #[.agg n.arr] w fun e w' => e = .returned (.agg ({n with w := 0, h := 0, d := 0, sub := 0} : Nd).arr) ∧ Below w.heap.size w w' := by
  go_enter Tryz.func130, Tryz.ntmps130
  go_wp2
  refine ret_nd rfl (w.heap.size + 1) 0 _ rfl (agg?_nd _ _ _ _ _ (by simp)) rfl ⟨rfl, ?_⟩
  exact ((Below.refl _ _).alloc (Nat.le_refl _) _).alloc (by simp) _

theorem r_kinds11 (n : Nd) (w : World) : Calls Tryz.prog 135 #[.agg n.arr] w fun e w' => e = .returned (.agg ({n with glue := .zero, sub := 0} : Nd).arr) ∧ Below w.heap.size w w' := by
  go_enter Tryz.func135, Tryz.ntmps135
  go_wp2
  refine ret_nd rfl (w.heap.size + 1) 0 _ rfl (agg?_nd _ _ _ _ _ (by simp)) rfl ⟨rfl, ?_⟩
  exact ((Below.refl _ _).alloc (Nat.le_refl _) _).alloc (by simp) _

theorem r_kinds13 (n : Nd) (w : World) : Calls Tryz.prog 137 #[.agg n.arr] w fun e w' => e = .returned (.agg ({n with w := 0, sub := 0} : Nd).arr) ∧ Below w.heap.size w w' := by
  go_enter Tryz.func137, Tryz.ntmps137
  go_wp2
  refine ret_nd rfl (w.heap.size + 1) 0 _ rfl (agg?_nd _ _ _ _ _ (by simp)) rfl ⟨rfl, ?_⟩
  exact ((Below.refl _ _).alloc (Nat.le_refl _) _).alloc (by simp) _

theorem r_kinds15 (n : Nd) (w : World) : Calls Tryz.prog 139 #[.agg n.arr] w fun e w' => e = .returned (.agg ({n with pen := 0} : Nd).arr) ∧ Below w.heap.size w w' := by
  go_enter Tryz.func139, Tryz.ntmps139
  go_wp2
  refine ret_nd rfl (w.heap.size + 1) 0 _ rfl (agg?_nd _ _ _ _ _ (by simp)) rfl ⟨rfl, ?_⟩
  exact ((Below.refl _ _).alloc (Nat.le_refl _) _).alloc (by simp) _

theorem r_kinds17 (n : Nd) (w : World) : Calls Tryz.prog 141 #[.agg n.arr] w fun e w' => e = .returned (.agg ({n with sub := 0, h := 0, d := 0, pen := 0, glue := .zero} : Nd).arr) ∧ Below w.heap.size w w' := by
  go_enter Tryz.func141, Tryz.ntmps141
  go_wp2
  refine ret_nd rfl (w.heap.size + 1) 0 _ rfl (agg?_nd _ _ _ _ _ (by simp)) rfl ⟨rfl, ?_⟩
  exact ((Below.refl _ _).alloc (Nat.le_refl _) _).alloc (by simp) _

theorem r_all (n : Nd) (w : World) : Calls Tryz.prog 133 #[.agg n.arr] w fun e w' => e = .returned (.agg n.arr) ∧ Below w.heap.size w w' := by
  go_enter Tryz.func133, Tryz.ntmps133
  go_wp2
  refine ret_nd rfl (w.heap.size + 1) 0 _ rfl (agg?_nd _ _ _ _ _ (by simp)) rfl ⟨rfl, ?_⟩
  exact ((Below.refl _ _).alloc (Nat.le_refl _) _).alloc (by simp) _

theorem within_any (x lo hi : Int) (w : World) : Calls Tryz.prog 128 #[.int .i64 x, .int .i64 lo, .int .i64 hi] w fun e w' => e = .returned (.bool (withinB x lo hi)) ∧ w = w' := by
  go_enter Tryz.func128, Tryz.ntmps128
  go_wp2
  all_goals go_ret
  all_goals exact ⟨by simp [withinB]; omega, rfl⟩


theorem gdimen_any (x : Int) (w : World) : Calls Tryz.prog 60 #[.int .i64 x] w fun e w' => e = .returned (.bool (dimenB x)) ∧ w = w' := by
  go_enter Tryz.func60, Tryz.ntmps60
  go_wp2
  all_goals go_ret
  all_goals exact ⟨by simp [dimenB]; omega, rfl⟩
def Gl.good (g : Gl) : Bool := dimenB g.nat && dimenB g.str && dimenB g.shr && withinB g.so 0 3 && withinB g.ho 0 3

theorem dimen_1 (b c : Nat) (x : Int) (w : World) (h0 : w.cell? ⟨b, 0, none⟩ = some (.int .i64 x)) :
   Calls Tryz.prog 125 #[.slice (some ⟨b, 0, none⟩) 1 c] w fun e w' => e = .returned (.bool (dims1 x)) ∧ w = w' := by
  go_enter Tryz.func125, Tryz.ntmps125
  go_wp2
  refine wp_loop_rounds 2 ?_
  iterate 2 ((all_goals (try simp only [rounds_succ])); go_wp2)
  all_goals go_ret
  all_goals exact ⟨by simp [dims1, dimenB]; omega, rfl⟩

theorem dimen_2 (b c : Nat) (x y : Int) (w : World) (h0 : w.cell? ⟨b, 0, none⟩ = some (.int .i64 x)) (h1 : w.cell? ⟨b, 1, none⟩ = some (.int .i64 y)) :
   Calls Tryz.prog 125 #[.slice (some ⟨b, 0, none⟩) 2 c] w fun e w' => e = .returned (.bool (dims2 x y)) ∧ w = w' := by
  go_enter Tryz.func125, Tryz.ntmps125
  go_wp2
  refine wp_loop_rounds 3 ?_
  iterate 3 ((all_goals (try simp only [rounds_succ])); go_wp2)
  all_goals go_ret
  all_goals exact ⟨by simp [dims2, dimenB]; omega, rfl⟩

theorem dimen_3 (b c : Nat) (x y z : Int) (w : World) (h0 : w.cell? ⟨b, 0, none⟩ = some (.int .i64 x)) (h1 : w.cell? ⟨b, 1, none⟩ = some (.int .i64 y)) (h2 : w.cell? ⟨b, 2, none⟩ = some (.int .i64 z)) :
   Calls Tryz.prog 125 #[.slice (some ⟨b, 0, none⟩) 3 c] w fun e w' => e = .returned (.bool (dims3 x y z)) ∧ w = w' := by
  go_enter Tryz.func125, Tryz.ntmps125
  go_wp2
  refine wp_loop_rounds 4 ?_
  iterate 4 ((all_goals (try simp only [rounds_succ])); go_wp2)
  all_goals go_ret
  all_goals exact ⟨by simp [dims3, dimenB]; omega, rfl⟩

theorem dimen_4 (b c : Nat) (x y z t : Int) (w : World) (h0 : w.cell? ⟨b, 0, none⟩ = some (.int .i64 x)) (h1 : w.cell? ⟨b, 1, none⟩ = some (.int .i64 y)) (h2 : w.cell? ⟨b, 2, none⟩ = some (.int .i64 z)) (h3 : w.cell? ⟨b, 3, none⟩ = some (.int .i64 t)) :
   Calls Tryz.prog 125 #[.slice (some ⟨b, 0, none⟩) 4 c] w fun e w' => e = .returned (.bool (dims4 x y z t)) ∧ w = w' := by
  go_enter Tryz.func125, Tryz.ntmps125
  go_wp2
  refine wp_loop_rounds 5 ?_
  iterate 5 ((all_goals (try simp only [rounds_succ])); go_wp2)
  all_goals go_ret
  all_goals exact ⟨by simp [dims4, dimenB]; omega, rfl⟩

theorem ix3_0 (x y z : Value) (w : World) : (Instr.index 114 (.agg #[x, y, z]) (.int .i64 0)).run Tryz.prog w = .ok x w := by kernel_rfl
theorem ix3_1 (x y z : Value) (w : World) : (Instr.index 114 (.agg #[x, y, z]) (.int .i64 1)).run Tryz.prog w = .ok y w := by kernel_rfl
theorem ix3_2 (x y z : Value) (w : World) : (Instr.index 114 (.agg #[x, y, z]) (.int .i64 2)).run Tryz.prog w = .ok z w := by kernel_rfl
theorem ix2_0 (x y : Value) (w : World) : (Instr.index 115 (.agg #[x, y]) (.int .i64 0)).run Tryz.prog w = .ok x w := by kernel_rfl
theorem ix2_1 (x y : Value) (w : World) : (Instr.index 115 (.agg #[x, y]) (.int .i64 1)).run Tryz.prog w = .ok y w := by kernel_rfl
attribute [local go_sem] ix3_0 ix3_1 ix3_2 ix2_0 ix2_1

theorem gcheck_a (g : Gl) (w : World) (h0 : dimenB g.nat = false) : Calls Tryz.prog 30 #[.agg g.arr] w fun e w' => e = .returned (.int .i64 30) ∧ Below w.heap.size w w' := by
  go_enter Tryz.func30, Tryz.ntmps30
  go_wp2_with (go_at_call 60; refine (gdimen_any _ _).mono ?_; rintro e w' ⟨rfl, rfl⟩)
  refine wp_loop_rounds 4 ?_
  iterate 4 ((all_goals (try simp only [rounds_succ])); go_wp2_with (go_at_call 60; refine (gdimen_any _ _).mono ?_; rintro e w' ⟨rfl, rfl⟩))
  all_goals go_ret
  all_goals exact ⟨rfl, (Below.refl _ _).alloc (Nat.le_refl _) _⟩

theorem gcheck_b (g : Gl) (w : World) (h0 : dimenB g.nat = true) (h1 : dimenB g.str = false) : Calls Tryz.prog 30 #[.agg g.arr] w fun e w' => e = .returned (.int .i64 30) ∧ Below w.heap.size w w' := by
  go_enter Tryz.func30, Tryz.ntmps30
  go_wp2_with (go_at_call 60; refine (gdimen_any _ _).mono ?_; rintro e w' ⟨rfl, rfl⟩)
  refine wp_loop_rounds 4 ?_
  iterate 4 ((all_goals (try simp only [rounds_succ])); go_wp2_with (go_at_call 60; refine (gdimen_any _ _).mono ?_; rintro e w' ⟨rfl, rfl⟩))
  all_goals go_ret
  all_goals exact ⟨rfl, (Below.refl _ _).alloc (Nat.le_refl _) _⟩

theorem gcheck_c (g : Gl) (w : World) (h0 : dimenB g.nat = true) (h1 : dimenB g.str = true) (h2 : dimenB g.shr = false) : Calls Tryz.prog 30 #[.agg g.arr] w fun e w' => e = .returned (.int .i64 30) ∧ Below w.heap.size w w' := by
  go_enter Tryz.func30, Tryz.ntmps30
  go_wp2_with (go_at_call 60; refine (gdimen_any _ _).mono ?_; rintro e w' ⟨rfl, rfl⟩)
  refine wp_loop_rounds 4 ?_
  iterate 4 ((all_goals (try simp only [rounds_succ])); go_wp2_with (go_at_call 60; refine (gdimen_any _ _).mono ?_; rintro e w' ⟨rfl, rfl⟩))
  all_goals go_ret
  all_goals exact ⟨rfl, (Below.refl _ _).alloc (Nat.le_refl _) _⟩

theorem gcheck_d (g : Gl) (w : World) (h0 : dimenB g.nat = true) (h1 : dimenB g.str = true) (h2 : dimenB g.shr = true) (h3 : g.so < 0) : Calls Tryz.prog 30 #[.agg g.arr] w fun e w' => e = .returned (.int .i64 30) ∧ Below w.heap.size w w' := by
  go_enter Tryz.func30, Tryz.ntmps30
  go_wp2_with (go_at_call 60; refine (gdimen_any _ _).mono ?_; rintro e w' ⟨rfl, rfl⟩)
  refine wp_loop_rounds 4 ?_
  iterate 4 ((all_goals (try simp only [rounds_succ])); go_wp2_with (go_at_call 60; refine (gdimen_any _ _).mono ?_; rintro e w' ⟨rfl, rfl⟩))
  refine wp_loop_rounds 3 ?_
  iterate 3 ((all_goals (try simp only [rounds_succ])); go_wp2)
  all_goals go_ret
  all_goals exact ⟨rfl, (Below.refl _ _).alloc (Nat.le_refl _) _⟩

theorem gcheck_e (g : Gl) (w : World) (h0 : dimenB g.nat = true) (h1 : dimenB g.str = true) (h2 : dimenB g.shr = true) (h3 : 3 < g.so) : Calls Tryz.prog 30 #[.agg g.arr] w fun e w' => e = .returned (.int .i64 30) ∧ Below w.heap.size w w' := by
  go_enter Tryz.func30, Tryz.ntmps30
  go_wp2_with (go_at_call 60; refine (gdimen_any _ _).mono ?_; rintro e w' ⟨rfl, rfl⟩)
  refine wp_loop_rounds 4 ?_
  iterate 4 ((all_goals (try simp only [rounds_succ])); go_wp2_with (go_at_call 60; refine (gdimen_any _ _).mono ?_; rintro e w' ⟨rfl, rfl⟩))
  refine wp_loop_rounds 3 ?_
  iterate 3 ((all_goals (try simp only [rounds_succ])); go_wp2)
  all_goals go_ret
  all_goals exact ⟨rfl, (Below.refl _ _).alloc (Nat.le_refl _) _⟩

theorem gcheck_f (g : Gl) (w : World) (h0 : dimenB g.nat = true) (h1 : dimenB g.str = true) (h2 : dimenB g.shr = true) (h3 : 0 ≤ g.so) (h4 : g.so ≤ 3) (h5 : g.ho < 0) : Calls Tryz.prog 30 #[.agg g.arr] w fun e w' => e = .returned (.int .i64 30) ∧ Below w.heap.size w w' := by
  go_enter Tryz.func30, Tryz.ntmps30
  go_wp2_with (go_at_call 60; refine (gdimen_any _ _).mono ?_; rintro e w' ⟨rfl, rfl⟩)
  refine wp_loop_rounds 4 ?_
  iterate 4 ((all_goals (try simp only [rounds_succ])); go_wp2_with (go_at_call 60; refine (gdimen_any _ _).mono ?_; rintro e w' ⟨rfl, rfl⟩))
  refine wp_loop_rounds 3 ?_
  iterate 3 ((all_goals (try simp only [rounds_succ])); go_wp2)
  all_goals go_ret
  all_goals exact ⟨rfl, (Below.refl _ _).alloc (Nat.le_refl _) _⟩

theorem gcheck_g (g : Gl) (w : World) (h0 : dimenB g.nat = true) (h1 : dimenB g.str = true) (h2 : dimenB g.shr = true) (h3 : 0 ≤ g.so) (h4 : g.so ≤ 3) (h5 : 3 < g.ho) : Calls Tryz.prog 30 #[.agg g.arr] w fun e w' => e = .returned (.int .i64 30) ∧ Below w.heap.size w w' := by
  go_enter Tryz.func30, Tryz.ntmps30
  go_wp2_with (go_at_call 60; refine (gdimen_any _ _).mono ?_; rintro e w' ⟨rfl, rfl⟩)
  refine wp_loop_rounds 4 ?_
  iterate 4 ((all_goals (try simp only [rounds_succ])); go_wp2_with (go_at_call 60; refine (gdimen_any _ _).mono ?_; rintro e w' ⟨rfl, rfl⟩))
  refine wp_loop_rounds 3 ?_
  iterate 3 ((all_goals (try simp only [rounds_succ])); go_wp2)
  all_goals go_ret
  all_goals exact ⟨rfl, (Below.refl _ _).alloc (Nat.le_refl _) _⟩

theorem gcheck_h (g : Gl) (w : World) (h0 : dimenB g.nat = true) (h1 : dimenB g.str = true) (h2 : dimenB g.shr = true) (h3 : 0 ≤ g.so) (h4 : g.so ≤ 3) (h5 : 0 ≤ g.ho) (h6 : g.ho ≤ 3) : Calls Tryz.prog 30 #[.agg g.arr] w fun e w' => e = .returned (.int .i64 0) ∧ Below w.heap.size w w' := by
  go_enter Tryz.func30, Tryz.ntmps30
  go_wp2_with (go_at_call 60; refine (gdimen_any _ _).mono ?_; rintro e w' ⟨rfl, rfl⟩)
  refine wp_loop_rounds 4 ?_
  iterate 4 ((all_goals (try simp only [rounds_succ])); go_wp2_with (go_at_call 60; refine (gdimen_any _ _).mono ?_; rintro e w' ⟨rfl, rfl⟩))
  refine wp_loop_rounds 3 ?_
  iterate 3 ((all_goals (try simp only [rounds_succ])); go_wp2)
  all_goals go_ret
  all_goals exact ⟨rfl, (Below.refl _ _).alloc (Nat.le_refl _) _⟩

theorem gcheck_any (g : Gl) (w : World) : Calls Tryz.prog 30 #[.agg g.arr] w fun e w' => e = .returned (.int .i64 (if g.good then 0 else 30)) ∧ Below w.heap.size w w' := by
  cases h0 : dimenB g.nat
  · simpa [Gl.good, h0] using gcheck_a g w h0
  cases h1 : dimenB g.str
  · simpa [Gl.good, h0, h1] using gcheck_b g w h0 h1
  cases h2 : dimenB g.shr
  · simpa [Gl.good, h0, h1, h2] using gcheck_c g w h0 h1 h2
  by_cases h3 : g.so < 0
  · have e : withinB g.so 0 3 = false := by simp [withinB]; omega
    simpa [Gl.good, h0, h1, h2, e] using gcheck_d g w h0 h1 h2 h3
  by_cases h4 : 3 < g.so
  · have e : withinB g.so 0 3 = false := by simp [withinB]; omega
    simpa [Gl.good, h0, h1, h2, e] using gcheck_e g w h0 h1 h2 h4
  have e : withinB g.so 0 3 = true := by simp [withinB]; omega
  by_cases h5 : g.ho < 0
  · have e' : withinB g.ho 0 3 = false := by simp [withinB]; omega
    simpa [Gl.good, h0, h1, h2, e, e'] using gcheck_f g w h0 h1 h2 (by omega) (by omega) h5
  by_cases h6 : 3 < g.ho
  · have e' : withinB g.ho 0 3 = false := by simp [withinB]; omega
    simpa [Gl.good, h0, h1, h2, e, e'] using gcheck_g g w h0 h1 h2 (by omega) (by omega) h6
  have e' : withinB g.ho 0 3 = true := by simp [withinB]; omega
  simpa [Gl.good, h0, h1, h2, e, e'] using gcheck_h g w h0 h1 h2 (by omega) (by omega) (by omega) (by omega)

end Go.Proofs.YtomehdepjenilaaGreat
