/-
  nodes: what the small functions of layer 5 hand back: fields in their bounds, the fields that a kind does not name.
-/
import Derived.Test.YtaehkbbdmamfpaaGreatDoorEq
namespace Go.Proofs.YtaehkbbdmamfpaaGreatDoor
open Go.ChangeShapes Go.WideShapes Go.ChangeAt Go.RowKit
def zac (x : Int) : Bool := decide (-1073741823 <= x /\ x <= 1073741823)
def zab (x lo hi : Int) : Bool := decide (lo <= x /\ x <= hi)
def dims1 (x : Int) : Bool := zac x
def dims2 (x y : Int) : Bool := zac x && zac y
def zbG (x y z : Int) : Bool := zac x && zac y && zac z
def dims4 (x y z t : Int) : Bool := zac x && zac y && zac z && zac t
theorem r_kinds1 (n : Nd) (w : World) : Calls Tryz.prog 74 #[.agg n.arr] w fun e w' => e = .returned (.agg ({n with font := 0, char := 0, w := 0, h := 0, d := 0} : Nd).arr) /\ Below w.heap.size w w' := by
 go_enter Tryz.func74, Tryz.ntmps74
 go_wp2
 refine ret_nd rfl (w.heap.size + 1) 0 _ rfl (agg?_nd _ _ _ _ _ (by simp)) rfl ⟨rfl, ?_⟩
 exact ((Below.refl _ _).alloc (Nat.le_refl _) _).alloc (by simp) _
theorem r_kinds3 (n : Nd) (w : World) : Calls Tryz.prog 76 #[.agg n.arr] w fun e w' => e = .returned (.agg ({n with w := 0, h := 0, d := 0, shift := 0, sign := 0, order := 0, num := 0, den := 0} : Nd).arr) /\ Below w.heap.size w w' := by
 go_enter Tryz.func76, Tryz.ntmps76
 go_wp2
 refine ret_nd rfl (w.heap.size + 1) 0 _ rfl (agg?_nd _ _ _ _ _ (by simp)) rfl ⟨rfl, ?_⟩
 exact ((Below.refl _ _).alloc (Nat.le_refl _) _).alloc (by simp) _
theorem r_kinds4 (n : Nd) (w : World) : Calls Tryz.prog 77 #[.agg n.arr] w fun e w' => e = .returned (.agg ({n with w := 0} : Nd).arr) /\ Below w.heap.size w w' := by
 go_enter Tryz.func77, Tryz.ntmps77
 go_wp2
 refine ret_nd rfl (w.heap.size + 1) 0 _ rfl (agg?_nd _ _ _ _ _ (by simp)) rfl ⟨rfl, ?_⟩
 exact ((Below.refl _ _).alloc (Nat.le_refl _) _).alloc (by simp) _
theorem r_kinds5 (n : Nd) (w : World) : Calls Tryz.prog 78 #[.agg n.arr] w fun e w' => e = .returned (.agg ({n with text := ⟨#[]⟩} : Nd).arr) /\ Below w.heap.size w w' := by
 go_enter Tryz.func78, Tryz.ntmps78
 go_wp2
 refine ret_nd rfl (w.heap.size + 1) 0 _ rfl (agg?_nd _ _ _ _ _ (by simp)) rfl ⟨rfl, ?_⟩
 exact ((Below.refl _ _).alloc (Nat.le_refl _) _).alloc (by simp) _
theorem r_kinds9 (n : Nd) (w : World) : Calls Tryz.prog 86 #[.agg n.arr] w fun e w' => e = .returned (.agg ({n with w := 0, h := 0, d := 0, sub := 0} : Nd).arr) /\ Below w.heap.size w w' := by
 go_enter Tryz.func86, Tryz.ntmps86
 go_wp2
 refine ret_nd rfl (w.heap.size + 1) 0 _ rfl (agg?_nd _ _ _ _ _ (by simp)) rfl ⟨rfl, ?_⟩
 exact ((Below.refl _ _).alloc (Nat.le_refl _) _).alloc (by simp) _
theorem r_kinds11 (n : Nd) (w : World) : Calls Tryz.prog 92 #[.agg n.arr] w fun e w' => e = .returned (.agg ({n with glue := .zero, sub := 0} : Nd).arr) /\ Below w.heap.size w w' := by
 go_enter Tryz.func92, Tryz.ntmps92
 go_wp2
 refine ret_nd rfl (w.heap.size + 1) 0 _ rfl (agg?_nd _ _ _ _ _ (by simp)) rfl ⟨rfl, ?_⟩
 exact ((Below.refl _ _).alloc (Nat.le_refl _) _).alloc (by simp) _
theorem r_kinds13 (n : Nd) (w : World) : Calls Tryz.prog 94 #[.agg n.arr] w fun e w' => e = .returned (.agg ({n with w := 0, sub := 0} : Nd).arr) /\ Below w.heap.size w w' := by
 go_enter Tryz.func94, Tryz.ntmps94
 go_wp2
 refine ret_nd rfl (w.heap.size + 1) 0 _ rfl (agg?_nd _ _ _ _ _ (by simp)) rfl ⟨rfl, ?_⟩
 exact ((Below.refl _ _).alloc (Nat.le_refl _) _).alloc (by simp) _
theorem r_kinds15 (n : Nd) (w : World) : Calls Tryz.prog 96 #[.agg n.arr] w fun e w' => e = .returned (.agg ({n with pen := 0} : Nd).arr) /\ Below w.heap.size w w' := by
 go_enter Tryz.func96, Tryz.ntmps96
 go_wp2
 refine ret_nd rfl (w.heap.size + 1) 0 _ rfl (agg?_nd _ _ _ _ _ (by simp)) rfl ⟨rfl, ?_⟩
 exact ((Below.refl _ _).alloc (Nat.le_refl _) _).alloc (by simp) _
theorem r_kinds17 (n : Nd) (w : World) : Calls Tryz.prog 98 #[.agg n.arr] w fun e w' => e = .returned (.agg ({n with sub := 0, h := 0, d := 0, pen := 0, glue := .zero} : Nd).arr) /\ Below w.heap.size w w' := by
 go_enter Tryz.func98, Tryz.ntmps98
 go_wp2
 refine ret_nd rfl (w.heap.size + 1) 0 _ rfl (agg?_nd _ _ _ _ _ (by simp)) rfl ⟨rfl, ?_⟩
 exact ((Below.refl _ _).alloc (Nat.le_refl _) _).alloc (by simp) _
theorem r_all (n : Nd) (w : World) : Calls Tryz.prog 89 #[.agg n.arr] w fun e w' => e = .returned (.agg n.arr) /\ Below w.heap.size w w' := by
 go_enter Tryz.func89, Tryz.ntmps89
 go_wp2
 refine ret_nd rfl (w.heap.size + 1) 0 _ rfl (agg?_nd _ _ _ _ _ (by simp)) rfl ⟨rfl, ?_⟩
 exact ((Below.refl _ _).alloc (Nat.le_refl _) _).alloc (by simp) _
theorem zae (x lo hi : Int) (w : World) : Calls Tryz.prog 84 #[.int .i64 x, .int .i64 lo, .int .i64 hi] w fun e w' => e = .returned (.bool (zab x lo hi)) /\ w = w' := by
 go_enter Tryz.func84, Tryz.ntmps84
 go_wp2
 all_goals go_ret
 all_goals exact ⟨by simp [zab]; omega, rfl⟩
theorem zaM (x : Int) (w : World) : Calls Tryz.prog 125 #[.int .i64 x] w fun e w' => e = .returned (.bool (zac x)) /\ w = w' := by
 go_enter Tryz.func125, Tryz.ntmps125
 go_wp2
 all_goals go_ret
 all_goals exact ⟨by simp [zac]; omega, rfl⟩
def Gl.good (g : Gl) : Bool := zac g.nat && zac g.str && zac g.shr && zab g.so 0 3 && zab g.ho 0 3
theorem dimen_1 (b c : Nat) (x : Int) (w : World) (h0 : w.cell? ⟨b, 0, none⟩ = some (.int .i64 x)) :
 Calls Tryz.prog 81 #[.slice (some ⟨b, 0, none⟩) 1 c] w fun e w' => e = .returned (.bool (dims1 x)) /\ w = w' := by
 go_enter Tryz.func81, Tryz.ntmps81
 go_wp2
 refine wp_loop_rounds 2 ?_
 iterate 2 ((all_goals (try simp only [rounds_succ])); go_wp2)
 all_goals go_ret
 all_goals exact ⟨by simp [dims1, zac]; omega, rfl⟩
theorem dimen_2 (b c : Nat) (x y : Int) (w : World) (h0 : w.cell? ⟨b, 0, none⟩ = some (.int .i64 x)) (h1 : w.cell? ⟨b, 1, none⟩ = some (.int .i64 y)) :
 Calls Tryz.prog 81 #[.slice (some ⟨b, 0, none⟩) 2 c] w fun e w' => e = .returned (.bool (dims2 x y)) /\ w = w' := by
 go_enter Tryz.func81, Tryz.ntmps81
 go_wp2
 refine wp_loop_rounds 3 ?_
 iterate 3 ((all_goals (try simp only [rounds_succ])); go_wp2)
 all_goals go_ret
 all_goals exact ⟨by simp [dims2, zac]; omega, rfl⟩
theorem zbH (b c : Nat) (x y z : Int) (w : World) (h0 : w.cell? ⟨b, 0, none⟩ = some (.int .i64 x)) (h1 : w.cell? ⟨b, 1, none⟩ = some (.int .i64 y)) (h2 : w.cell? ⟨b, 2, none⟩ = some (.int .i64 z)) :
 Calls Tryz.prog 81 #[.slice (some ⟨b, 0, none⟩) 3 c] w fun e w' => e = .returned (.bool (zbG x y z)) /\ w = w' := by
 go_enter Tryz.func81, Tryz.ntmps81
 go_wp2
 refine wp_loop_rounds 4 ?_
 iterate 4 ((all_goals (try simp only [rounds_succ])); go_wp2)
 all_goals go_ret
 all_goals exact ⟨by simp [zbG, zac]; omega, rfl⟩
theorem zcd (b c : Nat) (x y z t : Int) (w : World) (h0 : w.cell? ⟨b, 0, none⟩ = some (.int .i64 x)) (h1 : w.cell? ⟨b, 1, none⟩ = some (.int .i64 y)) (h2 : w.cell? ⟨b, 2, none⟩ = some (.int .i64 z)) (h3 : w.cell? ⟨b, 3, none⟩ = some (.int .i64 t)) :
 Calls Tryz.prog 81 #[.slice (some ⟨b, 0, none⟩) 4 c] w fun e w' => e = .returned (.bool (dims4 x y z t)) /\ w = w' := by
 go_enter Tryz.func81, Tryz.ntmps81
 go_wp2
 refine wp_loop_rounds 5 ?_
 iterate 5 ((all_goals (try simp only [rounds_succ])); go_wp2)
 all_goals go_ret
 all_goals exact ⟨by simp [dims4, zac]; omega, rfl⟩
theorem ix3_0 (x y z : Value) (w : World) : (Instr.index 180 (.agg #[x, y, z]) (.int .i64 0)).run Tryz.prog w = .ok x w := by kernel_rfl
theorem ix3_1 (x y z : Value) (w : World) : (Instr.index 180 (.agg #[x, y, z]) (.int .i64 1)).run Tryz.prog w = .ok y w := by kernel_rfl
theorem ix3_2 (x y z : Value) (w : World) : (Instr.index 180 (.agg #[x, y, z]) (.int .i64 2)).run Tryz.prog w = .ok z w := by kernel_rfl
theorem ix2_0 (x y : Value) (w : World) : (Instr.index 181 (.agg #[x, y]) (.int .i64 0)).run Tryz.prog w = .ok x w := by kernel_rfl
theorem ix2_1 (x y : Value) (w : World) : (Instr.index 181 (.agg #[x, y]) (.int .i64 1)).run Tryz.prog w = .ok y w := by kernel_rfl
attribute [local go_sem] ix3_0 ix3_1 ix3_2 ix2_0 ix2_1
theorem gcheck_a (g : Gl) (w : World) (h0 : zac g.nat = false) : Calls Tryz.prog 91 #[.agg g.arr] w fun e w' => e = .returned (.int .i64 30) /\ Below w.heap.size w w' := by
 go_enter Tryz.func91, Tryz.ntmps91
 go_wp2_with (go_at_call 125; refine (zaM _ _).mono ?_; rintro e w' ⟨rfl, rfl⟩)
 refine wp_loop_rounds 4 ?_
 iterate 4 ((all_goals (try simp only [rounds_succ])); go_wp2_with (go_at_call 125; refine (zaM _ _).mono ?_; rintro e w' ⟨rfl, rfl⟩))
 all_goals go_ret
 all_goals exact ⟨rfl, (Below.refl _ _).alloc (Nat.le_refl _) _⟩
theorem gcheck_b (g : Gl) (w : World) (h0 : zac g.nat = true) (h1 : zac g.str = false) : Calls Tryz.prog 91 #[.agg g.arr] w fun e w' => e = .returned (.int .i64 30) /\ Below w.heap.size w w' := by
 go_enter Tryz.func91, Tryz.ntmps91
 go_wp2_with (go_at_call 125; refine (zaM _ _).mono ?_; rintro e w' ⟨rfl, rfl⟩)
 refine wp_loop_rounds 4 ?_
 iterate 4 ((all_goals (try simp only [rounds_succ])); go_wp2_with (go_at_call 125; refine (zaM _ _).mono ?_; rintro e w' ⟨rfl, rfl⟩))
 all_goals go_ret
 all_goals exact ⟨rfl, (Below.refl _ _).alloc (Nat.le_refl _) _⟩
theorem gcheck_c (g : Gl) (w : World) (h0 : zac g.nat = true) (h1 : zac g.str = true) (h2 : zac g.shr = false) : Calls Tryz.prog 91 #[.agg g.arr] w fun e w' => e = .returned (.int .i64 30) /\ Below w.heap.size w w' := by
 go_enter Tryz.func91, Tryz.ntmps91
 go_wp2_with (go_at_call 125; refine (zaM _ _).mono ?_; rintro e w' ⟨rfl, rfl⟩)
 refine wp_loop_rounds 4 ?_
 iterate 4 ((all_goals (try simp only [rounds_succ])); go_wp2_with (go_at_call 125; refine (zaM _ _).mono ?_; rintro e w' ⟨rfl, rfl⟩))
 all_goals go_ret
 all_goals exact ⟨rfl, (Below.refl _ _).alloc (Nat.le_refl _) _⟩
theorem gcheck_d (g : Gl) (w : World) (h0 : zac g.nat = true) (h1 : zac g.str = true) (h2 : zac g.shr = true) (h3 : g.so < 0) : Calls Tryz.prog 91 #[.agg g.arr] w fun e w' => e = .returned (.int .i64 30) /\ Below w.heap.size w w' := by
 go_enter Tryz.func91, Tryz.ntmps91
 go_wp2_with (go_at_call 125; refine (zaM _ _).mono ?_; rintro e w' ⟨rfl, rfl⟩)
 refine wp_loop_rounds 4 ?_
 iterate 4 ((all_goals (try simp only [rounds_succ])); go_wp2_with (go_at_call 125; refine (zaM _ _).mono ?_; rintro e w' ⟨rfl, rfl⟩))
 refine wp_loop_rounds 3 ?_
 iterate 3 ((all_goals (try simp only [rounds_succ])); go_wp2)
 all_goals go_ret
 all_goals exact ⟨rfl, (Below.refl _ _).alloc (Nat.le_refl _) _⟩
theorem gcheck_e (g : Gl) (w : World) (h0 : zac g.nat = true) (h1 : zac g.str = true) (h2 : zac g.shr = true) (h3 : 3 < g.so) : Calls Tryz.prog 91 #[.agg g.arr] w fun e w' => e = .returned (.int .i64 30) /\ Below w.heap.size w w' := by
 go_enter Tryz.func91, Tryz.ntmps91
 go_wp2_with (go_at_call 125; refine (zaM _ _).mono ?_; rintro e w' ⟨rfl, rfl⟩)
 refine wp_loop_rounds 4 ?_
 iterate 4 ((all_goals (try simp only [rounds_succ])); go_wp2_with (go_at_call 125; refine (zaM _ _).mono ?_; rintro e w' ⟨rfl, rfl⟩))
 refine wp_loop_rounds 3 ?_
 iterate 3 ((all_goals (try simp only [rounds_succ])); go_wp2)
 all_goals go_ret
 all_goals exact ⟨rfl, (Below.refl _ _).alloc (Nat.le_refl _) _⟩
theorem gcheck_f (g : Gl) (w : World) (h0 : zac g.nat = true) (h1 : zac g.str = true) (h2 : zac g.shr = true) (h3 : 0 <= g.so) (h4 : g.so <= 3) (h5 : g.ho < 0) : Calls Tryz.prog 91 #[.agg g.arr] w fun e w' => e = .returned (.int .i64 30) /\ Below w.heap.size w w' := by
 go_enter Tryz.func91, Tryz.ntmps91
 go_wp2_with (go_at_call 125; refine (zaM _ _).mono ?_; rintro e w' ⟨rfl, rfl⟩)
 refine wp_loop_rounds 4 ?_
 iterate 4 ((all_goals (try simp only [rounds_succ])); go_wp2_with (go_at_call 125; refine (zaM _ _).mono ?_; rintro e w' ⟨rfl, rfl⟩))
 refine wp_loop_rounds 3 ?_
 iterate 3 ((all_goals (try simp only [rounds_succ])); go_wp2)
 all_goals go_ret
 all_goals exact ⟨rfl, (Below.refl _ _).alloc (Nat.le_refl _) _⟩
theorem gcheck_g (g : Gl) (w : World) (h0 : zac g.nat = true) (h1 : zac g.str = true) (h2 : zac g.shr = true) (h3 : 0 <= g.so) (h4 : g.so <= 3) (h5 : 3 < g.ho) : Calls Tryz.prog 91 #[.agg g.arr] w fun e w' => e = .returned (.int .i64 30) /\ Below w.heap.size w w' := by
 go_enter Tryz.func91, Tryz.ntmps91
 go_wp2_with (go_at_call 125; refine (zaM _ _).mono ?_; rintro e w' ⟨rfl, rfl⟩)
 refine wp_loop_rounds 4 ?_
 iterate 4 ((all_goals (try simp only [rounds_succ])); go_wp2_with (go_at_call 125; refine (zaM _ _).mono ?_; rintro e w' ⟨rfl, rfl⟩))
 refine wp_loop_rounds 3 ?_
 iterate 3 ((all_goals (try simp only [rounds_succ])); go_wp2)
 all_goals go_ret
 all_goals exact ⟨rfl, (Below.refl _ _).alloc (Nat.le_refl _) _⟩
theorem gcheck_h (g : Gl) (w : World) (h0 : zac g.nat = true) (h1 : zac g.str = true) (h2 : zac g.shr = true) (h3 : 0 <= g.so) (h4 : g.so <= 3) (h5 : 0 <= g.ho) (h6 : g.ho <= 3) : Calls Tryz.prog 91 #[.agg g.arr] w fun e w' => e = .returned (.int .i64 0) /\ Below w.heap.size w w' := by
 go_enter Tryz.func91, Tryz.ntmps91
 go_wp2_with (go_at_call 125; refine (zaM _ _).mono ?_; rintro e w' ⟨rfl, rfl⟩)
 refine wp_loop_rounds 4 ?_
 iterate 4 ((all_goals (try simp only [rounds_succ])); go_wp2_with (go_at_call 125; refine (zaM _ _).mono ?_; rintro e w' ⟨rfl, rfl⟩))
 refine wp_loop_rounds 3 ?_
 iterate 3 ((all_goals (try simp only [rounds_succ])); go_wp2)
 all_goals go_ret
 all_goals exact ⟨rfl, (Below.refl _ _).alloc (Nat.le_refl _) _⟩
theorem zbr (g : Gl) (w : World) : Calls Tryz.prog 91 #[.agg g.arr] w fun e w' => e = .returned (.int .i64 (if g.good then 0 else 30)) /\ Below w.heap.size w w' := by
 cases h0 : zac g.nat
 · simpa [Gl.good, h0] using gcheck_a g w h0
 cases h1 : zac g.str
 · simpa [Gl.good, h0, h1] using gcheck_b g w h0 h1
 cases h2 : zac g.shr
 · simpa [Gl.good, h0, h1, h2] using gcheck_c g w h0 h1 h2
 by_cases h3 : g.so < 0
 ·
  have e : zab g.so 0 3 = false := by simp [zab]; omega
  simpa [Gl.good, h0, h1, h2, e] using gcheck_d g w h0 h1 h2 h3
 by_cases h4 : 3 < g.so
 ·
  have e : zab g.so 0 3 = false := by simp [zab]; omega
  simpa [Gl.good, h0, h1, h2, e] using gcheck_e g w h0 h1 h2 h4
 have e : zab g.so 0 3 = true := by simp [zab]; omega
 by_cases h5 : g.ho < 0
 ·
  have e' : zab g.ho 0 3 = false := by simp [zab]; omega
  simpa [Gl.good, h0, h1, h2, e, e'] using gcheck_f g w h0 h1 h2 (by omega) (by omega) h5
 by_cases h6 : 3 < g.ho
 ·
  have e' : zab g.ho 0 3 = false := by simp [zab]; omega
  simpa [Gl.good, h0, h1, h2, e, e'] using gcheck_g g w h0 h1 h2 (by omega) (by omega) h6
 have e' : zab g.ho 0 3 = true := by simp [zab]; omega
 simpa [Gl.good, h0, h1, h2, e, e'] using gcheck_h g w h0 h1 h2 (by omega) (by omega) (by omega) (by omega)
end Go.Proofs.YtaehkbbdmamfpaaGreatDoor
