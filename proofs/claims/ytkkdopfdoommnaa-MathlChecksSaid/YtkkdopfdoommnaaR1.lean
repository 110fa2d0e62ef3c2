/-
  Layer 20, the document's side: the small functions of its reader: what is asked of a sign.
-/
import Derived.Test.YtkkdopfdoommnaaMRef
import Derived.Test.YtkkdopfdoommnaaM14d
namespace Go.Proofs.Ytkkdopfdoommnaa
open Go.ChangeShapes Go.WideShapes Go.ChangeAt Go.RowKit
attribute [local go_sem ↓] Go.wp_at_zero Go.wp_at_succ

/-- two glues are the same: closed to the walk -/
def eqGl (a b : Gl) : Bool := decide (a = b)
theorem Gl.eq_iff (a b : Gl) : (a = b) ↔ (a.nat = b.nat ∧ a.str = b.str ∧ a.shr = b.shr ∧ a.so = b.so ∧ a.ho = b.ho) := by
  cases a; cases b; simp
theorem run_eqGl (a b : Gl) (w : World) : (Op.equalIn 10000 23 (.agg a.arr) (.agg b.arr)).run Try.prog w = .ok (decide (a = b)) w := by
  simp only [Gl.arr, Gl.cells]
  simp [go_sem]
  by_cases h : a = b
  · subst h; simp
  · rw [decide_eq_false h]
    rw [Gl.eq_iff] at h
    by_cases h0 : a.nat = b.nat
    case neg => rw [if_neg h0]
    rw [if_pos h0]
    by_cases h1 : a.str = b.str
    case neg => rw [if_neg h1]
    rw [if_pos h1]
    by_cases h2 : a.shr = b.shr
    case neg => rw [if_neg h2]
    rw [if_pos h2]
    by_cases h3 : a.so = b.so
    case neg => rw [if_neg h3]
    rw [if_pos h3]
    by_cases h4 : a.ho = b.ho
    case neg => simp [h4]
    exact absurd ⟨h0, h1, h2, h3, h4⟩ h
@[go_sem ↓] theorem execOp_eqGl (ρ : Operand → Value) (dst : Option Tmp) (x y : Operand) (k ty : TypeId) (pos : String) (after : Array Edge) (guard : Option (Nat × Bool)) :
    execOp ρ { dst, op := .binOp .eql 23 x y k, type := ty, pos, after, guard } = (do pure (.value (← eqOp 23 x y (ρ x) (ρ y)))) := rfl
theorem eqGuardGl : Try.prog.eqGuardType Try.prog.depth 23 = false := by kernel_rfl
@[go_sem] theorem run_eqOpGl (a b : Gl) (X Y : Operand) (w : World) : (eqOp 23 X Y (.agg a.arr) (.agg b.arr)).run Try.prog w = .ok (.bool (eqGl a b)) w := by
  unfold eqOp
  have h1 := run_eqGuard_agg (P := Try.prog) w .eql 23 X Y a.arr b.arr eqGuardGl
  have h2 : (binOp .eql 23 (.agg a.arr) (.agg b.arr)).run Try.prog w = .ok (.bool (eqGl a b)) w := by rw [run_eql_struct, run_eqGl]; rfl
  simp only [Sem.run_bind, h1, Result.andThen_ok, h2]
def bdGl (parts : Array (Nat × Value)) : Sem Value := Instr.build 23 parts
@[go_sem ↓] theorem execOp_buildGl (ρ : Operand → Value) (dst : Option Tmp) (x : Array (Nat × Operand)) (ty : TypeId) (pos : String) (after : Array Edge) (guard : Option (Nat × Bool)) :
    execOp ρ { dst, op := .build 23 x, type := ty, pos, after, guard } = (do pure (.value (← bdGl (x.map fun (i, y) => (i, ρ y))))) := rfl
@[go_sem] theorem run_bdGl_0 (w : World) : (bdGl #[]).run Try.prog w = .ok (.agg Gl.zero.arr) w := by kernel_rfl

set_option maxHeartbeats 4000000 in
theorem rplain_any (s : Sn) (c n : Bool) (w : World) : Calls Try.prog 144 #[.agg s.arr, .bool c, .bool n] w fun e w' => e = .returned (.bool (plainB s c n)) ∧ Below w.heap.size w w' := by
  have he : eqGl s.glue Gl.zero = decide (s.glue = Gl.zero) := rfl
  have He := Lib.hid he
  clear he
  cases c <;> cases n
  all_goals go_enter Try.func144, Try.ntmps144
  all_goals go_wp2
  all_goals go_ret
  all_goals refine ⟨ret_bool ?_, (Below.refl _ _).alloc (Nat.le_refl _) _⟩
  all_goals unfold plainB
  all_goals rw [← He.out]
  all_goals first | (simp [*]; done) | (simp_all; done) | skip
end Go.Proofs.Ytkkdopfdoommnaa
