/-
  Two nodes are compared, a node is built: what the walk makes of it.
-/
import Derived.Test.YtomehdepjenilaaGreatBase
namespace Go.Proofs.YtomehdepjenilaaGreat
open Go.ChangeShapes Go.WideShapes Go.ChangeAt Go.RowKit
theorem Nd.eq_iff (a b : Nd) : (a = b) ↔ (a.kind = b.kind ∧ a.font = b.font ∧ a.char = b.char ∧ a.w = b.w ∧ a.h = b.h ∧ a.d = b.d ∧ a.shift = b.shift ∧ (a.glue.nat = b.glue.nat ∧ a.glue.str = b.glue.str ∧ a.glue.shr = b.glue.shr ∧ a.glue.so = b.glue.so ∧ a.glue.ho = b.glue.ho) ∧ a.sign = b.sign ∧ a.order = b.order ∧ a.num = b.num ∧ a.den = b.den ∧ a.pen = b.pen ∧ a.sub = b.sub ∧ a.text = b.text) := by
  cases a; cases b; rename_i g _ _ _ _ _ _ _ _ _ _ _ _ _ _ g' _ _ _ _ _ _ _; cases g; cases g'
  simp
theorem bytes_toList_inj {a b : ByteArray} : a.toList = b.toList ↔ a = b := by
  rw [ByteArray.toList_eq, ByteArray.toList_eq]
  exact ⟨fun h => bytes_inj h, fun h => by rw [h]⟩
set_option maxRecDepth 100000 in
set_option maxHeartbeats 1000000 in
theorem run_eqNd (a b : Nd) (w : World) : (Op.equalIn 10000 49 (.agg a.arr) (.agg b.arr)).run Tryz.prog w = .ok (decide (a = b)) w := by
  simp only [Nd.arr, Nd.cells]
  simp [go_sem]
  by_cases h : a = b
  · subst h; simp
  · rw [decide_eq_false h]
    rw [Nd.eq_iff] at h
    by_cases h0 : a.kind = b.kind
    case neg => rw [if_neg h0]
    rw [if_pos h0]
    by_cases h1 : a.font = b.font
    case neg => rw [if_neg h1]
    rw [if_pos h1]
    by_cases h2 : a.char = b.char
    case neg => rw [if_neg h2]
    rw [if_pos h2]
    by_cases h3 : a.w = b.w
    case neg => rw [if_neg h3]
    rw [if_pos h3]
    by_cases h4 : a.h = b.h
    case neg => rw [if_neg h4]
    rw [if_pos h4]
    by_cases h5 : a.d = b.d
    case neg => rw [if_neg h5]
    rw [if_pos h5]
    by_cases h6 : a.shift = b.shift
    case neg => rw [if_neg h6]
    rw [if_pos h6]
    by_cases h7 : a.glue.nat = b.glue.nat
    case neg => rw [if_neg h7]
    rw [if_pos h7]
    by_cases h8 : a.glue.str = b.glue.str
    case neg => rw [if_neg h8]
    rw [if_pos h8]
    by_cases h9 : a.glue.shr = b.glue.shr
    case neg => rw [if_neg h9]
    rw [if_pos h9]
    by_cases h10 : a.glue.so = b.glue.so
    case neg => rw [if_neg h10]
    rw [if_pos h10]
    by_cases h11 : a.glue.ho = b.glue.ho
    case neg => rw [if_neg h11]
    rw [if_pos h11]
    by_cases h12 : a.sign = b.sign
    case neg => rw [if_neg h12]
    rw [if_pos h12]
    by_cases h13 : a.order = b.order
    case neg => rw [if_neg h13]
    rw [if_pos h13]
    by_cases h14 : a.num = b.num
    case neg => rw [if_neg h14]
    rw [if_pos h14]
    by_cases h15 : a.den = b.den
    case neg => rw [if_neg h15]
    rw [if_pos h15]
    by_cases h16 : a.pen = b.pen
    case neg => rw [if_neg h16]
    rw [if_pos h16]
    by_cases h17 : a.sub = b.sub
    case neg => rw [if_neg h17]
    rw [if_pos h17]
    by_cases h18 : a.text.toList = b.text.toList
    case neg => rw [if_neg h18]
    exact absurd ⟨h0, h1, h2, h3, h4, h5, h6, ⟨h7, h8, h9, h10, h11⟩, h12, h13, h14, h15, h16, h17, bytes_toList_inj.1 h18⟩ h
@[go_sem] theorem run_eqlNd (a b : Nd) (w : World) : (binOp .eql 49 (.agg a.arr) (.agg b.arr)).run Tryz.prog w = .ok (.bool (decide (a = b))) w := by
  rw [run_eql_struct, run_eqNd]; rfl
@[go_sem] theorem run_neqNd (a b : Nd) (w : World) : (binOp .neq 49 (.agg a.arr) (.agg b.arr)).run Tryz.prog w = .ok (.bool (!decide (a = b))) w := by
  rw [run_neq_struct, run_eqNd]; rfl
def bdNd (parts : Array (Nat × Value)) : Sem Value := Instr.build 49 parts
@[go_sem ↓] theorem execOp_buildNd (ρ : Operand → Value) (dst : Option Tmp) (x : Array (Nat × Operand)) (ty : TypeId) (pos : String) (after : Array Edge) (guard : Option (Nat × Bool)) :
    execOp ρ { dst, op := .build 49 x, type := ty, pos, after, guard } = (do pure (.value (← bdNd (x.map fun (i, y) => (i, ρ y))))) := rfl
@[go_sem] theorem run_bdNd_k (k : Int) (w : World) : (bdNd #[(0, .int .i64 k)]).run Tryz.prog w = .ok (.agg ({ Nd.zero with kind := k } : Nd).arr) w := by kernel_rfl
@[go_sem] theorem run_bdNd_0 (w : World) : (bdNd #[]).run Tryz.prog w = .ok (.agg Nd.zero.arr) w := by kernel_rfl
end Go.Proofs.YtomehdepjenilaaGreat
