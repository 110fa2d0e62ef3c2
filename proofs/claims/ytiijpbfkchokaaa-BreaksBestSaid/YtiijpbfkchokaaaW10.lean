/-
  Three numbers of the laws: a struct of theirs as a Lean structure; two line ends are compared. No statement of the seat stands here.
-/
import Derived.Test.YtiijpbfkchokaaaNodes5
import Derived.Test.YtiijpbfkchokaaaW0
namespace Go.Proofs.Ytiijpbfkchokaaa
open Go.ChangeShapes Go.WideShapes Go.ChangeAt Go.RowKit
set_option maxRecDepth 10000


structure I3 where
  a : Int
  b : Int
  c : Int
deriving Inhabited, DecidableEq
def I3.cells (n : I3) : List Value := [.int .i64 n.a, .int .i64 n.b, .int .i64 n.c]
def I3.arr (n : I3) : Array Value := n.cells.toArray
@[go_sem] theorem I3.size_arr (n : I3) : n.arr.size = 3 := id rfl
@[go_sem] theorem I3.get0 (n : I3) : n.arr[0]? = some (.int .i64 n.a) := id rfl
@[go_sem] theorem I3.at0 (n : I3) (h : 0 < n.arr.size) : n.arr[0] = .int .i64 n.a := id rfl
@[go_sem] theorem I3.get1 (n : I3) : n.arr[1]? = some (.int .i64 n.b) := id rfl
@[go_sem] theorem I3.at1 (n : I3) (h : 1 < n.arr.size) : n.arr[1] = .int .i64 n.b := id rfl
@[go_sem] theorem I3.get2 (n : I3) : n.arr[2]? = some (.int .i64 n.c) := id rfl
@[go_sem] theorem I3.at2 (n : I3) (h : 2 < n.arr.size) : n.arr[2] = .int .i64 n.c := id rfl
@[go_sem] theorem I3.set0 (n : I3) (x : Int) : n.arr.setIfInBounds 0 (.int .i64 x) = ({ n with a := x } : I3).arr := id rfl
@[go_sem] theorem I3.set1 (n : I3) (x : Int) : n.arr.setIfInBounds 1 (.int .i64 x) = ({ n with b := x } : I3).arr := id rfl
@[go_sem] theorem I3.set2 (n : I3) (x : Int) : n.arr.setIfInBounds 2 (.int .i64 x) = ({ n with c := x } : I3).arr := id rfl
theorem I3.lit (x0 : Int) (x1 : Int) (x2 : Int) : (#[.int .i64 x0, .int .i64 x1, .int .i64 x2] : Array Value) = (I3.mk x0 x1 x2).arr := id rfl
@[go_sem] theorem agg?_I3 (w : World) (n : I3) (t : TypeId) (fr : Nat × Nat) (b : Nat) (h : b = w.heap.size) : agg? (w.alloc (.cells n.arr t fr)) b 0 3 = some n.arr := by
  rw [agg?_alloc_at w n.arr t fr b 0 3 h (by simp [I3.size_arr])]; simp [I3.arr, I3.cells]
theorem setMany_I3 (n m : I3) : setMany n.arr 0 m.cells = m.arr := by
  simp only [I3.cells, setMany, Nat.reduceAdd, I3.set0, I3.set1, I3.set2]
@[go_sem] theorem setAgg_I3 (w : World) (n m : I3) (t : TypeId) (b : Nat) (h : b = w.heap.size) : setAgg (w.alloc (.cells n.arr t)) b 0 m.arr = w.alloc (.cells m.arr t) := by
  subst h
  unfold setAgg
  rw [setCells_alloc_at, show m.arr.toList = m.cells from rfl, setMany_I3]

theorem I3.one (n : I3) : n.arr.all (·.oneCell') = true := by simp [I3.arr, I3.cells, Value.oneCell']

theorem u_i3 : Try.prog.underlying 34 = some (.array 3 3) := by kernel_rfl
theorem i_i3 : (Try.prog.info? 34).map (·.size) = some 3 := by kernel_rfl
@[go_sem ↓] theorem execOp_loadi3 (ρ : Operand → Value) (dst : Option Tmp) (x : Operand) (ty : TypeId) (pos : String) (after : Array Edge) (guard : Option (Nat × Bool)) :
    execOp ρ { dst, op := .load 34 x, type := ty, pos, after, guard } = (do pure (.value (← ldOp 34 (ρ x)))) := rfl
@[go_sem ↓] theorem execOp_storei3 (ρ : Operand → Value) (dst : Option Tmp) (x y : Operand) (ty : TypeId) (pos : String) (after : Array Edge) (guard : Option (Nat × Bool)) :
    execOp ρ { dst, op := .store 34 x y, type := ty, pos, after, guard } = (do stOp 34 (ρ x) (ρ y); pure .skip) := rfl
@[go_sem] theorem run_loadi3 (b o : Nat) (w : World) : (ldOp 34 (.pointer (some ⟨b, o, none⟩))).run Try.prog w = ldRow Try.prog 34 b o w (agg? w b o 3) := run_loadAt_row _ _ _ u_i3 rfl i_i3 b o w
theorem ret_i3 {fn : Func} {R : Ending → World → Prop} {a : Act} {w : World} {p : Tmp} (h : fn.results = #[.cell p 34]) (b o : Nat) (n : I3) (hp : a.tmps.getD p undef = .pointer (some ⟨b, o, none⟩)) (hc : agg? w b o 3 = some n.arr) (hdf : a.defers = []) (hR : R (.returned (.agg n.arr)) w) : bodyPost Try.prog fn R .ret a w :=
  ret_row _ _ _ u_i3 rfl i_i3 h b o _ hp hc hdf hR
@[go_sem] theorem run_storei3 (b o : Nat) (n : I3) (w : World) : (stOp 34 (.pointer (some ⟨b, o, none⟩)) (.agg n.arr)).run Try.prog w = stRow Try.prog 34 b o n.arr w (there? w b o 3) := run_storeAt_row _ _ i_i3 b o _ (I3.size_arr n) (I3.one n) w

def neBk (X Y : Operand) (x y : Value) : Sem Value := do eqGuard .neq 37 X Y x y; binOp .neq 37 x y
@[go_sem ↓] theorem execOp_neBk (ρ : Operand → Value) (dst : Option Tmp) (x y : Operand) (k ty : TypeId) (pos : String) (after : Array Edge) (guard : Option (Nat × Bool)) :
    execOp ρ { dst, op := .binOp .neq 37 x y k, type := ty, pos, after, guard } = (do pure (.value (← neBk x y (ρ x) (ρ y)))) := rfl
theorem Bk.eq_iff (a b : Bk) : (a = b) ↔ (a.at_ = b.at_ ∧ a.bad = b.bad ∧ a.cls = b.cls ∧ a.dem = b.dem ∧ a.over = b.over ∧ a.isBad = b.isBad) := by
  cases a; cases b
  simp
theorem run_eqBk (a b : Bk) (w : World) : (Op.equalIn 10000 37 (.agg a.arr) (.agg b.arr)).run Try.prog w = .ok (decide (a = b)) w := by
  simp only [Bk.arr, Bk.cells]
  simp [go_sem]
  by_cases h : a = b
  · subst h; simp
  · rw [decide_eq_false h]
    rw [Bk.eq_iff] at h
    by_cases h0 : a.at_ = b.at_
    case neg => rw [if_neg h0]
    rw [if_pos h0]
    by_cases h1 : a.bad = b.bad
    case neg => rw [if_neg h1]
    rw [if_pos h1]
    by_cases h2 : a.cls = b.cls
    case neg => rw [if_neg h2]
    rw [if_pos h2]
    by_cases h3 : a.dem = b.dem
    case neg => rw [if_neg h3]
    rw [if_pos h3]
    by_cases h4 : a.over = b.over
    case neg => rw [if_neg h4]
    rw [if_pos h4]
    by_cases h5 : a.isBad = b.isBad
    case neg => rw [if_neg h5]
    exact absurd ⟨h0, h1, h2, h3, h4, h5⟩ h
theorem eqGuardBk : Try.prog.eqGuardType Try.prog.depth 37 = false := by kernel_rfl
@[go_sem] theorem run_neBk (a b : Bk) (X Y : Operand) (w : World) : (neBk X Y (.agg a.arr) (.agg b.arr)).run Try.prog w = .ok (.bool (!decide (a = b))) w := by
  unfold neBk
  have h1 := run_eqGuard_agg (P := Try.prog) w .neq 37 X Y a.arr b.arr eqGuardBk
  have h2 : (binOp .neq 37 (.agg a.arr) (.agg b.arr)).run Try.prog w = .ok (.bool (!decide (a = b))) w := by rw [run_neq_struct, run_eqBk]; rfl
  simp only [Sem.run_bind, h1, Result.andThen_ok, h2]
end Go.Proofs.Ytiijpbfkchokaaa
