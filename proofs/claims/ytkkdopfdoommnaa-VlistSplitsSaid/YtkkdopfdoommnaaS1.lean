/-
  Totals, a meter: structs of the program as Lean structures. No statement of the seat stands here.
-/
import Derived.Test.YtkkdopfdoommnaaEq
import Derived.Test.YtkkdopfdoommnaaVBs
namespace Go.Proofs.Ytkkdopfdoommnaa
open Go.ChangeShapes Go.WideShapes Go.ChangeAt Go.RowKit


structure Tt where
  nat : Int
  s0 : Int
  s1 : Int
  s2 : Int
  s3 : Int
  h0 : Int
  h1 : Int
  h2 : Int
  h3 : Int
deriving Inhabited, DecidableEq
def Tt.cells (n : Tt) : List Value := [.int .i64 n.nat, .int .i64 n.s0, .int .i64 n.s1, .int .i64 n.s2, .int .i64 n.s3, .int .i64 n.h0, .int .i64 n.h1, .int .i64 n.h2, .int .i64 n.h3]
def Tt.arr (n : Tt) : Array Value := n.cells.toArray
@[go_sem] theorem Tt.size_arr (n : Tt) : n.arr.size = 9 := id rfl
@[go_sem] theorem Tt.get0 (n : Tt) : n.arr[0]? = some (.int .i64 n.nat) := id rfl
@[go_sem] theorem Tt.at0 (n : Tt) (h : 0 < n.arr.size) : n.arr[0] = .int .i64 n.nat := id rfl
@[go_sem] theorem Tt.get1 (n : Tt) : n.arr[1]? = some (.int .i64 n.s0) := id rfl
@[go_sem] theorem Tt.at1 (n : Tt) (h : 1 < n.arr.size) : n.arr[1] = .int .i64 n.s0 := id rfl
@[go_sem] theorem Tt.get2 (n : Tt) : n.arr[2]? = some (.int .i64 n.s1) := id rfl
@[go_sem] theorem Tt.at2 (n : Tt) (h : 2 < n.arr.size) : n.arr[2] = .int .i64 n.s1 := id rfl
@[go_sem] theorem Tt.get3 (n : Tt) : n.arr[3]? = some (.int .i64 n.s2) := id rfl
@[go_sem] theorem Tt.at3 (n : Tt) (h : 3 < n.arr.size) : n.arr[3] = .int .i64 n.s2 := id rfl
@[go_sem] theorem Tt.get4 (n : Tt) : n.arr[4]? = some (.int .i64 n.s3) := id rfl
@[go_sem] theorem Tt.at4 (n : Tt) (h : 4 < n.arr.size) : n.arr[4] = .int .i64 n.s3 := id rfl
@[go_sem] theorem Tt.get5 (n : Tt) : n.arr[5]? = some (.int .i64 n.h0) := id rfl
@[go_sem] theorem Tt.at5 (n : Tt) (h : 5 < n.arr.size) : n.arr[5] = .int .i64 n.h0 := id rfl
@[go_sem] theorem Tt.get6 (n : Tt) : n.arr[6]? = some (.int .i64 n.h1) := id rfl
@[go_sem] theorem Tt.at6 (n : Tt) (h : 6 < n.arr.size) : n.arr[6] = .int .i64 n.h1 := id rfl
@[go_sem] theorem Tt.get7 (n : Tt) : n.arr[7]? = some (.int .i64 n.h2) := id rfl
@[go_sem] theorem Tt.at7 (n : Tt) (h : 7 < n.arr.size) : n.arr[7] = .int .i64 n.h2 := id rfl
@[go_sem] theorem Tt.get8 (n : Tt) : n.arr[8]? = some (.int .i64 n.h3) := id rfl
@[go_sem] theorem Tt.at8 (n : Tt) (h : 8 < n.arr.size) : n.arr[8] = .int .i64 n.h3 := id rfl
@[go_sem] theorem Tt.set0 (n : Tt) (x : Int) : n.arr.setIfInBounds 0 (.int .i64 x) = ({ n with nat := x } : Tt).arr := id rfl
@[go_sem] theorem Tt.set1 (n : Tt) (x : Int) : n.arr.setIfInBounds 1 (.int .i64 x) = ({ n with s0 := x } : Tt).arr := id rfl
@[go_sem] theorem Tt.set2 (n : Tt) (x : Int) : n.arr.setIfInBounds 2 (.int .i64 x) = ({ n with s1 := x } : Tt).arr := id rfl
@[go_sem] theorem Tt.set3 (n : Tt) (x : Int) : n.arr.setIfInBounds 3 (.int .i64 x) = ({ n with s2 := x } : Tt).arr := id rfl
@[go_sem] theorem Tt.set4 (n : Tt) (x : Int) : n.arr.setIfInBounds 4 (.int .i64 x) = ({ n with s3 := x } : Tt).arr := id rfl
@[go_sem] theorem Tt.set5 (n : Tt) (x : Int) : n.arr.setIfInBounds 5 (.int .i64 x) = ({ n with h0 := x } : Tt).arr := id rfl
@[go_sem] theorem Tt.set6 (n : Tt) (x : Int) : n.arr.setIfInBounds 6 (.int .i64 x) = ({ n with h1 := x } : Tt).arr := id rfl
@[go_sem] theorem Tt.set7 (n : Tt) (x : Int) : n.arr.setIfInBounds 7 (.int .i64 x) = ({ n with h2 := x } : Tt).arr := id rfl
@[go_sem] theorem Tt.set8 (n : Tt) (x : Int) : n.arr.setIfInBounds 8 (.int .i64 x) = ({ n with h3 := x } : Tt).arr := id rfl
@[go_sem] theorem Tt.lit (x0 : Int) (x1 : Int) (x2 : Int) (x3 : Int) (x4 : Int) (x5 : Int) (x6 : Int) (x7 : Int) (x8 : Int) : (#[.int .i64 x0, .int .i64 x1, .int .i64 x2, .int .i64 x3, .int .i64 x4, .int .i64 x5, .int .i64 x6, .int .i64 x7, .int .i64 x8] : Array Value) = (Tt.mk x0 x1 x2 x3 x4 x5 x6 x7 x8).arr := id rfl
@[go_sem] theorem agg?_Tt (w : World) (n : Tt) (t : TypeId) (fr : Nat × Nat) (b : Nat) (h : b = w.heap.size) : agg? (w.alloc (.cells n.arr t fr)) b 0 9 = some n.arr := by
  rw [agg?_alloc_at w n.arr t fr b 0 9 h (by simp [Tt.size_arr])]; simp [Tt.arr, Tt.cells]
theorem setMany_Tt (n m : Tt) : setMany n.arr 0 m.cells = m.arr := by
  simp only [Tt.cells, setMany, Nat.reduceAdd, Tt.set0, Tt.set1, Tt.set2, Tt.set3, Tt.set4, Tt.set5, Tt.set6, Tt.set7, Tt.set8]
@[go_sem] theorem setAgg_Tt (w : World) (n m : Tt) (t : TypeId) (b : Nat) (h : b = w.heap.size) : setAgg (w.alloc (.cells n.arr t)) b 0 m.arr = w.alloc (.cells m.arr t) := by
  subst h
  unfold setAgg
  rw [setCells_alloc_at, show m.arr.toList = m.cells from rfl, setMany_Tt]

theorem Tt.one (n : Tt) : n.arr.all (·.oneCell') = true := by simp [Tt.arr, Tt.cells, Value.oneCell']
def Tt.zero : Tt := ⟨0, 0, 0, 0, 0, 0, 0, 0, 0⟩

structure Mt where
  t : Tt
  d : Int
  depth : Int
deriving Inhabited, DecidableEq
def Mt.cells (n : Mt) : List Value := [.int .i64 n.t.nat, .int .i64 n.t.s0, .int .i64 n.t.s1, .int .i64 n.t.s2, .int .i64 n.t.s3, .int .i64 n.t.h0, .int .i64 n.t.h1, .int .i64 n.t.h2, .int .i64 n.t.h3, .int .i64 n.d, .int .i64 n.depth]
def Mt.arr (n : Mt) : Array Value := n.cells.toArray
@[go_sem] theorem Mt.size_arr (n : Mt) : n.arr.size = 11 := id rfl
@[go_sem] theorem Mt.get0 (n : Mt) : n.arr[0]? = some (.int .i64 n.t.nat) := id rfl
@[go_sem] theorem Mt.at0 (n : Mt) (h : 0 < n.arr.size) : n.arr[0] = .int .i64 n.t.nat := id rfl
@[go_sem] theorem Mt.get1 (n : Mt) : n.arr[1]? = some (.int .i64 n.t.s0) := id rfl
@[go_sem] theorem Mt.at1 (n : Mt) (h : 1 < n.arr.size) : n.arr[1] = .int .i64 n.t.s0 := id rfl
@[go_sem] theorem Mt.get2 (n : Mt) : n.arr[2]? = some (.int .i64 n.t.s1) := id rfl
@[go_sem] theorem Mt.at2 (n : Mt) (h : 2 < n.arr.size) : n.arr[2] = .int .i64 n.t.s1 := id rfl
@[go_sem] theorem Mt.get3 (n : Mt) : n.arr[3]? = some (.int .i64 n.t.s2) := id rfl
@[go_sem] theorem Mt.at3 (n : Mt) (h : 3 < n.arr.size) : n.arr[3] = .int .i64 n.t.s2 := id rfl
@[go_sem] theorem Mt.get4 (n : Mt) : n.arr[4]? = some (.int .i64 n.t.s3) := id rfl
@[go_sem] theorem Mt.at4 (n : Mt) (h : 4 < n.arr.size) : n.arr[4] = .int .i64 n.t.s3 := id rfl
@[go_sem] theorem Mt.get5 (n : Mt) : n.arr[5]? = some (.int .i64 n.t.h0) := id rfl
@[go_sem] theorem Mt.at5 (n : Mt) (h : 5 < n.arr.size) : n.arr[5] = .int .i64 n.t.h0 := id rfl
@[go_sem] theorem Mt.get6 (n : Mt) : n.arr[6]? = some (.int .i64 n.t.h1) := id rfl
@[go_sem] theorem Mt.at6 (n : Mt) (h : 6 < n.arr.size) : n.arr[6] = .int .i64 n.t.h1 := id rfl
@[go_sem] theorem Mt.get7 (n : Mt) : n.arr[7]? = some (.int .i64 n.t.h2) := id rfl
@[go_sem] theorem Mt.at7 (n : Mt) (h : 7 < n.arr.size) : n.arr[7] = .int .i64 n.t.h2 := id rfl
@[go_sem] theorem Mt.get8 (n : Mt) : n.arr[8]? = some (.int .i64 n.t.h3) := id rfl
@[go_sem] theorem Mt.at8 (n : Mt) (h : 8 < n.arr.size) : n.arr[8] = .int .i64 n.t.h3 := id rfl
@[go_sem] theorem Mt.get9 (n : Mt) : n.arr[9]? = some (.int .i64 n.d) := id rfl
@[go_sem] theorem Mt.at9 (n : Mt) (h : 9 < n.arr.size) : n.arr[9] = .int .i64 n.d := id rfl
@[go_sem] theorem Mt.get10 (n : Mt) : n.arr[10]? = some (.int .i64 n.depth) := id rfl
@[go_sem] theorem Mt.at10 (n : Mt) (h : 10 < n.arr.size) : n.arr[10] = .int .i64 n.depth := id rfl
@[go_sem] theorem Mt.set0 (n : Mt) (x : Int) : n.arr.setIfInBounds 0 (.int .i64 x) = ({ n with t := { n.t with nat := x } } : Mt).arr := id rfl
@[go_sem] theorem Mt.set1 (n : Mt) (x : Int) : n.arr.setIfInBounds 1 (.int .i64 x) = ({ n with t := { n.t with s0 := x } } : Mt).arr := id rfl
@[go_sem] theorem Mt.set2 (n : Mt) (x : Int) : n.arr.setIfInBounds 2 (.int .i64 x) = ({ n with t := { n.t with s1 := x } } : Mt).arr := id rfl
@[go_sem] theorem Mt.set3 (n : Mt) (x : Int) : n.arr.setIfInBounds 3 (.int .i64 x) = ({ n with t := { n.t with s2 := x } } : Mt).arr := id rfl
@[go_sem] theorem Mt.set4 (n : Mt) (x : Int) : n.arr.setIfInBounds 4 (.int .i64 x) = ({ n with t := { n.t with s3 := x } } : Mt).arr := id rfl
@[go_sem] theorem Mt.set5 (n : Mt) (x : Int) : n.arr.setIfInBounds 5 (.int .i64 x) = ({ n with t := { n.t with h0 := x } } : Mt).arr := id rfl
@[go_sem] theorem Mt.set6 (n : Mt) (x : Int) : n.arr.setIfInBounds 6 (.int .i64 x) = ({ n with t := { n.t with h1 := x } } : Mt).arr := id rfl
@[go_sem] theorem Mt.set7 (n : Mt) (x : Int) : n.arr.setIfInBounds 7 (.int .i64 x) = ({ n with t := { n.t with h2 := x } } : Mt).arr := id rfl
@[go_sem] theorem Mt.set8 (n : Mt) (x : Int) : n.arr.setIfInBounds 8 (.int .i64 x) = ({ n with t := { n.t with h3 := x } } : Mt).arr := id rfl
@[go_sem] theorem Mt.set9 (n : Mt) (x : Int) : n.arr.setIfInBounds 9 (.int .i64 x) = ({ n with d := x } : Mt).arr := id rfl
@[go_sem] theorem Mt.set10 (n : Mt) (x : Int) : n.arr.setIfInBounds 10 (.int .i64 x) = ({ n with depth := x } : Mt).arr := id rfl
@[go_sem] theorem Mt.lit (x0 : Int) (x1 : Int) (x2 : Int) (x3 : Int) (x4 : Int) (x5 : Int) (x6 : Int) (x7 : Int) (x8 : Int) (x9 : Int) (x10 : Int) : (#[.int .i64 x0, .int .i64 x1, .int .i64 x2, .int .i64 x3, .int .i64 x4, .int .i64 x5, .int .i64 x6, .int .i64 x7, .int .i64 x8, .int .i64 x9, .int .i64 x10] : Array Value) = (Mt.mk ⟨x0, x1, x2, x3, x4, x5, x6, x7, x8⟩ x9 x10).arr := id rfl
@[go_sem] theorem Mt.sub_t (n : Mt) : n.arr.extract 0 9 = n.t.arr := id rfl
@[go_sem] theorem agg?_Mt (w : World) (n : Mt) (t : TypeId) (fr : Nat × Nat) (b : Nat) (h : b = w.heap.size) : agg? (w.alloc (.cells n.arr t fr)) b 0 11 = some n.arr := by
  rw [agg?_alloc_at w n.arr t fr b 0 11 h (by simp [Mt.size_arr])]; simp [Mt.arr, Mt.cells]
@[go_sem] theorem agg?_Mt_t (w : World) (n : Mt) (t : TypeId) (fr : Nat × Nat) (b : Nat) (h : b = w.heap.size) : agg? (w.alloc (.cells n.arr t fr)) b 0 9 = some n.t.arr := by
  rw [agg?_alloc_at w n.arr t fr b 0 9 h (by simp [Mt.size_arr])]; rfl
theorem setMany_Mt (n m : Mt) : setMany n.arr 0 m.cells = m.arr := by
  simp only [Mt.cells, setMany, Nat.reduceAdd, Mt.set0, Mt.set1, Mt.set2, Mt.set3, Mt.set4, Mt.set5, Mt.set6, Mt.set7, Mt.set8, Mt.set9, Mt.set10]
@[go_sem] theorem setAgg_Mt (w : World) (n m : Mt) (t : TypeId) (b : Nat) (h : b = w.heap.size) : setAgg (w.alloc (.cells n.arr t)) b 0 m.arr = w.alloc (.cells m.arr t) := by
  subst h
  unfold setAgg
  rw [setCells_alloc_at, show m.arr.toList = m.cells from rfl, setMany_Mt]
theorem setMany_Mt_t (n : Mt) (g : Tt) : setMany n.arr 0 g.cells = ({ n with t := g } : Mt).arr := by
  simp only [Tt.cells, setMany, Nat.reduceAdd, Mt.set0, Mt.set1, Mt.set2, Mt.set3, Mt.set4, Mt.set5, Mt.set6, Mt.set7, Mt.set8]
@[go_sem] theorem setAgg_Mt_t (w : World) (n : Mt) (g : Tt) (t : TypeId) (b : Nat) (h : b = w.heap.size) : setAgg (w.alloc (.cells n.arr t)) b 0 g.arr = w.alloc (.cells ({ n with t := g } : Mt).arr t) := by
  subst h
  unfold setAgg
  rw [setCells_alloc_at, show g.arr.toList = g.cells from rfl, setMany_Mt_t]

theorem Mt.one (n : Mt) : n.arr.all (·.oneCell') = true := by simp [Mt.arr, Mt.cells, Value.oneCell']

theorem u_tt : Try.prog.underlying 68 = some (.struct (Try.prog.fieldsOf 68)) := by kernel_rfl
theorem i_tt : (Try.prog.info? 68).map (·.size) = some 9 := by kernel_rfl
@[go_sem ↓] theorem execOp_loadtt (ρ : Operand → Value) (dst : Option Tmp) (x : Operand) (ty : TypeId) (pos : String) (after : Array Edge) (guard : Option (Nat × Bool)) :
    execOp ρ { dst, op := .load 68 x, type := ty, pos, after, guard } = (do pure (.value (← ldOp 68 (ρ x)))) := rfl
@[go_sem ↓] theorem execOp_storett (ρ : Operand → Value) (dst : Option Tmp) (x y : Operand) (ty : TypeId) (pos : String) (after : Array Edge) (guard : Option (Nat × Bool)) :
    execOp ρ { dst, op := .store 68 x y, type := ty, pos, after, guard } = (do stOp 68 (ρ x) (ρ y); pure .skip) := rfl
@[go_sem] theorem run_loadtt (b o : Nat) (w : World) : (ldOp 68 (.pointer (some ⟨b, o, none⟩))).run Try.prog w = ldRow Try.prog 68 b o w (agg? w b o 9) := run_loadAt_row _ _ _ u_tt rfl i_tt b o w
theorem ret_tt {fn : Func} {R : Ending → World → Prop} {a : Act} {w : World} {p : Tmp} (h : fn.results = #[.cell p 68]) (b o : Nat) (n : Tt) (hp : a.tmps.getD p undef = .pointer (some ⟨b, o, none⟩)) (hc : agg? w b o 9 = some n.arr) (hdf : a.defers = []) (hR : R (.returned (.agg n.arr)) w) : bodyPost Try.prog fn R .ret a w :=
  ret_row _ _ _ u_tt rfl i_tt h b o _ hp hc hdf hR
@[go_sem] theorem run_storett (b o : Nat) (n : Tt) (w : World) : (stOp 68 (.pointer (some ⟨b, o, none⟩)) (.agg n.arr)).run Try.prog w = stRow Try.prog 68 b o n.arr w (there? w b o 9) := run_storeAt_row _ _ i_tt b o _ (Tt.size_arr n) (Tt.one n) w

theorem u_mt : Try.prog.underlying 158 = some (.struct (Try.prog.fieldsOf 158)) := by kernel_rfl
theorem i_mt : (Try.prog.info? 158).map (·.size) = some 11 := by kernel_rfl
@[go_sem ↓] theorem execOp_loadmt (ρ : Operand → Value) (dst : Option Tmp) (x : Operand) (ty : TypeId) (pos : String) (after : Array Edge) (guard : Option (Nat × Bool)) :
    execOp ρ { dst, op := .load 158 x, type := ty, pos, after, guard } = (do pure (.value (← ldOp 158 (ρ x)))) := rfl
@[go_sem ↓] theorem execOp_storemt (ρ : Operand → Value) (dst : Option Tmp) (x y : Operand) (ty : TypeId) (pos : String) (after : Array Edge) (guard : Option (Nat × Bool)) :
    execOp ρ { dst, op := .store 158 x y, type := ty, pos, after, guard } = (do stOp 158 (ρ x) (ρ y); pure .skip) := rfl
@[go_sem] theorem run_loadmt (b o : Nat) (w : World) : (ldOp 158 (.pointer (some ⟨b, o, none⟩))).run Try.prog w = ldRow Try.prog 158 b o w (agg? w b o 11) := run_loadAt_row _ _ _ u_mt rfl i_mt b o w
theorem ret_mt {fn : Func} {R : Ending → World → Prop} {a : Act} {w : World} {p : Tmp} (h : fn.results = #[.cell p 158]) (b o : Nat) (n : Mt) (hp : a.tmps.getD p undef = .pointer (some ⟨b, o, none⟩)) (hc : agg? w b o 11 = some n.arr) (hdf : a.defers = []) (hR : R (.returned (.agg n.arr)) w) : bodyPost Try.prog fn R .ret a w :=
  ret_row _ _ _ u_mt rfl i_mt h b o _ hp hc hdf hR
@[go_sem] theorem run_storemt (b o : Nat) (n : Mt) (w : World) : (stOp 158 (.pointer (some ⟨b, o, none⟩)) (.agg n.arr)).run Try.prog w = stRow Try.prog 158 b o n.arr w (there? w b o 11) := run_storeAt_row _ _ i_mt b o _ (Mt.size_arr n) (Mt.one n) w

def bdTt (parts : Array (Nat × Value)) : Sem Value := Instr.build 68 parts
@[go_sem ↓] theorem execOp_buildTt (ρ : Operand → Value) (dst : Option Tmp) (x : Array (Nat × Operand)) (ty : TypeId) (pos : String) (after : Array Edge) (guard : Option (Nat × Bool)) :
    execOp ρ { dst, op := .build 68 x, type := ty, pos, after, guard } = (do pure (.value (← bdTt (x.map fun (i, y) => (i, ρ y))))) := rfl
@[go_sem] theorem run_bdTt_0 (w : World) : (bdTt #[]).run Try.prog w = .ok (.agg Tt.zero.arr) w := by kernel_rfl
def bdMt (parts : Array (Nat × Value)) : Sem Value := Instr.build 158 parts
@[go_sem ↓] theorem execOp_buildMt (ρ : Operand → Value) (dst : Option Tmp) (x : Array (Nat × Operand)) (ty : TypeId) (pos : String) (after : Array Edge) (guard : Option (Nat × Bool)) :
    execOp ρ { dst, op := .build 158 x, type := ty, pos, after, guard } = (do pure (.value (← bdMt (x.map fun (i, y) => (i, ρ y))))) := rfl
@[go_sem] theorem run_bdMt_k (k : Int) (w : World) : (bdMt #[(2, .int .i64 k)]).run Try.prog w = .ok (.agg (⟨Tt.zero, 0, k⟩ : Mt).arr) w := by kernel_rfl
theorem run_eqArr4 (x0 x1 x2 x3 : Int) (w : World) : (Op.equalIn 9999 66 (.agg #[.int .i64 x0, .int .i64 x1, .int .i64 x2, .int .i64 x3]) (.agg #[.int .i64 x0, .int .i64 x1, .int .i64 x2, .int .i64 x3])).run Try.prog w = .ok true w := by
  unfold Op.equalIn
  simp [go_sem]
  rw [show List.range' 0 4 = [0, 1, 2, 3] from rfl]
  simp [go_sem]
theorem Tt.ext1 (n : Tt) : n.arr.extract 1 5 = #[.int .i64 n.s0, .int .i64 n.s1, .int .i64 n.s2, .int .i64 n.s3] := id rfl
theorem Tt.ext5 (n : Tt) : n.arr.extract 5 9 = #[.int .i64 n.h0, .int .i64 n.h1, .int .i64 n.h2, .int .i64 n.h3] := id rfl
set_option maxRecDepth 100000 in
set_option maxHeartbeats 1000000 in
theorem run_eqTt (a : Tt) (w : World) : (Op.equalIn 10000 68 (.agg a.arr) (.agg a.arr)).run Try.prog w = .ok true w := by
  simp only [Tt.arr, Tt.cells]
  simp [go_sem, Tt.ext1, Tt.ext5, run_eqArr4]

end Go.Proofs.Ytkkdopfdoommnaa
