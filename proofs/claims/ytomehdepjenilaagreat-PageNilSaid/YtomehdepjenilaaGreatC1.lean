/-
  Totals, a meter: structs of the program as Lean structures. No statement of the seat stands here.
-/
import Derived.Test.YtomehdepjenilaaGreatEq
import Derived.Test.YtomehdepjenilaaGreatVBs
set_option maxRecDepth 100000
set_option maxHeartbeats 4000000
namespace Go.Proofs.YtomehdepjenilaaGreat
open Go.ChangeShapes Go.WideShapes Go.ChangeAt Go.RowKit


structure Tt where
  nat : Int
  s0 : Int
  s1 : Int
  s2 : Int
  s3 : Int
  h0 : Int
  h1 : Int
  h2 : Int
  h3 : Int
deriving Inhabited, DecidableEq
def Tt.cells (n : Tt) : List Value := [.int .i64 n.nat, .int .i64 n.s0, .int .i64 n.s1, .int .i64 n.s2, .int .i64 n.s3, .int .i64 n.h0, .int .i64 n.h1, .int .i64 n.h2, .int .i64 n.h3]
def Tt.arr (n : Tt) : Array Value := n.cells.toArray
@[go_sem] theorem Tt.size_arr (n : Tt) : n.arr.size = 9 := id rfl
@[go_sem] theorem Tt.get0 (n : Tt) : n.arr[0]? = some (.int .i64 n.nat) := id rfl
@[go_sem] theorem Tt.at0 (n : Tt) (h : 0 < n.arr.size) : n.arr[0] = .int .i64 n.nat := id rfl
@[go_sem] theorem Tt.get1 (n : Tt) : n.arr[1]? = some (.int .i64 n.s0) := id rfl
@[go_sem] theorem Tt.at1 (n : Tt) (h : 1 < n.arr.size) : n.arr[1] = .int .i64 n.s0 := id rfl
@[go_sem] theorem Tt.get2 (n : Tt) : n.arr[2]? = some (.int .i64 n.s1) := id rfl
@[go_sem] theorem Tt.at2 (n : Tt) (h : 2 < n.arr.size) : n.arr[2] = .int .i64 n.s1 := id rfl
@[go_sem] theorem Tt.get3 (n : Tt) : n.arr[3]? = some (.int .i64 n.s2) := id rfl
@[go_sem] theorem Tt.at3 (n : Tt) (h : 3 < n.arr.size) : n.arr[3] = .int .i64 n.s2 := id rfl
@[go_sem] theorem Tt.get4 (n : Tt) : n.arr[4]? = some (.int .i64 n.s3) := id rfl
@[go_sem] theorem Tt.at4 (n : Tt) (h : 4 < n.arr.size) : n.arr[4] = .int .i64 n.s3 := id rfl
@[go_sem] theorem Tt.get5 (n : Tt) : n.arr[5]? = some (.int .i64 n.h0) := id rfl
@[go_sem] theorem Tt.at5 (n : Tt) (h : 5 < n.arr.size) : n.arr[5] = .int .i64 n.h0 := id rfl
@[go_sem] theorem Tt.get6 (n : Tt) : n.arr[6]? = some (.int .i64 n.h1) := id rfl
@[go_sem] theorem Tt.at6 (n : Tt) (h : 6 < n.arr.size) : n.arr[6] = .int .i64 n.h1 := id rfl
@[go_sem] theorem Tt.get7 (n : Tt) : n.arr[7]? = some (.int .i64 n.h2) := id rfl
@[go_sem] theorem Tt.at7 (n : Tt) (h : 7 < n.arr.size) : n.arr[7] = .int .i64 n.h2 := id rfl
@[go_sem] theorem Tt.get8 (n : Tt) : n.arr[8]? = some (.int .i64 n.h3) := id rfl
@[go_sem] theorem Tt.at8 (n : Tt) (h : 8 < n.arr.size) : n.arr[8] = .int .i64 n.h3 := id rfl
@[go_sem] theorem Tt.set0 (n : Tt) (x : Int) : n.arr.setIfInBounds 0 (.int .i64 x) = ({ n with nat := x } : Tt).arr := id rfl
@[go_sem] theorem Tt.set1 (n : Tt) (x : Int) : n.arr.setIfInBounds 1 (.int .i64 x) = ({ n with s0 := x } : Tt).arr := id rfl
@[go_sem] theorem Tt.set2 (n : Tt) (x : Int) : n.arr.setIfInBounds 2 (.int .i64 x) = ({ n with s1 := x } : Tt).arr := id rfl
@[go_sem] theorem Tt.set3 (n : Tt) (x : Int) : n.arr.setIfInBounds 3 (.int .i64 x) = ({ n with s2 := x } : Tt).arr := id rfl
@[go_sem] theorem Tt.set4 (n : Tt) (x : Int) : n.arr.setIfInBounds 4 (.int .i64 x) = ({ n with s3 := x } : Tt).arr := id rfl
@[go_sem] theorem Tt.set5 (n : Tt) (x : Int) : n.arr.setIfInBounds 5 (.int .i64 x) = ({ n with h0 := x } : Tt).arr := id rfl
@[go_sem] theorem Tt.set6 (n : Tt) (x : Int) : n.arr.setIfInBounds 6 (.int .i64 x) = ({ n with h1 := x } : Tt).arr := id rfl
@[go_sem] theorem Tt.set7 (n : Tt) (x : Int) : n.arr.setIfInBounds 7 (.int .i64 x) = ({ n with h2 := x } : Tt).arr := id rfl
@[go_sem] theorem Tt.set8 (n : Tt) (x : Int) : n.arr.setIfInBounds 8 (.int .i64 x) = ({ n with h3 := x } : Tt).arr := id rfl
@[go_sem] theorem Tt.lit (x0 : Int) (x1 : Int) (x2 : Int) (x3 : Int) (x4 : Int) (x5 : Int) (x6 : Int) (x7 : Int) (x8 : Int) : (#[.int .i64 x0, .int .i64 x1, .int .i64 x2, .int .i64 x3, .int .i64 x4, .int .i64 x5, .int .i64 x6, .int .i64 x7, .int .i64 x8] : Array Value) = (Tt.mk x0 x1 x2 x3 x4 x5 x6 x7 x8).arr := id rfl
@[go_sem] theorem agg?_Tt (w : World) (n : Tt) (t : TypeId) (fr : Nat × Nat) (b : Nat) (h : b = w.heap.size) : agg? (w.alloc (.cells n.arr t fr)) b 0 9 = some n.arr := by
  rw [agg?_alloc_at w n.arr t fr b 0 9 h (by simp [Tt.size_arr])]; simp [Tt.arr, Tt.cells]
theorem setMany_Tt (n m : Tt) : setMany n.arr 0 m.cells = m.arr := by
  simp only [Tt.cells, setMany, Nat.reduceAdd, Tt.set0, Tt.set1, Tt.set2, Tt.set3, Tt.set4, Tt.set5, Tt.set6, Tt.set7, Tt.set8]
@[go_sem] theorem setAgg_Tt (w : World) (n m : Tt) (t : TypeId) (b : Nat) (h : b = w.heap.size) : setAgg (w.alloc (.cells n.arr t)) b 0 m.arr = w.alloc (.cells m.arr t) := by
  subst h
  unfold setAgg
  rw [setCells_alloc_at, show m.arr.toList = m.cells from rfl, setMany_Tt]

theorem Tt.one (n : Tt) : n.arr.all (·.oneCell') = true := by simp [Tt.arr, Tt.cells, Value.oneCell']
def Tt.zero : Tt := ⟨0, 0, 0, 0, 0, 0, 0, 0, 0⟩

structure Mt where
  t : Tt
  d : Int
  depth : Int
deriving Inhabited, DecidableEq
def Mt.cells (n : Mt) : List Value := [.int .i64 n.t.nat, .int .i64 n.t.s0, .int .i64 n.t.s1, .int .i64 n.t.s2, .int .i64 n.t.s3, .int .i64 n.t.h0, .int .i64 n.t.h1, .int .i64 n.t.h2, .int .i64 n.t.h3, .int .i64 n.d, .int .i64 n.depth]
def Mt.arr (n : Mt) : Array Value := n.cells.toArray
@[go_sem] theorem Mt.size_arr (n : Mt) : n.arr.size = 11 := id rfl
@[go_sem] theorem Mt.get0 (n : Mt) : n.arr[0]? = some (.int .i64 n.t.nat) := id rfl
@[go_sem] theorem Mt.at0 (n : Mt) (h : 0 < n.arr.size) : n.arr[0] = .int .i64 n.t.nat := id rfl
@[go_sem] theorem Mt.get1 (n : Mt) : n.arr[1]? = some (.int .i64 n.t.s0) := id rfl
@[go_sem] theorem Mt.at1 (n : Mt) (h : 1 < n.arr.size) : n.arr[1] = .int .i64 n.t.s0 := id rfl
@[go_sem] theorem Mt.get2 (n : Mt) : n.arr[2]? = some (.int .i64 n.t.s1) := id rfl
@[go_sem] theorem Mt.at2 (n : Mt) (h : 2 < n.arr.size) : n.arr[2] = .int .i64 n.t.s1 := id rfl
@[go_sem] theorem Mt.get3 (n : Mt) : n.arr[3]? = some (.int .i64 n.t.s2) := id rfl
@[go_sem] theorem Mt.at3 (n : Mt) (h : 3 < n.arr.size) : n.arr[3] = .int .i64 n.t.s2 := id rfl
@[go_sem] theorem Mt.get4 (n : Mt) : n.arr[4]? = some (.int .i64 n.t.s3) := id rfl
@[go_sem] theorem Mt.at4 (n : Mt) (h : 4 < n.arr.size) : n.arr[4] = .int .i64 n.t.s3 := id rfl
@[go_sem] theorem Mt.get5 (n : Mt) : n.arr[5]? = some (.int .i64 n.t.h0) := id rfl
@[go_sem] theorem Mt.at5 (n : Mt) (h : 5 < n.arr.size) : n.arr[5] = .int .i64 n.t.h0 := id rfl
@[go_sem] theorem Mt.get6 (n : Mt) : n.arr[6]? = some (.int .i64 n.t.h1) := id rfl
@[go_sem] theorem Mt.at6 (n : Mt) (h : 6 < n.arr.size) : n.arr[6] = .int .i64 n.t.h1 := id rfl
@[go_sem] theorem Mt.get7 (n : Mt) : n.arr[7]? = some (.int .i64 n.t.h2) := id rfl
@[go_sem] theorem Mt.at7 (n : Mt) (h : 7 < n.arr.size) : n.arr[7] = .int .i64 n.t.h2 := id rfl
@[go_sem] theorem Mt.get8 (n : Mt) : n.arr[8]? = some (.int .i64 n.t.h3) := id rfl
@[go_sem] theorem Mt.at8 (n : Mt) (h : 8 < n.arr.size) : n.arr[8] = .int .i64 n.t.h3 := id rfl
@[go_sem] theorem Mt.get9 (n : Mt) : n.arr[9]? = some (.int .i64 n.d) := id rfl
@[go_sem] theorem Mt.at9 (n : Mt) (h : 9 < n.arr.size) : n.arr[9] = .int .i64 n.d := id rfl
@[go_sem] theorem Mt.get10 (n : Mt) : n.arr[10]? = some (.int .i64 n.depth) := id rfl
@[go_sem] theorem Mt.at10 (n : Mt) (h : 10 < n.arr.size) : n.arr[10] = .int .i64 n.depth := id rfl
@[go_sem] theorem Mt.set0 (n : Mt) (x : Int) : n.arr.setIfInBounds 0 (.int .i64 x) = ({ n with t := { n.t with nat := x } } : Mt).arr := id rfl
@[go_sem] theorem Mt.set1 (n : Mt) (x : Int) : n.arr.setIfInBounds 1 (.int .i64 x) = ({ n with t := { n.t with s0 := x } } : Mt).arr := id rfl
@[go_sem] theorem Mt.set2 (n : Mt) (x : Int) : n.arr.setIfInBounds 2 (.int .i64 x) = ({ n with t := { n.t with s1 := x } } : Mt).arr := id rfl
@[go_sem] theorem Mt.set3 (n : Mt) (x : Int) : n.arr.setIfInBounds 3 (.int .i64 x) = ({ n with t := { n.t with s2 := x } } : Mt).arr := id rfl
@[go_sem] theorem Mt.set4 (n : Mt) (x : Int) : n.arr.setIfInBounds 4 (.int .i64 x) = ({ n with t := { n.t with s3 := x } } : Mt).arr := id rfl
@[go_sem] theorem Mt.set5 (n : Mt) (x : Int) : n.arr.setIfInBounds 5 (.int .i64 x) = ({ n with t := { n.t with h0 := x } } : Mt).arr := id rfl
@[go_sem] theorem Mt.set6 (n : Mt) (x : Int) : n.arr.setIfInBounds 6 (.int .i64 x) = ({ n with t := { n.t with h1 := x } } : Mt).arr := id rfl
@[go_sem] theorem Mt.set7 (n : Mt) (x : Int) : n.arr.setIfInBounds 7 (.int .i64 x) = ({ n with t := { n.t with h2 := x } } : Mt).arr := id rfl
@[go_sem] theorem Mt.set8 (n : Mt) (x : Int) : n.arr.setIfInBounds 8 (.int .i64 x) = ({ n with t := { n.t with h3 := x } } : Mt).arr := id rfl
@[go_sem] theorem Mt.set9 (n : Mt) (x : Int) : n.arr.setIfInBounds 9 (.int .i64 x) = ({ n with d := x } : Mt).arr := id rfl
@[go_sem] theorem Mt.set10 (n : Mt) (x : Int) : n.arr.setIfInBounds 10 (.int .i64 x) = ({ n with depth := x } : Mt).arr := id rfl
@[go_sem] theorem Mt.lit (x0 : Int) (x1 : Int) (x2 : Int) (x3 : Int) (x4 : Int) (x5 : Int) (x6 : Int) (x7 : Int) (x8 : Int) (x9 : Int) (x10 : Int) : (#[.int .i64 x0, .int .i64 x1, .int .i64 x2, .int .i64 x3, .int .i64 x4, .int .i64 x5, .int .i64 x6, .int .i64 x7, .int .i64 x8, .int .i64 x9, .int .i64 x10] : Array Value) = (Mt.mk ⟨x0, x1, x2, x3, x4, x5, x6, x7, x8⟩ x9 x10).arr := id rfl
@[go_sem] theorem Mt.sub_t (n : Mt) : n.arr.extract 0 9 = n.t.arr := id rfl
@[go_sem] theorem agg?_Mt (w : World) (n : Mt) (t : TypeId) (fr : Nat × Nat) (b : Nat) (h : b = w.heap.size) : agg? (w.alloc (.cells n.arr t fr)) b 0 11 = some n.arr := by
  rw [agg?_alloc_at w n.arr t fr b 0 11 h (by simp [Mt.size_arr])]; simp [Mt.arr, Mt.cells]
@[go_sem] theorem agg?_Mt_t (w : World) (n : Mt) (t : TypeId) (fr : Nat × Nat) (b : Nat) (h : b = w.heap.size) : agg? (w.alloc (.cells n.arr t fr)) b 0 9 = some n.t.arr := by
  rw [agg?_alloc_at w n.arr t fr b 0 9 h (by simp [Mt.size_arr])]; rfl
theorem setMany_Mt (n m : Mt) : setMany n.arr 0 m.cells = m.arr := by
  simp only [Mt.cells, setMany, Nat.reduceAdd, Mt.set0, Mt.set1, Mt.set2, Mt.set3, Mt.set4, Mt.set5, Mt.set6, Mt.set7, Mt.set8, Mt.set9, Mt.set10]
@[go_sem] theorem setAgg_Mt (w : World) (n m : Mt) (t : TypeId) (b : Nat) (h : b = w.heap.size) : setAgg (w.alloc (.cells n.arr t)) b 0 m.arr = w.alloc (.cells m.arr t) := by
  subst h
  unfold setAgg
  rw [setCells_alloc_at, show m.arr.toList = m.cells from rfl, setMany_Mt]
theorem setMany_Mt_t (n : Mt) (g : Tt) : setMany n.arr 0 g.cells = ({ n with t := g } : Mt).arr := by
  simp only [Tt.cells, setMany, Nat.reduceAdd, Mt.set0, Mt.set1, Mt.set2, Mt.set3, Mt.set4, Mt.set5, Mt.set6, Mt.set7, Mt.set8]
@[go_sem] theorem setAgg_Mt_t (w : World) (n : Mt) (g : Tt) (t : TypeId) (b : Nat) (h : b = w.heap.size) : setAgg (w.alloc (.cells n.arr t)) b 0 g.arr = w.alloc (.cells ({ n with t := g } : Mt).arr t) := by
  subst h
  unfold setAgg
  rw [setCells_alloc_at, show g.arr.toList = g.cells from rfl, setMany_Mt_t]

theorem Mt.one (n : Mt) : n.arr.all (·.oneCell') = true := by simp [Mt.arr, Mt.cells, Value.oneCell']

theorem u_tt : Tryz.prog.underlying 57 = some (.struct (Tryz.prog.fieldsOf 57)) := by kernel_rfl
theorem i_tt : (Tryz.prog.info? 57).map (·.size) = some 9 := by kernel_rfl
@[go_sem ↓] theorem execOp_loadtt (ρ : Operand → Value) (dst : Option Tmp) (x : Operand) (ty : TypeId) (pos : String) (after : Array Edge) (guard : Option (Nat × Bool)) :
    execOp ρ { dst, op := .load 57 x, type := ty, pos, after, guard } = (do pure (.value (← ldOp 57 (ρ x)))) := rfl
@[go_sem ↓] theorem execOp_storett (ρ : Operand → Value) (dst : Option Tmp) (x y : Operand) (ty : TypeId) (pos : String) (after : Array Edge) (guard : Option (Nat × Bool)) :
    execOp ρ { dst, op := .store 57 x y, type := ty, pos, after, guard } = (do stOp 57 (ρ x) (ρ y); pure .skip) := rfl
@[go_sem] theorem run_loadtt (b o : Nat) (w : World) : (ldOp 57 (.pointer (some ⟨b, o, none⟩))).run Tryz.prog w = ldRow Tryz.prog 57 b o w (agg? w b o 9) := run_loadAt_row _ _ _ u_tt rfl i_tt b o w
@[go_sem] theorem run_storett (b o : Nat) (n : Tt) (w : World) : (stOp 57 (.pointer (some ⟨b, o, none⟩)) (.agg n.arr)).run Tryz.prog w = stRow Tryz.prog 57 b o n.arr w (there? w b o 9) := run_storeAt_row _ _ i_tt b o _ (Tt.size_arr n) (Tt.one n) w

theorem u_mt : Tryz.prog.underlying 211 = some (.struct (Tryz.prog.fieldsOf 211)) := by kernel_rfl
theorem i_mt : (Tryz.prog.info? 211).map (·.size) = some 11 := by kernel_rfl
@[go_sem ↓] theorem execOp_loadmt (ρ : Operand → Value) (dst : Option Tmp) (x : Operand) (ty : TypeId) (pos : String) (after : Array Edge) (guard : Option (Nat × Bool)) :
    execOp ρ { dst, op := .load 211 x, type := ty, pos, after, guard } = (do pure (.value (← ldOp 211 (ρ x)))) := rfl
@[go_sem ↓] theorem execOp_storemt (ρ : Operand → Value) (dst : Option Tmp) (x y : Operand) (ty : TypeId) (pos : String) (after : Array Edge) (guard : Option (Nat × Bool)) :
    execOp ρ { dst, op := .store 211 x y, type := ty, pos, after, guard } = (do stOp 211 (ρ x) (ρ y); pure .skip) := rfl
@[go_sem] theorem run_loadmt (b o : Nat) (w : World) : (ldOp 211 (.pointer (some ⟨b, o, none⟩))).run Tryz.prog w = ldRow Tryz.prog 211 b o w (agg? w b o 11) := run_loadAt_row _ _ _ u_mt rfl i_mt b o w
@[go_sem] theorem run_storemt (b o : Nat) (n : Mt) (w : World) : (stOp 211 (.pointer (some ⟨b, o, none⟩)) (.agg n.arr)).run Tryz.prog w = stRow Tryz.prog 211 b o n.arr w (there? w b o 11) := run_storeAt_row _ _ i_mt b o _ (Mt.size_arr n) (Mt.one n) w

def bdTt (parts : Array (Nat × Value)) : Sem Value := Instr.build 57 parts
@[go_sem ↓] theorem execOp_buildTt (ρ : Operand → Value) (dst : Option Tmp) (x : Array (Nat × Operand)) (ty : TypeId) (pos : String) (after : Array Edge) (guard : Option (Nat × Bool)) :
    execOp ρ { dst, op := .build 57 x, type := ty, pos, after, guard } = (do pure (.value (← bdTt (x.map fun (i, y) => (i, ρ y))))) := rfl
@[go_sem] theorem run_bdTt_0 (w : World) : (bdTt #[]).run Tryz.prog w = .ok (.agg Tt.zero.arr) w := by kernel_rfl
def bdMt (parts : Array (Nat × Value)) : Sem Value := Instr.build 211 parts
@[go_sem ↓] theorem execOp_buildMt (ρ : Operand → Value) (dst : Option Tmp) (x : Array (Nat × Operand)) (ty : TypeId) (pos : String) (after : Array Edge) (guard : Option (Nat × Bool)) :
    execOp ρ { dst, op := .build 211 x, type := ty, pos, after, guard } = (do pure (.value (← bdMt (x.map fun (i, y) => (i, ρ y))))) := rfl
@[go_sem] theorem run_bdMt_k (k : Int) (w : World) : (bdMt #[(2, .int .i64 k)]).run Tryz.prog w = .ok (.agg (⟨Tt.zero, 0, k⟩ : Mt).arr) w := by kernel_rfl
theorem run_eqArr4 (x0 x1 x2 x3 : Int) (w : World) : (Op.equalIn 9999 55 (.agg #[.int .i64 x0, .int .i64 x1, .int .i64 x2, .int .i64 x3]) (.agg #[.int .i64 x0, .int .i64 x1, .int .i64 x2, .int .i64 x3])).run Tryz.prog w = .ok true w := by
  unfold Op.equalIn
  simp [go_sem]
  rw [show List.range' 0 4 = [0, 1, 2, 3] from rfl]
  simp [go_sem]
theorem Tt.ext1 (n : Tt) : n.arr.extract 1 5 = #[.int .i64 n.s0, .int .i64 n.s1, .int .i64 n.s2, .int .i64 n.s3] := id rfl
theorem Tt.ext5 (n : Tt) : n.arr.extract 5 9 = #[.int .i64 n.h0, .int .i64 n.h1, .int .i64 n.h2, .int .i64 n.h3] := id rfl
theorem run_eqTt (a : Tt) (w : World) : (Op.equalIn 10000 57 (.agg a.arr) (.agg a.arr)).run Tryz.prog w = .ok true w := by
  simp only [Tt.arr, Tt.cells]
  simp [go_sem, Tt.ext1, Tt.ext5, run_eqArr4]

set_option maxRecDepth 10000


structure Ox where
  kind : Int
  lA : Option Addr
  lN : Nat
  lC : Nat
deriving Inhabited
def Ox.cells (n : Ox) : List Value := [.int .i64 n.kind, .slice n.lA n.lN n.lC]
def Ox.arr (n : Ox) : Array Value := n.cells.toArray
@[go_sem] theorem Ox.size_arr (n : Ox) : n.arr.size = 2 := id rfl
@[go_sem] theorem Ox.get0 (n : Ox) : n.arr[0]? = some (.int .i64 n.kind) := id rfl
@[go_sem] theorem Ox.get1 (n : Ox) : n.arr[1]? = some (.slice n.lA n.lN n.lC) := id rfl
theorem u_ox : Tryz.prog.underlying 74 = some (.struct (Tryz.prog.fieldsOf 74)) := by kernel_rfl
theorem i_ox : (Tryz.prog.info? 74).map (·.size) = some 2 := by kernel_rfl
@[go_sem ↓] theorem execOp_loadox (ρ : Operand → Value) (dst : Option Tmp) (x : Operand) (ty : TypeId) (pos : String) (after : Array Edge) (guard : Option (Nat × Bool)) :
    execOp ρ { dst, op := .load 74 x, type := ty, pos, after, guard } = (do pure (.value (← ldOp 74 (ρ x)))) := rfl
@[go_sem ↓] theorem execOp_storeox (ρ : Operand → Value) (dst : Option Tmp) (x y : Operand) (ty : TypeId) (pos : String) (after : Array Edge) (guard : Option (Nat × Bool)) :
    execOp ρ { dst, op := .store 74 x y, type := ty, pos, after, guard } = (do stOp 74 (ρ x) (ρ y); pure .skip) := rfl
@[go_sem] theorem run_loadox (b o : Nat) (w : World) : (ldOp 74 (.pointer (some ⟨b, o, none⟩))).run Tryz.prog w = ldRow Tryz.prog 74 b o w (agg? w b o 2) := run_loadAt_row _ _ _ u_ox rfl i_ox b o w
theorem vfar_no (x : Int) (w : World) (h1 : -2147483647 ≤ x) (h2 : x ≤ 2147483647) : Calls Tryz.prog 178 #[.int .i64 x] w fun e w' => e = .returned (.bool false) ∧ w = w' := by
  go_enter Tryz.func178, Tryz.ntmps178
  go_wp2
  all_goals go_ret
  all_goals exact ⟨ret_bool (by simp; omega), rfl⟩
theorem anyFar2 (f : Nat → Int) (Y : Nat) (w : World) (h0 : ∀ k, k < 2 → w.cell? ⟨Y, k, none⟩ = some (.int .i64 (f k)) ∧ -2147483647 ≤ f k ∧ f k ≤ 2147483647) :
    Calls Tryz.prog 166 #[.slice (some ⟨Y, 0, none⟩) 2 2] w fun e w' => e = .returned (.bool false) ∧ w = w' := by
  have H := Lib.hid h0
  clear h0
  go_enter Tryz.func166, Tryz.ntmps166
  go_wp2_with fail
  go_loopg [7] 3 (fun gg t7 wr => ∃ k : Nat, gg = 3 - k ∧ k ≤ 2 ∧ t7 = .int .i64 k ∧ w = wr)
  case atStart => exact ⟨0, rfl, by omega, rfl, rfl⟩
  case round =>
    obtain ⟨k, rfl, hk, rfl, rfl⟩ := hrel
    have hk1 : (0 : Int) ≤ (k : Int) := by omega
    by_cases hlt : k < 2
    · have hk2 : (k : Int) < 2 := by omega
      obtain ⟨x1, x2, x3⟩ := H.out k hlt
      generalize f k = y at x1 x2 x3
      go_wp2_with (go_at_call 178; refine (vfar_no _ _ x2 x3).mono ?_; rintro e w' ⟨rfl, rfl⟩)
      go_roundg (3 - (k + 1))
      case measure => omega
      case rel => exact ⟨k + 1, rfl, hlt, by go_num, rfl⟩
    · have hk2 : (2 : Int) ≤ (k : Int) := by omega
      go_wp2_with fail
      go_ret
      exact ⟨rfl, rfl⟩
theorem cells2 {W : World} {Y : Nat} {x y : Value} {t : TypeId} (h : W.heap[Y]? = some (.cells #[x, y] t (0, 0))) : W.cell? ⟨Y, 0, none⟩ = some x ∧ W.cell? ⟨Y, 1, none⟩ = some y := by
  constructor <;> simp [World.cell?, h]
theorem two_near {W : World} {Y : Nat} {x y : Int} {t : TypeId} (h : W.heap[Y]? = some (.cells #[.int .i64 x, .int .i64 y] t (0, 0))) (h1 : -2147483647 ≤ x ∧ x ≤ 2147483647) (h2 : -2147483647 ≤ y ∧ y ≤ 2147483647) :
    ∀ k, k < 2 → W.cell? ⟨Y, k, none⟩ = some (.int .i64 (if k = 0 then x else y)) ∧ -2147483647 ≤ (if k = 0 then x else y) ∧ (if k = 0 then x else y) ≤ 2147483647 := by
  intro k hk
  obtain ⟨a, b⟩ := cells2 h
  match k, hk with
  | 0, _ => exact ⟨a, h1⟩
  | 1, _ => exact ⟨b, h2⟩
def badR (t s : Int) : Int := if t ≤ 7230584 then t * 297 / s else if 1663497 ≤ s then t / (s / 297) else t
def badP (t s : Int) : Int := if t = 0 then 0 else if s < 1 then 10000 else if 1290 < badR t s then 10000 else (badR t s * badR t s * badR t s + 131072) / 262144
theorem cube_le (r : Int) (h0 : 0 ≤ r) (h1 : r ≤ 1290) : 0 ≤ r * r ∧ r * r ≤ 1664100 ∧ 0 ≤ r * r * r ∧ r * r * r ≤ 2146689000 := by
  have a := Int.mul_nonneg h0 h0
  have b : r * r ≤ 1290 * 1290 := Int.mul_le_mul h1 h1 h0 (by decide)
  have c := Int.mul_nonneg a h0
  have d : r * r * r ≤ 1290 * 1290 * 1290 := Int.mul_le_mul b h1 h0 (by decide)
  omega
theorem wrap_in (x : Int) (h0 : 0 ≤ x) (h1 : x ≤ 9000000000000000000) : wrap64 x = x := by
  unfold wrap64
  omega
theorem bad_hi (t s : Int) (ht : 0 < t) (hs : 1 ≤ s) (h : 1290 < badR t s) : badP t s = 10000 := by
  simp only [badP, if_neg (show t ≠ 0 by omega), if_neg (show ¬ s < 1 by omega), if_pos h]
theorem bad_lo (t s : Int) {r : Int} (ht : 0 < t) (hs : 1 ≤ s) (hr : badR t s = r) (h0 : 0 ≤ r) (h : r ≤ 1290) : wrap64 (wrap64 (wrap64 (r * r) * r) + 131072) / 262144 = badP t s := by
  obtain ⟨a, b, c, d⟩ := cube_le r h0 h
  simp only [badP, if_neg (show t ≠ 0 by omega), if_neg (show ¬ s < 1 by omega), hr, if_neg (show ¬ 1290 < r by omega)]
  rw [wrap_in (r * r) a (by omega), wrap_in (r * r * r) c (by omega), wrap_in _ (by omega) (by omega)]
theorem ret_i2 {a b : Int} {v : Value} (h : a = b) : Ending.returned (.tuple #[.int .i64 a, v]) = .returned (.tuple #[.int .i64 b, v]) := by rw [h]
theorem vbad_z (t s : Int) (w : World) (h0 : t = 0) (ht : t ≤ 2147483647) (hs1 : -2147483647 ≤ s) (hs2 : s ≤ 2147483647) :
    Calls Tryz.prog 152 #[.int .i64 t, .int .i64 s] w fun e w' => e = .returned (.tuple #[.int .i64 (badP t s), .int .i64 0]) ∧ Below w.heap.size w w' := by
  have HF := Lib.hid (anyFar2 (fun k => if k = 0 then t else s) w.heap.size (w.alloc (.cells #[.int .i64 t, .int .i64 s] 3)) (two_near (heap_alloc_new w _) (by omega) (by omega)))
  have hu := And.intro ht (And.intro hs1 hs2)
  clear hu
  subst h0
  have hv : badP 0 s = 0 := rfl
  have Hv := Lib.hid hv
  clear hv
  go_enter Tryz.func152, Tryz.ntmps152
  go_wp2_with (go_at_call 166; refine HF.out.mono ?_; rintro e w' ⟨rfl, rfl⟩)
  all_goals go_ret2
  all_goals exact ⟨ret_i2 Hv.out.symm, (Below.refl _ _).alloc (Nat.le_refl _) _⟩
theorem vbad_n (t s : Int) (w : World) (h0 : 0 < t) (h1 : s < 1) (ht : t ≤ 2147483647) (hs1 : -2147483647 ≤ s) (hs2 : s ≤ 2147483647) :
    Calls Tryz.prog 152 #[.int .i64 t, .int .i64 s] w fun e w' => e = .returned (.tuple #[.int .i64 (badP t s), .int .i64 0]) ∧ Below w.heap.size w w' := by
  have HF := Lib.hid (anyFar2 (fun k => if k = 0 then t else s) w.heap.size (w.alloc (.cells #[.int .i64 t, .int .i64 s] 3)) (two_near (heap_alloc_new w _) (by omega) (by omega)))
  have hu := And.intro ht (And.intro hs1 hs2)
  clear hu
  have hte : t ≠ 0 := by omega
  have hv : badP t s = 10000 := by simp only [badP, if_neg hte, if_pos h1]
  have Hv := Lib.hid hv
  clear hv
  go_enter Tryz.func152, Tryz.ntmps152
  go_wp2_with (go_at_call 166; refine HF.out.mono ?_; rintro e w' ⟨rfl, rfl⟩)
  all_goals go_ret2
  all_goals exact ⟨ret_i2 Hv.out.symm, (Below.refl _ _).alloc (Nat.le_refl _) _⟩
theorem vbad_s (t s : Int) (w : World) (h0 : 0 < t) (h1 : 1 ≤ s) (h2 : t ≤ 7230584) (ht : t ≤ 2147483647) (hs1 : -2147483647 ≤ s) (hs2 : s ≤ 2147483647) :
    Calls Tryz.prog 152 #[.int .i64 t, .int .i64 s] w fun e w' => e = .returned (.tuple #[.int .i64 (badP t s), .int .i64 0]) ∧ Below w.heap.size w w' := by
  have HF := Lib.hid (anyFar2 (fun k => if k = 0 then t else s) w.heap.size (w.alloc (.cells #[.int .i64 t, .int .i64 s] 3)) (two_near (heap_alloc_new w _) (by omega) (by omega)))
  have hu := And.intro ht (And.intro hs1 hs2)
  clear hu
  have hse : s ≠ 0 := by omega
  have hte : t ≠ 0 := by omega
  have hr : badR t s = t * 297 / s := by simp only [badR, if_pos h2]
  have hm : 0 ≤ t * 297 / s := Int.ediv_nonneg (by omega) (by omega)
  have hm2 : t * 297 / s ≤ 2147483448 := Int.le_trans (Int.ediv_le_self _ (by omega)) (by omega)
  have Hr := Lib.hid hr
  clear hr
  go_enter Tryz.func152, Tryz.ntmps152
  go_wp2_with (go_at_call 166; refine HF.out.mono ?_; rintro e w' ⟨rfl, rfl⟩)
  all_goals go_ret2
  all_goals first
    | exact ⟨ret_i2 (bad_hi t s (by omega) (by omega) (by rw [Hr.out]; omega)).symm, (Below.refl _ _).alloc (Nat.le_refl _) _⟩
    | exact ⟨ret_i2 (bad_lo t s (by omega) (by omega) Hr.out (by omega) (by omega)), (Below.refl _ _).alloc (Nat.le_refl _) _⟩
theorem vbad_m (t s : Int) (w : World) (h0 : 7230584 < t) (h1 : 1663497 ≤ s) (ht : t ≤ 2147483647) (hs1 : -2147483647 ≤ s) (hs2 : s ≤ 2147483647) :
    Calls Tryz.prog 152 #[.int .i64 t, .int .i64 s] w fun e w' => e = .returned (.tuple #[.int .i64 (badP t s), .int .i64 0]) ∧ Below w.heap.size w w' := by
  have HF := Lib.hid (anyFar2 (fun k => if k = 0 then t else s) w.heap.size (w.alloc (.cells #[.int .i64 t, .int .i64 s] 3)) (two_near (heap_alloc_new w _) (by omega) (by omega)))
  have hu := And.intro ht (And.intro hs1 hs2)
  clear hu
  have hse : 1 ≤ s := by omega
  have hte : t ≠ 0 := by omega
  have hsn : s / 297 ≠ 0 := by omega
  have hs0 : 0 ≤ s / 297 := by omega
  have hsx : s / 297 ≤ 2147483647 := by omega
  have hr : badR t s = t / (s / 297) := by simp only [badR, if_neg (show ¬ t ≤ 7230584 by omega), if_pos h1]
  have hm : 0 ≤ t / (s / 297) := Int.ediv_nonneg (by omega) (by omega)
  have hm2 : t / (s / 297) ≤ 2147483647 := Int.le_trans (Int.ediv_le_self _ (by omega)) (by omega)
  have Hr := Lib.hid hr
  clear hr
  go_enter Tryz.func152, Tryz.ntmps152
  go_wp2_with (go_at_call 166; refine HF.out.mono ?_; rintro e w' ⟨rfl, rfl⟩)
  all_goals go_ret2
  all_goals first
    | exact ⟨ret_i2 (bad_hi t s (by omega) (by omega) (by rw [Hr.out]; omega)).symm, (Below.refl _ _).alloc (Nat.le_refl _) _⟩
    | exact ⟨ret_i2 (bad_lo t s (by omega) (by omega) Hr.out (by omega) (by omega)), (Below.refl _ _).alloc (Nat.le_refl _) _⟩
theorem vbad_w (t s : Int) (w : World) (h0 : 7230584 < t) (h1 : 1 ≤ s) (h2 : s < 1663497) (ht : t ≤ 2147483647) (hs1 : -2147483647 ≤ s) (hs2 : s ≤ 2147483647) :
    Calls Tryz.prog 152 #[.int .i64 t, .int .i64 s] w fun e w' => e = .returned (.tuple #[.int .i64 (badP t s), .int .i64 0]) ∧ Below w.heap.size w w' := by
  have HF := Lib.hid (anyFar2 (fun k => if k = 0 then t else s) w.heap.size (w.alloc (.cells #[.int .i64 t, .int .i64 s] 3)) (two_near (heap_alloc_new w _) (by omega) (by omega)))
  have hu := And.intro ht (And.intro hs1 hs2)
  clear hu
  have hte : t ≠ 0 := by omega
  have hr : badR t s = t := by simp only [badR, if_neg (show ¬ t ≤ 7230584 by omega), if_neg (show ¬ 1663497 ≤ s by omega)]
  have Hr := Lib.hid hr
  clear hr
  go_enter Tryz.func152, Tryz.ntmps152
  go_wp2_with (go_at_call 166; refine HF.out.mono ?_; rintro e w' ⟨rfl, rfl⟩)
  all_goals go_ret2
  all_goals exact ⟨ret_i2 (bad_hi t s (by omega) (by omega) (by rw [Hr.out]; omega)).symm, (Below.refl _ _).alloc (Nat.le_refl _) _⟩
theorem vbadness (t s : Int) (w : World) (h0 : 0 ≤ t) (ht : t ≤ 2147483647) (hs1 : -2147483647 ≤ s) (hs2 : s ≤ 2147483647) :
    Calls Tryz.prog 152 #[.int .i64 t, .int .i64 s] w fun e w' => e = .returned (.tuple #[.int .i64 (badP t s), .int .i64 0]) ∧ Below w.heap.size w w' := by
  by_cases a : t = 0
  · exact vbad_z t s w a ht hs1 hs2
  by_cases b : s < 1
  · exact vbad_n t s w (by omega) b ht hs1 hs2
  by_cases c : t ≤ 7230584
  · exact vbad_s t s w (by omega) (by omega) c ht hs1 hs2
  by_cases d : 1663497 ≤ s
  · exact vbad_m t s w (by omega) d ht hs1 hs2
  · exact vbad_w t s w (by omega) (by omega) (by omega) ht hs1 hs2
end Go.Proofs.YtomehdepjenilaaGreat
