/-
  Totals, a meter: structs of the program as Lean structures. No statement of the seat stands here.
-/
import Derived.Test.YtomehdepjenilaaGreatEq
import Derived.Test.YtomehdepjenilaaGreatH0
namespace Go.Proofs.YtomehdepjenilaaGreat
open Go.ChangeShapes Go.WideShapes Go.ChangeAt Go.RowKit


structure Tt where
  nat : Int
  s0 : Int
  s1 : Int
  s2 : Int
  s3 : Int
  h0 : Int
  h1 : Int
  h2 : Int
  h3 : Int
deriving Inhabited, DecidableEq
def Tt.cells (n : Tt) : List Value := [.int .i64 n.nat, .int .i64 n.s0, .int .i64 n.s1, .int .i64 n.s2, .int .i64 n.s3, .int .i64 n.h0, .int .i64 n.h1, .int .i64 n.h2, .int .i64 n.h3]
def Tt.arr (n : Tt) : Array Value := n.cells.toArray
@[go_sem] theorem Tt.size_arr (n : Tt) : n.arr.size = 9 := id rfl
@[go_sem] theorem Tt.get0 (n : Tt) : n.arr[0]? = some (.int .i64 n.nat) := id rfl
@[go_sem] theorem Tt.at0 (n : Tt) (h : 0 < n.arr.size) : n.arr[0] = .int .i64 n.nat := id rfl
@[go_sem] theorem Tt.get1 (n : Tt) : n.arr[1]? = some (.int .i64 n.s0) := id rfl
@[go_sem] theorem Tt.at1 (n : Tt) (h : 1 < n.arr.size) : n.arr[1] = .int .i64 n.s0 := id rfl
@[go_sem] theorem Tt.get2 (n : Tt) : n.arr[2]? = some (.int .i64 n.s1) := id rfl
@[go_sem] theorem Tt.at2 (n : Tt) (h : 2 < n.arr.size) : n.arr[2] = .int .i64 n.s1 := id rfl
@[go_sem] theorem Tt.get3 (n : Tt) : n.arr[3]? = some (.int .i64 n.s2) := id rfl
@[go_sem] theorem Tt.at3 (n : Tt) (h : 3 < n.arr.size) : n.arr[3] = .int .i64 n.s2 := id rfl
@[go_sem] theorem Tt.get4 (n : Tt) : n.arr[4]? = some (.int .i64 n.s3) := id rfl
@[go_sem] theorem Tt.at4 (n : Tt) (h : 4 < n.arr.size) : n.arr[4] = .int .i64 n.s3 := id rfl
@[go_sem] theorem Tt.get5 (n : Tt) : n.arr[5]? = some (.int .i64 n.h0) := id rfl
@[go_sem] theorem Tt.at5 (n : Tt) (h : 5 < n.arr.size) : n.arr[5] = .int .i64 n.h0 := id rfl
@[go_sem] theorem Tt.get6 (n : Tt) : n.arr[6]? = some (.int .i64 n.h1) := id rfl
@[go_sem] theorem Tt.at6 (n : Tt) (h : 6 < n.arr.size) : n.arr[6] = .int .i64 n.h1 := id rfl
@[go_sem] theorem Tt.get7 (n : Tt) : n.arr[7]? = some (.int .i64 n.h2) := id rfl
@[go_sem] theorem Tt.at7 (n : Tt) (h : 7 < n.arr.size) : n.arr[7] = .int .i64 n.h2 := id rfl
@[go_sem] theorem Tt.get8 (n : Tt) : n.arr[8]? = some (.int .i64 n.h3) := id rfl
@[go_sem] theorem Tt.at8 (n : Tt) (h : 8 < n.arr.size) : n.arr[8] = .int .i64 n.h3 := id rfl
@[go_sem] theorem Tt.set0 (n : Tt) (x : Int) : n.arr.setIfInBounds 0 (.int .i64 x) = ({ n with nat := x } : Tt).arr := id rfl
@[go_sem] theorem Tt.set1 (n : Tt) (x : Int) : n.arr.setIfInBounds 1 (.int .i64 x) = ({ n with s0 := x } : Tt).arr := id rfl
@[go_sem] theorem Tt.set2 (n : Tt) (x : Int) : n.arr.setIfInBounds 2 (.int .i64 x) = ({ n with s1 := x } : Tt).arr := id rfl
@[go_sem] theorem Tt.set3 (n : Tt) (x : Int) : n.arr.setIfInBounds 3 (.int .i64 x) = ({ n with s2 := x } : Tt).arr := id rfl
@[go_sem] theorem Tt.set4 (n : Tt) (x : Int) : n.arr.setIfInBounds 4 (.int .i64 x) = ({ n with s3 := x } : Tt).arr := id rfl
@[go_sem] theorem Tt.set5 (n : Tt) (x : Int) : n.arr.setIfInBounds 5 (.int .i64 x) = ({ n with h0 := x } : Tt).arr := id rfl
@[go_sem] theorem Tt.set6 (n : Tt) (x : Int) : n.arr.setIfInBounds 6 (.int .i64 x) = ({ n with h1 := x } : Tt).arr := id rfl
@[go_sem] theorem Tt.set7 (n : Tt) (x : Int) : n.arr.setIfInBounds 7 (.int .i64 x) = ({ n with h2 := x } : Tt).arr := id rfl
@[go_sem] theorem Tt.set8 (n : Tt) (x : Int) : n.arr.setIfInBounds 8 (.int .i64 x) = ({ n with h3 := x } : Tt).arr := id rfl
@[go_sem] theorem Tt.lit (x0 : Int) (x1 : Int) (x2 : Int) (x3 : Int) (x4 : Int) (x5 : Int) (x6 : Int) (x7 : Int) (x8 : Int) : (#[.int .i64 x0, .int .i64 x1, .int .i64 x2, .int .i64 x3, .int .i64 x4, .int .i64 x5, .int .i64 x6, .int .i64 x7, .int .i64 x8] : Array Value) = (Tt.mk x0 x1 x2 x3 x4 x5 x6 x7 x8).arr := id rfl
@[go_sem] theorem agg?_Tt (w : World) (n : Tt) (t : TypeId) (fr : Nat × Nat) (b : Nat) (h : b = w.heap.size) : agg? (w.alloc (.cells n.arr t fr)) b 0 9 = some n.arr := by
  rw [agg?_alloc_at w n.arr t fr b 0 9 h (by simp [Tt.size_arr])]; simp [Tt.arr, Tt.cells]
theorem setMany_Tt (n m : Tt) : setMany n.arr 0 m.cells = m.arr := by
  simp only [Tt.cells, setMany, Nat.reduceAdd, Tt.set0, Tt.set1, Tt.set2, Tt.set3, Tt.set4, Tt.set5, Tt.set6, Tt.set7, Tt.set8]
@[go_sem] theorem setAgg_Tt (w : World) (n m : Tt) (t : TypeId) (b : Nat) (h : b = w.heap.size) : setAgg (w.alloc (.cells n.arr t)) b 0 m.arr = w.alloc (.cells m.arr t) := by
  subst h
  unfold setAgg
  rw [setCells_alloc_at, show m.arr.toList = m.cells from rfl, setMany_Tt]

theorem Tt.one (n : Tt) : n.arr.all (·.oneCell') = true := by simp [Tt.arr, Tt.cells, Value.oneCell']
def Tt.zero : Tt := ⟨0, 0, 0, 0, 0, 0, 0, 0, 0⟩

structure Mt where
  t : Tt
  d : Int
  depth : Int
deriving Inhabited, DecidableEq
def Mt.cells (n : Mt) : List Value := [.int .i64 n.t.nat, .int .i64 n.t.s0, .int .i64 n.t.s1, .int .i64 n.t.s2, .int .i64 n.t.s3, .int .i64 n.t.h0, .int .i64 n.t.h1, .int .i64 n.t.h2, .int .i64 n.t.h3, .int .i64 n.d, .int .i64 n.depth]
def Mt.arr (n : Mt) : Array Value := n.cells.toArray
@[go_sem] theorem Mt.size_arr (n : Mt) : n.arr.size = 11 := id rfl
@[go_sem] theorem Mt.get0 (n : Mt) : n.arr[0]? = some (.int .i64 n.t.nat) := id rfl
@[go_sem] theorem Mt.at0 (n : Mt) (h : 0 < n.arr.size) : n.arr[0] = .int .i64 n.t.nat := id rfl
@[go_sem] theorem Mt.get1 (n : Mt) : n.arr[1]? = some (.int .i64 n.t.s0) := id rfl
@[go_sem] theorem Mt.at1 (n : Mt) (h : 1 < n.arr.size) : n.arr[1] = .int .i64 n.t.s0 := id rfl
@[go_sem] theorem Mt.get2 (n : Mt) : n.arr[2]? = some (.int .i64 n.t.s1) := id rfl
@[go_sem] theorem Mt.at2 (n : Mt) (h : 2 < n.arr.size) : n.arr[2] = .int .i64 n.t.s1 := id rfl
@[go_sem] theorem Mt.get3 (n : Mt) : n.arr[3]? = some (.int .i64 n.t.s2) := id rfl
@[go_sem] theorem Mt.at3 (n : Mt) (h : 3 < n.arr.size) : n.arr[3] = .int .i64 n.t.s2 := id rfl
@[go_sem] theorem Mt.get4 (n : Mt) : n.arr[4]? = some (.int .i64 n.t.s3) := id rfl
@[go_sem] theorem Mt.at4 (n : Mt) (h : 4 < n.arr.size) : n.arr[4] = .int .i64 n.t.s3 := id rfl
@[go_sem] theorem Mt.get5 (n : Mt) : n.arr[5]? = some (.int .i64 n.t.h0) := id rfl
@[go_sem] theorem Mt.at5 (n : Mt) (h : 5 < n.arr.size) : n.arr[5] = .int .i64 n.t.h0 := id rfl
@[go_sem] theorem Mt.get6 (n : Mt) : n.arr[6]? = some (.int .i64 n.t.h1) := id rfl
@[go_sem] theorem Mt.at6 (n : Mt) (h : 6 < n.arr.size) : n.arr[6] = .int .i64 n.t.h1 := id rfl
@[go_sem] theorem Mt.get7 (n : Mt) : n.arr[7]? = some (.int .i64 n.t.h2) := id rfl
@[go_sem] theorem Mt.at7 (n : Mt) (h : 7 < n.arr.size) : n.arr[7] = .int .i64 n.t.h2 := id rfl
@[go_sem] theorem Mt.get8 (n : Mt) : n.arr[8]? = some (.int .i64 n.t.h3) := id rfl
@[go_sem] theorem Mt.at8 (n : Mt) (h : 8 < n.arr.size) : n.arr[8] = .int .i64 n.t.h3 := id rfl
@[go_sem] theorem Mt.get9 (n : Mt) : n.arr[9]? = some (.int .i64 n.d) := id rfl
@[go_sem] theorem Mt.at9 (n : Mt) (h : 9 < n.arr.size) : n.arr[9] = .int .i64 n.d := id rfl
@[go_sem] theorem Mt.get10 (n : Mt) : n.arr[10]? = some (.int .i64 n.depth) := id rfl
@[go_sem] theorem Mt.at10 (n : Mt) (h : 10 < n.arr.size) : n.arr[10] = .int .i64 n.depth := id rfl
@[go_sem] theorem Mt.set0 (n : Mt) (x : Int) : n.arr.setIfInBounds 0 (.int .i64 x) = ({ n with t := { n.t with nat := x } } : Mt).arr := id rfl
@[go_sem] theorem Mt.set1 (n : Mt) (x : Int) : n.arr.setIfInBounds 1 (.int .i64 x) = ({ n with t := { n.t with s0 := x } } : Mt).arr := id rfl
@[go_sem] theorem Mt.set2 (n : Mt) (x : Int) : n.arr.setIfInBounds 2 (.int .i64 x) = ({ n with t := { n.t with s1 := x } } : Mt).arr := id rfl
@[go_sem] theorem Mt.set3 (n : Mt) (x : Int) : n.arr.setIfInBounds 3 (.int .i64 x) = ({ n with t := { n.t with s2 := x } } : Mt).arr := id rfl
@[go_sem] theorem Mt.set4 (n : Mt) (x : Int) : n.arr.setIfInBounds 4 (.int .i64 x) = ({ n with t := { n.t with s3 := x } } : Mt).arr := id rfl
@[go_sem] theorem Mt.set5 (n : Mt) (x : Int) : n.arr.setIfInBounds 5 (.int .i64 x) = ({ n with t := { n.t with h0 := x } } : Mt).arr := id rfl
@[go_sem] theorem Mt.set6 (n : Mt) (x : Int) : n.arr.setIfInBounds 6 (.int .i64 x) = ({ n with t := { n.t with h1 := x } } : Mt).arr := id rfl
@[go_sem] theorem Mt.set7 (n : Mt) (x : Int) : n.arr.setIfInBounds 7 (.int .i64 x) = ({ n with t := { n.t with h2 := x } } : Mt).arr := id rfl
@[go_sem] theorem Mt.set8 (n : Mt) (x : Int) : n.arr.setIfInBounds 8 (.int .i64 x) = ({ n with t := { n.t with h3 := x } } : Mt).arr := id rfl
@[go_sem] theorem Mt.set9 (n : Mt) (x : Int) : n.arr.setIfInBounds 9 (.int .i64 x) = ({ n with d := x } : Mt).arr := id rfl
@[go_sem] theorem Mt.set10 (n : Mt) (x : Int) : n.arr.setIfInBounds 10 (.int .i64 x) = ({ n with depth := x } : Mt).arr := id rfl
@[go_sem] theorem Mt.lit (x0 : Int) (x1 : Int) (x2 : Int) (x3 : Int) (x4 : Int) (x5 : Int) (x6 : Int) (x7 : Int) (x8 : Int) (x9 : Int) (x10 : Int) : (#[.int .i64 x0, .int .i64 x1, .int .i64 x2, .int .i64 x3, .int .i64 x4, .int .i64 x5, .int .i64 x6, .int .i64 x7, .int .i64 x8, .int .i64 x9, .int .i64 x10] : Array Value) = (Mt.mk ⟨x0, x1, x2, x3, x4, x5, x6, x7, x8⟩ x9 x10).arr := id rfl
@[go_sem] theorem Mt.sub_t (n : Mt) : n.arr.extract 0 9 = n.t.arr := id rfl
@[go_sem] theorem agg?_Mt (w : World) (n : Mt) (t : TypeId) (fr : Nat × Nat) (b : Nat) (h : b = w.heap.size) : agg? (w.alloc (.cells n.arr t fr)) b 0 11 = some n.arr := by
  rw [agg?_alloc_at w n.arr t fr b 0 11 h (by simp [Mt.size_arr])]; simp [Mt.arr, Mt.cells]
@[go_sem] theorem agg?_Mt_t (w : World) (n : Mt) (t : TypeId) (fr : Nat × Nat) (b : Nat) (h : b = w.heap.size) : agg? (w.alloc (.cells n.arr t fr)) b 0 9 = some n.t.arr := by
  rw [agg?_alloc_at w n.arr t fr b 0 9 h (by simp [Mt.size_arr])]; rfl
theorem setMany_Mt (n m : Mt) : setMany n.arr 0 m.cells = m.arr := by
  simp only [Mt.cells, setMany, Nat.reduceAdd, Mt.set0, Mt.set1, Mt.set2, Mt.set3, Mt.set4, Mt.set5, Mt.set6, Mt.set7, Mt.set8, Mt.set9, Mt.set10]
@[go_sem] theorem setAgg_Mt (w : World) (n m : Mt) (t : TypeId) (b : Nat) (h : b = w.heap.size) : setAgg (w.alloc (.cells n.arr t)) b 0 m.arr = w.alloc (.cells m.arr t) := by
  subst h
  unfold setAgg
  rw [setCells_alloc_at, show m.arr.toList = m.cells from rfl, setMany_Mt]
theorem setMany_Mt_t (n : Mt) (g : Tt) : setMany n.arr 0 g.cells = ({ n with t := g } : Mt).arr := by
  simp only [Tt.cells, setMany, Nat.reduceAdd, Mt.set0, Mt.set1, Mt.set2, Mt.set3, Mt.set4, Mt.set5, Mt.set6, Mt.set7, Mt.set8]
@[go_sem] theorem setAgg_Mt_t (w : World) (n : Mt) (g : Tt) (t : TypeId) (b : Nat) (h : b = w.heap.size) : setAgg (w.alloc (.cells n.arr t)) b 0 g.arr = w.alloc (.cells ({ n with t := g } : Mt).arr t) := by
  subst h
  unfold setAgg
  rw [setCells_alloc_at, show g.arr.toList = g.cells from rfl, setMany_Mt_t]

theorem Mt.one (n : Mt) : n.arr.all (·.oneCell') = true := by simp [Mt.arr, Mt.cells, Value.oneCell']

theorem u_tt : Tryz.prog.underlying 57 = some (.struct (Tryz.prog.fieldsOf 57)) := by kernel_rfl
theorem i_tt : (Tryz.prog.info? 57).map (·.size) = some 9 := by kernel_rfl
@[go_sem ↓] theorem execOp_loadtt (ρ : Operand → Value) (dst : Option Tmp) (x : Operand) (ty : TypeId) (pos : String) (after : Array Edge) (guard : Option (Nat × Bool)) :
    execOp ρ { dst, op := .load 57 x, type := ty, pos, after, guard } = (do pure (.value (← ldOp 57 (ρ x)))) := rfl
@[go_sem ↓] theorem execOp_storett (ρ : Operand → Value) (dst : Option Tmp) (x y : Operand) (ty : TypeId) (pos : String) (after : Array Edge) (guard : Option (Nat × Bool)) :
    execOp ρ { dst, op := .store 57 x y, type := ty, pos, after, guard } = (do stOp 57 (ρ x) (ρ y); pure .skip) := rfl
@[go_sem] theorem run_loadtt (b o : Nat) (w : World) : (ldOp 57 (.pointer (some ⟨b, o, none⟩))).run Tryz.prog w = ldRow Tryz.prog 57 b o w (agg? w b o 9) := run_loadAt_row _ _ _ u_tt rfl i_tt b o w
theorem ret_tt {fn : Func} {R : Ending → World → Prop} {a : Act} {w : World} {p : Tmp} (h : fn.results = #[.cell p 57]) (b o : Nat) (n : Tt) (hp : a.tmps.getD p undef = .pointer (some ⟨b, o, none⟩)) (hc : agg? w b o 9 = some n.arr) (hdf : a.defers = []) (hR : R (.returned (.agg n.arr)) w) : bodyPost Tryz.prog fn R .ret a w :=
  ret_row _ _ _ u_tt rfl i_tt h b o _ hp hc hdf hR
@[go_sem] theorem run_storett (b o : Nat) (n : Tt) (w : World) : (stOp 57 (.pointer (some ⟨b, o, none⟩)) (.agg n.arr)).run Tryz.prog w = stRow Tryz.prog 57 b o n.arr w (there? w b o 9) := run_storeAt_row _ _ i_tt b o _ (Tt.size_arr n) (Tt.one n) w

theorem u_mt : Tryz.prog.underlying 211 = some (.struct (Tryz.prog.fieldsOf 211)) := by kernel_rfl
theorem i_mt : (Tryz.prog.info? 211).map (·.size) = some 11 := by kernel_rfl
@[go_sem ↓] theorem execOp_loadmt (ρ : Operand → Value) (dst : Option Tmp) (x : Operand) (ty : TypeId) (pos : String) (after : Array Edge) (guard : Option (Nat × Bool)) :
    execOp ρ { dst, op := .load 211 x, type := ty, pos, after, guard } = (do pure (.value (← ldOp 211 (ρ x)))) := rfl
@[go_sem ↓] theorem execOp_storemt (ρ : Operand → Value) (dst : Option Tmp) (x y : Operand) (ty : TypeId) (pos : String) (after : Array Edge) (guard : Option (Nat × Bool)) :
    execOp ρ { dst, op := .store 211 x y, type := ty, pos, after, guard } = (do stOp 211 (ρ x) (ρ y); pure .skip) := rfl
@[go_sem] theorem run_loadmt (b o : Nat) (w : World) : (ldOp 211 (.pointer (some ⟨b, o, none⟩))).run Tryz.prog w = ldRow Tryz.prog 211 b o w (agg? w b o 11) := run_loadAt_row _ _ _ u_mt rfl i_mt b o w
@[go_sem] theorem run_storemt (b o : Nat) (n : Mt) (w : World) : (stOp 211 (.pointer (some ⟨b, o, none⟩)) (.agg n.arr)).run Tryz.prog w = stRow Tryz.prog 211 b o n.arr w (there? w b o 11) := run_storeAt_row _ _ i_mt b o _ (Mt.size_arr n) (Mt.one n) w

def bdTt (parts : Array (Nat × Value)) : Sem Value := Instr.build 57 parts
@[go_sem ↓] theorem execOp_buildTt (ρ : Operand → Value) (dst : Option Tmp) (x : Array (Nat × Operand)) (ty : TypeId) (pos : String) (after : Array Edge) (guard : Option (Nat × Bool)) :
    execOp ρ { dst, op := .build 57 x, type := ty, pos, after, guard } = (do pure (.value (← bdTt (x.map fun (i, y) => (i, ρ y))))) := rfl
@[go_sem] theorem run_bdTt_0 (w : World) : (bdTt #[]).run Tryz.prog w = .ok (.agg Tt.zero.arr) w := by kernel_rfl
def bdMt (parts : Array (Nat × Value)) : Sem Value := Instr.build 211 parts
@[go_sem ↓] theorem execOp_buildMt (ρ : Operand → Value) (dst : Option Tmp) (x : Array (Nat × Operand)) (ty : TypeId) (pos : String) (after : Array Edge) (guard : Option (Nat × Bool)) :
    execOp ρ { dst, op := .build 211 x, type := ty, pos, after, guard } = (do pure (.value (← bdMt (x.map fun (i, y) => (i, ρ y))))) := rfl
@[go_sem] theorem run_bdMt_k (k : Int) (w : World) : (bdMt #[(2, .int .i64 k)]).run Tryz.prog w = .ok (.agg (⟨Tt.zero, 0, k⟩ : Mt).arr) w := by kernel_rfl
set_option maxRecDepth 10000
set_option maxHeartbeats 4000000


structure Cp where
  num : Int
  count : Int
  most : Int
  glue : Gl
deriving Inhabited, DecidableEq
def Cp.cells (n : Cp) : List Value := [.int .i64 n.num, .int .i64 n.count, .int .i64 n.most, .int .i64 n.glue.nat, .int .i64 n.glue.str, .int .i64 n.glue.shr, .int .i64 n.glue.so, .int .i64 n.glue.ho]
def Cp.arr (n : Cp) : Array Value := n.cells.toArray
structure Gp where
  height : Int
  depth : Int
  top : Gl
  clsA : Option Addr
  clsN : Nat
  clsC : Nat
deriving Inhabited
def Gp.cells (n : Gp) : List Value := [.int .i64 n.height, .int .i64 n.depth, .int .i64 n.top.nat, .int .i64 n.top.str, .int .i64 n.top.shr, .int .i64 n.top.so, .int .i64 n.top.ho, .slice n.clsA n.clsN n.clsC]
def Gp.arr (n : Gp) : Array Value := n.cells.toArray
@[go_sem] theorem Gp.size_arr (n : Gp) : n.arr.size = 8 := id rfl
@[go_sem] theorem Gp.get0 (n : Gp) : n.arr[0]? = some (.int .i64 n.height) := id rfl
@[go_sem] theorem Gp.at0 (n : Gp) (h : 0 < n.arr.size) : n.arr[0] = .int .i64 n.height := id rfl
@[go_sem] theorem Gp.get1 (n : Gp) : n.arr[1]? = some (.int .i64 n.depth) := id rfl
@[go_sem] theorem Gp.at1 (n : Gp) (h : 1 < n.arr.size) : n.arr[1] = .int .i64 n.depth := id rfl
@[go_sem] theorem Gp.get7 (n : Gp) : n.arr[7]? = some (.slice n.clsA n.clsN n.clsC) := id rfl
@[go_sem] theorem Gp.set0 (n : Gp) (x : Int) : n.arr.setIfInBounds 0 (.int .i64 x) = ({ n with height := x } : Gp).arr := id rfl
@[go_sem] theorem Gp.set1 (n : Gp) (x : Int) : n.arr.setIfInBounds 1 (.int .i64 x) = ({ n with depth := x } : Gp).arr := id rfl
@[go_sem] theorem Gp.set2 (n : Gp) (x : Int) : n.arr.setIfInBounds 2 (.int .i64 x) = ({ n with top := { n.top with nat := x } } : Gp).arr := id rfl
@[go_sem] theorem Gp.set3 (n : Gp) (x : Int) : n.arr.setIfInBounds 3 (.int .i64 x) = ({ n with top := { n.top with str := x } } : Gp).arr := id rfl
@[go_sem] theorem Gp.set4 (n : Gp) (x : Int) : n.arr.setIfInBounds 4 (.int .i64 x) = ({ n with top := { n.top with shr := x } } : Gp).arr := id rfl
@[go_sem] theorem Gp.set5 (n : Gp) (x : Int) : n.arr.setIfInBounds 5 (.int .i64 x) = ({ n with top := { n.top with so := x } } : Gp).arr := id rfl
@[go_sem] theorem Gp.set6 (n : Gp) (x : Int) : n.arr.setIfInBounds 6 (.int .i64 x) = ({ n with top := { n.top with ho := x } } : Gp).arr := id rfl
@[go_sem] theorem Gp.set7 (n : Gp) (xA : Option Addr) (xN xC : Nat) : n.arr.setIfInBounds 7 (.slice xA xN xC) = ({ n with clsA := xA, clsN := xN, clsC := xC } : Gp).arr := id rfl
@[go_sem] theorem Gp.lit (x0 : Int) (x1 : Int) (x2 : Int) (x3 : Int) (x4 : Int) (x5 : Int) (x6 : Int) (x7A : Option Addr) (x7N x7C : Nat) : (#[.int .i64 x0, .int .i64 x1, .int .i64 x2, .int .i64 x3, .int .i64 x4, .int .i64 x5, .int .i64 x6, .slice x7A x7N x7C] : Array Value) = (Gp.mk x0 x1 ⟨x2, x3, x4, x5, x6⟩ x7A x7N x7C).arr := id rfl
@[go_sem] theorem agg?_Gp_top (w : World) (n : Gp) (t : TypeId) (fr : Nat × Nat) (b : Nat) (h : b = w.heap.size) : agg? (w.alloc (.cells n.arr t fr)) b 2 5 = some n.top.arr := by
  rw [agg?_alloc_at w n.arr t fr b 2 5 h (by simp [Gp.size_arr])]; rfl
theorem setMany_Gp (n m : Gp) : setMany n.arr 0 m.cells = m.arr := by
  simp only [Gp.cells, setMany, Nat.reduceAdd, Gp.set0, Gp.set1, Gp.set2, Gp.set3, Gp.set4, Gp.set5, Gp.set6, Gp.set7]
theorem Gp.one (n : Gp) : n.arr.all (·.oneCell') = true := by simp [Gp.arr, Gp.cells, Value.oneCell']

structure Tk where
  at_ : Int
  split : Int
deriving Inhabited, DecidableEq
def Tk.cells (n : Tk) : List Value := [.int .i64 n.at_, .int .i64 n.split]
structure Sc where
  listA : Option Addr
  listN : Nat
  listC : Nat
  body : Bool
  box : Bool
  goal : Int
  t : Tt
  depth : Int
  height : Nat
  closed : Nat
  insA : Option Addr
  insN : Nat
  insC : Nat
  pens : Int
  bat : Int
  bcost : Int
  bsome : Bool
  last : Nd
deriving Inhabited
def Sc.cells (n : Sc) : List Value := [.slice n.listA n.listN n.listC, .bool n.body, .bool n.box, .int .i64 n.goal, .int .i64 n.t.nat, .int .i64 n.t.s0, .int .i64 n.t.s1, .int .i64 n.t.s2, .int .i64 n.t.s3, .int .i64 n.t.h0, .int .i64 n.t.h1, .int .i64 n.t.h2, .int .i64 n.t.h3, .int .i64 n.depth, .map (some n.height), .map (some n.closed), .slice n.insA n.insN n.insC, .int .i64 n.pens, .int .i64 n.bat, .int .i64 n.bcost, .bool n.bsome, .int .i64 n.last.kind, .int .i64 n.last.font, .int .u8 n.last.char, .int .i64 n.last.w, .int .i64 n.last.h, .int .i64 n.last.d, .int .i64 n.last.shift, .int .i64 n.last.glue.nat, .int .i64 n.last.glue.str, .int .i64 n.last.glue.shr, .int .i64 n.last.glue.so, .int .i64 n.last.glue.ho, .int .i64 n.last.sign, .int .i64 n.last.order, .int .i64 n.last.num, .int .i64 n.last.den, .int .i64 n.last.pen, .int .i64 n.last.sub, .string n.last.text]
def Sc.arr (n : Sc) : Array Value := n.cells.toArray
@[go_sem] theorem Sc.size_arr (n : Sc) : n.arr.size = 40 := id rfl
@[go_sem] theorem Sc.get0 (n : Sc) : n.arr[0]? = some (.slice n.listA n.listN n.listC) := id rfl
@[go_sem] theorem Sc.get1 (n : Sc) : n.arr[1]? = some (.bool n.body) := id rfl
@[go_sem] theorem Sc.get2 (n : Sc) : n.arr[2]? = some (.bool n.box) := id rfl
@[go_sem] theorem Sc.get3 (n : Sc) : n.arr[3]? = some (.int .i64 n.goal) := id rfl
@[go_sem] theorem Sc.get4 (n : Sc) : n.arr[4]? = some (.int .i64 n.t.nat) := id rfl
@[go_sem] theorem Sc.get5 (n : Sc) : n.arr[5]? = some (.int .i64 n.t.s0) := id rfl
@[go_sem] theorem Sc.get6 (n : Sc) : n.arr[6]? = some (.int .i64 n.t.s1) := id rfl
@[go_sem] theorem Sc.get7 (n : Sc) : n.arr[7]? = some (.int .i64 n.t.s2) := id rfl
@[go_sem] theorem Sc.get8 (n : Sc) : n.arr[8]? = some (.int .i64 n.t.s3) := id rfl
@[go_sem] theorem Sc.get9 (n : Sc) : n.arr[9]? = some (.int .i64 n.t.h0) := id rfl
@[go_sem] theorem Sc.get13 (n : Sc) : n.arr[13]? = some (.int .i64 n.depth) := id rfl
@[go_sem] theorem Sc.get16 (n : Sc) : n.arr[16]? = some (.slice n.insA n.insN n.insC) := id rfl
@[go_sem] theorem Sc.get17 (n : Sc) : n.arr[17]? = some (.int .i64 n.pens) := id rfl
@[go_sem] theorem Sc.get18 (n : Sc) : n.arr[18]? = some (.int .i64 n.bat) := id rfl
@[go_sem] theorem Sc.get19 (n : Sc) : n.arr[19]? = some (.int .i64 n.bcost) := id rfl
@[go_sem] theorem Sc.get20 (n : Sc) : n.arr[20]? = some (.bool n.bsome) := id rfl
@[go_sem] theorem Sc.set0 (n : Sc) (xA : Option Addr) (xN xC : Nat) : n.arr.setIfInBounds 0 (.slice xA xN xC) = ({ n with listA := xA, listN := xN, listC := xC } : Sc).arr := id rfl
@[go_sem] theorem Sc.set1 (n : Sc) (x : Bool) : n.arr.setIfInBounds 1 (.bool x) = ({ n with body := x } : Sc).arr := id rfl
@[go_sem] theorem Sc.set2 (n : Sc) (x : Bool) : n.arr.setIfInBounds 2 (.bool x) = ({ n with box := x } : Sc).arr := id rfl
@[go_sem] theorem Sc.set18 (n : Sc) (x : Int) : n.arr.setIfInBounds 18 (.int .i64 x) = ({ n with bat := x } : Sc).arr := id rfl
@[go_sem] theorem Sc.set19 (n : Sc) (x : Int) : n.arr.setIfInBounds 19 (.int .i64 x) = ({ n with bcost := x } : Sc).arr := id rfl
@[go_sem] theorem Sc.set20 (n : Sc) (x : Bool) : n.arr.setIfInBounds 20 (.bool x) = ({ n with bsome := x } : Sc).arr := id rfl
@[go_sem] theorem Sc.set21 (n : Sc) (x : Int) : n.arr.setIfInBounds 21 (.int .i64 x) = ({ n with last := { n.last with kind := x } } : Sc).arr := id rfl
@[go_sem] theorem Sc.set22 (n : Sc) (x : Int) : n.arr.setIfInBounds 22 (.int .i64 x) = ({ n with last := { n.last with font := x } } : Sc).arr := id rfl
@[go_sem] theorem Sc.set23 (n : Sc) (x : Int) : n.arr.setIfInBounds 23 (.int .u8 x) = ({ n with last := { n.last with char := x } } : Sc).arr := id rfl
@[go_sem] theorem Sc.set24 (n : Sc) (x : Int) : n.arr.setIfInBounds 24 (.int .i64 x) = ({ n with last := { n.last with w := x } } : Sc).arr := id rfl
@[go_sem] theorem Sc.set25 (n : Sc) (x : Int) : n.arr.setIfInBounds 25 (.int .i64 x) = ({ n with last := { n.last with h := x } } : Sc).arr := id rfl
@[go_sem] theorem Sc.set26 (n : Sc) (x : Int) : n.arr.setIfInBounds 26 (.int .i64 x) = ({ n with last := { n.last with d := x } } : Sc).arr := id rfl
@[go_sem] theorem Sc.set27 (n : Sc) (x : Int) : n.arr.setIfInBounds 27 (.int .i64 x) = ({ n with last := { n.last with shift := x } } : Sc).arr := id rfl
@[go_sem] theorem Sc.set28 (n : Sc) (x : Int) : n.arr.setIfInBounds 28 (.int .i64 x) = ({ n with last := { n.last with glue := { n.last.glue with nat := x } } } : Sc).arr := id rfl
@[go_sem] theorem Sc.set29 (n : Sc) (x : Int) : n.arr.setIfInBounds 29 (.int .i64 x) = ({ n with last := { n.last with glue := { n.last.glue with str := x } } } : Sc).arr := id rfl
@[go_sem] theorem Sc.set30 (n : Sc) (x : Int) : n.arr.setIfInBounds 30 (.int .i64 x) = ({ n with last := { n.last with glue := { n.last.glue with shr := x } } } : Sc).arr := id rfl
@[go_sem] theorem Sc.set31 (n : Sc) (x : Int) : n.arr.setIfInBounds 31 (.int .i64 x) = ({ n with last := { n.last with glue := { n.last.glue with so := x } } } : Sc).arr := id rfl
@[go_sem] theorem Sc.set32 (n : Sc) (x : Int) : n.arr.setIfInBounds 32 (.int .i64 x) = ({ n with last := { n.last with glue := { n.last.glue with ho := x } } } : Sc).arr := id rfl
@[go_sem] theorem Sc.set33 (n : Sc) (x : Int) : n.arr.setIfInBounds 33 (.int .i64 x) = ({ n with last := { n.last with sign := x } } : Sc).arr := id rfl
@[go_sem] theorem Sc.set34 (n : Sc) (x : Int) : n.arr.setIfInBounds 34 (.int .i64 x) = ({ n with last := { n.last with order := x } } : Sc).arr := id rfl
@[go_sem] theorem Sc.set35 (n : Sc) (x : Int) : n.arr.setIfInBounds 35 (.int .i64 x) = ({ n with last := { n.last with num := x } } : Sc).arr := id rfl
@[go_sem] theorem Sc.set36 (n : Sc) (x : Int) : n.arr.setIfInBounds 36 (.int .i64 x) = ({ n with last := { n.last with den := x } } : Sc).arr := id rfl
@[go_sem] theorem Sc.set37 (n : Sc) (x : Int) : n.arr.setIfInBounds 37 (.int .i64 x) = ({ n with last := { n.last with pen := x } } : Sc).arr := id rfl
@[go_sem] theorem Sc.set38 (n : Sc) (x : Int) : n.arr.setIfInBounds 38 (.int .i64 x) = ({ n with last := { n.last with sub := x } } : Sc).arr := id rfl
@[go_sem] theorem Sc.set39 (n : Sc) (x : ByteArray) : n.arr.setIfInBounds 39 (.string x) = ({ n with last := { n.last with text := x } } : Sc).arr := id rfl
@[go_sem] theorem Sc.sub_last (n : Sc) : n.arr.extract 21 40 = n.last.arr := id rfl
theorem setMany_Sc_last (n : Sc) (g : Nd) : setMany n.arr 21 g.cells = ({ n with last := g } : Sc).arr := by
  simp only [Nd.cells, setMany, Nat.reduceAdd, Sc.set21, Sc.set22, Sc.set23, Sc.set24, Sc.set25, Sc.set26, Sc.set27, Sc.set28, Sc.set29, Sc.set30, Sc.set31, Sc.set32, Sc.set33, Sc.set34, Sc.set35, Sc.set36, Sc.set37, Sc.set38, Sc.set39]
structure Bc where
  height : Int
  depth : Int
  top : Gl
  clsA : Option Addr
  clsN : Nat
  clsC : Nat
  sheet : Nat
  waitsA : Option Addr
  waitsN : Nat
  waitsC : Nat
  bot : ByteArray
deriving Inhabited
def Bc.cells (n : Bc) : List Value := [.int .i64 n.height, .int .i64 n.depth, .int .i64 n.top.nat, .int .i64 n.top.str, .int .i64 n.top.shr, .int .i64 n.top.so, .int .i64 n.top.ho, .slice n.clsA n.clsN n.clsC, .pointer (some ⟨n.sheet, 0, none⟩), .slice n.waitsA n.waitsN n.waitsC, .string n.bot]
def Bc.arr (n : Bc) : Array Value := n.cells.toArray
@[go_sem] theorem Bc.size_arr (n : Bc) : n.arr.size = 11 := id rfl
@[go_sem] theorem Bc.get0 (n : Bc) : n.arr[0]? = some (.int .i64 n.height) := id rfl
@[go_sem] theorem Bc.get1 (n : Bc) : n.arr[1]? = some (.int .i64 n.depth) := id rfl
@[go_sem] theorem Bc.get8 (n : Bc) : n.arr[8]? = some (.pointer (some ⟨n.sheet, 0, none⟩)) := id rfl
@[go_sem] theorem Bc.get9 (n : Bc) : n.arr[9]? = some (.slice n.waitsA n.waitsN n.waitsC) := id rfl
@[go_sem] theorem Bc.get10 (n : Bc) : n.arr[10]? = some (.string n.bot) := id rfl
@[go_sem] theorem Bc.set8 (n : Bc) (x : Nat) : n.arr.setIfInBounds 8 (.pointer (some ⟨x, 0, none⟩)) = ({ n with sheet := x } : Bc).arr := id rfl
@[go_sem] theorem Bc.set9 (n : Bc) (xA : Option Addr) (xN xC : Nat) : n.arr.setIfInBounds 9 (.slice xA xN xC) = ({ n with waitsA := xA, waitsN := xN, waitsC := xC } : Bc).arr := id rfl
@[go_sem] theorem Bc.set10 (n : Bc) (x : ByteArray) : n.arr.setIfInBounds 10 (.string x) = ({ n with bot := x } : Bc).arr := id rfl
structure Pc where
  boxA : Option Addr
  boxN : Nat
  boxC : Nat
  insA : Option Addr
  insN : Nat
  insC : Nat
  heldA : Option Addr
  heldN : Nat
  heldC : Nat
  pen : Int
  cost : Int
  top : ByteArray
  first : ByteArray
  bot : ByteArray
deriving Inhabited
def Pc.cells (n : Pc) : List Value := [.slice n.boxA n.boxN n.boxC, .slice n.insA n.insN n.insC, .slice n.heldA n.heldN n.heldC, .int .i64 n.pen, .int .i64 n.cost, .string n.top, .string n.first, .string n.bot]
def Pc.arr (n : Pc) : Array Value := n.cells.toArray
@[go_sem] theorem Pc.size_arr (n : Pc) : n.arr.size = 8 := id rfl
@[go_sem] theorem Pc.get0 (n : Pc) : n.arr[0]? = some (.slice n.boxA n.boxN n.boxC) := id rfl
@[go_sem] theorem Pc.get1 (n : Pc) : n.arr[1]? = some (.slice n.insA n.insN n.insC) := id rfl
@[go_sem] theorem Pc.get2 (n : Pc) : n.arr[2]? = some (.slice n.heldA n.heldN n.heldC) := id rfl
@[go_sem] theorem Pc.get3 (n : Pc) : n.arr[3]? = some (.int .i64 n.pen) := id rfl
@[go_sem] theorem Pc.get4 (n : Pc) : n.arr[4]? = some (.int .i64 n.cost) := id rfl
@[go_sem] theorem Pc.get5 (n : Pc) : n.arr[5]? = some (.string n.top) := id rfl
@[go_sem] theorem Pc.get6 (n : Pc) : n.arr[6]? = some (.string n.first) := id rfl
@[go_sem] theorem Pc.get7 (n : Pc) : n.arr[7]? = some (.string n.bot) := id rfl
@[go_sem] theorem Pc.set0 (n : Pc) (xA : Option Addr) (xN xC : Nat) : n.arr.setIfInBounds 0 (.slice xA xN xC) = ({ n with boxA := xA, boxN := xN, boxC := xC } : Pc).arr := id rfl
@[go_sem] theorem Pc.set1 (n : Pc) (xA : Option Addr) (xN xC : Nat) : n.arr.setIfInBounds 1 (.slice xA xN xC) = ({ n with insA := xA, insN := xN, insC := xC } : Pc).arr := id rfl
@[go_sem] theorem Pc.set2 (n : Pc) (xA : Option Addr) (xN xC : Nat) : n.arr.setIfInBounds 2 (.slice xA xN xC) = ({ n with heldA := xA, heldN := xN, heldC := xC } : Pc).arr := id rfl
@[go_sem] theorem Pc.set3 (n : Pc) (x : Int) : n.arr.setIfInBounds 3 (.int .i64 x) = ({ n with pen := x } : Pc).arr := id rfl
@[go_sem] theorem Pc.set4 (n : Pc) (x : Int) : n.arr.setIfInBounds 4 (.int .i64 x) = ({ n with cost := x } : Pc).arr := id rfl
@[go_sem] theorem Pc.set5 (n : Pc) (x : ByteArray) : n.arr.setIfInBounds 5 (.string x) = ({ n with top := x } : Pc).arr := id rfl
@[go_sem] theorem Pc.set6 (n : Pc) (x : ByteArray) : n.arr.setIfInBounds 6 (.string x) = ({ n with first := x } : Pc).arr := id rfl
@[go_sem] theorem Pc.set7 (n : Pc) (x : ByteArray) : n.arr.setIfInBounds 7 (.string x) = ({ n with bot := x } : Pc).arr := id rfl
@[go_sem] theorem Pc.lit (x0A : Option Addr) (x0N x0C : Nat) (x1A : Option Addr) (x1N x1C : Nat) (x2A : Option Addr) (x2N x2C : Nat) (x3 : Int) (x4 : Int) (x5 : ByteArray) (x6 : ByteArray) (x7 : ByteArray) : (#[.slice x0A x0N x0C, .slice x1A x1N x1C, .slice x2A x2N x2C, .int .i64 x3, .int .i64 x4, .string x5, .string x6, .string x7] : Array Value) = (Pc.mk x0A x0N x0C x1A x1N x1C x2A x2N x2C x3 x4 x5 x6 x7).arr := id rfl
theorem setMany_Pc (n m : Pc) : setMany n.arr 0 m.cells = m.arr := by
  simp only [Pc.cells, setMany, Nat.reduceAdd, Pc.set0, Pc.set1, Pc.set2, Pc.set3, Pc.set4, Pc.set5, Pc.set6, Pc.set7]
theorem Pc.one (n : Pc) : n.arr.all (·.oneCell') = true := by simp [Pc.arr, Pc.cells, Value.oneCell']

@[go_sem ↓] theorem execOp_loadcp (ρ : Operand → Value) (dst : Option Tmp) (x : Operand) (ty : TypeId) (pos : String) (after : Array Edge) (guard : Option (Nat × Bool)) :
    execOp ρ { dst, op := .load 82 x, type := ty, pos, after, guard } = (do pure (.value (← ldOp 82 (ρ x)))) := rfl
@[go_sem ↓] theorem execOp_storecp (ρ : Operand → Value) (dst : Option Tmp) (x y : Operand) (ty : TypeId) (pos : String) (after : Array Edge) (guard : Option (Nat × Bool)) :
    execOp ρ { dst, op := .store 82 x y, type := ty, pos, after, guard } = (do stOp 82 (ρ x) (ρ y); pure .skip) := rfl
theorem u_gp : Tryz.prog.underlying 34 = some (.struct (Tryz.prog.fieldsOf 34)) := by kernel_rfl
theorem i_gp : (Tryz.prog.info? 34).map (·.size) = some 8 := by kernel_rfl
@[go_sem ↓] theorem execOp_loadgp (ρ : Operand → Value) (dst : Option Tmp) (x : Operand) (ty : TypeId) (pos : String) (after : Array Edge) (guard : Option (Nat × Bool)) :
    execOp ρ { dst, op := .load 34 x, type := ty, pos, after, guard } = (do pure (.value (← ldOp 34 (ρ x)))) := rfl
@[go_sem ↓] theorem execOp_storegp (ρ : Operand → Value) (dst : Option Tmp) (x y : Operand) (ty : TypeId) (pos : String) (after : Array Edge) (guard : Option (Nat × Bool)) :
    execOp ρ { dst, op := .store 34 x y, type := ty, pos, after, guard } = (do stOp 34 (ρ x) (ρ y); pure .skip) := rfl
@[go_sem] theorem run_loadgp (b o : Nat) (w : World) : (ldOp 34 (.pointer (some ⟨b, o, none⟩))).run Tryz.prog w = ldRow Tryz.prog 34 b o w (agg? w b o 8) := run_loadAt_row _ _ _ u_gp rfl i_gp b o w
theorem ret_gp {fn : Func} {R : Ending → World → Prop} {a : Act} {w : World} {p : Tmp} (h : fn.results = #[.cell p 34]) (b o : Nat) (n : Gp) (hp : a.tmps.getD p undef = .pointer (some ⟨b, o, none⟩)) (hc : agg? w b o 8 = some n.arr) (hdf : a.defers = []) (hR : R (.returned (.agg n.arr)) w) : bodyPost Tryz.prog fn R .ret a w :=
  ret_row _ _ _ u_gp rfl i_gp h b o _ hp hc hdf hR
@[go_sem] theorem run_storegp (b o : Nat) (n : Gp) (w : World) : (stOp 34 (.pointer (some ⟨b, o, none⟩)) (.agg n.arr)).run Tryz.prog w = stRow Tryz.prog 34 b o n.arr w (there? w b o 8) := run_storeAt_row _ _ i_gp b o _ (Gp.size_arr n) (Gp.one n) w

@[go_sem ↓] theorem execOp_loadtk (ρ : Operand → Value) (dst : Option Tmp) (x : Operand) (ty : TypeId) (pos : String) (after : Array Edge) (guard : Option (Nat × Bool)) :
    execOp ρ { dst, op := .load 168 x, type := ty, pos, after, guard } = (do pure (.value (← ldOp 168 (ρ x)))) := rfl
@[go_sem ↓] theorem execOp_storetk (ρ : Operand → Value) (dst : Option Tmp) (x y : Operand) (ty : TypeId) (pos : String) (after : Array Edge) (guard : Option (Nat × Bool)) :
    execOp ρ { dst, op := .store 168 x y, type := ty, pos, after, guard } = (do stOp 168 (ρ x) (ρ y); pure .skip) := rfl
@[go_sem ↓] theorem execOp_loadsc (ρ : Operand → Value) (dst : Option Tmp) (x : Operand) (ty : TypeId) (pos : String) (after : Array Edge) (guard : Option (Nat × Bool)) :
    execOp ρ { dst, op := .load 98 x, type := ty, pos, after, guard } = (do pure (.value (← ldOp 98 (ρ x)))) := rfl
@[go_sem ↓] theorem execOp_storesc (ρ : Operand → Value) (dst : Option Tmp) (x y : Operand) (ty : TypeId) (pos : String) (after : Array Edge) (guard : Option (Nat × Bool)) :
    execOp ρ { dst, op := .store 98 x y, type := ty, pos, after, guard } = (do stOp 98 (ρ x) (ρ y); pure .skip) := rfl
@[go_sem ↓] theorem execOp_loadbc (ρ : Operand → Value) (dst : Option Tmp) (x : Operand) (ty : TypeId) (pos : String) (after : Array Edge) (guard : Option (Nat × Bool)) :
    execOp ρ { dst, op := .load 71 x, type := ty, pos, after, guard } = (do pure (.value (← ldOp 71 (ρ x)))) := rfl
@[go_sem ↓] theorem execOp_storebc (ρ : Operand → Value) (dst : Option Tmp) (x y : Operand) (ty : TypeId) (pos : String) (after : Array Edge) (guard : Option (Nat × Bool)) :
    execOp ρ { dst, op := .store 71 x y, type := ty, pos, after, guard } = (do stOp 71 (ρ x) (ρ y); pure .skip) := rfl
theorem u_pc : Tryz.prog.underlying 46 = some (.struct (Tryz.prog.fieldsOf 46)) := by kernel_rfl
theorem i_pc : (Tryz.prog.info? 46).map (·.size) = some 8 := by kernel_rfl
@[go_sem ↓] theorem execOp_loadpc (ρ : Operand → Value) (dst : Option Tmp) (x : Operand) (ty : TypeId) (pos : String) (after : Array Edge) (guard : Option (Nat × Bool)) :
    execOp ρ { dst, op := .load 46 x, type := ty, pos, after, guard } = (do pure (.value (← ldOp 46 (ρ x)))) := rfl
@[go_sem ↓] theorem execOp_storepc (ρ : Operand → Value) (dst : Option Tmp) (x y : Operand) (ty : TypeId) (pos : String) (after : Array Edge) (guard : Option (Nat × Bool)) :
    execOp ρ { dst, op := .store 46 x y, type := ty, pos, after, guard } = (do stOp 46 (ρ x) (ρ y); pure .skip) := rfl
@[go_sem] theorem run_loadpc (b o : Nat) (w : World) : (ldOp 46 (.pointer (some ⟨b, o, none⟩))).run Tryz.prog w = ldRow Tryz.prog 46 b o w (agg? w b o 8) := run_loadAt_row _ _ _ u_pc rfl i_pc b o w
@[go_sem] theorem run_storepc (b o : Nat) (n : Pc) (w : World) : (stOp 46 (.pointer (some ⟨b, o, none⟩)) (.agg n.arr)).run Tryz.prog w = stRow Tryz.prog 46 b o n.arr w (there? w b o 8) := run_storeAt_row _ _ i_pc b o _ (Pc.size_arr n) (Pc.one n) w

end Go.Proofs.YtomehdepjenilaaGreat
