/-
  Totals, a meter: structs of the program as Lean structures. No statement of the seat stands here.
-/
import Derived.Test.YtaehkbbdmamfpaaGreatDoorEq
import Derived.Test.YtaehkbbdmamfpaaGreatDoorVBs
namespace Go.Proofs.YtaehkbbdmamfpaaGreatDoor
open Go.ChangeShapes Go.WideShapes Go.ChangeAt Go.RowKit
structure Tt where
 nat : Int
 s0 : Int
 s1 : Int
 s2 : Int
 s3 : Int
 h0 : Int
 h1 : Int
 h2 : Int
 h3 : Int
deriving Inhabited, DecidableEq
def Tt.cells (n : Tt) : List Value := [.int .i64 n.nat, .int .i64 n.s0, .int .i64 n.s1, .int .i64 n.s2, .int .i64 n.s3, .int .i64 n.h0, .int .i64 n.h1, .int .i64 n.h2, .int .i64 n.h3]
def Tt.arr (n : Tt) : Array Value := n.cells.toArray
@[go_sem] theorem Tt.size_arr (n : Tt) : n.arr.size = 9 := id rfl
@[go_sem] theorem Tt.get0 (n : Tt) : n.arr[0]? = some (.int .i64 n.nat) := id rfl
@[go_sem] theorem Tt.at0 (n : Tt) (h : 0 < n.arr.size) : n.arr[0] = .int .i64 n.nat := id rfl
@[go_sem] theorem Tt.get1 (n : Tt) : n.arr[1]? = some (.int .i64 n.s0) := id rfl
@[go_sem] theorem Tt.at1 (n : Tt) (h : 1 < n.arr.size) : n.arr[1] = .int .i64 n.s0 := id rfl
@[go_sem] theorem Tt.get2 (n : Tt) : n.arr[2]? = some (.int .i64 n.s1) := id rfl
@[go_sem] theorem Tt.at2 (n : Tt) (h : 2 < n.arr.size) : n.arr[2] = .int .i64 n.s1 := id rfl
@[go_sem] theorem Tt.get3 (n : Tt) : n.arr[3]? = some (.int .i64 n.s2) := id rfl
@[go_sem] theorem Tt.at3 (n : Tt) (h : 3 < n.arr.size) : n.arr[3] = .int .i64 n.s2 := id rfl
@[go_sem] theorem Tt.get4 (n : Tt) : n.arr[4]? = some (.int .i64 n.s3) := id rfl
@[go_sem] theorem Tt.at4 (n : Tt) (h : 4 < n.arr.size) : n.arr[4] = .int .i64 n.s3 := id rfl
@[go_sem] theorem Tt.get5 (n : Tt) : n.arr[5]? = some (.int .i64 n.h0) := id rfl
@[go_sem] theorem Tt.at5 (n : Tt) (h : 5 < n.arr.size) : n.arr[5] = .int .i64 n.h0 := id rfl
@[go_sem] theorem Tt.get6 (n : Tt) : n.arr[6]? = some (.int .i64 n.h1) := id rfl
@[go_sem] theorem Tt.at6 (n : Tt) (h : 6 < n.arr.size) : n.arr[6] = .int .i64 n.h1 := id rfl
@[go_sem] theorem Tt.get7 (n : Tt) : n.arr[7]? = some (.int .i64 n.h2) := id rfl
@[go_sem] theorem Tt.at7 (n : Tt) (h : 7 < n.arr.size) : n.arr[7] = .int .i64 n.h2 := id rfl
@[go_sem] theorem Tt.get8 (n : Tt) : n.arr[8]? = some (.int .i64 n.h3) := id rfl
@[go_sem] theorem Tt.at8 (n : Tt) (h : 8 < n.arr.size) : n.arr[8] = .int .i64 n.h3 := id rfl
@[go_sem] theorem Tt.set0 (n : Tt) (x : Int) : n.arr.setIfInBounds 0 (.int .i64 x) = ({ n with nat := x } : Tt).arr := id rfl
@[go_sem] theorem Tt.set1 (n : Tt) (x : Int) : n.arr.setIfInBounds 1 (.int .i64 x) = ({ n with s0 := x } : Tt).arr := id rfl
@[go_sem] theorem Tt.set2 (n : Tt) (x : Int) : n.arr.setIfInBounds 2 (.int .i64 x) = ({ n with s1 := x } : Tt).arr := id rfl
@[go_sem] theorem Tt.set3 (n : Tt) (x : Int) : n.arr.setIfInBounds 3 (.int .i64 x) = ({ n with s2 := x } : Tt).arr := id rfl
@[go_sem] theorem Tt.set4 (n : Tt) (x : Int) : n.arr.setIfInBounds 4 (.int .i64 x) = ({ n with s3 := x } : Tt).arr := id rfl
@[go_sem] theorem Tt.set5 (n : Tt) (x : Int) : n.arr.setIfInBounds 5 (.int .i64 x) = ({ n with h0 := x } : Tt).arr := id rfl
@[go_sem] theorem Tt.set6 (n : Tt) (x : Int) : n.arr.setIfInBounds 6 (.int .i64 x) = ({ n with h1 := x } : Tt).arr := id rfl
@[go_sem] theorem Tt.set7 (n : Tt) (x : Int) : n.arr.setIfInBounds 7 (.int .i64 x) = ({ n with h2 := x } : Tt).arr := id rfl
@[go_sem] theorem Tt.set8 (n : Tt) (x : Int) : n.arr.setIfInBounds 8 (.int .i64 x) = ({ n with h3 := x } : Tt).arr := id rfl
@[go_sem] theorem Tt.lit (x0 : Int) (x1 : Int) (x2 : Int) (x3 : Int) (x4 : Int) (x5 : Int) (x6 : Int) (x7 : Int) (x8 : Int) : (#[.int .i64 x0, .int .i64 x1, .int .i64 x2, .int .i64 x3, .int .i64 x4, .int .i64 x5, .int .i64 x6, .int .i64 x7, .int .i64 x8] : Array Value) = (Tt.mk x0 x1 x2 x3 x4 x5 x6 x7 x8).arr := id rfl
@[go_sem] theorem agg?_Tt (w : World) (n : Tt) (t : TypeId) (fr : Nat × Nat) (b : Nat) (h : b = w.heap.size) : agg? (w.alloc (.cells n.arr t fr)) b 0 9 = some n.arr := by
 rw [agg?_alloc_at w n.arr t fr b 0 9 h (by simp [Tt.size_arr])]; simp [Tt.arr, Tt.cells]
theorem setMany_Tt (n m : Tt) : zaI n.arr 0 m.cells = m.arr := by
 simp only [Tt.cells, zaI, Nat.reduceAdd, Tt.set0, Tt.set1, Tt.set2, Tt.set3, Tt.set4, Tt.set5, Tt.set6, Tt.set7, Tt.set8]
@[go_sem] theorem setAgg_Tt (w : World) (n m : Tt) (t : TypeId) (b : Nat) (h : b = w.heap.size) : setAgg (w.alloc (.cells n.arr t)) b 0 m.arr = w.alloc (.cells m.arr t) := by
 subst h
 unfold setAgg
 rw [zaJ, show m.arr.toList = m.cells from rfl, setMany_Tt]
theorem Tt.one (n : Tt) : n.arr.all (·.oneCell') = true := by simp [Tt.arr, Tt.cells, Value.oneCell']
def Tt.zero : Tt := ⟨0, 0, 0, 0, 0, 0, 0, 0, 0⟩
structure Mt where
 t : Tt
 d : Int
 depth : Int
deriving Inhabited, DecidableEq
def Mt.cells (n : Mt) : List Value := [.int .i64 n.t.nat, .int .i64 n.t.s0, .int .i64 n.t.s1, .int .i64 n.t.s2, .int .i64 n.t.s3, .int .i64 n.t.h0, .int .i64 n.t.h1, .int .i64 n.t.h2, .int .i64 n.t.h3, .int .i64 n.d, .int .i64 n.depth]
def Mt.arr (n : Mt) : Array Value := n.cells.toArray
@[go_sem] theorem Mt.size_arr (n : Mt) : n.arr.size = 11 := id rfl
@[go_sem] theorem Mt.get0 (n : Mt) : n.arr[0]? = some (.int .i64 n.t.nat) := id rfl
@[go_sem] theorem Mt.at0 (n : Mt) (h : 0 < n.arr.size) : n.arr[0] = .int .i64 n.t.nat := id rfl
@[go_sem] theorem Mt.get1 (n : Mt) : n.arr[1]? = some (.int .i64 n.t.s0) := id rfl
@[go_sem] theorem Mt.at1 (n : Mt) (h : 1 < n.arr.size) : n.arr[1] = .int .i64 n.t.s0 := id rfl
@[go_sem] theorem Mt.get2 (n : Mt) : n.arr[2]? = some (.int .i64 n.t.s1) := id rfl
@[go_sem] theorem Mt.at2 (n : Mt) (h : 2 < n.arr.size) : n.arr[2] = .int .i64 n.t.s1 := id rfl
@[go_sem] theorem Mt.get3 (n : Mt) : n.arr[3]? = some (.int .i64 n.t.s2) := id rfl
@[go_sem] theorem Mt.at3 (n : Mt) (h : 3 < n.arr.size) : n.arr[3] = .int .i64 n.t.s2 := id rfl
@[go_sem] theorem Mt.get4 (n : Mt) : n.arr[4]? = some (.int .i64 n.t.s3) := id rfl
@[go_sem] theorem Mt.at4 (n : Mt) (h : 4 < n.arr.size) : n.arr[4] = .int .i64 n.t.s3 := id rfl
@[go_sem] theorem Mt.get5 (n : Mt) : n.arr[5]? = some (.int .i64 n.t.h0) := id rfl
@[go_sem] theorem Mt.at5 (n : Mt) (h : 5 < n.arr.size) : n.arr[5] = .int .i64 n.t.h0 := id rfl
@[go_sem] theorem Mt.get6 (n : Mt) : n.arr[6]? = some (.int .i64 n.t.h1) := id rfl
@[go_sem] theorem Mt.at6 (n : Mt) (h : 6 < n.arr.size) : n.arr[6] = .int .i64 n.t.h1 := id rfl
@[go_sem] theorem Mt.get7 (n : Mt) : n.arr[7]? = some (.int .i64 n.t.h2) := id rfl
@[go_sem] theorem Mt.at7 (n : Mt) (h : 7 < n.arr.size) : n.arr[7] = .int .i64 n.t.h2 := id rfl
@[go_sem] theorem Mt.get8 (n : Mt) : n.arr[8]? = some (.int .i64 n.t.h3) := id rfl
@[go_sem] theorem Mt.at8 (n : Mt) (h : 8 < n.arr.size) : n.arr[8] = .int .i64 n.t.h3 := id rfl
@[go_sem] theorem Mt.get9 (n : Mt) : n.arr[9]? = some (.int .i64 n.d) := id rfl
@[go_sem] theorem Mt.at9 (n : Mt) (h : 9 < n.arr.size) : n.arr[9] = .int .i64 n.d := id rfl
@[go_sem] theorem Mt.get10 (n : Mt) : n.arr[10]? = some (.int .i64 n.depth) := id rfl
@[go_sem] theorem Mt.at10 (n : Mt) (h : 10 < n.arr.size) : n.arr[10] = .int .i64 n.depth := id rfl
@[go_sem] theorem Mt.set0 (n : Mt) (x : Int) : n.arr.setIfInBounds 0 (.int .i64 x) = ({ n with t := { n.t with nat := x } } : Mt).arr := id rfl
@[go_sem] theorem Mt.set1 (n : Mt) (x : Int) : n.arr.setIfInBounds 1 (.int .i64 x) = ({ n with t := { n.t with s0 := x } } : Mt).arr := id rfl
@[go_sem] theorem Mt.set2 (n : Mt) (x : Int) : n.arr.setIfInBounds 2 (.int .i64 x) = ({ n with t := { n.t with s1 := x } } : Mt).arr := id rfl
@[go_sem] theorem Mt.set3 (n : Mt) (x : Int) : n.arr.setIfInBounds 3 (.int .i64 x) = ({ n with t := { n.t with s2 := x } } : Mt).arr := id rfl
@[go_sem] theorem Mt.set4 (n : Mt) (x : Int) : n.arr.setIfInBounds 4 (.int .i64 x) = ({ n with t := { n.t with s3 := x } } : Mt).arr := id rfl
@[go_sem] theorem Mt.set5 (n : Mt) (x : Int) : n.arr.setIfInBounds 5 (.int .i64 x) = ({ n with t := { n.t with h0 := x } } : Mt).arr := id rfl
@[go_sem] theorem Mt.set6 (n : Mt) (x : Int) : n.arr.setIfInBounds 6 (.int .i64 x) = ({ n with t := { n.t with h1 := x } } : Mt).arr := id rfl
@[go_sem] theorem Mt.set7 (n : Mt) (x : Int) : n.arr.setIfInBounds 7 (.int .i64 x) = ({ n with t := { n.t with h2 := x } } : Mt).arr := id rfl
@[go_sem] theorem Mt.set8 (n : Mt) (x : Int) : n.arr.setIfInBounds 8 (.int .i64 x) = ({ n with t := { n.t with h3 := x } } : Mt).arr := id rfl
@[go_sem] theorem Mt.set9 (n : Mt) (x : Int) : n.arr.setIfInBounds 9 (.int .i64 x) = ({ n with d := x } : Mt).arr := id rfl
@[go_sem] theorem Mt.set10 (n : Mt) (x : Int) : n.arr.setIfInBounds 10 (.int .i64 x) = ({ n with depth := x } : Mt).arr := id rfl
@[go_sem] theorem Mt.lit (x0 : Int) (x1 : Int) (x2 : Int) (x3 : Int) (x4 : Int) (x5 : Int) (x6 : Int) (x7 : Int) (x8 : Int) (x9 : Int) (x10 : Int) : (#[.int .i64 x0, .int .i64 x1, .int .i64 x2, .int .i64 x3, .int .i64 x4, .int .i64 x5, .int .i64 x6, .int .i64 x7, .int .i64 x8, .int .i64 x9, .int .i64 x10] : Array Value) = (Mt.mk ⟨x0, x1, x2, x3, x4, x5, x6, x7, x8⟩ x9 x10).arr := id rfl
@[go_sem] theorem Mt.sub_t (n : Mt) : n.arr.extract 0 9 = n.t.arr := id rfl
@[go_sem] theorem agg?_Mt (w : World) (n : Mt) (t : TypeId) (fr : Nat × Nat) (b : Nat) (h : b = w.heap.size) : agg? (w.alloc (.cells n.arr t fr)) b 0 11 = some n.arr := by
 rw [agg?_alloc_at w n.arr t fr b 0 11 h (by simp [Mt.size_arr])]; simp [Mt.arr, Mt.cells]
@[go_sem] theorem agg?_Mt_t (w : World) (n : Mt) (t : TypeId) (fr : Nat × Nat) (b : Nat) (h : b = w.heap.size) : agg? (w.alloc (.cells n.arr t fr)) b 0 9 = some n.t.arr := by
 rw [agg?_alloc_at w n.arr t fr b 0 9 h (by simp [Mt.size_arr])]; rfl
theorem setMany_Mt (n m : Mt) : zaI n.arr 0 m.cells = m.arr := by
 simp only [Mt.cells, zaI, Nat.reduceAdd, Mt.set0, Mt.set1, Mt.set2, Mt.set3, Mt.set4, Mt.set5, Mt.set6, Mt.set7, Mt.set8, Mt.set9, Mt.set10]
@[go_sem] theorem setAgg_Mt (w : World) (n m : Mt) (t : TypeId) (b : Nat) (h : b = w.heap.size) : setAgg (w.alloc (.cells n.arr t)) b 0 m.arr = w.alloc (.cells m.arr t) := by
 subst h
 unfold setAgg
 rw [zaJ, show m.arr.toList = m.cells from rfl, setMany_Mt]
theorem setMany_Mt_t (n : Mt) (g : Tt) : zaI n.arr 0 g.cells = ({ n with t := g } : Mt).arr := by
 simp only [Tt.cells, zaI, Nat.reduceAdd, Mt.set0, Mt.set1, Mt.set2, Mt.set3, Mt.set4, Mt.set5, Mt.set6, Mt.set7, Mt.set8]
@[go_sem] theorem setAgg_Mt_t (w : World) (n : Mt) (g : Tt) (t : TypeId) (b : Nat) (h : b = w.heap.size) : setAgg (w.alloc (.cells n.arr t)) b 0 g.arr = w.alloc (.cells ({ n with t := g } : Mt).arr t) := by
 subst h
 unfold setAgg
 rw [zaJ, show g.arr.toList = g.cells from rfl, setMany_Mt_t]
theorem Mt.one (n : Mt) : n.arr.all (·.oneCell') = true := by simp [Mt.arr, Mt.cells, Value.oneCell']
theorem u_tt : Tryz.prog.underlying 43 = some (.struct (Tryz.prog.fieldsOf 43)) := by kernel_rfl
theorem i_tt : (Tryz.prog.info? 43).map (·.size) = some 9 := by kernel_rfl
@[go_sem ↓] theorem execOp_loadtt (ρ : Operand -> Value) (dst : Option Tmp) (x : Operand) (ty : TypeId) (pos : String) (after : Array Edge) (guard : Option (Nat × Bool)) :
 execOp ρ { dst, op := .load 43 x, type := ty, pos, after, guard } = (do pure (.value (<- ldOp 43 (ρ x)))) := rfl
@[go_sem ↓] theorem execOp_storett (ρ : Operand -> Value) (dst : Option Tmp) (x y : Operand) (ty : TypeId) (pos : String) (after : Array Edge) (guard : Option (Nat × Bool)) :
 execOp ρ { dst, op := .store 43 x y, type := ty, pos, after, guard } = (do stOp 43 (ρ x) (ρ y); pure .skip) := rfl
@[go_sem] theorem run_loadtt (b o : Nat) (w : World) : (ldOp 43 (.pointer (some ⟨b, o, none⟩))).run Tryz.prog w = ldRow Tryz.prog 43 b o w (agg? w b o 9) := zat _ _ _ u_tt rfl i_tt b o w
theorem ret_tt {fn : Func} {R : Ending -> World -> Prop} {a : Act} {w : World} {p : Tmp} (h : fn.results = #[.cell p 43]) (b o : Nat) (n : Tt) (hp : a.tmps.getD p undef = .pointer (some ⟨b, o, none⟩)) (hc : agg? w b o 9 = some n.arr) (hdf : a.defers = []) (hR : R (.returned (.agg n.arr)) w) : bodyPost Tryz.prog fn R .ret a w :=
 ret_row _ _ _ u_tt rfl i_tt h b o _ hp hc hdf hR
@[go_sem] theorem run_storett (b o : Nat) (n : Tt) (w : World) : (stOp 43 (.pointer (some ⟨b, o, none⟩)) (.agg n.arr)).run Tryz.prog w = stRow Tryz.prog 43 b o n.arr w (there? w b o 9) := zaC _ _ i_tt b o _ (Tt.size_arr n) (Tt.one n) w
theorem u_mt : Tryz.prog.underlying 151 = some (.struct (Tryz.prog.fieldsOf 151)) := by kernel_rfl
theorem i_mt : (Tryz.prog.info? 151).map (·.size) = some 11 := by kernel_rfl
@[go_sem ↓] theorem execOp_loadmt (ρ : Operand -> Value) (dst : Option Tmp) (x : Operand) (ty : TypeId) (pos : String) (after : Array Edge) (guard : Option (Nat × Bool)) :
 execOp ρ { dst, op := .load 151 x, type := ty, pos, after, guard } = (do pure (.value (<- ldOp 151 (ρ x)))) := rfl
@[go_sem ↓] theorem execOp_storemt (ρ : Operand -> Value) (dst : Option Tmp) (x y : Operand) (ty : TypeId) (pos : String) (after : Array Edge) (guard : Option (Nat × Bool)) :
 execOp ρ { dst, op := .store 151 x y, type := ty, pos, after, guard } = (do stOp 151 (ρ x) (ρ y); pure .skip) := rfl
@[go_sem] theorem run_loadmt (b o : Nat) (w : World) : (ldOp 151 (.pointer (some ⟨b, o, none⟩))).run Tryz.prog w = ldRow Tryz.prog 151 b o w (agg? w b o 11) := zat _ _ _ u_mt rfl i_mt b o w
@[go_sem] theorem run_storemt (b o : Nat) (n : Mt) (w : World) : (stOp 151 (.pointer (some ⟨b, o, none⟩)) (.agg n.arr)).run Tryz.prog w = stRow Tryz.prog 151 b o n.arr w (there? w b o 11) := zaC _ _ i_mt b o _ (Mt.size_arr n) (Mt.one n) w
def bdTt (parts : Array (Nat × Value)) : Sem Value := Instr.build 43 parts
@[go_sem ↓] theorem execOp_buildTt (ρ : Operand -> Value) (dst : Option Tmp) (x : Array (Nat × Operand)) (ty : TypeId) (pos : String) (after : Array Edge) (guard : Option (Nat × Bool)) :
 execOp ρ { dst, op := .build 43 x, type := ty, pos, after, guard } = (do pure (.value (<- bdTt (x.map fun (i, y) => (i, ρ y))))) := rfl
@[go_sem] theorem run_bdTt_0 (w : World) : (bdTt #[]).run Tryz.prog w = .ok (.agg Tt.zero.arr) w := by kernel_rfl
def bdMt (parts : Array (Nat × Value)) : Sem Value := Instr.build 151 parts
@[go_sem ↓] theorem execOp_buildMt (ρ : Operand -> Value) (dst : Option Tmp) (x : Array (Nat × Operand)) (ty : TypeId) (pos : String) (after : Array Edge) (guard : Option (Nat × Bool)) :
 execOp ρ { dst, op := .build 151 x, type := ty, pos, after, guard } = (do pure (.value (<- bdMt (x.map fun (i, y) => (i, ρ y))))) := rfl
@[go_sem] theorem run_bdMt_k (k : Int) (w : World) : (bdMt #[(2, .int .i64 k)]).run Tryz.prog w = .ok (.agg (⟨Tt.zero, 0, k⟩ : Mt).arr) w := by kernel_rfl
set_option maxRecDepth 10000
structure Cl where
 scale : Int
 most : Int
 have_ : Int
 skip : Gl
deriving Inhabited, DecidableEq
def Cl.cells (n : Cl) : List Value := [.int .i64 n.scale, .int .i64 n.most, .int .i64 n.have_, .int .i64 n.skip.nat, .int .i64 n.skip.str, .int .i64 n.skip.shr, .int .i64 n.skip.so, .int .i64 n.skip.ho]
def Cl.arr (n : Cl) : Array Value := n.cells.toArray
@[go_sem] theorem Cl.size_arr (n : Cl) : n.arr.size = 8 := id rfl
@[go_sem] theorem Cl.get0 (n : Cl) : n.arr[0]? = some (.int .i64 n.scale) := id rfl
@[go_sem] theorem Cl.get1 (n : Cl) : n.arr[1]? = some (.int .i64 n.most) := id rfl
@[go_sem] theorem Cl.get2 (n : Cl) : n.arr[2]? = some (.int .i64 n.have_) := id rfl
@[go_sem] theorem Cl.get3 (n : Cl) : n.arr[3]? = some (.int .i64 n.skip.nat) := id rfl
@[go_sem] theorem Cl.get4 (n : Cl) : n.arr[4]? = some (.int .i64 n.skip.str) := id rfl
@[go_sem] theorem Cl.get5 (n : Cl) : n.arr[5]? = some (.int .i64 n.skip.shr) := id rfl
@[go_sem] theorem Cl.get6 (n : Cl) : n.arr[6]? = some (.int .i64 n.skip.so) := id rfl
@[go_sem] theorem Cl.get7 (n : Cl) : n.arr[7]? = some (.int .i64 n.skip.ho) := id rfl
@[go_sem] theorem Cl.set0 (n : Cl) (x : Int) : n.arr.setIfInBounds 0 (.int .i64 x) = ({ n with scale := x } : Cl).arr := id rfl
@[go_sem] theorem Cl.set1 (n : Cl) (x : Int) : n.arr.setIfInBounds 1 (.int .i64 x) = ({ n with most := x } : Cl).arr := id rfl
@[go_sem] theorem Cl.set2 (n : Cl) (x : Int) : n.arr.setIfInBounds 2 (.int .i64 x) = ({ n with have_ := x } : Cl).arr := id rfl
@[go_sem] theorem Cl.set3 (n : Cl) (x : Int) : n.arr.setIfInBounds 3 (.int .i64 x) = ({ n with skip := { n.skip with nat := x } } : Cl).arr := id rfl
@[go_sem] theorem Cl.set4 (n : Cl) (x : Int) : n.arr.setIfInBounds 4 (.int .i64 x) = ({ n with skip := { n.skip with str := x } } : Cl).arr := id rfl
@[go_sem] theorem Cl.set5 (n : Cl) (x : Int) : n.arr.setIfInBounds 5 (.int .i64 x) = ({ n with skip := { n.skip with shr := x } } : Cl).arr := id rfl
@[go_sem] theorem Cl.set6 (n : Cl) (x : Int) : n.arr.setIfInBounds 6 (.int .i64 x) = ({ n with skip := { n.skip with so := x } } : Cl).arr := id rfl
@[go_sem] theorem Cl.set7 (n : Cl) (x : Int) : n.arr.setIfInBounds 7 (.int .i64 x) = ({ n with skip := { n.skip with ho := x } } : Cl).arr := id rfl
@[go_sem] theorem Cl.lit (x0 : Int) (x1 : Int) (x2 : Int) (x3 : Int) (x4 : Int) (x5 : Int) (x6 : Int) (x7 : Int) : (#[.int .i64 x0, .int .i64 x1, .int .i64 x2, .int .i64 x3, .int .i64 x4, .int .i64 x5, .int .i64 x6, .int .i64 x7] : Array Value) = (Cl.mk x0 x1 x2 ⟨x3, x4, x5, x6, x7⟩).arr := id rfl
@[go_sem] theorem agg?_Cl (w : World) (n : Cl) (t : TypeId) (fr : Nat × Nat) (b : Nat) (h : b = w.heap.size) : agg? (w.alloc (.cells n.arr t fr)) b 0 8 = some n.arr := by
 rw [agg?_alloc_at w n.arr t fr b 0 8 h (by simp [Cl.size_arr])]; simp [Cl.arr, Cl.cells]
theorem setMany_Cl (n m : Cl) : zaI n.arr 0 m.cells = m.arr := by
 simp only [Cl.cells, zaI, Nat.reduceAdd, Cl.set0, Cl.set1, Cl.set2, Cl.set3, Cl.set4, Cl.set5, Cl.set6, Cl.set7]
theorem Cl.one (n : Cl) : n.arr.all (·.oneCell') = true := by simp [Cl.arr, Cl.cells, Value.oneCell']
structure Sp where
 at_ : Int
 cls : Int
 what : Int
 size : Int
 split : Int
 goal : Int
 pens : Int
deriving Inhabited, DecidableEq
def Sp.cells (n : Sp) : List Value := [.int .i64 n.at_, .int .i64 n.cls, .int .i64 n.what, .int .i64 n.size, .int .i64 n.split, .int .i64 n.goal, .int .i64 n.pens]
def Sp.arr (n : Sp) : Array Value := n.cells.toArray
@[go_sem] theorem Sp.size_arr (n : Sp) : n.arr.size = 7 := id rfl
@[go_sem] theorem Sp.get0 (n : Sp) : n.arr[0]? = some (.int .i64 n.at_) := id rfl
@[go_sem] theorem Sp.get1 (n : Sp) : n.arr[1]? = some (.int .i64 n.cls) := id rfl
@[go_sem] theorem Sp.get2 (n : Sp) : n.arr[2]? = some (.int .i64 n.what) := id rfl
@[go_sem] theorem Sp.get3 (n : Sp) : n.arr[3]? = some (.int .i64 n.size) := id rfl
@[go_sem] theorem Sp.get4 (n : Sp) : n.arr[4]? = some (.int .i64 n.split) := id rfl
@[go_sem] theorem Sp.get5 (n : Sp) : n.arr[5]? = some (.int .i64 n.goal) := id rfl
@[go_sem] theorem Sp.get6 (n : Sp) : n.arr[6]? = some (.int .i64 n.pens) := id rfl
@[go_sem] theorem Sp.set0 (n : Sp) (x : Int) : n.arr.setIfInBounds 0 (.int .i64 x) = ({ n with at_ := x } : Sp).arr := id rfl
@[go_sem] theorem Sp.set1 (n : Sp) (x : Int) : n.arr.setIfInBounds 1 (.int .i64 x) = ({ n with cls := x } : Sp).arr := id rfl
@[go_sem] theorem Sp.set2 (n : Sp) (x : Int) : n.arr.setIfInBounds 2 (.int .i64 x) = ({ n with what := x } : Sp).arr := id rfl
@[go_sem] theorem Sp.set3 (n : Sp) (x : Int) : n.arr.setIfInBounds 3 (.int .i64 x) = ({ n with size := x } : Sp).arr := id rfl
@[go_sem] theorem Sp.set4 (n : Sp) (x : Int) : n.arr.setIfInBounds 4 (.int .i64 x) = ({ n with split := x } : Sp).arr := id rfl
@[go_sem] theorem Sp.set5 (n : Sp) (x : Int) : n.arr.setIfInBounds 5 (.int .i64 x) = ({ n with goal := x } : Sp).arr := id rfl
@[go_sem] theorem Sp.set6 (n : Sp) (x : Int) : n.arr.setIfInBounds 6 (.int .i64 x) = ({ n with pens := x } : Sp).arr := id rfl
@[go_sem] theorem Sp.lit (x0 : Int) (x1 : Int) (x2 : Int) (x3 : Int) (x4 : Int) (x5 : Int) (x6 : Int) : (#[.int .i64 x0, .int .i64 x1, .int .i64 x2, .int .i64 x3, .int .i64 x4, .int .i64 x5, .int .i64 x6] : Array Value) = (Sp.mk x0 x1 x2 x3 x4 x5 x6).arr := id rfl
theorem setMany_Sp (n m : Sp) : zaI n.arr 0 m.cells = m.arr := by
 simp only [Sp.cells, zaI, Nat.reduceAdd, Sp.set0, Sp.set1, Sp.set2, Sp.set3, Sp.set4, Sp.set5, Sp.set6]
theorem Sp.one (n : Sp) : n.arr.all (·.oneCell') = true := by simp [Sp.arr, Sp.cells, Value.oneCell']
structure Ho where
 size : Int
 split : Int
deriving Inhabited, DecidableEq
def Ho.cells (n : Ho) : List Value := [.int .i64 n.size, .int .i64 n.split]
def Ho.arr (n : Ho) : Array Value := n.cells.toArray
@[go_sem] theorem Ho.size_arr (n : Ho) : n.arr.size = 2 := id rfl
@[go_sem] theorem Ho.get0 (n : Ho) : n.arr[0]? = some (.int .i64 n.size) := id rfl
@[go_sem] theorem Ho.get1 (n : Ho) : n.arr[1]? = some (.int .i64 n.split) := id rfl
@[go_sem] theorem Ho.set0 (n : Ho) (x : Int) : n.arr.setIfInBounds 0 (.int .i64 x) = ({ n with size := x } : Ho).arr := id rfl
@[go_sem] theorem Ho.set1 (n : Ho) (x : Int) : n.arr.setIfInBounds 1 (.int .i64 x) = ({ n with split := x } : Ho).arr := id rfl
theorem setMany_Ho (n m : Ho) : zaI n.arr 0 m.cells = m.arr := by
 simp only [Ho.cells, zaI, Nat.reduceAdd, Ho.set0, Ho.set1]
theorem Ho.one (n : Ho) : n.arr.all (·.oneCell') = true := by simp [Ho.arr, Ho.cells, Value.oneCell']
structure Ac where
 lA : Option Addr
 lN : Nat
 lC : Nat
 cA : Option Addr
 cN : Nat
 cC : Nat
 goal : Int
 depth : Int
 pens : Int
 met : Nat
 t : Tt
deriving Inhabited
def Ac.cells (n : Ac) : List Value := [.slice n.lA n.lN n.lC, .slice n.cA n.cN n.cC, .int .i64 n.goal, .int .i64 n.depth, .int .i64 n.pens, .map (some n.met), .int .i64 n.t.nat, .int .i64 n.t.s0, .int .i64 n.t.s1, .int .i64 n.t.s2, .int .i64 n.t.s3, .int .i64 n.t.h0, .int .i64 n.t.h1, .int .i64 n.t.h2, .int .i64 n.t.h3]
def Ac.arr (n : Ac) : Array Value := n.cells.toArray
@[go_sem] theorem Ac.size_arr (n : Ac) : n.arr.size = 15 := id rfl
@[go_sem] theorem Ac.get0 (n : Ac) : n.arr[0]? = some (.slice n.lA n.lN n.lC) := id rfl
@[go_sem] theorem Ac.get1 (n : Ac) : n.arr[1]? = some (.slice n.cA n.cN n.cC) := id rfl
@[go_sem] theorem Ac.get2 (n : Ac) : n.arr[2]? = some (.int .i64 n.goal) := id rfl
@[go_sem] theorem Ac.get3 (n : Ac) : n.arr[3]? = some (.int .i64 n.depth) := id rfl
@[go_sem] theorem Ac.get4 (n : Ac) : n.arr[4]? = some (.int .i64 n.pens) := id rfl
@[go_sem] theorem Ac.get5 (n : Ac) : n.arr[5]? = some (.map (some n.met)) := id rfl
@[go_sem] theorem Ac.get6 (n : Ac) : n.arr[6]? = some (.int .i64 n.t.nat) := id rfl
@[go_sem] theorem Ac.get11 (n : Ac) : n.arr[11]? = some (.int .i64 n.t.h0) := id rfl
def Cl.plain : Cl := ⟨1000, 1073741823, 0, .zero⟩
def bdCl (parts : Array (Nat × Value)) : Sem Value := Instr.build 55 parts
@[go_sem ↓] theorem execOp_buildCl (ρ : Operand -> Value) (dst : Option Tmp) (x : Array (Nat × Operand)) (ty : TypeId) (pos : String) (after : Array Edge) (guard : Option (Nat × Bool)) :
 execOp ρ { dst, op := .build 55 x, type := ty, pos, after, guard } = (do pure (.value (<- bdCl (x.map fun (i, y) => (i, ρ y))))) := rfl
@[go_sem] theorem run_bdCl (w : World) : (bdCl #[(0, .int .i64 1000), (1, .int .i64 1073741823)]).run Tryz.prog w = .ok (.agg Cl.plain.arr) w := by kernel_rfl
def bdSp (parts : Array (Nat × Value)) : Sem Value := Instr.build 49 parts
@[go_sem ↓] theorem execOp_buildSp (ρ : Operand -> Value) (dst : Option Tmp) (x : Array (Nat × Operand)) (ty : TypeId) (pos : String) (after : Array Edge) (guard : Option (Nat × Bool)) :
 execOp ρ { dst, op := .build 49 x, type := ty, pos, after, guard } = (do pure (.value (<- bdSp (x.map fun (i, y) => (i, ρ y))))) := rfl
@[go_sem] theorem run_bdSp (a k : Int) (w : World) : (bdSp #[(0, .int .i64 a), (1, .int .i64 k)]).run Tryz.prog w = .ok (.agg (Sp.mk a k 0 0 0 0 0).arr) w := by kernel_rfl
def bdAc (parts : Array (Nat × Value)) : Sem Value := Instr.build 93 parts
@[go_sem ↓] theorem execOp_buildAc (ρ : Operand -> Value) (dst : Option Tmp) (x : Array (Nat × Operand)) (ty : TypeId) (pos : String) (after : Array Edge) (guard : Option (Nat × Bool)) :
 execOp ρ { dst, op := .build 93 x, type := ty, pos, after, guard } = (do pure (.value (<- bdAc (x.map fun (i, y) => (i, ρ y))))) := rfl
@[go_sem] theorem run_bdAc (a b : Option Addr) (n m c k r : Nat) (g d : Int) (w : World) : (bdAc #[(0, .slice a n c), (1, .slice b m k), (2, .int .i64 g), (3, .int .i64 d), (5, .map (some r))]).run Tryz.prog w = .ok (.agg (Ac.mk a n c b m k g d 0 r ⟨0, 0, 0, 0, 0, 0, 0, 0, 0⟩).arr) w := by kernel_rfl
theorem u_cl : Tryz.prog.underlying 55 = some (.struct (Tryz.prog.fieldsOf 55)) := by kernel_rfl
theorem i_cl : (Tryz.prog.info? 55).map (·.size) = some 8 := by kernel_rfl
@[go_sem ↓] theorem execOp_loadcl (ρ : Operand -> Value) (dst : Option Tmp) (x : Operand) (ty : TypeId) (pos : String) (after : Array Edge) (guard : Option (Nat × Bool)) :
 execOp ρ { dst, op := .load 55 x, type := ty, pos, after, guard } = (do pure (.value (<- ldOp 55 (ρ x)))) := rfl
@[go_sem ↓] theorem execOp_storecl (ρ : Operand -> Value) (dst : Option Tmp) (x y : Operand) (ty : TypeId) (pos : String) (after : Array Edge) (guard : Option (Nat × Bool)) :
 execOp ρ { dst, op := .store 55 x y, type := ty, pos, after, guard } = (do stOp 55 (ρ x) (ρ y); pure .skip) := rfl
@[go_sem] theorem run_loadcl (b o : Nat) (w : World) : (ldOp 55 (.pointer (some ⟨b, o, none⟩))).run Tryz.prog w = ldRow Tryz.prog 55 b o w (agg? w b o 8) := zat _ _ _ u_cl rfl i_cl b o w
theorem ret_cl {fn : Func} {R : Ending -> World -> Prop} {a : Act} {w : World} {p : Tmp} (h : fn.results = #[.cell p 55]) (b o : Nat) (n : Cl) (hp : a.tmps.getD p undef = .pointer (some ⟨b, o, none⟩)) (hc : agg? w b o 8 = some n.arr) (hdf : a.defers = []) (hR : R (.returned (.agg n.arr)) w) : bodyPost Tryz.prog fn R .ret a w :=
 ret_row _ _ _ u_cl rfl i_cl h b o _ hp hc hdf hR
@[go_sem] theorem run_storecl (b o : Nat) (n : Cl) (w : World) : (stOp 55 (.pointer (some ⟨b, o, none⟩)) (.agg n.arr)).run Tryz.prog w = stRow Tryz.prog 55 b o n.arr w (there? w b o 8) := zaC _ _ i_cl b o _ (Cl.size_arr n) (Cl.one n) w
theorem u_qcl : Tryz.prog.underlying 88 = some (.struct (Tryz.prog.fieldsOf 88)) := by kernel_rfl
theorem i_qcl : (Tryz.prog.info? 88).map (·.size) = some 8 := by kernel_rfl
@[go_sem ↓] theorem execOp_loadqcl (ρ : Operand -> Value) (dst : Option Tmp) (x : Operand) (ty : TypeId) (pos : String) (after : Array Edge) (guard : Option (Nat × Bool)) :
 execOp ρ { dst, op := .load 88 x, type := ty, pos, after, guard } = (do pure (.value (<- ldOp 88 (ρ x)))) := rfl
@[go_sem ↓] theorem execOp_storeqcl (ρ : Operand -> Value) (dst : Option Tmp) (x y : Operand) (ty : TypeId) (pos : String) (after : Array Edge) (guard : Option (Nat × Bool)) :
 execOp ρ { dst, op := .store 88 x y, type := ty, pos, after, guard } = (do stOp 88 (ρ x) (ρ y); pure .skip) := rfl
@[go_sem] theorem run_loadqcl (b o : Nat) (w : World) : (ldOp 88 (.pointer (some ⟨b, o, none⟩))).run Tryz.prog w = ldRow Tryz.prog 88 b o w (agg? w b o 8) := zat _ _ _ u_qcl rfl i_qcl b o w
theorem ret_qcl {fn : Func} {R : Ending -> World -> Prop} {a : Act} {w : World} {p : Tmp} (h : fn.results = #[.cell p 88]) (b o : Nat) (n : Cl) (hp : a.tmps.getD p undef = .pointer (some ⟨b, o, none⟩)) (hc : agg? w b o 8 = some n.arr) (hdf : a.defers = []) (hR : R (.returned (.agg n.arr)) w) : bodyPost Tryz.prog fn R .ret a w :=
 ret_row _ _ _ u_qcl rfl i_qcl h b o _ hp hc hdf hR
@[go_sem] theorem run_storeqcl (b o : Nat) (n : Cl) (w : World) : (stOp 88 (.pointer (some ⟨b, o, none⟩)) (.agg n.arr)).run Tryz.prog w = stRow Tryz.prog 88 b o n.arr w (there? w b o 8) := zaC _ _ i_qcl b o _ (Cl.size_arr n) (Cl.one n) w
theorem u_sp : Tryz.prog.underlying 49 = some (.struct (Tryz.prog.fieldsOf 49)) := by kernel_rfl
theorem i_sp : (Tryz.prog.info? 49).map (·.size) = some 7 := by kernel_rfl
@[go_sem ↓] theorem execOp_loadsp (ρ : Operand -> Value) (dst : Option Tmp) (x : Operand) (ty : TypeId) (pos : String) (after : Array Edge) (guard : Option (Nat × Bool)) :
 execOp ρ { dst, op := .load 49 x, type := ty, pos, after, guard } = (do pure (.value (<- ldOp 49 (ρ x)))) := rfl
@[go_sem ↓] theorem execOp_storesp (ρ : Operand -> Value) (dst : Option Tmp) (x y : Operand) (ty : TypeId) (pos : String) (after : Array Edge) (guard : Option (Nat × Bool)) :
 execOp ρ { dst, op := .store 49 x y, type := ty, pos, after, guard } = (do stOp 49 (ρ x) (ρ y); pure .skip) := rfl
@[go_sem] theorem run_loadsp (b o : Nat) (w : World) : (ldOp 49 (.pointer (some ⟨b, o, none⟩))).run Tryz.prog w = ldRow Tryz.prog 49 b o w (agg? w b o 7) := zat _ _ _ u_sp rfl i_sp b o w
theorem ret_sp {fn : Func} {R : Ending -> World -> Prop} {a : Act} {w : World} {p : Tmp} (h : fn.results = #[.cell p 49]) (b o : Nat) (n : Sp) (hp : a.tmps.getD p undef = .pointer (some ⟨b, o, none⟩)) (hc : agg? w b o 7 = some n.arr) (hdf : a.defers = []) (hR : R (.returned (.agg n.arr)) w) : bodyPost Tryz.prog fn R .ret a w :=
 ret_row _ _ _ u_sp rfl i_sp h b o _ hp hc hdf hR
@[go_sem] theorem run_storesp (b o : Nat) (n : Sp) (w : World) : (stOp 49 (.pointer (some ⟨b, o, none⟩)) (.agg n.arr)).run Tryz.prog w = stRow Tryz.prog 49 b o n.arr w (there? w b o 7) := zaC _ _ i_sp b o _ (Sp.size_arr n) (Sp.one n) w
theorem u_qsp : Tryz.prog.underlying 85 = some (.struct (Tryz.prog.fieldsOf 85)) := by kernel_rfl
theorem i_qsp : (Tryz.prog.info? 85).map (·.size) = some 7 := by kernel_rfl
@[go_sem ↓] theorem execOp_loadqsp (ρ : Operand -> Value) (dst : Option Tmp) (x : Operand) (ty : TypeId) (pos : String) (after : Array Edge) (guard : Option (Nat × Bool)) :
 execOp ρ { dst, op := .load 85 x, type := ty, pos, after, guard } = (do pure (.value (<- ldOp 85 (ρ x)))) := rfl
@[go_sem ↓] theorem execOp_storeqsp (ρ : Operand -> Value) (dst : Option Tmp) (x y : Operand) (ty : TypeId) (pos : String) (after : Array Edge) (guard : Option (Nat × Bool)) :
 execOp ρ { dst, op := .store 85 x y, type := ty, pos, after, guard } = (do stOp 85 (ρ x) (ρ y); pure .skip) := rfl
@[go_sem] theorem run_loadqsp (b o : Nat) (w : World) : (ldOp 85 (.pointer (some ⟨b, o, none⟩))).run Tryz.prog w = ldRow Tryz.prog 85 b o w (agg? w b o 7) := zat _ _ _ u_qsp rfl i_qsp b o w
theorem ret_qsp {fn : Func} {R : Ending -> World -> Prop} {a : Act} {w : World} {p : Tmp} (h : fn.results = #[.cell p 85]) (b o : Nat) (n : Sp) (hp : a.tmps.getD p undef = .pointer (some ⟨b, o, none⟩)) (hc : agg? w b o 7 = some n.arr) (hdf : a.defers = []) (hR : R (.returned (.agg n.arr)) w) : bodyPost Tryz.prog fn R .ret a w :=
 ret_row _ _ _ u_qsp rfl i_qsp h b o _ hp hc hdf hR
@[go_sem] theorem run_storeqsp (b o : Nat) (n : Sp) (w : World) : (stOp 85 (.pointer (some ⟨b, o, none⟩)) (.agg n.arr)).run Tryz.prog w = stRow Tryz.prog 85 b o n.arr w (there? w b o 7) := zaC _ _ i_qsp b o _ (Sp.size_arr n) (Sp.one n) w
theorem u_ho : Tryz.prog.underlying 138 = some (.struct (Tryz.prog.fieldsOf 138)) := by kernel_rfl
theorem i_ho : (Tryz.prog.info? 138).map (·.size) = some 2 := by kernel_rfl
@[go_sem ↓] theorem execOp_loadho (ρ : Operand -> Value) (dst : Option Tmp) (x : Operand) (ty : TypeId) (pos : String) (after : Array Edge) (guard : Option (Nat × Bool)) :
 execOp ρ { dst, op := .load 138 x, type := ty, pos, after, guard } = (do pure (.value (<- ldOp 138 (ρ x)))) := rfl
@[go_sem ↓] theorem execOp_storeho (ρ : Operand -> Value) (dst : Option Tmp) (x y : Operand) (ty : TypeId) (pos : String) (after : Array Edge) (guard : Option (Nat × Bool)) :
 execOp ρ { dst, op := .store 138 x y, type := ty, pos, after, guard } = (do stOp 138 (ρ x) (ρ y); pure .skip) := rfl
@[go_sem] theorem run_loadho (b o : Nat) (w : World) : (ldOp 138 (.pointer (some ⟨b, o, none⟩))).run Tryz.prog w = ldRow Tryz.prog 138 b o w (agg? w b o 2) := zat _ _ _ u_ho rfl i_ho b o w
@[go_sem] theorem run_storeho (b o : Nat) (n : Ho) (w : World) : (stOp 138 (.pointer (some ⟨b, o, none⟩)) (.agg n.arr)).run Tryz.prog w = stRow Tryz.prog 138 b o n.arr w (there? w b o 2) := zaC _ _ i_ho b o _ (Ho.size_arr n) (Ho.one n) w
end Go.Proofs.YtaehkbbdmamfpaaGreatDoor
