/-
  Totals, a meter: structs of the program as Lean structures. No statement of the seat stands here.
-/
import Derived.Test.YtiijpbfkchokaaaGreatNodes2
import Derived.Test.YtiijpbfkchokaaaGreatVBs
namespace Go.Proofs.YtiijpbfkchokaaaGreat
open Go.ChangeShapes Go.WideShapes Go.ChangeAt Go.RowKit


structure Tt where
  nat : Int
  s0 : Int
  s1 : Int
  s2 : Int
  s3 : Int
  h0 : Int
  h1 : Int
  h2 : Int
  h3 : Int
deriving Inhabited, DecidableEq
def Tt.cells (n : Tt) : List Value := [.int .i64 n.nat, .int .i64 n.s0, .int .i64 n.s1, .int .i64 n.s2, .int .i64 n.s3, .int .i64 n.h0, .int .i64 n.h1, .int .i64 n.h2, .int .i64 n.h3]
def Tt.arr (n : Tt) : Array Value := n.cells.toArray
@[go_sem] theorem Tt.size_arr (n : Tt) : n.arr.size = 9 := id rfl
@[go_sem] theorem Tt.get0 (n : Tt) : n.arr[0]? = some (.int .i64 n.nat) := id rfl
@[go_sem] theorem Tt.at0 (n : Tt) (h : 0 < n.arr.size) : n.arr[0] = .int .i64 n.nat := id rfl
@[go_sem] theorem Tt.at1 (n : Tt) (h : 1 < n.arr.size) : n.arr[1] = .int .i64 n.s0 := id rfl
@[go_sem] theorem Tt.at2 (n : Tt) (h : 2 < n.arr.size) : n.arr[2] = .int .i64 n.s1 := id rfl
@[go_sem] theorem Tt.at3 (n : Tt) (h : 3 < n.arr.size) : n.arr[3] = .int .i64 n.s2 := id rfl
@[go_sem] theorem Tt.at4 (n : Tt) (h : 4 < n.arr.size) : n.arr[4] = .int .i64 n.s3 := id rfl
@[go_sem] theorem Tt.at5 (n : Tt) (h : 5 < n.arr.size) : n.arr[5] = .int .i64 n.h0 := id rfl
@[go_sem] theorem Tt.set0 (n : Tt) (x : Int) : n.arr.setIfInBounds 0 (.int .i64 x) = ({ n with nat := x } : Tt).arr := id rfl
@[go_sem] theorem Tt.set1 (n : Tt) (x : Int) : n.arr.setIfInBounds 1 (.int .i64 x) = ({ n with s0 := x } : Tt).arr := id rfl
@[go_sem] theorem Tt.set2 (n : Tt) (x : Int) : n.arr.setIfInBounds 2 (.int .i64 x) = ({ n with s1 := x } : Tt).arr := id rfl
@[go_sem] theorem Tt.set3 (n : Tt) (x : Int) : n.arr.setIfInBounds 3 (.int .i64 x) = ({ n with s2 := x } : Tt).arr := id rfl
@[go_sem] theorem Tt.set4 (n : Tt) (x : Int) : n.arr.setIfInBounds 4 (.int .i64 x) = ({ n with s3 := x } : Tt).arr := id rfl
@[go_sem] theorem Tt.set5 (n : Tt) (x : Int) : n.arr.setIfInBounds 5 (.int .i64 x) = ({ n with h0 := x } : Tt).arr := id rfl
@[go_sem] theorem Tt.set6 (n : Tt) (x : Int) : n.arr.setIfInBounds 6 (.int .i64 x) = ({ n with h1 := x } : Tt).arr := id rfl
@[go_sem] theorem Tt.set7 (n : Tt) (x : Int) : n.arr.setIfInBounds 7 (.int .i64 x) = ({ n with h2 := x } : Tt).arr := id rfl
@[go_sem] theorem Tt.set8 (n : Tt) (x : Int) : n.arr.setIfInBounds 8 (.int .i64 x) = ({ n with h3 := x } : Tt).arr := id rfl
@[go_sem] theorem Tt.lit (x0 : Int) (x1 : Int) (x2 : Int) (x3 : Int) (x4 : Int) (x5 : Int) (x6 : Int) (x7 : Int) (x8 : Int) : (#[.int .i64 x0, .int .i64 x1, .int .i64 x2, .int .i64 x3, .int .i64 x4, .int .i64 x5, .int .i64 x6, .int .i64 x7, .int .i64 x8] : Array Value) = (Tt.mk x0 x1 x2 x3 x4 x5 x6 x7 x8).arr := id rfl
theorem setMany_Tt (n m : Tt) : setMany n.arr 0 m.cells = m.arr := by
  simp only [Tt.cells, setMany, Nat.reduceAdd, Tt.set0, Tt.set1, Tt.set2, Tt.set3, Tt.set4, Tt.set5, Tt.set6, Tt.set7, Tt.set8]
theorem Tt.one (n : Tt) : n.arr.all (·.oneCell') = true := by simp [Tt.arr, Tt.cells, Value.oneCell']
def Tt.zero : Tt := ⟨0, 0, 0, 0, 0, 0, 0, 0, 0⟩

theorem u_tt : Tryz.prog.underlying 62 = some (.struct (Tryz.prog.fieldsOf 62)) := by kernel_rfl
theorem i_tt : (Tryz.prog.info? 62).map (·.size) = some 9 := by kernel_rfl
@[go_sem ↓] theorem execOp_loadtt (ρ : Operand → Value) (dst : Option Tmp) (x : Operand) (ty : TypeId) (pos : String) (after : Array Edge) (guard : Option (Nat × Bool)) :
    execOp ρ { dst, op := .load 62 x, type := ty, pos, after, guard } = (do pure (.value (← ldOp 62 (ρ x)))) := rfl
@[go_sem ↓] theorem execOp_storett (ρ : Operand → Value) (dst : Option Tmp) (x y : Operand) (ty : TypeId) (pos : String) (after : Array Edge) (guard : Option (Nat × Bool)) :
    execOp ρ { dst, op := .store 62 x y, type := ty, pos, after, guard } = (do stOp 62 (ρ x) (ρ y); pure .skip) := rfl
@[go_sem] theorem run_loadtt (b o : Nat) (w : World) : (ldOp 62 (.pointer (some ⟨b, o, none⟩))).run Tryz.prog w = ldRow Tryz.prog 62 b o w (agg? w b o 9) := run_loadAt_row _ _ _ u_tt rfl i_tt b o w
theorem ret_tt {fn : Func} {R : Ending → World → Prop} {a : Act} {w : World} {p : Tmp} (h : fn.results = #[.cell p 62]) (b o : Nat) (n : Tt) (hp : a.tmps.getD p undef = .pointer (some ⟨b, o, none⟩)) (hc : agg? w b o 9 = some n.arr) (hdf : a.defers = []) (hR : R (.returned (.agg n.arr)) w) : bodyPost Tryz.prog fn R .ret a w :=
  ret_row _ _ _ u_tt rfl i_tt h b o _ hp hc hdf hR
@[go_sem] theorem run_storett (b o : Nat) (n : Tt) (w : World) : (stOp 62 (.pointer (some ⟨b, o, none⟩)) (.agg n.arr)).run Tryz.prog w = stRow Tryz.prog 62 b o n.arr w (there? w b o 9) := run_storeAt_row _ _ i_tt b o _ (Tt.size_arr n) (Tt.one n) w

def bdTt (parts : Array (Nat × Value)) : Sem Value := Instr.build 62 parts
@[go_sem ↓] theorem execOp_buildTt (ρ : Operand → Value) (dst : Option Tmp) (x : Array (Nat × Operand)) (ty : TypeId) (pos : String) (after : Array Edge) (guard : Option (Nat × Bool)) :
    execOp ρ { dst, op := .build 62 x, type := ty, pos, after, guard } = (do pure (.value (← bdTt (x.map fun (i, y) => (i, ρ y))))) := rfl
set_option maxRecDepth 10000


structure Pm where
  pret : Int
  tol : Int
  linep : Int
  hyp : Int
  exhyp : Int
  adj : Int
  dbl : Int
  fin : Int
  loose : Int
  emerg : Int
  left : Gl
  right : Gl
  hsize : Int
  hangi : Int
  hanga : Int
  shA : Option Addr
  shN : Nat
  shC : Nat
deriving Inhabited
def Pm.cells (n : Pm) : List Value := [.int .i64 n.pret, .int .i64 n.tol, .int .i64 n.linep, .int .i64 n.hyp, .int .i64 n.exhyp, .int .i64 n.adj, .int .i64 n.dbl, .int .i64 n.fin, .int .i64 n.loose, .int .i64 n.emerg, .int .i64 n.left.nat, .int .i64 n.left.str, .int .i64 n.left.shr, .int .i64 n.left.so, .int .i64 n.left.ho, .int .i64 n.right.nat, .int .i64 n.right.str, .int .i64 n.right.shr, .int .i64 n.right.so, .int .i64 n.right.ho, .int .i64 n.hsize, .int .i64 n.hangi, .int .i64 n.hanga, .slice n.shA n.shN n.shC]
def Pm.arr (n : Pm) : Array Value := n.cells.toArray
@[go_sem] theorem Pm.size_arr (n : Pm) : n.arr.size = 24 := id rfl
@[go_sem] theorem Pm.get0 (n : Pm) : n.arr[0]? = some (.int .i64 n.pret) := id rfl
@[go_sem] theorem Pm.get1 (n : Pm) : n.arr[1]? = some (.int .i64 n.tol) := id rfl
@[go_sem] theorem Pm.get2 (n : Pm) : n.arr[2]? = some (.int .i64 n.linep) := id rfl
@[go_sem] theorem Pm.get3 (n : Pm) : n.arr[3]? = some (.int .i64 n.hyp) := id rfl
@[go_sem] theorem Pm.get4 (n : Pm) : n.arr[4]? = some (.int .i64 n.exhyp) := id rfl
@[go_sem] theorem Pm.get5 (n : Pm) : n.arr[5]? = some (.int .i64 n.adj) := id rfl
@[go_sem] theorem Pm.get6 (n : Pm) : n.arr[6]? = some (.int .i64 n.dbl) := id rfl
@[go_sem] theorem Pm.get7 (n : Pm) : n.arr[7]? = some (.int .i64 n.fin) := id rfl
@[go_sem] theorem Pm.get8 (n : Pm) : n.arr[8]? = some (.int .i64 n.loose) := id rfl
@[go_sem] theorem Pm.get9 (n : Pm) : n.arr[9]? = some (.int .i64 n.emerg) := id rfl
@[go_sem] theorem Pm.get20 (n : Pm) : n.arr[20]? = some (.int .i64 n.hsize) := id rfl
@[go_sem] theorem Pm.get21 (n : Pm) : n.arr[21]? = some (.int .i64 n.hangi) := id rfl
@[go_sem] theorem Pm.get22 (n : Pm) : n.arr[22]? = some (.int .i64 n.hanga) := id rfl
@[go_sem] theorem Pm.get23 (n : Pm) : n.arr[23]? = some (.slice n.shA n.shN n.shC) := id rfl
@[go_sem] theorem Pm.sub_left (n : Pm) : n.arr.extract 10 15 = n.left.arr := id rfl
@[go_sem] theorem Pm.sub_right (n : Pm) : n.arr.extract 15 20 = n.right.arr := id rfl
structure Sh2 where
  a : Int
  b : Int
deriving Inhabited, DecidableEq
def Sh2.cells (n : Sh2) : List Value := [.int .i64 n.a, .int .i64 n.b]
def Sh2.arr (n : Sh2) : Array Value := n.cells.toArray
@[go_sem] theorem Sh2.size_arr (n : Sh2) : n.arr.size = 2 := id rfl
theorem Sh2.one (n : Sh2) : n.arr.all (·.oneCell') = true := by simp [Sh2.arr, Sh2.cells, Value.oneCell']

theorem u_sh2 : Tryz.prog.underlying 108 = some (.array 2 3) := by kernel_rfl
theorem i_sh2 : (Tryz.prog.info? 108).map (·.size) = some 2 := by kernel_rfl
@[go_sem ↓] theorem execOp_loadsh2 (ρ : Operand → Value) (dst : Option Tmp) (x : Operand) (ty : TypeId) (pos : String) (after : Array Edge) (guard : Option (Nat × Bool)) :
    execOp ρ { dst, op := .load 108 x, type := ty, pos, after, guard } = (do pure (.value (← ldOp 108 (ρ x)))) := rfl
@[go_sem ↓] theorem execOp_storesh2 (ρ : Operand → Value) (dst : Option Tmp) (x y : Operand) (ty : TypeId) (pos : String) (after : Array Edge) (guard : Option (Nat × Bool)) :
    execOp ρ { dst, op := .store 108 x y, type := ty, pos, after, guard } = (do stOp 108 (ρ x) (ρ y); pure .skip) := rfl
@[go_sem] theorem run_loadsh2 (b o : Nat) (w : World) : (ldOp 108 (.pointer (some ⟨b, o, none⟩))).run Tryz.prog w = ldRow Tryz.prog 108 b o w (agg? w b o 2) := run_loadAt_row _ _ _ u_sh2 rfl i_sh2 b o w
@[go_sem] theorem run_storesh2 (b o : Nat) (n : Sh2) (w : World) : (stOp 108 (.pointer (some ⟨b, o, none⟩)) (.agg n.arr)).run Tryz.prog w = stRow Tryz.prog 108 b o n.arr w (there? w b o 2) := run_storeAt_row _ _ i_sh2 b o _ (Sh2.size_arr n) (Sh2.one n) w

structure T3 where
  aA : Option Addr
  aN : Nat
  aC : Nat
  bA : Option Addr
  bN : Nat
  bC : Nat
  cA : Option Addr
  cN : Nat
  cC : Nat
deriving Inhabited
def T3.cells (n : T3) : List Value := [.slice n.aA n.aN n.aC, .slice n.bA n.bN n.bC, .slice n.cA n.cN n.cC]
def T3.arr (n : T3) : Array Value := n.cells.toArray
@[go_sem] theorem T3.size_arr (n : T3) : n.arr.size = 3 := id rfl
@[go_sem] theorem T3.set0 (n : T3) (xA : Option Addr) (xN xC : Nat) : n.arr.setIfInBounds 0 (.slice xA xN xC) = ({ n with aA := xA, aN := xN, aC := xC } : T3).arr := id rfl
@[go_sem] theorem T3.set1 (n : T3) (xA : Option Addr) (xN xC : Nat) : n.arr.setIfInBounds 1 (.slice xA xN xC) = ({ n with bA := xA, bN := xN, bC := xC } : T3).arr := id rfl
@[go_sem] theorem T3.set2 (n : T3) (xA : Option Addr) (xN xC : Nat) : n.arr.setIfInBounds 2 (.slice xA xN xC) = ({ n with cA := xA, cN := xN, cC := xC } : T3).arr := id rfl
theorem T3.lit (x0A : Option Addr) (x0N x0C : Nat) (x1A : Option Addr) (x1N x1C : Nat) (x2A : Option Addr) (x2N x2C : Nat) : (#[.slice x0A x0N x0C, .slice x1A x1N x1C, .slice x2A x2N x2C] : Array Value) = (T3.mk x0A x0N x0C x1A x1N x1C x2A x2N x2C).arr := id rfl
theorem setMany_T3 (n m : T3) : setMany n.arr 0 m.cells = m.arr := by
  simp only [T3.cells, setMany, Nat.reduceAdd, T3.set0, T3.set1, T3.set2]
theorem T3.one (n : T3) : n.arr.all (·.oneCell') = true := by simp [T3.arr, T3.cells, Value.oneCell']

theorem u_t3 : Tryz.prog.underlying 159 = some (.array 3 22) := by kernel_rfl
theorem i_t3 : (Tryz.prog.info? 159).map (·.size) = some 3 := by kernel_rfl
@[go_sem ↓] theorem execOp_loadt3 (ρ : Operand → Value) (dst : Option Tmp) (x : Operand) (ty : TypeId) (pos : String) (after : Array Edge) (guard : Option (Nat × Bool)) :
    execOp ρ { dst, op := .load 159 x, type := ty, pos, after, guard } = (do pure (.value (← ldOp 159 (ρ x)))) := rfl
@[go_sem ↓] theorem execOp_storet3 (ρ : Operand → Value) (dst : Option Tmp) (x y : Operand) (ty : TypeId) (pos : String) (after : Array Edge) (guard : Option (Nat × Bool)) :
    execOp ρ { dst, op := .store 159 x y, type := ty, pos, after, guard } = (do stOp 159 (ρ x) (ρ y); pure .skip) := rfl
@[go_sem] theorem run_loadt3 (b o : Nat) (w : World) : (ldOp 159 (.pointer (some ⟨b, o, none⟩))).run Tryz.prog w = ldRow Tryz.prog 159 b o w (agg? w b o 3) := run_loadAt_row _ _ _ u_t3 rfl i_t3 b o w
theorem ret_t3 {fn : Func} {R : Ending → World → Prop} {a : Act} {w : World} {p : Tmp} (h : fn.results = #[.cell p 159]) (b o : Nat) (n : T3) (hp : a.tmps.getD p undef = .pointer (some ⟨b, o, none⟩)) (hc : agg? w b o 3 = some n.arr) (hdf : a.defers = []) (hR : R (.returned (.agg n.arr)) w) : bodyPost Tryz.prog fn R .ret a w :=
  ret_row _ _ _ u_t3 rfl i_t3 h b o _ hp hc hdf hR
@[go_sem] theorem run_storet3 (b o : Nat) (n : T3) (w : World) : (stOp 159 (.pointer (some ⟨b, o, none⟩)) (.agg n.arr)).run Tryz.prog w = stRow Tryz.prog 159 b o n.arr w (there? w b o 3) := run_storeAt_row _ _ i_t3 b o _ (T3.size_arr n) (T3.one n) w

structure Bk where
  at_ : Int
  bad : Int
  cls : Int
  dem : Int
  over : Int
  isBad : Bool
deriving Inhabited, DecidableEq
def Bk.cells (n : Bk) : List Value := [.int .i64 n.at_, .int .i64 n.bad, .int .i64 n.cls, .int .i64 n.dem, .int .i64 n.over, .bool n.isBad]
def Bk.arr (n : Bk) : Array Value := n.cells.toArray
@[go_sem] theorem Bk.size_arr (n : Bk) : n.arr.size = 6 := id rfl
@[go_sem] theorem Bk.get0 (n : Bk) : n.arr[0]? = some (.int .i64 n.at_) := id rfl
@[go_sem] theorem Bk.get1 (n : Bk) : n.arr[1]? = some (.int .i64 n.bad) := id rfl
@[go_sem] theorem Bk.at1 (n : Bk) (h : 1 < n.arr.size) : n.arr[1] = .int .i64 n.bad := id rfl
@[go_sem] theorem Bk.get2 (n : Bk) : n.arr[2]? = some (.int .i64 n.cls) := id rfl
@[go_sem] theorem Bk.at2 (n : Bk) (h : 2 < n.arr.size) : n.arr[2] = .int .i64 n.cls := id rfl
@[go_sem] theorem Bk.get3 (n : Bk) : n.arr[3]? = some (.int .i64 n.dem) := id rfl
@[go_sem] theorem Bk.at3 (n : Bk) (h : 3 < n.arr.size) : n.arr[3] = .int .i64 n.dem := id rfl
@[go_sem] theorem Bk.get4 (n : Bk) : n.arr[4]? = some (.int .i64 n.over) := id rfl
@[go_sem] theorem Bk.at4 (n : Bk) (h : 4 < n.arr.size) : n.arr[4] = .int .i64 n.over := id rfl
@[go_sem] theorem Bk.get5 (n : Bk) : n.arr[5]? = some (.bool n.isBad) := id rfl
@[go_sem] theorem Bk.at5 (n : Bk) (h : 5 < n.arr.size) : n.arr[5] = .bool n.isBad := id rfl
@[go_sem] theorem Bk.set0 (n : Bk) (x : Int) : n.arr.setIfInBounds 0 (.int .i64 x) = ({ n with at_ := x } : Bk).arr := id rfl
@[go_sem] theorem Bk.set1 (n : Bk) (x : Int) : n.arr.setIfInBounds 1 (.int .i64 x) = ({ n with bad := x } : Bk).arr := id rfl
@[go_sem] theorem Bk.set2 (n : Bk) (x : Int) : n.arr.setIfInBounds 2 (.int .i64 x) = ({ n with cls := x } : Bk).arr := id rfl
@[go_sem] theorem Bk.set3 (n : Bk) (x : Int) : n.arr.setIfInBounds 3 (.int .i64 x) = ({ n with dem := x } : Bk).arr := id rfl
@[go_sem] theorem Bk.set4 (n : Bk) (x : Int) : n.arr.setIfInBounds 4 (.int .i64 x) = ({ n with over := x } : Bk).arr := id rfl
@[go_sem] theorem Bk.set5 (n : Bk) (x : Bool) : n.arr.setIfInBounds 5 (.bool x) = ({ n with isBad := x } : Bk).arr := id rfl
@[go_sem] theorem Bk.lit (x0 : Int) (x1 : Int) (x2 : Int) (x3 : Int) (x4 : Int) (x5 : Bool) : (#[.int .i64 x0, .int .i64 x1, .int .i64 x2, .int .i64 x3, .int .i64 x4, .bool x5] : Array Value) = (Bk.mk x0 x1 x2 x3 x4 x5).arr := id rfl
theorem setMany_Bk (n m : Bk) : setMany n.arr 0 m.cells = m.arr := by
  simp only [Bk.cells, setMany, Nat.reduceAdd, Bk.set0, Bk.set1, Bk.set2, Bk.set3, Bk.set4, Bk.set5]
theorem Bk.one (n : Bk) : n.arr.all (·.oneCell') = true := by simp [Bk.arr, Bk.cells, Value.oneCell']

theorem u_pr : Tryz.prog.underlying 27 = some (.struct (Tryz.prog.fieldsOf 27)) := by kernel_rfl
theorem i_pr : (Tryz.prog.info? 27).map (·.size) = some 24 := by kernel_rfl
@[go_sem ↓] theorem execOp_loadpr (ρ : Operand → Value) (dst : Option Tmp) (x : Operand) (ty : TypeId) (pos : String) (after : Array Edge) (guard : Option (Nat × Bool)) :
    execOp ρ { dst, op := .load 27 x, type := ty, pos, after, guard } = (do pure (.value (← ldOp 27 (ρ x)))) := rfl
@[go_sem ↓] theorem execOp_storepr (ρ : Operand → Value) (dst : Option Tmp) (x y : Operand) (ty : TypeId) (pos : String) (after : Array Edge) (guard : Option (Nat × Bool)) :
    execOp ρ { dst, op := .store 27 x y, type := ty, pos, after, guard } = (do stOp 27 (ρ x) (ρ y); pure .skip) := rfl
@[go_sem] theorem run_loadpr (b o : Nat) (w : World) : (ldOp 27 (.pointer (some ⟨b, o, none⟩))).run Tryz.prog w = ldRow Tryz.prog 27 b o w (agg? w b o 24) := run_loadAt_row _ _ _ u_pr rfl i_pr b o w
theorem u_bk : Tryz.prog.underlying 91 = some (.struct (Tryz.prog.fieldsOf 91)) := by kernel_rfl
theorem i_bk : (Tryz.prog.info? 91).map (·.size) = some 6 := by kernel_rfl
@[go_sem ↓] theorem execOp_loadbk (ρ : Operand → Value) (dst : Option Tmp) (x : Operand) (ty : TypeId) (pos : String) (after : Array Edge) (guard : Option (Nat × Bool)) :
    execOp ρ { dst, op := .load 91 x, type := ty, pos, after, guard } = (do pure (.value (← ldOp 91 (ρ x)))) := rfl
@[go_sem ↓] theorem execOp_storebk (ρ : Operand → Value) (dst : Option Tmp) (x y : Operand) (ty : TypeId) (pos : String) (after : Array Edge) (guard : Option (Nat × Bool)) :
    execOp ρ { dst, op := .store 91 x y, type := ty, pos, after, guard } = (do stOp 91 (ρ x) (ρ y); pure .skip) := rfl
@[go_sem] theorem run_loadbk (b o : Nat) (w : World) : (ldOp 91 (.pointer (some ⟨b, o, none⟩))).run Tryz.prog w = ldRow Tryz.prog 91 b o w (agg? w b o 6) := run_loadAt_row _ _ _ u_bk rfl i_bk b o w
theorem ret_bk {fn : Func} {R : Ending → World → Prop} {a : Act} {w : World} {p : Tmp} (h : fn.results = #[.cell p 91]) (b o : Nat) (n : Bk) (hp : a.tmps.getD p undef = .pointer (some ⟨b, o, none⟩)) (hc : agg? w b o 6 = some n.arr) (hdf : a.defers = []) (hR : R (.returned (.agg n.arr)) w) : bodyPost Tryz.prog fn R .ret a w :=
  ret_row _ _ _ u_bk rfl i_bk h b o _ hp hc hdf hR
@[go_sem] theorem run_storebk (b o : Nat) (n : Bk) (w : World) : (stOp 91 (.pointer (some ⟨b, o, none⟩)) (.agg n.arr)).run Tryz.prog w = stRow Tryz.prog 91 b o n.arr w (there? w b o 6) := run_storeAt_row _ _ i_bk b o _ (Bk.size_arr n) (Bk.one n) w

theorem u_qbk : Tryz.prog.underlying 92 = some (.struct (Tryz.prog.fieldsOf 92)) := by kernel_rfl
theorem i_qbk : (Tryz.prog.info? 92).map (·.size) = some 6 := by kernel_rfl
@[go_sem ↓] theorem execOp_loadqbk (ρ : Operand → Value) (dst : Option Tmp) (x : Operand) (ty : TypeId) (pos : String) (after : Array Edge) (guard : Option (Nat × Bool)) :
    execOp ρ { dst, op := .load 92 x, type := ty, pos, after, guard } = (do pure (.value (← ldOp 92 (ρ x)))) := rfl
@[go_sem ↓] theorem execOp_storeqbk (ρ : Operand → Value) (dst : Option Tmp) (x y : Operand) (ty : TypeId) (pos : String) (after : Array Edge) (guard : Option (Nat × Bool)) :
    execOp ρ { dst, op := .store 92 x y, type := ty, pos, after, guard } = (do stOp 92 (ρ x) (ρ y); pure .skip) := rfl
@[go_sem] theorem run_loadqbk (b o : Nat) (w : World) : (ldOp 92 (.pointer (some ⟨b, o, none⟩))).run Tryz.prog w = ldRow Tryz.prog 92 b o w (agg? w b o 6) := run_loadAt_row _ _ _ u_qbk rfl i_qbk b o w
theorem ret_qbk {fn : Func} {R : Ending → World → Prop} {a : Act} {w : World} {p : Tmp} (h : fn.results = #[.cell p 92]) (b o : Nat) (n : Bk) (hp : a.tmps.getD p undef = .pointer (some ⟨b, o, none⟩)) (hc : agg? w b o 6 = some n.arr) (hdf : a.defers = []) (hR : R (.returned (.agg n.arr)) w) : bodyPost Tryz.prog fn R .ret a w :=
  ret_row _ _ _ u_qbk rfl i_qbk h b o _ hp hc hdf hR
@[go_sem] theorem run_storeqbk (b o : Nat) (n : Bk) (w : World) : (stOp 92 (.pointer (some ⟨b, o, none⟩)) (.agg n.arr)).run Tryz.prog w = stRow Tryz.prog 92 b o n.arr w (there? w b o 6) := run_storeAt_row _ _ i_qbk b o _ (Bk.size_arr n) (Bk.one n) w

end Go.Proofs.YtiijpbfkchokaaaGreat
