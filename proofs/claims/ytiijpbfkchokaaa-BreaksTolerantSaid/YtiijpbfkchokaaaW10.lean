/-
  A paragraph's parameters, a line's end: structs of the program as Lean structures. No statement of the seat stands here.
  Three numbers of the laws: a struct of theirs as a Lean structure; two line ends are compared. No statement of the seat stands here.
-/
import Derived.Test.YtiijpbfkchokaaaNodes5
import Derived.Test.YtiijpbfkchokaaaC1
namespace Go.Proofs.Ytiijpbfkchokaaa
open Go.ChangeShapes Go.WideShapes Go.ChangeAt Go.RowKit
set_option maxRecDepth 10000


structure Pm where
  pret : Int
  tol : Int
  linep : Int
  hyp : Int
  exhyp : Int
  adj : Int
  dbl : Int
  fin : Int
  loose : Int
  emerg : Int
  left : Gl
  right : Gl
  hsize : Int
  hangi : Int
  hanga : Int
  shA : Option Addr
  shN : Nat
  shC : Nat
deriving Inhabited
def Pm.cells (n : Pm) : List Value := [.int .i64 n.pret, .int .i64 n.tol, .int .i64 n.linep, .int .i64 n.hyp, .int .i64 n.exhyp, .int .i64 n.adj, .int .i64 n.dbl, .int .i64 n.fin, .int .i64 n.loose, .int .i64 n.emerg, .int .i64 n.left.nat, .int .i64 n.left.str, .int .i64 n.left.shr, .int .i64 n.left.so, .int .i64 n.left.ho, .int .i64 n.right.nat, .int .i64 n.right.str, .int .i64 n.right.shr, .int .i64 n.right.so, .int .i64 n.right.ho, .int .i64 n.hsize, .int .i64 n.hangi, .int .i64 n.hanga, .slice n.shA n.shN n.shC]
def Pm.arr (n : Pm) : Array Value := n.cells.toArray
@[go_sem] theorem Pm.size_arr (n : Pm) : n.arr.size = 24 := id rfl
@[go_sem] theorem Pm.get0 (n : Pm) : n.arr[0]? = some (.int .i64 n.pret) := id rfl
@[go_sem] theorem Pm.at0 (n : Pm) (h : 0 < n.arr.size) : n.arr[0] = .int .i64 n.pret := id rfl
@[go_sem] theorem Pm.get1 (n : Pm) : n.arr[1]? = some (.int .i64 n.tol) := id rfl
@[go_sem] theorem Pm.at1 (n : Pm) (h : 1 < n.arr.size) : n.arr[1] = .int .i64 n.tol := id rfl
@[go_sem] theorem Pm.get2 (n : Pm) : n.arr[2]? = some (.int .i64 n.linep) := id rfl
@[go_sem] theorem Pm.at2 (n : Pm) (h : 2 < n.arr.size) : n.arr[2] = .int .i64 n.linep := id rfl
@[go_sem] theorem Pm.get3 (n : Pm) : n.arr[3]? = some (.int .i64 n.hyp) := id rfl
@[go_sem] theorem Pm.at3 (n : Pm) (h : 3 < n.arr.size) : n.arr[3] = .int .i64 n.hyp := id rfl
@[go_sem] theorem Pm.get4 (n : Pm) : n.arr[4]? = some (.int .i64 n.exhyp) := id rfl
@[go_sem] theorem Pm.at4 (n : Pm) (h : 4 < n.arr.size) : n.arr[4] = .int .i64 n.exhyp := id rfl
@[go_sem] theorem Pm.get5 (n : Pm) : n.arr[5]? = some (.int .i64 n.adj) := id rfl
@[go_sem] theorem Pm.at5 (n : Pm) (h : 5 < n.arr.size) : n.arr[5] = .int .i64 n.adj := id rfl
@[go_sem] theorem Pm.get6 (n : Pm) : n.arr[6]? = some (.int .i64 n.dbl) := id rfl
@[go_sem] theorem Pm.at6 (n : Pm) (h : 6 < n.arr.size) : n.arr[6] = .int .i64 n.dbl := id rfl
@[go_sem] theorem Pm.get7 (n : Pm) : n.arr[7]? = some (.int .i64 n.fin) := id rfl
@[go_sem] theorem Pm.at7 (n : Pm) (h : 7 < n.arr.size) : n.arr[7] = .int .i64 n.fin := id rfl
@[go_sem] theorem Pm.get8 (n : Pm) : n.arr[8]? = some (.int .i64 n.loose) := id rfl
@[go_sem] theorem Pm.at8 (n : Pm) (h : 8 < n.arr.size) : n.arr[8] = .int .i64 n.loose := id rfl
@[go_sem] theorem Pm.get9 (n : Pm) : n.arr[9]? = some (.int .i64 n.emerg) := id rfl
@[go_sem] theorem Pm.at9 (n : Pm) (h : 9 < n.arr.size) : n.arr[9] = .int .i64 n.emerg := id rfl
@[go_sem] theorem Pm.get10 (n : Pm) : n.arr[10]? = some (.int .i64 n.left.nat) := id rfl
@[go_sem] theorem Pm.at10 (n : Pm) (h : 10 < n.arr.size) : n.arr[10] = .int .i64 n.left.nat := id rfl
@[go_sem] theorem Pm.get11 (n : Pm) : n.arr[11]? = some (.int .i64 n.left.str) := id rfl
@[go_sem] theorem Pm.at11 (n : Pm) (h : 11 < n.arr.size) : n.arr[11] = .int .i64 n.left.str := id rfl
@[go_sem] theorem Pm.get12 (n : Pm) : n.arr[12]? = some (.int .i64 n.left.shr) := id rfl
@[go_sem] theorem Pm.at12 (n : Pm) (h : 12 < n.arr.size) : n.arr[12] = .int .i64 n.left.shr := id rfl
@[go_sem] theorem Pm.get13 (n : Pm) : n.arr[13]? = some (.int .i64 n.left.so) := id rfl
@[go_sem] theorem Pm.at13 (n : Pm) (h : 13 < n.arr.size) : n.arr[13] = .int .i64 n.left.so := id rfl
@[go_sem] theorem Pm.get14 (n : Pm) : n.arr[14]? = some (.int .i64 n.left.ho) := id rfl
@[go_sem] theorem Pm.at14 (n : Pm) (h : 14 < n.arr.size) : n.arr[14] = .int .i64 n.left.ho := id rfl
@[go_sem] theorem Pm.get15 (n : Pm) : n.arr[15]? = some (.int .i64 n.right.nat) := id rfl
@[go_sem] theorem Pm.at15 (n : Pm) (h : 15 < n.arr.size) : n.arr[15] = .int .i64 n.right.nat := id rfl
@[go_sem] theorem Pm.get16 (n : Pm) : n.arr[16]? = some (.int .i64 n.right.str) := id rfl
@[go_sem] theorem Pm.at16 (n : Pm) (h : 16 < n.arr.size) : n.arr[16] = .int .i64 n.right.str := id rfl
@[go_sem] theorem Pm.get17 (n : Pm) : n.arr[17]? = some (.int .i64 n.right.shr) := id rfl
@[go_sem] theorem Pm.at17 (n : Pm) (h : 17 < n.arr.size) : n.arr[17] = .int .i64 n.right.shr := id rfl
@[go_sem] theorem Pm.get18 (n : Pm) : n.arr[18]? = some (.int .i64 n.right.so) := id rfl
@[go_sem] theorem Pm.at18 (n : Pm) (h : 18 < n.arr.size) : n.arr[18] = .int .i64 n.right.so := id rfl
@[go_sem] theorem Pm.get19 (n : Pm) : n.arr[19]? = some (.int .i64 n.right.ho) := id rfl
@[go_sem] theorem Pm.at19 (n : Pm) (h : 19 < n.arr.size) : n.arr[19] = .int .i64 n.right.ho := id rfl
@[go_sem] theorem Pm.get20 (n : Pm) : n.arr[20]? = some (.int .i64 n.hsize) := id rfl
@[go_sem] theorem Pm.at20 (n : Pm) (h : 20 < n.arr.size) : n.arr[20] = .int .i64 n.hsize := id rfl
@[go_sem] theorem Pm.get21 (n : Pm) : n.arr[21]? = some (.int .i64 n.hangi) := id rfl
@[go_sem] theorem Pm.at21 (n : Pm) (h : 21 < n.arr.size) : n.arr[21] = .int .i64 n.hangi := id rfl
@[go_sem] theorem Pm.get22 (n : Pm) : n.arr[22]? = some (.int .i64 n.hanga) := id rfl
@[go_sem] theorem Pm.at22 (n : Pm) (h : 22 < n.arr.size) : n.arr[22] = .int .i64 n.hanga := id rfl
@[go_sem] theorem Pm.get23 (n : Pm) : n.arr[23]? = some (.slice n.shA n.shN n.shC) := id rfl
@[go_sem] theorem Pm.at23 (n : Pm) (h : 23 < n.arr.size) : n.arr[23] = .slice n.shA n.shN n.shC := id rfl
@[go_sem] theorem Pm.set0 (n : Pm) (x : Int) : n.arr.setIfInBounds 0 (.int .i64 x) = ({ n with pret := x } : Pm).arr := id rfl
@[go_sem] theorem Pm.set1 (n : Pm) (x : Int) : n.arr.setIfInBounds 1 (.int .i64 x) = ({ n with tol := x } : Pm).arr := id rfl
@[go_sem] theorem Pm.set2 (n : Pm) (x : Int) : n.arr.setIfInBounds 2 (.int .i64 x) = ({ n with linep := x } : Pm).arr := id rfl
@[go_sem] theorem Pm.set3 (n : Pm) (x : Int) : n.arr.setIfInBounds 3 (.int .i64 x) = ({ n with hyp := x } : Pm).arr := id rfl
@[go_sem] theorem Pm.set4 (n : Pm) (x : Int) : n.arr.setIfInBounds 4 (.int .i64 x) = ({ n with exhyp := x } : Pm).arr := id rfl
@[go_sem] theorem Pm.set5 (n : Pm) (x : Int) : n.arr.setIfInBounds 5 (.int .i64 x) = ({ n with adj := x } : Pm).arr := id rfl
@[go_sem] theorem Pm.set6 (n : Pm) (x : Int) : n.arr.setIfInBounds 6 (.int .i64 x) = ({ n with dbl := x } : Pm).arr := id rfl
@[go_sem] theorem Pm.set7 (n : Pm) (x : Int) : n.arr.setIfInBounds 7 (.int .i64 x) = ({ n with fin := x } : Pm).arr := id rfl
@[go_sem] theorem Pm.set8 (n : Pm) (x : Int) : n.arr.setIfInBounds 8 (.int .i64 x) = ({ n with loose := x } : Pm).arr := id rfl
@[go_sem] theorem Pm.set9 (n : Pm) (x : Int) : n.arr.setIfInBounds 9 (.int .i64 x) = ({ n with emerg := x } : Pm).arr := id rfl
@[go_sem] theorem Pm.set10 (n : Pm) (x : Int) : n.arr.setIfInBounds 10 (.int .i64 x) = ({ n with left := { n.left with nat := x } } : Pm).arr := id rfl
@[go_sem] theorem Pm.set11 (n : Pm) (x : Int) : n.arr.setIfInBounds 11 (.int .i64 x) = ({ n with left := { n.left with str := x } } : Pm).arr := id rfl
@[go_sem] theorem Pm.set12 (n : Pm) (x : Int) : n.arr.setIfInBounds 12 (.int .i64 x) = ({ n with left := { n.left with shr := x } } : Pm).arr := id rfl
@[go_sem] theorem Pm.set13 (n : Pm) (x : Int) : n.arr.setIfInBounds 13 (.int .i64 x) = ({ n with left := { n.left with so := x } } : Pm).arr := id rfl
@[go_sem] theorem Pm.set14 (n : Pm) (x : Int) : n.arr.setIfInBounds 14 (.int .i64 x) = ({ n with left := { n.left with ho := x } } : Pm).arr := id rfl
@[go_sem] theorem Pm.set15 (n : Pm) (x : Int) : n.arr.setIfInBounds 15 (.int .i64 x) = ({ n with right := { n.right with nat := x } } : Pm).arr := id rfl
@[go_sem] theorem Pm.set16 (n : Pm) (x : Int) : n.arr.setIfInBounds 16 (.int .i64 x) = ({ n with right := { n.right with str := x } } : Pm).arr := id rfl
@[go_sem] theorem Pm.set17 (n : Pm) (x : Int) : n.arr.setIfInBounds 17 (.int .i64 x) = ({ n with right := { n.right with shr := x } } : Pm).arr := id rfl
@[go_sem] theorem Pm.set18 (n : Pm) (x : Int) : n.arr.setIfInBounds 18 (.int .i64 x) = ({ n with right := { n.right with so := x } } : Pm).arr := id rfl
@[go_sem] theorem Pm.set19 (n : Pm) (x : Int) : n.arr.setIfInBounds 19 (.int .i64 x) = ({ n with right := { n.right with ho := x } } : Pm).arr := id rfl
@[go_sem] theorem Pm.set20 (n : Pm) (x : Int) : n.arr.setIfInBounds 20 (.int .i64 x) = ({ n with hsize := x } : Pm).arr := id rfl
@[go_sem] theorem Pm.set21 (n : Pm) (x : Int) : n.arr.setIfInBounds 21 (.int .i64 x) = ({ n with hangi := x } : Pm).arr := id rfl
@[go_sem] theorem Pm.set22 (n : Pm) (x : Int) : n.arr.setIfInBounds 22 (.int .i64 x) = ({ n with hanga := x } : Pm).arr := id rfl
@[go_sem] theorem Pm.set23 (n : Pm) (xA : Option Addr) (xN xC : Nat) : n.arr.setIfInBounds 23 (.slice xA xN xC) = ({ n with shA := xA, shN := xN, shC := xC } : Pm).arr := id rfl
@[go_sem] theorem Pm.lit (x0 : Int) (x1 : Int) (x2 : Int) (x3 : Int) (x4 : Int) (x5 : Int) (x6 : Int) (x7 : Int) (x8 : Int) (x9 : Int) (x10 : Int) (x11 : Int) (x12 : Int) (x13 : Int) (x14 : Int) (x15 : Int) (x16 : Int) (x17 : Int) (x18 : Int) (x19 : Int) (x20 : Int) (x21 : Int) (x22 : Int) (x23A : Option Addr) (x23N x23C : Nat) : (#[.int .i64 x0, .int .i64 x1, .int .i64 x2, .int .i64 x3, .int .i64 x4, .int .i64 x5, .int .i64 x6, .int .i64 x7, .int .i64 x8, .int .i64 x9, .int .i64 x10, .int .i64 x11, .int .i64 x12, .int .i64 x13, .int .i64 x14, .int .i64 x15, .int .i64 x16, .int .i64 x17, .int .i64 x18, .int .i64 x19, .int .i64 x20, .int .i64 x21, .int .i64 x22, .slice x23A x23N x23C] : Array Value) = (Pm.mk x0 x1 x2 x3 x4 x5 x6 x7 x8 x9 ⟨x10, x11, x12, x13, x14⟩ ⟨x15, x16, x17, x18, x19⟩ x20 x21 x22 x23A x23N x23C).arr := id rfl
@[go_sem] theorem Pm.sub_left (n : Pm) : n.arr.extract 10 15 = n.left.arr := id rfl
@[go_sem] theorem Pm.sub_right (n : Pm) : n.arr.extract 15 20 = n.right.arr := id rfl
@[go_sem] theorem agg?_Pm (w : World) (n : Pm) (t : TypeId) (fr : Nat × Nat) (b : Nat) (h : b = w.heap.size) : agg? (w.alloc (.cells n.arr t fr)) b 0 24 = some n.arr := by
  rw [agg?_alloc_at w n.arr t fr b 0 24 h (by simp [Pm.size_arr])]; simp [Pm.arr, Pm.cells]
@[go_sem] theorem agg?_Pm_left (w : World) (n : Pm) (t : TypeId) (fr : Nat × Nat) (b : Nat) (h : b = w.heap.size) : agg? (w.alloc (.cells n.arr t fr)) b 10 5 = some n.left.arr := by
  rw [agg?_alloc_at w n.arr t fr b 10 5 h (by simp [Pm.size_arr])]; rfl
@[go_sem] theorem agg?_Pm_right (w : World) (n : Pm) (t : TypeId) (fr : Nat × Nat) (b : Nat) (h : b = w.heap.size) : agg? (w.alloc (.cells n.arr t fr)) b 15 5 = some n.right.arr := by
  rw [agg?_alloc_at w n.arr t fr b 15 5 h (by simp [Pm.size_arr])]; rfl
theorem setMany_Pm (n m : Pm) : setMany n.arr 0 m.cells = m.arr := by
  simp only [Pm.cells, setMany, Nat.reduceAdd, Pm.set0, Pm.set1, Pm.set2, Pm.set3, Pm.set4, Pm.set5, Pm.set6, Pm.set7, Pm.set8, Pm.set9, Pm.set10, Pm.set11, Pm.set12, Pm.set13, Pm.set14, Pm.set15, Pm.set16, Pm.set17, Pm.set18, Pm.set19, Pm.set20, Pm.set21, Pm.set22, Pm.set23]
@[go_sem] theorem setAgg_Pm (w : World) (n m : Pm) (t : TypeId) (b : Nat) (h : b = w.heap.size) : setAgg (w.alloc (.cells n.arr t)) b 0 m.arr = w.alloc (.cells m.arr t) := by
  subst h
  unfold setAgg
  rw [setCells_alloc_at, show m.arr.toList = m.cells from rfl, setMany_Pm]
theorem setMany_Pm_left (n : Pm) (g : Gl) : setMany n.arr 10 g.cells = ({ n with left := g } : Pm).arr := by
  simp only [Gl.cells, setMany, Nat.reduceAdd, Pm.set10, Pm.set11, Pm.set12, Pm.set13, Pm.set14]
@[go_sem] theorem setAgg_Pm_left (w : World) (n : Pm) (g : Gl) (t : TypeId) (b : Nat) (h : b = w.heap.size) : setAgg (w.alloc (.cells n.arr t)) b 10 g.arr = w.alloc (.cells ({ n with left := g } : Pm).arr t) := by
  subst h
  unfold setAgg
  rw [setCells_alloc_at, show g.arr.toList = g.cells from rfl, setMany_Pm_left]
theorem setMany_Pm_right (n : Pm) (g : Gl) : setMany n.arr 15 g.cells = ({ n with right := g } : Pm).arr := by
  simp only [Gl.cells, setMany, Nat.reduceAdd, Pm.set15, Pm.set16, Pm.set17, Pm.set18, Pm.set19]
@[go_sem] theorem setAgg_Pm_right (w : World) (n : Pm) (g : Gl) (t : TypeId) (b : Nat) (h : b = w.heap.size) : setAgg (w.alloc (.cells n.arr t)) b 15 g.arr = w.alloc (.cells ({ n with right := g } : Pm).arr t) := by
  subst h
  unfold setAgg
  rw [setCells_alloc_at, show g.arr.toList = g.cells from rfl, setMany_Pm_right]

theorem Pm.one (n : Pm) : n.arr.all (·.oneCell') = true := by simp [Pm.arr, Pm.cells, Value.oneCell']

structure Sh2 where
  a : Int
  b : Int
deriving Inhabited, DecidableEq
def Sh2.cells (n : Sh2) : List Value := [.int .i64 n.a, .int .i64 n.b]
def Sh2.arr (n : Sh2) : Array Value := n.cells.toArray
@[go_sem] theorem Sh2.size_arr (n : Sh2) : n.arr.size = 2 := id rfl
@[go_sem] theorem Sh2.get0 (n : Sh2) : n.arr[0]? = some (.int .i64 n.a) := id rfl
@[go_sem] theorem Sh2.at0 (n : Sh2) (h : 0 < n.arr.size) : n.arr[0] = .int .i64 n.a := id rfl
@[go_sem] theorem Sh2.get1 (n : Sh2) : n.arr[1]? = some (.int .i64 n.b) := id rfl
@[go_sem] theorem Sh2.at1 (n : Sh2) (h : 1 < n.arr.size) : n.arr[1] = .int .i64 n.b := id rfl
@[go_sem] theorem Sh2.set0 (n : Sh2) (x : Int) : n.arr.setIfInBounds 0 (.int .i64 x) = ({ n with a := x } : Sh2).arr := id rfl
@[go_sem] theorem Sh2.set1 (n : Sh2) (x : Int) : n.arr.setIfInBounds 1 (.int .i64 x) = ({ n with b := x } : Sh2).arr := id rfl
theorem Sh2.lit (x0 : Int) (x1 : Int) : (#[.int .i64 x0, .int .i64 x1] : Array Value) = (Sh2.mk x0 x1).arr := id rfl
@[go_sem] theorem agg?_Sh2 (w : World) (n : Sh2) (t : TypeId) (fr : Nat × Nat) (b : Nat) (h : b = w.heap.size) : agg? (w.alloc (.cells n.arr t fr)) b 0 2 = some n.arr := by
  rw [agg?_alloc_at w n.arr t fr b 0 2 h (by simp [Sh2.size_arr])]; simp [Sh2.arr, Sh2.cells]
theorem setMany_Sh2 (n m : Sh2) : setMany n.arr 0 m.cells = m.arr := by
  simp only [Sh2.cells, setMany, Nat.reduceAdd, Sh2.set0, Sh2.set1]
@[go_sem] theorem setAgg_Sh2 (w : World) (n m : Sh2) (t : TypeId) (b : Nat) (h : b = w.heap.size) : setAgg (w.alloc (.cells n.arr t)) b 0 m.arr = w.alloc (.cells m.arr t) := by
  subst h
  unfold setAgg
  rw [setCells_alloc_at, show m.arr.toList = m.cells from rfl, setMany_Sh2]

theorem Sh2.one (n : Sh2) : n.arr.all (·.oneCell') = true := by simp [Sh2.arr, Sh2.cells, Value.oneCell']

theorem u_sh2 : Try.prog.underlying 69 = some (.array 2 3) := by kernel_rfl
theorem i_sh2 : (Try.prog.info? 69).map (·.size) = some 2 := by kernel_rfl
@[go_sem ↓] theorem execOp_loadsh2 (ρ : Operand → Value) (dst : Option Tmp) (x : Operand) (ty : TypeId) (pos : String) (after : Array Edge) (guard : Option (Nat × Bool)) :
    execOp ρ { dst, op := .load 69 x, type := ty, pos, after, guard } = (do pure (.value (← ldOp 69 (ρ x)))) := rfl
@[go_sem ↓] theorem execOp_storesh2 (ρ : Operand → Value) (dst : Option Tmp) (x y : Operand) (ty : TypeId) (pos : String) (after : Array Edge) (guard : Option (Nat × Bool)) :
    execOp ρ { dst, op := .store 69 x y, type := ty, pos, after, guard } = (do stOp 69 (ρ x) (ρ y); pure .skip) := rfl
@[go_sem] theorem run_loadsh2 (b o : Nat) (w : World) : (ldOp 69 (.pointer (some ⟨b, o, none⟩))).run Try.prog w = ldRow Try.prog 69 b o w (agg? w b o 2) := run_loadAt_row _ _ _ u_sh2 rfl i_sh2 b o w
@[go_sem] theorem run_storesh2 (b o : Nat) (n : Sh2) (w : World) : (stOp 69 (.pointer (some ⟨b, o, none⟩)) (.agg n.arr)).run Try.prog w = stRow Try.prog 69 b o n.arr w (there? w b o 2) := run_storeAt_row _ _ i_sh2 b o _ (Sh2.size_arr n) (Sh2.one n) w

structure T3 where
  aA : Option Addr
  aN : Nat
  aC : Nat
  bA : Option Addr
  bN : Nat
  bC : Nat
  cA : Option Addr
  cN : Nat
  cC : Nat
deriving Inhabited
def T3.cells (n : T3) : List Value := [.slice n.aA n.aN n.aC, .slice n.bA n.bN n.bC, .slice n.cA n.cN n.cC]
def T3.arr (n : T3) : Array Value := n.cells.toArray
@[go_sem] theorem T3.size_arr (n : T3) : n.arr.size = 3 := id rfl
@[go_sem] theorem T3.get0 (n : T3) : n.arr[0]? = some (.slice n.aA n.aN n.aC) := id rfl
@[go_sem] theorem T3.at0 (n : T3) (h : 0 < n.arr.size) : n.arr[0] = .slice n.aA n.aN n.aC := id rfl
@[go_sem] theorem T3.get1 (n : T3) : n.arr[1]? = some (.slice n.bA n.bN n.bC) := id rfl
@[go_sem] theorem T3.at1 (n : T3) (h : 1 < n.arr.size) : n.arr[1] = .slice n.bA n.bN n.bC := id rfl
@[go_sem] theorem T3.get2 (n : T3) : n.arr[2]? = some (.slice n.cA n.cN n.cC) := id rfl
@[go_sem] theorem T3.at2 (n : T3) (h : 2 < n.arr.size) : n.arr[2] = .slice n.cA n.cN n.cC := id rfl
@[go_sem] theorem T3.set0 (n : T3) (xA : Option Addr) (xN xC : Nat) : n.arr.setIfInBounds 0 (.slice xA xN xC) = ({ n with aA := xA, aN := xN, aC := xC } : T3).arr := id rfl
@[go_sem] theorem T3.set1 (n : T3) (xA : Option Addr) (xN xC : Nat) : n.arr.setIfInBounds 1 (.slice xA xN xC) = ({ n with bA := xA, bN := xN, bC := xC } : T3).arr := id rfl
@[go_sem] theorem T3.set2 (n : T3) (xA : Option Addr) (xN xC : Nat) : n.arr.setIfInBounds 2 (.slice xA xN xC) = ({ n with cA := xA, cN := xN, cC := xC } : T3).arr := id rfl
theorem T3.lit (x0A : Option Addr) (x0N x0C : Nat) (x1A : Option Addr) (x1N x1C : Nat) (x2A : Option Addr) (x2N x2C : Nat) : (#[.slice x0A x0N x0C, .slice x1A x1N x1C, .slice x2A x2N x2C] : Array Value) = (T3.mk x0A x0N x0C x1A x1N x1C x2A x2N x2C).arr := id rfl
@[go_sem] theorem agg?_T3 (w : World) (n : T3) (t : TypeId) (fr : Nat × Nat) (b : Nat) (h : b = w.heap.size) : agg? (w.alloc (.cells n.arr t fr)) b 0 3 = some n.arr := by
  rw [agg?_alloc_at w n.arr t fr b 0 3 h (by simp [T3.size_arr])]; simp [T3.arr, T3.cells]
theorem setMany_T3 (n m : T3) : setMany n.arr 0 m.cells = m.arr := by
  simp only [T3.cells, setMany, Nat.reduceAdd, T3.set0, T3.set1, T3.set2]
@[go_sem] theorem setAgg_T3 (w : World) (n m : T3) (t : TypeId) (b : Nat) (h : b = w.heap.size) : setAgg (w.alloc (.cells n.arr t)) b 0 m.arr = w.alloc (.cells m.arr t) := by
  subst h
  unfold setAgg
  rw [setCells_alloc_at, show m.arr.toList = m.cells from rfl, setMany_T3]

theorem T3.one (n : T3) : n.arr.all (·.oneCell') = true := by simp [T3.arr, T3.cells, Value.oneCell']

theorem u_t3 : Try.prog.underlying 114 = some (.array 3 22) := by kernel_rfl
theorem i_t3 : (Try.prog.info? 114).map (·.size) = some 3 := by kernel_rfl
@[go_sem ↓] theorem execOp_loadt3 (ρ : Operand → Value) (dst : Option Tmp) (x : Operand) (ty : TypeId) (pos : String) (after : Array Edge) (guard : Option (Nat × Bool)) :
    execOp ρ { dst, op := .load 114 x, type := ty, pos, after, guard } = (do pure (.value (← ldOp 114 (ρ x)))) := rfl
@[go_sem ↓] theorem execOp_storet3 (ρ : Operand → Value) (dst : Option Tmp) (x y : Operand) (ty : TypeId) (pos : String) (after : Array Edge) (guard : Option (Nat × Bool)) :
    execOp ρ { dst, op := .store 114 x y, type := ty, pos, after, guard } = (do stOp 114 (ρ x) (ρ y); pure .skip) := rfl
@[go_sem] theorem run_loadt3 (b o : Nat) (w : World) : (ldOp 114 (.pointer (some ⟨b, o, none⟩))).run Try.prog w = ldRow Try.prog 114 b o w (agg? w b o 3) := run_loadAt_row _ _ _ u_t3 rfl i_t3 b o w
theorem ret_t3 {fn : Func} {R : Ending → World → Prop} {a : Act} {w : World} {p : Tmp} (h : fn.results = #[.cell p 114]) (b o : Nat) (n : T3) (hp : a.tmps.getD p undef = .pointer (some ⟨b, o, none⟩)) (hc : agg? w b o 3 = some n.arr) (hdf : a.defers = []) (hR : R (.returned (.agg n.arr)) w) : bodyPost Try.prog fn R .ret a w :=
  ret_row _ _ _ u_t3 rfl i_t3 h b o _ hp hc hdf hR
@[go_sem] theorem run_storet3 (b o : Nat) (n : T3) (w : World) : (stOp 114 (.pointer (some ⟨b, o, none⟩)) (.agg n.arr)).run Try.prog w = stRow Try.prog 114 b o n.arr w (there? w b o 3) := run_storeAt_row _ _ i_t3 b o _ (T3.size_arr n) (T3.one n) w

structure Bk where
  at_ : Int
  bad : Int
  cls : Int
  dem : Int
  over : Int
  isBad : Bool
deriving Inhabited, DecidableEq
def Bk.cells (n : Bk) : List Value := [.int .i64 n.at_, .int .i64 n.bad, .int .i64 n.cls, .int .i64 n.dem, .int .i64 n.over, .bool n.isBad]
def Bk.arr (n : Bk) : Array Value := n.cells.toArray
@[go_sem] theorem Bk.size_arr (n : Bk) : n.arr.size = 6 := id rfl
@[go_sem] theorem Bk.get0 (n : Bk) : n.arr[0]? = some (.int .i64 n.at_) := id rfl
@[go_sem] theorem Bk.at0 (n : Bk) (h : 0 < n.arr.size) : n.arr[0] = .int .i64 n.at_ := id rfl
@[go_sem] theorem Bk.get1 (n : Bk) : n.arr[1]? = some (.int .i64 n.bad) := id rfl
@[go_sem] theorem Bk.at1 (n : Bk) (h : 1 < n.arr.size) : n.arr[1] = .int .i64 n.bad := id rfl
@[go_sem] theorem Bk.get2 (n : Bk) : n.arr[2]? = some (.int .i64 n.cls) := id rfl
@[go_sem] theorem Bk.at2 (n : Bk) (h : 2 < n.arr.size) : n.arr[2] = .int .i64 n.cls := id rfl
@[go_sem] theorem Bk.get3 (n : Bk) : n.arr[3]? = some (.int .i64 n.dem) := id rfl
@[go_sem] theorem Bk.at3 (n : Bk) (h : 3 < n.arr.size) : n.arr[3] = .int .i64 n.dem := id rfl
@[go_sem] theorem Bk.get4 (n : Bk) : n.arr[4]? = some (.int .i64 n.over) := id rfl
@[go_sem] theorem Bk.at4 (n : Bk) (h : 4 < n.arr.size) : n.arr[4] = .int .i64 n.over := id rfl
@[go_sem] theorem Bk.get5 (n : Bk) : n.arr[5]? = some (.bool n.isBad) := id rfl
@[go_sem] theorem Bk.at5 (n : Bk) (h : 5 < n.arr.size) : n.arr[5] = .bool n.isBad := id rfl
@[go_sem] theorem Bk.set0 (n : Bk) (x : Int) : n.arr.setIfInBounds 0 (.int .i64 x) = ({ n with at_ := x } : Bk).arr := id rfl
@[go_sem] theorem Bk.set1 (n : Bk) (x : Int) : n.arr.setIfInBounds 1 (.int .i64 x) = ({ n with bad := x } : Bk).arr := id rfl
@[go_sem] theorem Bk.set2 (n : Bk) (x : Int) : n.arr.setIfInBounds 2 (.int .i64 x) = ({ n with cls := x } : Bk).arr := id rfl
@[go_sem] theorem Bk.set3 (n : Bk) (x : Int) : n.arr.setIfInBounds 3 (.int .i64 x) = ({ n with dem := x } : Bk).arr := id rfl
@[go_sem] theorem Bk.set4 (n : Bk) (x : Int) : n.arr.setIfInBounds 4 (.int .i64 x) = ({ n with over := x } : Bk).arr := id rfl
@[go_sem] theorem Bk.set5 (n : Bk) (x : Bool) : n.arr.setIfInBounds 5 (.bool x) = ({ n with isBad := x } : Bk).arr := id rfl
@[go_sem] theorem Bk.lit (x0 : Int) (x1 : Int) (x2 : Int) (x3 : Int) (x4 : Int) (x5 : Bool) : (#[.int .i64 x0, .int .i64 x1, .int .i64 x2, .int .i64 x3, .int .i64 x4, .bool x5] : Array Value) = (Bk.mk x0 x1 x2 x3 x4 x5).arr := id rfl
@[go_sem] theorem agg?_Bk (w : World) (n : Bk) (t : TypeId) (fr : Nat × Nat) (b : Nat) (h : b = w.heap.size) : agg? (w.alloc (.cells n.arr t fr)) b 0 6 = some n.arr := by
  rw [agg?_alloc_at w n.arr t fr b 0 6 h (by simp [Bk.size_arr])]; simp [Bk.arr, Bk.cells]
theorem setMany_Bk (n m : Bk) : setMany n.arr 0 m.cells = m.arr := by
  simp only [Bk.cells, setMany, Nat.reduceAdd, Bk.set0, Bk.set1, Bk.set2, Bk.set3, Bk.set4, Bk.set5]
@[go_sem] theorem setAgg_Bk (w : World) (n m : Bk) (t : TypeId) (b : Nat) (h : b = w.heap.size) : setAgg (w.alloc (.cells n.arr t)) b 0 m.arr = w.alloc (.cells m.arr t) := by
  subst h
  unfold setAgg
  rw [setCells_alloc_at, show m.arr.toList = m.cells from rfl, setMany_Bk]

theorem Bk.one (n : Bk) : n.arr.all (·.oneCell') = true := by simp [Bk.arr, Bk.cells, Value.oneCell']

theorem u_pr : Try.prog.underlying 27 = some (.struct (Try.prog.fieldsOf 27)) := by kernel_rfl
theorem i_pr : (Try.prog.info? 27).map (·.size) = some 24 := by kernel_rfl
@[go_sem ↓] theorem execOp_loadpr (ρ : Operand → Value) (dst : Option Tmp) (x : Operand) (ty : TypeId) (pos : String) (after : Array Edge) (guard : Option (Nat × Bool)) :
    execOp ρ { dst, op := .load 27 x, type := ty, pos, after, guard } = (do pure (.value (← ldOp 27 (ρ x)))) := rfl
@[go_sem ↓] theorem execOp_storepr (ρ : Operand → Value) (dst : Option Tmp) (x y : Operand) (ty : TypeId) (pos : String) (after : Array Edge) (guard : Option (Nat × Bool)) :
    execOp ρ { dst, op := .store 27 x y, type := ty, pos, after, guard } = (do stOp 27 (ρ x) (ρ y); pure .skip) := rfl
@[go_sem] theorem run_loadpr (b o : Nat) (w : World) : (ldOp 27 (.pointer (some ⟨b, o, none⟩))).run Try.prog w = ldRow Try.prog 27 b o w (agg? w b o 24) := run_loadAt_row _ _ _ u_pr rfl i_pr b o w
@[go_sem] theorem run_storepr (b o : Nat) (n : Pm) (w : World) : (stOp 27 (.pointer (some ⟨b, o, none⟩)) (.agg n.arr)).run Try.prog w = stRow Try.prog 27 b o n.arr w (there? w b o 24) := run_storeAt_row _ _ i_pr b o _ (Pm.size_arr n) (Pm.one n) w

theorem u_bk : Try.prog.underlying 37 = some (.struct (Try.prog.fieldsOf 37)) := by kernel_rfl
theorem i_bk : (Try.prog.info? 37).map (·.size) = some 6 := by kernel_rfl
@[go_sem ↓] theorem execOp_loadbk (ρ : Operand → Value) (dst : Option Tmp) (x : Operand) (ty : TypeId) (pos : String) (after : Array Edge) (guard : Option (Nat × Bool)) :
    execOp ρ { dst, op := .load 37 x, type := ty, pos, after, guard } = (do pure (.value (← ldOp 37 (ρ x)))) := rfl
@[go_sem ↓] theorem execOp_storebk (ρ : Operand → Value) (dst : Option Tmp) (x y : Operand) (ty : TypeId) (pos : String) (after : Array Edge) (guard : Option (Nat × Bool)) :
    execOp ρ { dst, op := .store 37 x y, type := ty, pos, after, guard } = (do stOp 37 (ρ x) (ρ y); pure .skip) := rfl
@[go_sem] theorem run_loadbk (b o : Nat) (w : World) : (ldOp 37 (.pointer (some ⟨b, o, none⟩))).run Try.prog w = ldRow Try.prog 37 b o w (agg? w b o 6) := run_loadAt_row _ _ _ u_bk rfl i_bk b o w
theorem ret_bk {fn : Func} {R : Ending → World → Prop} {a : Act} {w : World} {p : Tmp} (h : fn.results = #[.cell p 37]) (b o : Nat) (n : Bk) (hp : a.tmps.getD p undef = .pointer (some ⟨b, o, none⟩)) (hc : agg? w b o 6 = some n.arr) (hdf : a.defers = []) (hR : R (.returned (.agg n.arr)) w) : bodyPost Try.prog fn R .ret a w :=
  ret_row _ _ _ u_bk rfl i_bk h b o _ hp hc hdf hR
@[go_sem] theorem run_storebk (b o : Nat) (n : Bk) (w : World) : (stOp 37 (.pointer (some ⟨b, o, none⟩)) (.agg n.arr)).run Try.prog w = stRow Try.prog 37 b o n.arr w (there? w b o 6) := run_storeAt_row _ _ i_bk b o _ (Bk.size_arr n) (Bk.one n) w

end Go.Proofs.Ytiijpbfkchokaaa
namespace Go.Proofs.Ytiijpbfkchokaaa
open Go.ChangeShapes Go.WideShapes Go.ChangeAt Go.RowKit
set_option maxRecDepth 10000


structure I3 where
  a : Int
  b : Int
  c : Int
deriving Inhabited, DecidableEq
def I3.cells (n : I3) : List Value := [.int .i64 n.a, .int .i64 n.b, .int .i64 n.c]
def I3.arr (n : I3) : Array Value := n.cells.toArray
@[go_sem] theorem I3.size_arr (n : I3) : n.arr.size = 3 := id rfl
@[go_sem] theorem I3.get0 (n : I3) : n.arr[0]? = some (.int .i64 n.a) := id rfl
@[go_sem] theorem I3.at0 (n : I3) (h : 0 < n.arr.size) : n.arr[0] = .int .i64 n.a := id rfl
@[go_sem] theorem I3.get1 (n : I3) : n.arr[1]? = some (.int .i64 n.b) := id rfl
@[go_sem] theorem I3.at1 (n : I3) (h : 1 < n.arr.size) : n.arr[1] = .int .i64 n.b := id rfl
@[go_sem] theorem I3.get2 (n : I3) : n.arr[2]? = some (.int .i64 n.c) := id rfl
@[go_sem] theorem I3.at2 (n : I3) (h : 2 < n.arr.size) : n.arr[2] = .int .i64 n.c := id rfl
@[go_sem] theorem I3.set0 (n : I3) (x : Int) : n.arr.setIfInBounds 0 (.int .i64 x) = ({ n with a := x } : I3).arr := id rfl
@[go_sem] theorem I3.set1 (n : I3) (x : Int) : n.arr.setIfInBounds 1 (.int .i64 x) = ({ n with b := x } : I3).arr := id rfl
@[go_sem] theorem I3.set2 (n : I3) (x : Int) : n.arr.setIfInBounds 2 (.int .i64 x) = ({ n with c := x } : I3).arr := id rfl
theorem I3.lit (x0 : Int) (x1 : Int) (x2 : Int) : (#[.int .i64 x0, .int .i64 x1, .int .i64 x2] : Array Value) = (I3.mk x0 x1 x2).arr := id rfl
@[go_sem] theorem agg?_I3 (w : World) (n : I3) (t : TypeId) (fr : Nat × Nat) (b : Nat) (h : b = w.heap.size) : agg? (w.alloc (.cells n.arr t fr)) b 0 3 = some n.arr := by
  rw [agg?_alloc_at w n.arr t fr b 0 3 h (by simp [I3.size_arr])]; simp [I3.arr, I3.cells]
theorem setMany_I3 (n m : I3) : setMany n.arr 0 m.cells = m.arr := by
  simp only [I3.cells, setMany, Nat.reduceAdd, I3.set0, I3.set1, I3.set2]
@[go_sem] theorem setAgg_I3 (w : World) (n m : I3) (t : TypeId) (b : Nat) (h : b = w.heap.size) : setAgg (w.alloc (.cells n.arr t)) b 0 m.arr = w.alloc (.cells m.arr t) := by
  subst h
  unfold setAgg
  rw [setCells_alloc_at, show m.arr.toList = m.cells from rfl, setMany_I3]

theorem I3.one (n : I3) : n.arr.all (·.oneCell') = true := by simp [I3.arr, I3.cells, Value.oneCell']

theorem u_i3 : Try.prog.underlying 34 = some (.array 3 3) := by kernel_rfl
theorem i_i3 : (Try.prog.info? 34).map (·.size) = some 3 := by kernel_rfl
@[go_sem ↓] theorem execOp_loadi3 (ρ : Operand → Value) (dst : Option Tmp) (x : Operand) (ty : TypeId) (pos : String) (after : Array Edge) (guard : Option (Nat × Bool)) :
    execOp ρ { dst, op := .load 34 x, type := ty, pos, after, guard } = (do pure (.value (← ldOp 34 (ρ x)))) := rfl
@[go_sem ↓] theorem execOp_storei3 (ρ : Operand → Value) (dst : Option Tmp) (x y : Operand) (ty : TypeId) (pos : String) (after : Array Edge) (guard : Option (Nat × Bool)) :
    execOp ρ { dst, op := .store 34 x y, type := ty, pos, after, guard } = (do stOp 34 (ρ x) (ρ y); pure .skip) := rfl
@[go_sem] theorem run_loadi3 (b o : Nat) (w : World) : (ldOp 34 (.pointer (some ⟨b, o, none⟩))).run Try.prog w = ldRow Try.prog 34 b o w (agg? w b o 3) := run_loadAt_row _ _ _ u_i3 rfl i_i3 b o w
theorem ret_i3 {fn : Func} {R : Ending → World → Prop} {a : Act} {w : World} {p : Tmp} (h : fn.results = #[.cell p 34]) (b o : Nat) (n : I3) (hp : a.tmps.getD p undef = .pointer (some ⟨b, o, none⟩)) (hc : agg? w b o 3 = some n.arr) (hdf : a.defers = []) (hR : R (.returned (.agg n.arr)) w) : bodyPost Try.prog fn R .ret a w :=
  ret_row _ _ _ u_i3 rfl i_i3 h b o _ hp hc hdf hR
@[go_sem] theorem run_storei3 (b o : Nat) (n : I3) (w : World) : (stOp 34 (.pointer (some ⟨b, o, none⟩)) (.agg n.arr)).run Try.prog w = stRow Try.prog 34 b o n.arr w (there? w b o 3) := run_storeAt_row _ _ i_i3 b o _ (I3.size_arr n) (I3.one n) w

def neBk (X Y : Operand) (x y : Value) : Sem Value := do eqGuard .neq 37 X Y x y; binOp .neq 37 x y
@[go_sem ↓] theorem execOp_neBk (ρ : Operand → Value) (dst : Option Tmp) (x y : Operand) (k ty : TypeId) (pos : String) (after : Array Edge) (guard : Option (Nat × Bool)) :
    execOp ρ { dst, op := .binOp .neq 37 x y k, type := ty, pos, after, guard } = (do pure (.value (← neBk x y (ρ x) (ρ y)))) := rfl
theorem Bk.eq_iff (a b : Bk) : (a = b) ↔ (a.at_ = b.at_ ∧ a.bad = b.bad ∧ a.cls = b.cls ∧ a.dem = b.dem ∧ a.over = b.over ∧ a.isBad = b.isBad) := by
  cases a; cases b
  simp
theorem run_eqBk (a b : Bk) (w : World) : (Op.equalIn 10000 37 (.agg a.arr) (.agg b.arr)).run Try.prog w = .ok (decide (a = b)) w := by
  simp only [Bk.arr, Bk.cells]
  simp [go_sem]
  by_cases h : a = b
  · subst h; simp
  · rw [decide_eq_false h]
    rw [Bk.eq_iff] at h
    by_cases h0 : a.at_ = b.at_
    case neg => rw [if_neg h0]
    rw [if_pos h0]
    by_cases h1 : a.bad = b.bad
    case neg => rw [if_neg h1]
    rw [if_pos h1]
    by_cases h2 : a.cls = b.cls
    case neg => rw [if_neg h2]
    rw [if_pos h2]
    by_cases h3 : a.dem = b.dem
    case neg => rw [if_neg h3]
    rw [if_pos h3]
    by_cases h4 : a.over = b.over
    case neg => rw [if_neg h4]
    rw [if_pos h4]
    by_cases h5 : a.isBad = b.isBad
    case neg => rw [if_neg h5]
    exact absurd ⟨h0, h1, h2, h3, h4, h5⟩ h
theorem eqGuardBk : Try.prog.eqGuardType Try.prog.depth 37 = false := by kernel_rfl
@[go_sem] theorem run_neBk (a b : Bk) (X Y : Operand) (w : World) : (neBk X Y (.agg a.arr) (.agg b.arr)).run Try.prog w = .ok (.bool (!decide (a = b))) w := by
  unfold neBk
  have h1 := run_eqGuard_agg (P := Try.prog) w .neq 37 X Y a.arr b.arr eqGuardBk
  have h2 : (binOp .neq 37 (.agg a.arr) (.agg b.arr)).run Try.prog w = .ok (.bool (!decide (a = b))) w := by rw [run_neq_struct, run_eqBk]; rfl
  simp only [Sem.run_bind, h1, Result.andThen_ok, h2]
end Go.Proofs.Ytiijpbfkchokaaa
