/-
  Layer 20, the document's side: an item, a pair of places as Lean structures.
-/
import Derived.Test.YtkkdopfdoommnaaMBase
namespace Go.Proofs.Ytkkdopfdoommnaa
open Go.ChangeShapes Go.WideShapes Go.ChangeAt Go.RowKit


structure Pr where
  a : Int
  b : Int
deriving Inhabited, DecidableEq
def Pr.cells (n : Pr) : List Value := [.int .i64 n.a, .int .i64 n.b]
def Pr.arr (n : Pr) : Array Value := n.cells.toArray
@[go_sem] theorem Pr.size_arr (n : Pr) : n.arr.size = 2 := id rfl
@[go_sem] theorem Pr.get0 (n : Pr) : n.arr[0]? = some (.int .i64 n.a) := id rfl
@[go_sem] theorem Pr.at0 (n : Pr) (h : 0 < n.arr.size) : n.arr[0] = .int .i64 n.a := id rfl
@[go_sem] theorem Pr.get1 (n : Pr) : n.arr[1]? = some (.int .i64 n.b) := id rfl
@[go_sem] theorem Pr.at1 (n : Pr) (h : 1 < n.arr.size) : n.arr[1] = .int .i64 n.b := id rfl
@[go_sem] theorem Pr.set0 (n : Pr) (x : Int) : n.arr.setIfInBounds 0 (.int .i64 x) = ({ n with a := x } : Pr).arr := id rfl
@[go_sem] theorem Pr.set1 (n : Pr) (x : Int) : n.arr.setIfInBounds 1 (.int .i64 x) = ({ n with b := x } : Pr).arr := id rfl
@[go_sem] theorem Pr.lit (x0 : Int) (x1 : Int) : (#[.int .i64 x0, .int .i64 x1] : Array Value) = (Pr.mk x0 x1).arr := id rfl
@[go_sem] theorem agg?_Pr (w : World) (n : Pr) (t : TypeId) (fr : Nat × Nat) (b : Nat) (h : b = w.heap.size) : agg? (w.alloc (.cells n.arr t fr)) b 0 2 = some n.arr := by
  rw [agg?_alloc_at w n.arr t fr b 0 2 h (by simp [Pr.size_arr])]; simp [Pr.arr, Pr.cells]
theorem setMany_Pr (n m : Pr) : setMany n.arr 0 m.cells = m.arr := by
  simp only [Pr.cells, setMany, Nat.reduceAdd, Pr.set0, Pr.set1]
@[go_sem] theorem setAgg_Pr (w : World) (n m : Pr) (t : TypeId) (b : Nat) (h : b = w.heap.size) : setAgg (w.alloc (.cells n.arr t)) b 0 m.arr = w.alloc (.cells m.arr t) := by
  subst h
  unfold setAgg
  rw [setCells_alloc_at, show m.arr.toList = m.cells from rfl, setMany_Pr]

theorem Pr.one (n : Pr) : n.arr.all (·.oneCell') = true := by simp [Pr.arr, Pr.cells, Value.oneCell']
def Pr.zero : Pr := ⟨0, 0⟩

theorem u_Pr : Try.prog.underlying 150 = some (.array 2 3) := by kernel_rfl
theorem i_Pr : (Try.prog.info? 150).map (·.size) = some 2 := by kernel_rfl
@[go_sem ↓] theorem execOp_loadPr (ρ : Operand → Value) (dst : Option Tmp) (x : Operand) (ty : TypeId) (pos : String) (after : Array Edge) (guard : Option (Nat × Bool)) :
    execOp ρ { dst, op := .load 150 x, type := ty, pos, after, guard } = (do pure (.value (← ldOp 150 (ρ x)))) := rfl
@[go_sem ↓] theorem execOp_storePr (ρ : Operand → Value) (dst : Option Tmp) (x y : Operand) (ty : TypeId) (pos : String) (after : Array Edge) (guard : Option (Nat × Bool)) :
    execOp ρ { dst, op := .store 150 x y, type := ty, pos, after, guard } = (do stOp 150 (ρ x) (ρ y); pure .skip) := rfl
@[go_sem] theorem run_loadPr (b o : Nat) (w : World) : (ldOp 150 (.pointer (some ⟨b, o, none⟩))).run Try.prog w = ldRow Try.prog 150 b o w (agg? w b o 2) := run_loadAt_row _ _ _ u_Pr rfl i_Pr b o w
theorem ret_Pr {fn : Func} {R : Ending → World → Prop} {a : Act} {w : World} {p : Tmp} (h : fn.results = #[.cell p 150]) (b o : Nat) (n : Pr) (hp : a.tmps.getD p undef = .pointer (some ⟨b, o, none⟩)) (hc : agg? w b o 2 = some n.arr) (hdf : a.defers = []) (hR : R (.returned (.agg n.arr)) w) : bodyPost Try.prog fn R .ret a w :=
  ret_row _ _ _ u_Pr rfl i_Pr h b o _ hp hc hdf hR
@[go_sem] theorem run_storePr (b o : Nat) (n : Pr) (w : World) : (stOp 150 (.pointer (some ⟨b, o, none⟩)) (.agg n.arr)).run Try.prog w = stRow Try.prog 150 b o n.arr w (there? w b o 2) := run_storeAt_row _ _ i_Pr b o _ (Pr.size_arr n) (Pr.one n) w

structure RIt where
  sign : Sn
  one : Pr
  two : Pr
  shut : Sn
  sup : Pr
  sub : Pr
deriving Inhabited, DecidableEq
def RIt.cells (n : RIt) : List Value := [.int .i64 n.sign.kind, .int .i64 n.sign.fam, .int .u8 n.sign.char, .int .i64 n.sign.n, .int .i64 n.sign.glue.nat, .int .i64 n.sign.glue.str, .int .i64 n.sign.glue.shr, .int .i64 n.sign.glue.so, .int .i64 n.sign.glue.ho, .int .i64 n.one.a, .int .i64 n.one.b, .int .i64 n.two.a, .int .i64 n.two.b, .int .i64 n.shut.kind, .int .i64 n.shut.fam, .int .u8 n.shut.char, .int .i64 n.shut.n, .int .i64 n.shut.glue.nat, .int .i64 n.shut.glue.str, .int .i64 n.shut.glue.shr, .int .i64 n.shut.glue.so, .int .i64 n.shut.glue.ho, .int .i64 n.sup.a, .int .i64 n.sup.b, .int .i64 n.sub.a, .int .i64 n.sub.b]
def RIt.arr (n : RIt) : Array Value := n.cells.toArray
@[go_sem] theorem RIt.size_arr (n : RIt) : n.arr.size = 26 := id rfl
@[go_sem] theorem RIt.get0 (n : RIt) : n.arr[0]? = some (.int .i64 n.sign.kind) := id rfl
@[go_sem] theorem RIt.at0 (n : RIt) (h : 0 < n.arr.size) : n.arr[0] = .int .i64 n.sign.kind := id rfl
@[go_sem] theorem RIt.get1 (n : RIt) : n.arr[1]? = some (.int .i64 n.sign.fam) := id rfl
@[go_sem] theorem RIt.at1 (n : RIt) (h : 1 < n.arr.size) : n.arr[1] = .int .i64 n.sign.fam := id rfl
@[go_sem] theorem RIt.get2 (n : RIt) : n.arr[2]? = some (.int .u8 n.sign.char) := id rfl
@[go_sem] theorem RIt.at2 (n : RIt) (h : 2 < n.arr.size) : n.arr[2] = .int .u8 n.sign.char := id rfl
@[go_sem] theorem RIt.get3 (n : RIt) : n.arr[3]? = some (.int .i64 n.sign.n) := id rfl
@[go_sem] theorem RIt.at3 (n : RIt) (h : 3 < n.arr.size) : n.arr[3] = .int .i64 n.sign.n := id rfl
@[go_sem] theorem RIt.get4 (n : RIt) : n.arr[4]? = some (.int .i64 n.sign.glue.nat) := id rfl
@[go_sem] theorem RIt.at4 (n : RIt) (h : 4 < n.arr.size) : n.arr[4] = .int .i64 n.sign.glue.nat := id rfl
@[go_sem] theorem RIt.get5 (n : RIt) : n.arr[5]? = some (.int .i64 n.sign.glue.str) := id rfl
@[go_sem] theorem RIt.at5 (n : RIt) (h : 5 < n.arr.size) : n.arr[5] = .int .i64 n.sign.glue.str := id rfl
@[go_sem] theorem RIt.get6 (n : RIt) : n.arr[6]? = some (.int .i64 n.sign.glue.shr) := id rfl
@[go_sem] theorem RIt.at6 (n : RIt) (h : 6 < n.arr.size) : n.arr[6] = .int .i64 n.sign.glue.shr := id rfl
@[go_sem] theorem RIt.get7 (n : RIt) : n.arr[7]? = some (.int .i64 n.sign.glue.so) := id rfl
@[go_sem] theorem RIt.at7 (n : RIt) (h : 7 < n.arr.size) : n.arr[7] = .int .i64 n.sign.glue.so := id rfl
@[go_sem] theorem RIt.get8 (n : RIt) : n.arr[8]? = some (.int .i64 n.sign.glue.ho) := id rfl
@[go_sem] theorem RIt.at8 (n : RIt) (h : 8 < n.arr.size) : n.arr[8] = .int .i64 n.sign.glue.ho := id rfl
@[go_sem] theorem RIt.get9 (n : RIt) : n.arr[9]? = some (.int .i64 n.one.a) := id rfl
@[go_sem] theorem RIt.at9 (n : RIt) (h : 9 < n.arr.size) : n.arr[9] = .int .i64 n.one.a := id rfl
@[go_sem] theorem RIt.get10 (n : RIt) : n.arr[10]? = some (.int .i64 n.one.b) := id rfl
@[go_sem] theorem RIt.at10 (n : RIt) (h : 10 < n.arr.size) : n.arr[10] = .int .i64 n.one.b := id rfl
@[go_sem] theorem RIt.get11 (n : RIt) : n.arr[11]? = some (.int .i64 n.two.a) := id rfl
@[go_sem] theorem RIt.at11 (n : RIt) (h : 11 < n.arr.size) : n.arr[11] = .int .i64 n.two.a := id rfl
@[go_sem] theorem RIt.get12 (n : RIt) : n.arr[12]? = some (.int .i64 n.two.b) := id rfl
@[go_sem] theorem RIt.at12 (n : RIt) (h : 12 < n.arr.size) : n.arr[12] = .int .i64 n.two.b := id rfl
@[go_sem] theorem RIt.get13 (n : RIt) : n.arr[13]? = some (.int .i64 n.shut.kind) := id rfl
@[go_sem] theorem RIt.at13 (n : RIt) (h : 13 < n.arr.size) : n.arr[13] = .int .i64 n.shut.kind := id rfl
@[go_sem] theorem RIt.get14 (n : RIt) : n.arr[14]? = some (.int .i64 n.shut.fam) := id rfl
@[go_sem] theorem RIt.at14 (n : RIt) (h : 14 < n.arr.size) : n.arr[14] = .int .i64 n.shut.fam := id rfl
@[go_sem] theorem RIt.get15 (n : RIt) : n.arr[15]? = some (.int .u8 n.shut.char) := id rfl
@[go_sem] theorem RIt.at15 (n : RIt) (h : 15 < n.arr.size) : n.arr[15] = .int .u8 n.shut.char := id rfl
@[go_sem] theorem RIt.get16 (n : RIt) : n.arr[16]? = some (.int .i64 n.shut.n) := id rfl
@[go_sem] theorem RIt.at16 (n : RIt) (h : 16 < n.arr.size) : n.arr[16] = .int .i64 n.shut.n := id rfl
@[go_sem] theorem RIt.get17 (n : RIt) : n.arr[17]? = some (.int .i64 n.shut.glue.nat) := id rfl
@[go_sem] theorem RIt.at17 (n : RIt) (h : 17 < n.arr.size) : n.arr[17] = .int .i64 n.shut.glue.nat := id rfl
@[go_sem] theorem RIt.get18 (n : RIt) : n.arr[18]? = some (.int .i64 n.shut.glue.str) := id rfl
@[go_sem] theorem RIt.at18 (n : RIt) (h : 18 < n.arr.size) : n.arr[18] = .int .i64 n.shut.glue.str := id rfl
@[go_sem] theorem RIt.get19 (n : RIt) : n.arr[19]? = some (.int .i64 n.shut.glue.shr) := id rfl
@[go_sem] theorem RIt.at19 (n : RIt) (h : 19 < n.arr.size) : n.arr[19] = .int .i64 n.shut.glue.shr := id rfl
@[go_sem] theorem RIt.get20 (n : RIt) : n.arr[20]? = some (.int .i64 n.shut.glue.so) := id rfl
@[go_sem] theorem RIt.at20 (n : RIt) (h : 20 < n.arr.size) : n.arr[20] = .int .i64 n.shut.glue.so := id rfl
@[go_sem] theorem RIt.get21 (n : RIt) : n.arr[21]? = some (.int .i64 n.shut.glue.ho) := id rfl
@[go_sem] theorem RIt.at21 (n : RIt) (h : 21 < n.arr.size) : n.arr[21] = .int .i64 n.shut.glue.ho := id rfl
@[go_sem] theorem RIt.get22 (n : RIt) : n.arr[22]? = some (.int .i64 n.sup.a) := id rfl
@[go_sem] theorem RIt.at22 (n : RIt) (h : 22 < n.arr.size) : n.arr[22] = .int .i64 n.sup.a := id rfl
@[go_sem] theorem RIt.get23 (n : RIt) : n.arr[23]? = some (.int .i64 n.sup.b) := id rfl
@[go_sem] theorem RIt.at23 (n : RIt) (h : 23 < n.arr.size) : n.arr[23] = .int .i64 n.sup.b := id rfl
@[go_sem] theorem RIt.get24 (n : RIt) : n.arr[24]? = some (.int .i64 n.sub.a) := id rfl
@[go_sem] theorem RIt.at24 (n : RIt) (h : 24 < n.arr.size) : n.arr[24] = .int .i64 n.sub.a := id rfl
@[go_sem] theorem RIt.get25 (n : RIt) : n.arr[25]? = some (.int .i64 n.sub.b) := id rfl
@[go_sem] theorem RIt.at25 (n : RIt) (h : 25 < n.arr.size) : n.arr[25] = .int .i64 n.sub.b := id rfl
@[go_sem] theorem RIt.set0 (n : RIt) (x : Int) : n.arr.setIfInBounds 0 (.int .i64 x) = ({ n with sign := { n.sign with kind := x } } : RIt).arr := id rfl
@[go_sem] theorem RIt.set1 (n : RIt) (x : Int) : n.arr.setIfInBounds 1 (.int .i64 x) = ({ n with sign := { n.sign with fam := x } } : RIt).arr := id rfl
@[go_sem] theorem RIt.set2 (n : RIt) (x : Int) : n.arr.setIfInBounds 2 (.int .u8 x) = ({ n with sign := { n.sign with char := x } } : RIt).arr := id rfl
@[go_sem] theorem RIt.set3 (n : RIt) (x : Int) : n.arr.setIfInBounds 3 (.int .i64 x) = ({ n with sign := { n.sign with n := x } } : RIt).arr := id rfl
@[go_sem] theorem RIt.set4 (n : RIt) (x : Int) : n.arr.setIfInBounds 4 (.int .i64 x) = ({ n with sign := { n.sign with glue := { n.sign.glue with nat := x } } } : RIt).arr := id rfl
@[go_sem] theorem RIt.set5 (n : RIt) (x : Int) : n.arr.setIfInBounds 5 (.int .i64 x) = ({ n with sign := { n.sign with glue := { n.sign.glue with str := x } } } : RIt).arr := id rfl
@[go_sem] theorem RIt.set6 (n : RIt) (x : Int) : n.arr.setIfInBounds 6 (.int .i64 x) = ({ n with sign := { n.sign with glue := { n.sign.glue with shr := x } } } : RIt).arr := id rfl
@[go_sem] theorem RIt.set7 (n : RIt) (x : Int) : n.arr.setIfInBounds 7 (.int .i64 x) = ({ n with sign := { n.sign with glue := { n.sign.glue with so := x } } } : RIt).arr := id rfl
@[go_sem] theorem RIt.set8 (n : RIt) (x : Int) : n.arr.setIfInBounds 8 (.int .i64 x) = ({ n with sign := { n.sign with glue := { n.sign.glue with ho := x } } } : RIt).arr := id rfl
@[go_sem] theorem RIt.set9 (n : RIt) (x : Int) : n.arr.setIfInBounds 9 (.int .i64 x) = ({ n with one := { n.one with a := x } } : RIt).arr := id rfl
@[go_sem] theorem RIt.set10 (n : RIt) (x : Int) : n.arr.setIfInBounds 10 (.int .i64 x) = ({ n with one := { n.one with b := x } } : RIt).arr := id rfl
@[go_sem] theorem RIt.set11 (n : RIt) (x : Int) : n.arr.setIfInBounds 11 (.int .i64 x) = ({ n with two := { n.two with a := x } } : RIt).arr := id rfl
@[go_sem] theorem RIt.set12 (n : RIt) (x : Int) : n.arr.setIfInBounds 12 (.int .i64 x) = ({ n with two := { n.two with b := x } } : RIt).arr := id rfl
@[go_sem] theorem RIt.set13 (n : RIt) (x : Int) : n.arr.setIfInBounds 13 (.int .i64 x) = ({ n with shut := { n.shut with kind := x } } : RIt).arr := id rfl
@[go_sem] theorem RIt.set14 (n : RIt) (x : Int) : n.arr.setIfInBounds 14 (.int .i64 x) = ({ n with shut := { n.shut with fam := x } } : RIt).arr := id rfl
@[go_sem] theorem RIt.set15 (n : RIt) (x : Int) : n.arr.setIfInBounds 15 (.int .u8 x) = ({ n with shut := { n.shut with char := x } } : RIt).arr := id rfl
@[go_sem] theorem RIt.set16 (n : RIt) (x : Int) : n.arr.setIfInBounds 16 (.int .i64 x) = ({ n with shut := { n.shut with n := x } } : RIt).arr := id rfl
@[go_sem] theorem RIt.set17 (n : RIt) (x : Int) : n.arr.setIfInBounds 17 (.int .i64 x) = ({ n with shut := { n.shut with glue := { n.shut.glue with nat := x } } } : RIt).arr := id rfl
@[go_sem] theorem RIt.set18 (n : RIt) (x : Int) : n.arr.setIfInBounds 18 (.int .i64 x) = ({ n with shut := { n.shut with glue := { n.shut.glue with str := x } } } : RIt).arr := id rfl
@[go_sem] theorem RIt.set19 (n : RIt) (x : Int) : n.arr.setIfInBounds 19 (.int .i64 x) = ({ n with shut := { n.shut with glue := { n.shut.glue with shr := x } } } : RIt).arr := id rfl
@[go_sem] theorem RIt.set20 (n : RIt) (x : Int) : n.arr.setIfInBounds 20 (.int .i64 x) = ({ n with shut := { n.shut with glue := { n.shut.glue with so := x } } } : RIt).arr := id rfl
@[go_sem] theorem RIt.set21 (n : RIt) (x : Int) : n.arr.setIfInBounds 21 (.int .i64 x) = ({ n with shut := { n.shut with glue := { n.shut.glue with ho := x } } } : RIt).arr := id rfl
@[go_sem] theorem RIt.set22 (n : RIt) (x : Int) : n.arr.setIfInBounds 22 (.int .i64 x) = ({ n with sup := { n.sup with a := x } } : RIt).arr := id rfl
@[go_sem] theorem RIt.set23 (n : RIt) (x : Int) : n.arr.setIfInBounds 23 (.int .i64 x) = ({ n with sup := { n.sup with b := x } } : RIt).arr := id rfl
@[go_sem] theorem RIt.set24 (n : RIt) (x : Int) : n.arr.setIfInBounds 24 (.int .i64 x) = ({ n with sub := { n.sub with a := x } } : RIt).arr := id rfl
@[go_sem] theorem RIt.set25 (n : RIt) (x : Int) : n.arr.setIfInBounds 25 (.int .i64 x) = ({ n with sub := { n.sub with b := x } } : RIt).arr := id rfl
@[go_sem] theorem RIt.lit (x0 : Int) (x1 : Int) (x2 : Int) (x3 : Int) (x4 : Int) (x5 : Int) (x6 : Int) (x7 : Int) (x8 : Int) (x9 : Int) (x10 : Int) (x11 : Int) (x12 : Int) (x13 : Int) (x14 : Int) (x15 : Int) (x16 : Int) (x17 : Int) (x18 : Int) (x19 : Int) (x20 : Int) (x21 : Int) (x22 : Int) (x23 : Int) (x24 : Int) (x25 : Int) : (#[.int .i64 x0, .int .i64 x1, .int .u8 x2, .int .i64 x3, .int .i64 x4, .int .i64 x5, .int .i64 x6, .int .i64 x7, .int .i64 x8, .int .i64 x9, .int .i64 x10, .int .i64 x11, .int .i64 x12, .int .i64 x13, .int .i64 x14, .int .u8 x15, .int .i64 x16, .int .i64 x17, .int .i64 x18, .int .i64 x19, .int .i64 x20, .int .i64 x21, .int .i64 x22, .int .i64 x23, .int .i64 x24, .int .i64 x25] : Array Value) = (RIt.mk ⟨x0, x1, x2, x3, ⟨x4, x5, x6, x7, x8⟩⟩ ⟨x9, x10⟩ ⟨x11, x12⟩ ⟨x13, x14, x15, x16, ⟨x17, x18, x19, x20, x21⟩⟩ ⟨x22, x23⟩ ⟨x24, x25⟩).arr := id rfl
@[go_sem] theorem RIt.sub_sign (n : RIt) : n.arr.extract 0 9 = n.sign.arr := id rfl
@[go_sem] theorem RIt.sub_one (n : RIt) : n.arr.extract 9 11 = n.one.arr := id rfl
@[go_sem] theorem RIt.sub_two (n : RIt) : n.arr.extract 11 13 = n.two.arr := id rfl
@[go_sem] theorem RIt.sub_shut (n : RIt) : n.arr.extract 13 22 = n.shut.arr := id rfl
@[go_sem] theorem RIt.sub_sup (n : RIt) : n.arr.extract 22 24 = n.sup.arr := id rfl
@[go_sem] theorem RIt.sub_sub (n : RIt) : n.arr.extract 24 26 = n.sub.arr := id rfl
@[go_sem] theorem agg?_RIt (w : World) (n : RIt) (t : TypeId) (fr : Nat × Nat) (b : Nat) (h : b = w.heap.size) : agg? (w.alloc (.cells n.arr t fr)) b 0 26 = some n.arr := by
  rw [agg?_alloc_at w n.arr t fr b 0 26 h (by simp [RIt.size_arr])]; simp [RIt.arr, RIt.cells]
@[go_sem] theorem agg?_RIt_sign (w : World) (n : RIt) (t : TypeId) (fr : Nat × Nat) (b : Nat) (h : b = w.heap.size) : agg? (w.alloc (.cells n.arr t fr)) b 0 9 = some n.sign.arr := by
  rw [agg?_alloc_at w n.arr t fr b 0 9 h (by simp [RIt.size_arr])]; rfl
@[go_sem] theorem agg?_RIt_one (w : World) (n : RIt) (t : TypeId) (fr : Nat × Nat) (b : Nat) (h : b = w.heap.size) : agg? (w.alloc (.cells n.arr t fr)) b 9 2 = some n.one.arr := by
  rw [agg?_alloc_at w n.arr t fr b 9 2 h (by simp [RIt.size_arr])]; rfl
@[go_sem] theorem agg?_RIt_two (w : World) (n : RIt) (t : TypeId) (fr : Nat × Nat) (b : Nat) (h : b = w.heap.size) : agg? (w.alloc (.cells n.arr t fr)) b 11 2 = some n.two.arr := by
  rw [agg?_alloc_at w n.arr t fr b 11 2 h (by simp [RIt.size_arr])]; rfl
@[go_sem] theorem agg?_RIt_shut (w : World) (n : RIt) (t : TypeId) (fr : Nat × Nat) (b : Nat) (h : b = w.heap.size) : agg? (w.alloc (.cells n.arr t fr)) b 13 9 = some n.shut.arr := by
  rw [agg?_alloc_at w n.arr t fr b 13 9 h (by simp [RIt.size_arr])]; rfl
@[go_sem] theorem agg?_RIt_sup (w : World) (n : RIt) (t : TypeId) (fr : Nat × Nat) (b : Nat) (h : b = w.heap.size) : agg? (w.alloc (.cells n.arr t fr)) b 22 2 = some n.sup.arr := by
  rw [agg?_alloc_at w n.arr t fr b 22 2 h (by simp [RIt.size_arr])]; rfl
@[go_sem] theorem agg?_RIt_sub (w : World) (n : RIt) (t : TypeId) (fr : Nat × Nat) (b : Nat) (h : b = w.heap.size) : agg? (w.alloc (.cells n.arr t fr)) b 24 2 = some n.sub.arr := by
  rw [agg?_alloc_at w n.arr t fr b 24 2 h (by simp [RIt.size_arr])]; rfl
theorem setMany_RIt (n m : RIt) : setMany n.arr 0 m.cells = m.arr := by
  simp only [RIt.cells, setMany, Nat.reduceAdd, RIt.set0, RIt.set1, RIt.set2, RIt.set3, RIt.set4, RIt.set5, RIt.set6, RIt.set7, RIt.set8, RIt.set9, RIt.set10, RIt.set11, RIt.set12, RIt.set13, RIt.set14, RIt.set15, RIt.set16, RIt.set17, RIt.set18, RIt.set19, RIt.set20, RIt.set21, RIt.set22, RIt.set23, RIt.set24, RIt.set25]
@[go_sem] theorem setAgg_RIt (w : World) (n m : RIt) (t : TypeId) (b : Nat) (h : b = w.heap.size) : setAgg (w.alloc (.cells n.arr t)) b 0 m.arr = w.alloc (.cells m.arr t) := by
  subst h
  unfold setAgg
  rw [setCells_alloc_at, show m.arr.toList = m.cells from rfl, setMany_RIt]
theorem setMany_RIt_sign (n : RIt) (g : Sn) : setMany n.arr 0 g.cells = ({ n with sign := g } : RIt).arr := by
  simp only [Sn.cells, setMany, Nat.reduceAdd, RIt.set0, RIt.set1, RIt.set2, RIt.set3, RIt.set4, RIt.set5, RIt.set6, RIt.set7, RIt.set8]
@[go_sem] theorem setAgg_RIt_sign (w : World) (n : RIt) (g : Sn) (t : TypeId) (b : Nat) (h : b = w.heap.size) : setAgg (w.alloc (.cells n.arr t)) b 0 g.arr = w.alloc (.cells ({ n with sign := g } : RIt).arr t) := by
  subst h
  unfold setAgg
  rw [setCells_alloc_at, show g.arr.toList = g.cells from rfl, setMany_RIt_sign]
theorem setMany_RIt_one (n : RIt) (g : Pr) : setMany n.arr 9 g.cells = ({ n with one := g } : RIt).arr := by
  simp only [Pr.cells, setMany, Nat.reduceAdd, RIt.set9, RIt.set10]
@[go_sem] theorem setAgg_RIt_one (w : World) (n : RIt) (g : Pr) (t : TypeId) (b : Nat) (h : b = w.heap.size) : setAgg (w.alloc (.cells n.arr t)) b 9 g.arr = w.alloc (.cells ({ n with one := g } : RIt).arr t) := by
  subst h
  unfold setAgg
  rw [setCells_alloc_at, show g.arr.toList = g.cells from rfl, setMany_RIt_one]
theorem setMany_RIt_two (n : RIt) (g : Pr) : setMany n.arr 11 g.cells = ({ n with two := g } : RIt).arr := by
  simp only [Pr.cells, setMany, Nat.reduceAdd, RIt.set11, RIt.set12]
@[go_sem] theorem setAgg_RIt_two (w : World) (n : RIt) (g : Pr) (t : TypeId) (b : Nat) (h : b = w.heap.size) : setAgg (w.alloc (.cells n.arr t)) b 11 g.arr = w.alloc (.cells ({ n with two := g } : RIt).arr t) := by
  subst h
  unfold setAgg
  rw [setCells_alloc_at, show g.arr.toList = g.cells from rfl, setMany_RIt_two]
theorem setMany_RIt_shut (n : RIt) (g : Sn) : setMany n.arr 13 g.cells = ({ n with shut := g } : RIt).arr := by
  simp only [Sn.cells, setMany, Nat.reduceAdd, RIt.set13, RIt.set14, RIt.set15, RIt.set16, RIt.set17, RIt.set18, RIt.set19, RIt.set20, RIt.set21]
@[go_sem] theorem setAgg_RIt_shut (w : World) (n : RIt) (g : Sn) (t : TypeId) (b : Nat) (h : b = w.heap.size) : setAgg (w.alloc (.cells n.arr t)) b 13 g.arr = w.alloc (.cells ({ n with shut := g } : RIt).arr t) := by
  subst h
  unfold setAgg
  rw [setCells_alloc_at, show g.arr.toList = g.cells from rfl, setMany_RIt_shut]
theorem setMany_RIt_sup (n : RIt) (g : Pr) : setMany n.arr 22 g.cells = ({ n with sup := g } : RIt).arr := by
  simp only [Pr.cells, setMany, Nat.reduceAdd, RIt.set22, RIt.set23]
@[go_sem] theorem setAgg_RIt_sup (w : World) (n : RIt) (g : Pr) (t : TypeId) (b : Nat) (h : b = w.heap.size) : setAgg (w.alloc (.cells n.arr t)) b 22 g.arr = w.alloc (.cells ({ n with sup := g } : RIt).arr t) := by
  subst h
  unfold setAgg
  rw [setCells_alloc_at, show g.arr.toList = g.cells from rfl, setMany_RIt_sup]
theorem setMany_RIt_sub (n : RIt) (g : Pr) : setMany n.arr 24 g.cells = ({ n with sub := g } : RIt).arr := by
  simp only [Pr.cells, setMany, Nat.reduceAdd, RIt.set24, RIt.set25]
@[go_sem] theorem setAgg_RIt_sub (w : World) (n : RIt) (g : Pr) (t : TypeId) (b : Nat) (h : b = w.heap.size) : setAgg (w.alloc (.cells n.arr t)) b 24 g.arr = w.alloc (.cells ({ n with sub := g } : RIt).arr t) := by
  subst h
  unfold setAgg
  rw [setCells_alloc_at, show g.arr.toList = g.cells from rfl, setMany_RIt_sub]

theorem RIt.one' (n : RIt) : n.arr.all (·.oneCell') = true := by simp [RIt.arr, RIt.cells, Value.oneCell']
def RIt.zero : RIt := ⟨.zero, .zero, .zero, .zero, .zero, .zero⟩

theorem u_RIt : Try.prog.underlying 152 = some (.struct (Try.prog.fieldsOf 152)) := by kernel_rfl
theorem i_RIt : (Try.prog.info? 152).map (·.size) = some 26 := by kernel_rfl
@[go_sem ↓] theorem execOp_loadRIt (ρ : Operand → Value) (dst : Option Tmp) (x : Operand) (ty : TypeId) (pos : String) (after : Array Edge) (guard : Option (Nat × Bool)) :
    execOp ρ { dst, op := .load 152 x, type := ty, pos, after, guard } = (do pure (.value (← ldOp 152 (ρ x)))) := rfl
@[go_sem ↓] theorem execOp_storeRIt (ρ : Operand → Value) (dst : Option Tmp) (x y : Operand) (ty : TypeId) (pos : String) (after : Array Edge) (guard : Option (Nat × Bool)) :
    execOp ρ { dst, op := .store 152 x y, type := ty, pos, after, guard } = (do stOp 152 (ρ x) (ρ y); pure .skip) := rfl
@[go_sem] theorem run_loadRIt (b o : Nat) (w : World) : (ldOp 152 (.pointer (some ⟨b, o, none⟩))).run Try.prog w = ldRow Try.prog 152 b o w (agg? w b o 26) := run_loadAt_row _ _ _ u_RIt rfl i_RIt b o w
theorem ret_RIt {fn : Func} {R : Ending → World → Prop} {a : Act} {w : World} {p : Tmp} (h : fn.results = #[.cell p 152]) (b o : Nat) (n : RIt) (hp : a.tmps.getD p undef = .pointer (some ⟨b, o, none⟩)) (hc : agg? w b o 26 = some n.arr) (hdf : a.defers = []) (hR : R (.returned (.agg n.arr)) w) : bodyPost Try.prog fn R .ret a w :=
  ret_row _ _ _ u_RIt rfl i_RIt h b o _ hp hc hdf hR
@[go_sem] theorem run_storeRIt (b o : Nat) (n : RIt) (w : World) : (stOp 152 (.pointer (some ⟨b, o, none⟩)) (.agg n.arr)).run Try.prog w = stRow Try.prog 152 b o n.arr w (there? w b o 26) := run_storeAt_row _ _ i_RIt b o _ (RIt.size_arr n) (RIt.one' n) w

def bdPr (parts : Array (Nat × Value)) : Sem Value := Instr.build 150 parts
@[go_sem ↓] theorem execOp_buildPr (ρ : Operand → Value) (dst : Option Tmp) (x : Array (Nat × Operand)) (ty : TypeId) (pos : String) (after : Array Edge) (guard : Option (Nat × Bool)) :
    execOp ρ { dst, op := .build 150 x, type := ty, pos, after, guard } = (do pure (.value (← bdPr (x.map fun (i, y) => (i, ρ y))))) := rfl
@[go_sem] theorem run_bdPr_0 (w : World) : (bdPr #[]).run Try.prog w = .ok (.agg Pr.zero.arr) w := by kernel_rfl
@[go_sem] theorem run_bdPr_ab (a b : Int) (w : World) : (bdPr #[(0, .int .i64 a), (1, .int .i64 b)]).run Try.prog w = .ok (.agg (Pr.mk a b).arr) w := by kernel_rfl
def bdRIt (parts : Array (Nat × Value)) : Sem Value := Instr.build 152 parts
@[go_sem ↓] theorem execOp_buildRIt (ρ : Operand → Value) (dst : Option Tmp) (x : Array (Nat × Operand)) (ty : TypeId) (pos : String) (after : Array Edge) (guard : Option (Nat × Bool)) :
    execOp ρ { dst, op := .build 152 x, type := ty, pos, after, guard } = (do pure (.value (← bdRIt (x.map fun (i, y) => (i, ρ y))))) := rfl
@[go_sem] theorem run_bdRIt_4 (a b c d : Pr) (w : World) : (bdRIt #[(1, .agg a.arr), (2, .agg b.arr), (4, .agg c.arr), (5, .agg d.arr)]).run Try.prog w = .ok (.agg ({ RIt.zero with one := a, two := b, sup := c, sub := d } : RIt).arr) w := by kernel_rfl
def bdRSn (parts : Array (Nat × Value)) : Sem Value := Instr.build 105 parts
@[go_sem ↓] theorem execOp_buildRSn (ρ : Operand → Value) (dst : Option Tmp) (x : Array (Nat × Operand)) (ty : TypeId) (pos : String) (after : Array Edge) (guard : Option (Nat × Bool)) :
    execOp ρ { dst, op := .build 105 x, type := ty, pos, after, guard } = (do pure (.value (← bdRSn (x.map fun (i, y) => (i, ρ y))))) := rfl
@[go_sem] theorem run_bdRSn_0 (w : World) : (bdRSn #[]).run Try.prog w = .ok (.agg Sn.zero.arr) w := by kernel_rfl

end Go.Proofs.Ytkkdopfdoommnaa
