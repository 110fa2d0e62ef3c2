/-
  Layer 20: an item of a formula as a Lean structure.
-/
import Derived.Test.YtkkdopfdoommnaaMBase
namespace Go.Proofs.Ytkkdopfdoommnaa
open Go.ChangeShapes Go.WideShapes Go.ChangeAt Go.RowKit


structure It where
  sign : Sn
  fieldsA : Option Addr
  fieldsN : Nat
  fieldsC : Nat
  right : Sn
  sup : Option Addr
  sub : Option Addr
deriving Inhabited, DecidableEq
def It.cells (n : It) : List Value := [.int .i64 n.sign.kind, .int .i64 n.sign.fam, .int .u8 n.sign.char, .int .i64 n.sign.n, .int .i64 n.sign.glue.nat, .int .i64 n.sign.glue.str, .int .i64 n.sign.glue.shr, .int .i64 n.sign.glue.so, .int .i64 n.sign.glue.ho, .slice n.fieldsA n.fieldsN n.fieldsC, .int .i64 n.right.kind, .int .i64 n.right.fam, .int .u8 n.right.char, .int .i64 n.right.n, .int .i64 n.right.glue.nat, .int .i64 n.right.glue.str, .int .i64 n.right.glue.shr, .int .i64 n.right.glue.so, .int .i64 n.right.glue.ho, .pointer n.sup, .pointer n.sub]
def It.arr (n : It) : Array Value := n.cells.toArray
@[go_sem] theorem It.size_arr (n : It) : n.arr.size = 21 := id rfl
@[go_sem] theorem It.get0 (n : It) : n.arr[0]? = some (.int .i64 n.sign.kind) := id rfl
@[go_sem] theorem It.at0 (n : It) (h : 0 < n.arr.size) : n.arr[0] = .int .i64 n.sign.kind := id rfl
@[go_sem] theorem It.get1 (n : It) : n.arr[1]? = some (.int .i64 n.sign.fam) := id rfl
@[go_sem] theorem It.at1 (n : It) (h : 1 < n.arr.size) : n.arr[1] = .int .i64 n.sign.fam := id rfl
@[go_sem] theorem It.get2 (n : It) : n.arr[2]? = some (.int .u8 n.sign.char) := id rfl
@[go_sem] theorem It.at2 (n : It) (h : 2 < n.arr.size) : n.arr[2] = .int .u8 n.sign.char := id rfl
@[go_sem] theorem It.get3 (n : It) : n.arr[3]? = some (.int .i64 n.sign.n) := id rfl
@[go_sem] theorem It.at3 (n : It) (h : 3 < n.arr.size) : n.arr[3] = .int .i64 n.sign.n := id rfl
@[go_sem] theorem It.get4 (n : It) : n.arr[4]? = some (.int .i64 n.sign.glue.nat) := id rfl
@[go_sem] theorem It.at4 (n : It) (h : 4 < n.arr.size) : n.arr[4] = .int .i64 n.sign.glue.nat := id rfl
@[go_sem] theorem It.get5 (n : It) : n.arr[5]? = some (.int .i64 n.sign.glue.str) := id rfl
@[go_sem] theorem It.at5 (n : It) (h : 5 < n.arr.size) : n.arr[5] = .int .i64 n.sign.glue.str := id rfl
@[go_sem] theorem It.get6 (n : It) : n.arr[6]? = some (.int .i64 n.sign.glue.shr) := id rfl
@[go_sem] theorem It.at6 (n : It) (h : 6 < n.arr.size) : n.arr[6] = .int .i64 n.sign.glue.shr := id rfl
@[go_sem] theorem It.get7 (n : It) : n.arr[7]? = some (.int .i64 n.sign.glue.so) := id rfl
@[go_sem] theorem It.at7 (n : It) (h : 7 < n.arr.size) : n.arr[7] = .int .i64 n.sign.glue.so := id rfl
@[go_sem] theorem It.get8 (n : It) : n.arr[8]? = some (.int .i64 n.sign.glue.ho) := id rfl
@[go_sem] theorem It.at8 (n : It) (h : 8 < n.arr.size) : n.arr[8] = .int .i64 n.sign.glue.ho := id rfl
@[go_sem] theorem It.get9 (n : It) : n.arr[9]? = some (.slice n.fieldsA n.fieldsN n.fieldsC) := id rfl
@[go_sem] theorem It.at9 (n : It) (h : 9 < n.arr.size) : n.arr[9] = .slice n.fieldsA n.fieldsN n.fieldsC := id rfl
@[go_sem] theorem It.get10 (n : It) : n.arr[10]? = some (.int .i64 n.right.kind) := id rfl
@[go_sem] theorem It.at10 (n : It) (h : 10 < n.arr.size) : n.arr[10] = .int .i64 n.right.kind := id rfl
@[go_sem] theorem It.get11 (n : It) : n.arr[11]? = some (.int .i64 n.right.fam) := id rfl
@[go_sem] theorem It.at11 (n : It) (h : 11 < n.arr.size) : n.arr[11] = .int .i64 n.right.fam := id rfl
@[go_sem] theorem It.get12 (n : It) : n.arr[12]? = some (.int .u8 n.right.char) := id rfl
@[go_sem] theorem It.at12 (n : It) (h : 12 < n.arr.size) : n.arr[12] = .int .u8 n.right.char := id rfl
@[go_sem] theorem It.get13 (n : It) : n.arr[13]? = some (.int .i64 n.right.n) := id rfl
@[go_sem] theorem It.at13 (n : It) (h : 13 < n.arr.size) : n.arr[13] = .int .i64 n.right.n := id rfl
@[go_sem] theorem It.get14 (n : It) : n.arr[14]? = some (.int .i64 n.right.glue.nat) := id rfl
@[go_sem] theorem It.at14 (n : It) (h : 14 < n.arr.size) : n.arr[14] = .int .i64 n.right.glue.nat := id rfl
@[go_sem] theorem It.get15 (n : It) : n.arr[15]? = some (.int .i64 n.right.glue.str) := id rfl
@[go_sem] theorem It.at15 (n : It) (h : 15 < n.arr.size) : n.arr[15] = .int .i64 n.right.glue.str := id rfl
@[go_sem] theorem It.get16 (n : It) : n.arr[16]? = some (.int .i64 n.right.glue.shr) := id rfl
@[go_sem] theorem It.at16 (n : It) (h : 16 < n.arr.size) : n.arr[16] = .int .i64 n.right.glue.shr := id rfl
@[go_sem] theorem It.get17 (n : It) : n.arr[17]? = some (.int .i64 n.right.glue.so) := id rfl
@[go_sem] theorem It.at17 (n : It) (h : 17 < n.arr.size) : n.arr[17] = .int .i64 n.right.glue.so := id rfl
@[go_sem] theorem It.get18 (n : It) : n.arr[18]? = some (.int .i64 n.right.glue.ho) := id rfl
@[go_sem] theorem It.at18 (n : It) (h : 18 < n.arr.size) : n.arr[18] = .int .i64 n.right.glue.ho := id rfl
@[go_sem] theorem It.get19 (n : It) : n.arr[19]? = some (.pointer n.sup) := id rfl
@[go_sem] theorem It.at19 (n : It) (h : 19 < n.arr.size) : n.arr[19] = .pointer n.sup := id rfl
@[go_sem] theorem It.get20 (n : It) : n.arr[20]? = some (.pointer n.sub) := id rfl
@[go_sem] theorem It.at20 (n : It) (h : 20 < n.arr.size) : n.arr[20] = .pointer n.sub := id rfl
@[go_sem] theorem It.set0 (n : It) (x : Int) : n.arr.setIfInBounds 0 (.int .i64 x) = ({ n with sign := { n.sign with kind := x } } : It).arr := id rfl
@[go_sem] theorem It.set1 (n : It) (x : Int) : n.arr.setIfInBounds 1 (.int .i64 x) = ({ n with sign := { n.sign with fam := x } } : It).arr := id rfl
@[go_sem] theorem It.set2 (n : It) (x : Int) : n.arr.setIfInBounds 2 (.int .u8 x) = ({ n with sign := { n.sign with char := x } } : It).arr := id rfl
@[go_sem] theorem It.set3 (n : It) (x : Int) : n.arr.setIfInBounds 3 (.int .i64 x) = ({ n with sign := { n.sign with n := x } } : It).arr := id rfl
@[go_sem] theorem It.set4 (n : It) (x : Int) : n.arr.setIfInBounds 4 (.int .i64 x) = ({ n with sign := { n.sign with glue := { n.sign.glue with nat := x } } } : It).arr := id rfl
@[go_sem] theorem It.set5 (n : It) (x : Int) : n.arr.setIfInBounds 5 (.int .i64 x) = ({ n with sign := { n.sign with glue := { n.sign.glue with str := x } } } : It).arr := id rfl
@[go_sem] theorem It.set6 (n : It) (x : Int) : n.arr.setIfInBounds 6 (.int .i64 x) = ({ n with sign := { n.sign with glue := { n.sign.glue with shr := x } } } : It).arr := id rfl
@[go_sem] theorem It.set7 (n : It) (x : Int) : n.arr.setIfInBounds 7 (.int .i64 x) = ({ n with sign := { n.sign with glue := { n.sign.glue with so := x } } } : It).arr := id rfl
@[go_sem] theorem It.set8 (n : It) (x : Int) : n.arr.setIfInBounds 8 (.int .i64 x) = ({ n with sign := { n.sign with glue := { n.sign.glue with ho := x } } } : It).arr := id rfl
@[go_sem] theorem It.set9 (n : It) (xA : Option Addr) (xN xC : Nat) : n.arr.setIfInBounds 9 (.slice xA xN xC) = ({ n with fieldsA := xA, fieldsN := xN, fieldsC := xC } : It).arr := id rfl
@[go_sem] theorem It.set10 (n : It) (x : Int) : n.arr.setIfInBounds 10 (.int .i64 x) = ({ n with right := { n.right with kind := x } } : It).arr := id rfl
@[go_sem] theorem It.set11 (n : It) (x : Int) : n.arr.setIfInBounds 11 (.int .i64 x) = ({ n with right := { n.right with fam := x } } : It).arr := id rfl
@[go_sem] theorem It.set12 (n : It) (x : Int) : n.arr.setIfInBounds 12 (.int .u8 x) = ({ n with right := { n.right with char := x } } : It).arr := id rfl
@[go_sem] theorem It.set13 (n : It) (x : Int) : n.arr.setIfInBounds 13 (.int .i64 x) = ({ n with right := { n.right with n := x } } : It).arr := id rfl
@[go_sem] theorem It.set14 (n : It) (x : Int) : n.arr.setIfInBounds 14 (.int .i64 x) = ({ n with right := { n.right with glue := { n.right.glue with nat := x } } } : It).arr := id rfl
@[go_sem] theorem It.set15 (n : It) (x : Int) : n.arr.setIfInBounds 15 (.int .i64 x) = ({ n with right := { n.right with glue := { n.right.glue with str := x } } } : It).arr := id rfl
@[go_sem] theorem It.set16 (n : It) (x : Int) : n.arr.setIfInBounds 16 (.int .i64 x) = ({ n with right := { n.right with glue := { n.right.glue with shr := x } } } : It).arr := id rfl
@[go_sem] theorem It.set17 (n : It) (x : Int) : n.arr.setIfInBounds 17 (.int .i64 x) = ({ n with right := { n.right with glue := { n.right.glue with so := x } } } : It).arr := id rfl
@[go_sem] theorem It.set18 (n : It) (x : Int) : n.arr.setIfInBounds 18 (.int .i64 x) = ({ n with right := { n.right with glue := { n.right.glue with ho := x } } } : It).arr := id rfl
@[go_sem] theorem It.set19 (n : It) (x : Option Addr) : n.arr.setIfInBounds 19 (.pointer x) = ({ n with sup := x } : It).arr := id rfl
@[go_sem] theorem It.set20 (n : It) (x : Option Addr) : n.arr.setIfInBounds 20 (.pointer x) = ({ n with sub := x } : It).arr := id rfl
@[go_sem] theorem It.lit (x0 : Int) (x1 : Int) (x2 : Int) (x3 : Int) (x4 : Int) (x5 : Int) (x6 : Int) (x7 : Int) (x8 : Int) (x9A : Option Addr) (x9N x9C : Nat) (x10 : Int) (x11 : Int) (x12 : Int) (x13 : Int) (x14 : Int) (x15 : Int) (x16 : Int) (x17 : Int) (x18 : Int) (x19 : Option Addr) (x20 : Option Addr) : (#[.int .i64 x0, .int .i64 x1, .int .u8 x2, .int .i64 x3, .int .i64 x4, .int .i64 x5, .int .i64 x6, .int .i64 x7, .int .i64 x8, .slice x9A x9N x9C, .int .i64 x10, .int .i64 x11, .int .u8 x12, .int .i64 x13, .int .i64 x14, .int .i64 x15, .int .i64 x16, .int .i64 x17, .int .i64 x18, .pointer x19, .pointer x20] : Array Value) = (It.mk ⟨x0, x1, x2, x3, ⟨x4, x5, x6, x7, x8⟩⟩ x9A x9N x9C ⟨x10, x11, x12, x13, ⟨x14, x15, x16, x17, x18⟩⟩ x19 x20).arr := id rfl
@[go_sem] theorem It.sub_sign (n : It) : n.arr.extract 0 9 = n.sign.arr := id rfl
@[go_sem] theorem It.sub_right (n : It) : n.arr.extract 10 19 = n.right.arr := id rfl
@[go_sem] theorem agg?_It (w : World) (n : It) (t : TypeId) (fr : Nat × Nat) (b : Nat) (h : b = w.heap.size) : agg? (w.alloc (.cells n.arr t fr)) b 0 21 = some n.arr := by
  rw [agg?_alloc_at w n.arr t fr b 0 21 h (by simp [It.size_arr])]; simp [It.arr, It.cells]
@[go_sem] theorem agg?_It_sign (w : World) (n : It) (t : TypeId) (fr : Nat × Nat) (b : Nat) (h : b = w.heap.size) : agg? (w.alloc (.cells n.arr t fr)) b 0 9 = some n.sign.arr := by
  rw [agg?_alloc_at w n.arr t fr b 0 9 h (by simp [It.size_arr])]; rfl
@[go_sem] theorem agg?_It_right (w : World) (n : It) (t : TypeId) (fr : Nat × Nat) (b : Nat) (h : b = w.heap.size) : agg? (w.alloc (.cells n.arr t fr)) b 10 9 = some n.right.arr := by
  rw [agg?_alloc_at w n.arr t fr b 10 9 h (by simp [It.size_arr])]; rfl
theorem setMany_It (n m : It) : setMany n.arr 0 m.cells = m.arr := by
  simp only [It.cells, setMany, Nat.reduceAdd, It.set0, It.set1, It.set2, It.set3, It.set4, It.set5, It.set6, It.set7, It.set8, It.set9, It.set10, It.set11, It.set12, It.set13, It.set14, It.set15, It.set16, It.set17, It.set18, It.set19, It.set20]
@[go_sem] theorem setAgg_It (w : World) (n m : It) (t : TypeId) (b : Nat) (h : b = w.heap.size) : setAgg (w.alloc (.cells n.arr t)) b 0 m.arr = w.alloc (.cells m.arr t) := by
  subst h
  unfold setAgg
  rw [setCells_alloc_at, show m.arr.toList = m.cells from rfl, setMany_It]
theorem setMany_It_sign (n : It) (g : Sn) : setMany n.arr 0 g.cells = ({ n with sign := g } : It).arr := by
  simp only [Sn.cells, setMany, Nat.reduceAdd, It.set0, It.set1, It.set2, It.set3, It.set4, It.set5, It.set6, It.set7, It.set8]
@[go_sem] theorem setAgg_It_sign (w : World) (n : It) (g : Sn) (t : TypeId) (b : Nat) (h : b = w.heap.size) : setAgg (w.alloc (.cells n.arr t)) b 0 g.arr = w.alloc (.cells ({ n with sign := g } : It).arr t) := by
  subst h
  unfold setAgg
  rw [setCells_alloc_at, show g.arr.toList = g.cells from rfl, setMany_It_sign]
theorem setMany_It_right (n : It) (g : Sn) : setMany n.arr 10 g.cells = ({ n with right := g } : It).arr := by
  simp only [Sn.cells, setMany, Nat.reduceAdd, It.set10, It.set11, It.set12, It.set13, It.set14, It.set15, It.set16, It.set17, It.set18]
@[go_sem] theorem setAgg_It_right (w : World) (n : It) (g : Sn) (t : TypeId) (b : Nat) (h : b = w.heap.size) : setAgg (w.alloc (.cells n.arr t)) b 10 g.arr = w.alloc (.cells ({ n with right := g } : It).arr t) := by
  subst h
  unfold setAgg
  rw [setCells_alloc_at, show g.arr.toList = g.cells from rfl, setMany_It_right]

theorem It.one (n : It) : n.arr.all (·.oneCell') = true := by simp [It.arr, It.cells, Value.oneCell']
def It.zero : It := ⟨.zero, none, 0, 0, .zero, none, none⟩

theorem u_It : Try.prog.underlying 145 = some (.struct (Try.prog.fieldsOf 145)) := by kernel_rfl
theorem i_It : (Try.prog.info? 145).map (·.size) = some 21 := by kernel_rfl
@[go_sem ↓] theorem execOp_loadIt (ρ : Operand → Value) (dst : Option Tmp) (x : Operand) (ty : TypeId) (pos : String) (after : Array Edge) (guard : Option (Nat × Bool)) :
    execOp ρ { dst, op := .load 145 x, type := ty, pos, after, guard } = (do pure (.value (← ldOp 145 (ρ x)))) := rfl
@[go_sem ↓] theorem execOp_storeIt (ρ : Operand → Value) (dst : Option Tmp) (x y : Operand) (ty : TypeId) (pos : String) (after : Array Edge) (guard : Option (Nat × Bool)) :
    execOp ρ { dst, op := .store 145 x y, type := ty, pos, after, guard } = (do stOp 145 (ρ x) (ρ y); pure .skip) := rfl
@[go_sem] theorem run_loadIt (b o : Nat) (w : World) : (ldOp 145 (.pointer (some ⟨b, o, none⟩))).run Try.prog w = ldRow Try.prog 145 b o w (agg? w b o 21) := run_loadAt_row _ _ _ u_It rfl i_It b o w
theorem ret_It {fn : Func} {R : Ending → World → Prop} {a : Act} {w : World} {p : Tmp} (h : fn.results = #[.cell p 145]) (b o : Nat) (n : It) (hp : a.tmps.getD p undef = .pointer (some ⟨b, o, none⟩)) (hc : agg? w b o 21 = some n.arr) (hdf : a.defers = []) (hR : R (.returned (.agg n.arr)) w) : bodyPost Try.prog fn R .ret a w :=
  ret_row _ _ _ u_It rfl i_It h b o _ hp hc hdf hR
@[go_sem] theorem run_storeIt (b o : Nat) (n : It) (w : World) : (stOp 145 (.pointer (some ⟨b, o, none⟩)) (.agg n.arr)).run Try.prog w = stRow Try.prog 145 b o n.arr w (there? w b o 21) := run_storeAt_row _ _ i_It b o _ (It.size_arr n) (It.one n) w

def bdIt (parts : Array (Nat × Value)) : Sem Value := Instr.build 145 parts
@[go_sem ↓] theorem execOp_buildIt (ρ : Operand → Value) (dst : Option Tmp) (x : Array (Nat × Operand)) (ty : TypeId) (pos : String) (after : Array Edge) (guard : Option (Nat × Bool)) :
    execOp ρ { dst, op := .build 145 x, type := ty, pos, after, guard } = (do pure (.value (← bdIt (x.map fun (i, y) => (i, ρ y))))) := rfl
@[go_sem] theorem run_bdIt_s (s : Sn) (w : World) : (bdIt #[(0, .agg s.arr)]).run Try.prog w = .ok (.agg ({ It.zero with sign := s } : It).arr) w := by kernel_rfl

end Go.Proofs.Ytkkdopfdoommnaa
