/-
  Structs of the program as Lean structures: what a variable of such a type reads as, how it is stored, field by field. No statement of the seat stands here.
-/
import Derived.Test.YtomehdepjenilaaGreatRows
import Derived.WalkKit
import Derived.ProofKit
import Derived.OpenShut
import Derived.Lib.Hide
import Derived.WalkLawsBesides
import Derived.WalkSpells
import Derived.Deep.MidRow
import Derived.Deep.WholeRow
import Derived.Maps.Own
import Derived.Maps.OwnOps
namespace Go.Proofs.YtomehdepjenilaaGreat
open Go.ChangeShapes Go.WideShapes Go.ChangeAt Go.RowKit

/-! ### Whole structs out of and into memory, over any program -/
def agg? (w : World) (b o n : Nat) : Option (Array Value) :=
  match w.heap[b]? with
  | some (.cells c _ _) => if o + n ≤ c.size then some (c.extract o (o + n)) else none
  | _ => none
def ldNone (P : Program) (ty : TypeId) (b o : Nat) (w : World) : Result Value := (Instr.loadAt ty (.pointer (some ⟨b, o, none⟩))).run P w
def ldRow (P : Program) (ty : TypeId) (b o : Nat) (w : World) : Option (Array Value) → Result Value
  | some c => .ok (.agg c) w
  | none => ldNone P ty b o w
@[go_sem] theorem ldRow_some (P : Program) (ty : TypeId) (b o : Nat) (w : World) (c : Array Value) : ldRow P ty b o w (some c) = .ok (.agg c) w := rfl

theorem rangeAt_of_agg? {w : World} {b o n : Nat} {c : Array Value} (h : agg? w b o n = some c) : c.size = n ∧ w.rangeAt b o c.toList := by
  unfold agg? at h
  split at h
  · rename_i C t fr hb
    split at h
    · rename_i hle
      cases h
      refine ⟨by simp; omega, fun j v hv => ?_⟩
      simp only [World.cell?, hb, Option.isSome_none, Bool.false_eq_true, if_false]
      simp only [Array.getElem?_toList, Array.getElem?_extract] at hv
      split at hv
      · exact hv
      · cases hv
    · cases h
  · cases h

theorem run_loadAt_row {P : Program} (ty : TypeId) (n : Nat) (d : TypeDesc) (hu : P.underlying ty = some d) (hd : d.isRow = true) (hi : (P.info? ty).map (·.size) = some n) (b o : Nat) (w : World) :
    (Instr.loadAt ty (.pointer (some ⟨b, o, none⟩))).run P w = ldRow P ty b o w (agg? w b o n) := by
  cases h : agg? w b o n with
  | none => rfl
  | some c =>
    obtain ⟨hs, hr⟩ := rangeAt_of_agg? h
    have := run_loadAt_mid (P := P) w b o ty c.toList d hr hu hd (by rw [hi]; simp [hs])
    rw [ldRow_some]; simpa using this

@[go_sem] theorem agg?_drew (w : World) (b o n : Nat) : agg? w.drew b o n = agg? w b o n := rfl
@[go_sem] theorem agg?_alloc_past (w : World) (ob : Obj) (b o n : Nat) (h : b < w.heap.size) : agg? (w.alloc ob) b o n = agg? w b o n := by
  unfold agg?; rw [Below.heap_alloc w ob b h]
theorem agg?_alloc_at (w : World) (c : Array Value) (t : TypeId) (fr : Nat × Nat) (b o n : Nat) (h : b = w.heap.size) (hn : o + n ≤ c.size) : agg? (w.alloc (.cells c t fr)) b o n = some (c.extract o (o + n)) := by
  subst h; unfold agg?; rw [heap_alloc_new]; simp [hn]
theorem agg?_lt {w : World} {b o n : Nat} {c : Array Value} (h : agg? w b o n = some c) : b < w.heap.size := by
  unfold agg? at h
  split at h
  · rename_i hb; exact (Array.getElem?_eq_some_iff.1 hb).1
  · cases h

/-! ### Glue -/
structure Gl where
  nat : Int
  str : Int
  shr : Int
  so : Int
  ho : Int
deriving Inhabited, DecidableEq
def Gl.cells (g : Gl) : List Value := [.int .i64 g.nat, .int .i64 g.str, .int .i64 g.shr, .int .i64 g.so, .int .i64 g.ho]
def Gl.arr (g : Gl) : Array Value := g.cells.toArray
def Gl.zero : Gl := ⟨0, 0, 0, 0, 0⟩
@[go_sem] theorem Gl.size_arr (g : Gl) : g.arr.size = 5 := id rfl
@[go_sem] theorem Gl.get0 (g : Gl) : g.arr[0]? = some (.int .i64 g.nat) := id rfl
@[go_sem] theorem Gl.at0 (g : Gl) (h : 0 < g.arr.size) : g.arr[0] = .int .i64 g.nat := id rfl
@[go_sem] theorem Gl.get1 (g : Gl) : g.arr[1]? = some (.int .i64 g.str) := id rfl
@[go_sem] theorem Gl.at1 (g : Gl) (h : 1 < g.arr.size) : g.arr[1] = .int .i64 g.str := id rfl
@[go_sem] theorem Gl.get2 (g : Gl) : g.arr[2]? = some (.int .i64 g.shr) := id rfl
@[go_sem] theorem Gl.at2 (g : Gl) (h : 2 < g.arr.size) : g.arr[2] = .int .i64 g.shr := id rfl
@[go_sem] theorem Gl.get3 (g : Gl) : g.arr[3]? = some (.int .i64 g.so) := id rfl
@[go_sem] theorem Gl.at3 (g : Gl) (h : 3 < g.arr.size) : g.arr[3] = .int .i64 g.so := id rfl
@[go_sem] theorem Gl.get4 (g : Gl) : g.arr[4]? = some (.int .i64 g.ho) := id rfl
@[go_sem] theorem Gl.at4 (g : Gl) (h : 4 < g.arr.size) : g.arr[4] = .int .i64 g.ho := id rfl
@[go_sem] theorem Gl.set0 (g : Gl) (x : Int) : g.arr.setIfInBounds 0 (.int .i64 x) = ({ g with nat := x } : Gl).arr := id rfl
@[go_sem] theorem Gl.set1 (g : Gl) (x : Int) : g.arr.setIfInBounds 1 (.int .i64 x) = ({ g with str := x } : Gl).arr := id rfl
@[go_sem] theorem Gl.set2 (g : Gl) (x : Int) : g.arr.setIfInBounds 2 (.int .i64 x) = ({ g with shr := x } : Gl).arr := id rfl
@[go_sem] theorem Gl.set3 (g : Gl) (x : Int) : g.arr.setIfInBounds 3 (.int .i64 x) = ({ g with so := x } : Gl).arr := id rfl
@[go_sem] theorem Gl.set4 (g : Gl) (x : Int) : g.arr.setIfInBounds 4 (.int .i64 x) = ({ g with ho := x } : Gl).arr := id rfl
@[go_sem] theorem Gl.lit (a b c d e : Int) : (#[.int .i64 a, .int .i64 b, .int .i64 c, .int .i64 d, .int .i64 e] : Array Value) = (Gl.mk a b c d e).arr := id rfl

/-! ### Nodes -/
structure Nd where
  kind : Int
  font : Int
  char : Int
  w : Int
  h : Int
  d : Int
  shift : Int
  glue : Gl
  sign : Int
  order : Int
  num : Int
  den : Int
  pen : Int
  sub : Int
  text : ByteArray
deriving Inhabited, DecidableEq
def Nd.cells (n : Nd) : List Value := [.int .i64 n.kind, .int .i64 n.font, .int .u8 n.char, .int .i64 n.w, .int .i64 n.h, .int .i64 n.d, .int .i64 n.shift,
  .int .i64 n.glue.nat, .int .i64 n.glue.str, .int .i64 n.glue.shr, .int .i64 n.glue.so, .int .i64 n.glue.ho, .int .i64 n.sign, .int .i64 n.order, .int .i64 n.num, .int .i64 n.den, .int .i64 n.pen, .int .i64 n.sub, .string n.text]
def Nd.arr (n : Nd) : Array Value := n.cells.toArray
def Nd.zero : Nd := ⟨0, 0, 0, 0, 0, 0, 0, .zero, 0, 0, 0, 0, 0, 0, ⟨#[]⟩⟩
@[go_sem] theorem Nd.size_arr (n : Nd) : n.arr.size = 19 := id rfl
@[go_sem] theorem Nd.get0 (n : Nd) : n.arr[0]? = some (.int .i64 n.kind) := id rfl
@[go_sem] theorem Nd.at0 (n : Nd) (h : 0 < n.arr.size) : n.arr[0] = .int .i64 n.kind := id rfl
@[go_sem] theorem Nd.get1 (n : Nd) : n.arr[1]? = some (.int .i64 n.font) := id rfl
@[go_sem] theorem Nd.at1 (n : Nd) (h : 1 < n.arr.size) : n.arr[1] = .int .i64 n.font := id rfl
@[go_sem] theorem Nd.get2 (n : Nd) : n.arr[2]? = some (.int .u8 n.char) := id rfl
@[go_sem] theorem Nd.at2 (n : Nd) (h : 2 < n.arr.size) : n.arr[2] = .int .u8 n.char := id rfl
@[go_sem] theorem Nd.get3 (n : Nd) : n.arr[3]? = some (.int .i64 n.w) := id rfl
@[go_sem] theorem Nd.at3 (n : Nd) (h : 3 < n.arr.size) : n.arr[3] = .int .i64 n.w := id rfl
@[go_sem] theorem Nd.get4 (n : Nd) : n.arr[4]? = some (.int .i64 n.h) := id rfl
@[go_sem] theorem Nd.at4 (n : Nd) (h : 4 < n.arr.size) : n.arr[4] = .int .i64 n.h := id rfl
@[go_sem] theorem Nd.get5 (n : Nd) : n.arr[5]? = some (.int .i64 n.d) := id rfl
@[go_sem] theorem Nd.at5 (n : Nd) (h : 5 < n.arr.size) : n.arr[5] = .int .i64 n.d := id rfl
@[go_sem] theorem Nd.get6 (n : Nd) : n.arr[6]? = some (.int .i64 n.shift) := id rfl
@[go_sem] theorem Nd.at6 (n : Nd) (h : 6 < n.arr.size) : n.arr[6] = .int .i64 n.shift := id rfl
@[go_sem] theorem Nd.get7 (n : Nd) : n.arr[7]? = some (.int .i64 n.glue.nat) := id rfl
@[go_sem] theorem Nd.at7 (n : Nd) (h : 7 < n.arr.size) : n.arr[7] = .int .i64 n.glue.nat := id rfl
@[go_sem] theorem Nd.get8 (n : Nd) : n.arr[8]? = some (.int .i64 n.glue.str) := id rfl
@[go_sem] theorem Nd.at8 (n : Nd) (h : 8 < n.arr.size) : n.arr[8] = .int .i64 n.glue.str := id rfl
@[go_sem] theorem Nd.get9 (n : Nd) : n.arr[9]? = some (.int .i64 n.glue.shr) := id rfl
@[go_sem] theorem Nd.at9 (n : Nd) (h : 9 < n.arr.size) : n.arr[9] = .int .i64 n.glue.shr := id rfl
@[go_sem] theorem Nd.get10 (n : Nd) : n.arr[10]? = some (.int .i64 n.glue.so) := id rfl
@[go_sem] theorem Nd.at10 (n : Nd) (h : 10 < n.arr.size) : n.arr[10] = .int .i64 n.glue.so := id rfl
@[go_sem] theorem Nd.get11 (n : Nd) : n.arr[11]? = some (.int .i64 n.glue.ho) := id rfl
@[go_sem] theorem Nd.at11 (n : Nd) (h : 11 < n.arr.size) : n.arr[11] = .int .i64 n.glue.ho := id rfl
@[go_sem] theorem Nd.get12 (n : Nd) : n.arr[12]? = some (.int .i64 n.sign) := id rfl
@[go_sem] theorem Nd.at12 (n : Nd) (h : 12 < n.arr.size) : n.arr[12] = .int .i64 n.sign := id rfl
@[go_sem] theorem Nd.get13 (n : Nd) : n.arr[13]? = some (.int .i64 n.order) := id rfl
@[go_sem] theorem Nd.at13 (n : Nd) (h : 13 < n.arr.size) : n.arr[13] = .int .i64 n.order := id rfl
@[go_sem] theorem Nd.get14 (n : Nd) : n.arr[14]? = some (.int .i64 n.num) := id rfl
@[go_sem] theorem Nd.at14 (n : Nd) (h : 14 < n.arr.size) : n.arr[14] = .int .i64 n.num := id rfl
@[go_sem] theorem Nd.get15 (n : Nd) : n.arr[15]? = some (.int .i64 n.den) := id rfl
@[go_sem] theorem Nd.at15 (n : Nd) (h : 15 < n.arr.size) : n.arr[15] = .int .i64 n.den := id rfl
@[go_sem] theorem Nd.get16 (n : Nd) : n.arr[16]? = some (.int .i64 n.pen) := id rfl
@[go_sem] theorem Nd.at16 (n : Nd) (h : 16 < n.arr.size) : n.arr[16] = .int .i64 n.pen := id rfl
@[go_sem] theorem Nd.get17 (n : Nd) : n.arr[17]? = some (.int .i64 n.sub) := id rfl
@[go_sem] theorem Nd.at17 (n : Nd) (h : 17 < n.arr.size) : n.arr[17] = .int .i64 n.sub := id rfl
@[go_sem] theorem Nd.get18 (n : Nd) : n.arr[18]? = some (.string n.text) := id rfl
@[go_sem] theorem Nd.at18 (n : Nd) (h : 18 < n.arr.size) : n.arr[18] = .string n.text := id rfl
@[go_sem] theorem Nd.set0 (n : Nd) (x : Int) : n.arr.setIfInBounds 0 (.int .i64 x) = ({ n with kind := x } : Nd).arr := id rfl
@[go_sem] theorem Nd.set1 (n : Nd) (x : Int) : n.arr.setIfInBounds 1 (.int .i64 x) = ({ n with font := x } : Nd).arr := id rfl
@[go_sem] theorem Nd.set2 (n : Nd) (x : Int) : n.arr.setIfInBounds 2 (.int .u8 x) = ({ n with char := x } : Nd).arr := id rfl
@[go_sem] theorem Nd.set3 (n : Nd) (x : Int) : n.arr.setIfInBounds 3 (.int .i64 x) = ({ n with w := x } : Nd).arr := id rfl
@[go_sem] theorem Nd.set4 (n : Nd) (x : Int) : n.arr.setIfInBounds 4 (.int .i64 x) = ({ n with h := x } : Nd).arr := id rfl
@[go_sem] theorem Nd.set5 (n : Nd) (x : Int) : n.arr.setIfInBounds 5 (.int .i64 x) = ({ n with d := x } : Nd).arr := id rfl
@[go_sem] theorem Nd.set6 (n : Nd) (x : Int) : n.arr.setIfInBounds 6 (.int .i64 x) = ({ n with shift := x } : Nd).arr := id rfl
@[go_sem] theorem Nd.set7 (n : Nd) (x : Int) : n.arr.setIfInBounds 7 (.int .i64 x) = ({ n with glue := { n.glue with nat := x } } : Nd).arr := id rfl
@[go_sem] theorem Nd.set8 (n : Nd) (x : Int) : n.arr.setIfInBounds 8 (.int .i64 x) = ({ n with glue := { n.glue with str := x } } : Nd).arr := id rfl
@[go_sem] theorem Nd.set9 (n : Nd) (x : Int) : n.arr.setIfInBounds 9 (.int .i64 x) = ({ n with glue := { n.glue with shr := x } } : Nd).arr := id rfl
@[go_sem] theorem Nd.set10 (n : Nd) (x : Int) : n.arr.setIfInBounds 10 (.int .i64 x) = ({ n with glue := { n.glue with so := x } } : Nd).arr := id rfl
@[go_sem] theorem Nd.set11 (n : Nd) (x : Int) : n.arr.setIfInBounds 11 (.int .i64 x) = ({ n with glue := { n.glue with ho := x } } : Nd).arr := id rfl
@[go_sem] theorem Nd.set12 (n : Nd) (x : Int) : n.arr.setIfInBounds 12 (.int .i64 x) = ({ n with sign := x } : Nd).arr := id rfl
@[go_sem] theorem Nd.set13 (n : Nd) (x : Int) : n.arr.setIfInBounds 13 (.int .i64 x) = ({ n with order := x } : Nd).arr := id rfl
@[go_sem] theorem Nd.set14 (n : Nd) (x : Int) : n.arr.setIfInBounds 14 (.int .i64 x) = ({ n with num := x } : Nd).arr := id rfl
@[go_sem] theorem Nd.set15 (n : Nd) (x : Int) : n.arr.setIfInBounds 15 (.int .i64 x) = ({ n with den := x } : Nd).arr := id rfl
@[go_sem] theorem Nd.set16 (n : Nd) (x : Int) : n.arr.setIfInBounds 16 (.int .i64 x) = ({ n with pen := x } : Nd).arr := id rfl
@[go_sem] theorem Nd.set17 (n : Nd) (x : Int) : n.arr.setIfInBounds 17 (.int .i64 x) = ({ n with sub := x } : Nd).arr := id rfl
@[go_sem] theorem Nd.set18 (n : Nd) (x : ByteArray) : n.arr.setIfInBounds 18 (.string x) = ({ n with text := x } : Nd).arr := id rfl
@[go_sem] theorem Nd.lit (x0 x1 x2 x3 x4 x5 x6 x7 x8 x9 x10 x11 x12 x13 x14 x15 x16 x17 : Int) (x18 : ByteArray) : (#[.int .i64 x0, .int .i64 x1, .int .u8 x2, .int .i64 x3, .int .i64 x4, .int .i64 x5, .int .i64 x6, .int .i64 x7, .int .i64 x8, .int .i64 x9, .int .i64 x10, .int .i64 x11, .int .i64 x12, .int .i64 x13, .int .i64 x14, .int .i64 x15, .int .i64 x16, .int .i64 x17, .string x18] : Array Value) = (Nd.mk x0 x1 x2 x3 x4 x5 x6 ⟨x7, x8, x9, x10, x11⟩ x12 x13 x14 x15 x16 x17 x18).arr := id rfl
@[go_sem] theorem Nd.getGlue (n : Nd) : n.arr.extract 7 12 = n.glue.arr := id rfl

@[go_sem] theorem agg?_nd (w : World) (n : Nd) (t : TypeId) (fr : Nat × Nat) (b : Nat) (h : b = w.heap.size) : agg? (w.alloc (.cells n.arr t fr)) b 0 19 = some n.arr := by
  rw [agg?_alloc_at w n.arr t fr b 0 19 h (by simp [Nd.size_arr])]; simp [Nd.arr, Nd.cells]
@[go_sem] theorem agg?_ndGlue (w : World) (n : Nd) (t : TypeId) (fr : Nat × Nat) (b : Nat) (h : b = w.heap.size) : agg? (w.alloc (.cells n.arr t fr)) b 7 5 = some n.glue.arr := by
  rw [agg?_alloc_at w n.arr t fr b 7 5 h (by simp [Nd.size_arr])]; simp [Nd.arr, Nd.cells, Gl.arr, Gl.cells]
@[go_sem] theorem agg?_gl (w : World) (g : Gl) (t : TypeId) (fr : Nat × Nat) (b : Nat) (h : b = w.heap.size) : agg? (w.alloc (.cells g.arr t fr)) b 0 5 = some g.arr := by
  rw [agg?_alloc_at w g.arr t fr b 0 5 h (by simp [Gl.size_arr])]; simp [Gl.arr, Gl.cells]

/-! ### This seat's types -/
theorem u_nd : Tryz.prog.underlying 49 = some (.struct (Tryz.prog.fieldsOf 49)) := by kernel_rfl
theorem i_nd : (Tryz.prog.info? 49).map (·.size) = some 19 := by kernel_rfl
theorem u_gl : Tryz.prog.underlying 23 = some (.struct (Tryz.prog.fieldsOf 23)) := by kernel_rfl
theorem i_gl : (Tryz.prog.info? 23).map (·.size) = some 5 := by kernel_rfl
def ldOp (ty : TypeId) (v : Value) : Sem Value := Instr.loadAt ty v
def stOp (ty : TypeId) (p v : Value) : Sem Unit := Instr.storeAt ty p v
@[go_sem ↓] theorem execOp_loadNd (ρ : Operand → Value) (dst : Option Tmp) (x : Operand) (ty : TypeId) (pos : String) (after : Array Edge) (guard : Option (Nat × Bool)) :
    execOp ρ { dst, op := .load 49 x, type := ty, pos, after, guard } = (do pure (.value (← ldOp 49 (ρ x)))) := rfl
@[go_sem ↓] theorem execOp_loadGl (ρ : Operand → Value) (dst : Option Tmp) (x : Operand) (ty : TypeId) (pos : String) (after : Array Edge) (guard : Option (Nat × Bool)) :
    execOp ρ { dst, op := .load 23 x, type := ty, pos, after, guard } = (do pure (.value (← ldOp 23 (ρ x)))) := rfl
@[go_sem ↓] theorem execOp_storeNd (ρ : Operand → Value) (dst : Option Tmp) (x y : Operand) (ty : TypeId) (pos : String) (after : Array Edge) (guard : Option (Nat × Bool)) :
    execOp ρ { dst, op := .store 49 x y, type := ty, pos, after, guard } = (do stOp 49 (ρ x) (ρ y); pure .skip) := rfl
@[go_sem ↓] theorem execOp_storeGl (ρ : Operand → Value) (dst : Option Tmp) (x y : Operand) (ty : TypeId) (pos : String) (after : Array Edge) (guard : Option (Nat × Bool)) :
    execOp ρ { dst, op := .store 23 x y, type := ty, pos, after, guard } = (do stOp 23 (ρ x) (ρ y); pure .skip) := rfl
@[go_sem] theorem run_loadNd (b o : Nat) (w : World) : (ldOp 49 (.pointer (some ⟨b, o, none⟩))).run Tryz.prog w = ldRow Tryz.prog 49 b o w (agg? w b o 19) := run_loadAt_row _ _ _ u_nd rfl i_nd b o w
@[go_sem] theorem run_loadGl (b o : Nat) (w : World) : (ldOp 23 (.pointer (some ⟨b, o, none⟩))).run Tryz.prog w = ldRow Tryz.prog 23 b o w (agg? w b o 5) := run_loadAt_row _ _ _ u_gl rfl i_gl b o w

/-! ### Stores of whole structs -/
def there? (w : World) (b o n : Nat) : Bool :=
  match w.heap[b]? with
  | some (.cells c _ (0, 0)) => decide (o + n ≤ c.size)
  | _ => false
def setAgg (w : World) (b o : Nat) (c : Array Value) : World := w.setCells b o c.toList
def stNone (P : Program) (ty : TypeId) (b o : Nat) (v : Value) (w : World) : Result Unit := (Instr.storeAt ty (.pointer (some ⟨b, o, none⟩)) v).run P w
def stRow (P : Program) (ty : TypeId) (b o : Nat) (c : Array Value) (w : World) : Bool → Result Unit
  | true => .ok () (setAgg w b o c)
  | false => stNone P ty b o (.agg c) w
@[go_sem] theorem stRow_true (P : Program) (ty : TypeId) (b o : Nat) (c : Array Value) (w : World) : stRow P ty b o c w true = .ok () (setAgg w b o c) := rfl
theorem there_of {w : World} {b o n : Nat} (h : there? w b o n = true) : w.there b o n := by
  unfold there? at h
  split at h
  · rename_i c t hb
    have h' : o + n ≤ c.size := of_decide_eq_true h
    intro j hj
    constructor
    · simp only [World.cell?, hb, Option.isSome_none, Bool.false_eq_true, if_false]
      rw [Array.getElem?_eq_getElem (by omega)]; rfl
    · simp [World.frozen?, hb]
  · cases h
theorem run_storeAt_row {P : Program} (ty : TypeId) (n : Nat) (hi : (P.info? ty).map (·.size) = some n) (b o : Nat) (c : Array Value) (hc : c.size = n) (h1 : c.all (·.oneCell') = true) (w : World) :
    (Instr.storeAt ty (.pointer (some ⟨b, o, none⟩)) (.agg c)).run P w = stRow P ty b o c w (there? w b o n) := by
  cases h : there? w b o n with
  | false => rfl
  | true => exact run_storeAt_mid (P := P) w b o ty c (by rw [hc]; exact there_of h) (by rw [hi, hc]) h1
@[go_sem] theorem there?_drew (w : World) (b o n : Nat) : there? w.drew b o n = there? w b o n := rfl
@[go_sem] theorem there?_alloc_past (w : World) (ob : Obj) (b o n : Nat) (h : b < w.heap.size) : there? (w.alloc ob) b o n = there? w b o n := by
  unfold there?; rw [Below.heap_alloc w ob b h]
@[go_sem] theorem there?_alloc_at (w : World) (c : Array Value) (t : TypeId) (b o n : Nat) (h : b = w.heap.size) : there? (w.alloc (.cells c t)) b o n = decide (o + n ≤ c.size) := by
  subst h; unfold there?; rw [heap_alloc_new]; rfl
theorem setCells_alloc_past (ob : Obj) (b : Nat) : ∀ (vs : List Value) (o : Nat) (w : World), b < w.heap.size → (w.alloc ob).setCells b o vs = (w.setCells b o vs).alloc ob
  | [], _, _, _ => rfl
  | v :: r, o, w, h => by
    rw [World.setCells, World.setCells, World.setCell_alloc_past _ _ _ _ h]
    exact setCells_alloc_past ob b r (o + 1) _ (by simpa using h)
@[go_sem] theorem agg?_whole (w : World) (c : Array Value) (t : TypeId) (fr : Nat × Nat) (b n : Nat) (h : b = w.heap.size) (hn : c.size = n) : agg? (w.alloc (.cells c t fr)) b 0 n = some c := by
  rw [agg?_alloc_at w c t fr b 0 n h (by omega)]; simp [← hn]
def setMany (c : Array Value) (o : Nat) : List Value → Array Value
  | [] => c
  | v :: r => setMany (c.setIfInBounds o v) (o + 1) r
theorem setCells_alloc_at (t : TypeId) : ∀ (vs : List Value) (o : Nat) (c : Array Value) (w : World), (w.alloc (.cells c t)).setCells w.heap.size o vs = w.alloc (.cells (setMany c o vs) t)
  | [], _, _, _ => rfl
  | v :: r, o, c, w => by
    rw [World.setCells, World.setCell_alloc_at c t _ _ _ rfl]
    exact setCells_alloc_at t r (o + 1) _ w
theorem setMany_all : ∀ (vs : List Value) (o : Nat) (c : Array Value), c.size = o + vs.length → setMany c o vs = (c.toList.take o ++ vs).toArray
  | [], o, c, h => by
    simp only [setMany, List.append_nil]
    rw [List.take_of_length_le (by simp at h ⊢; omega)]
  | v :: r, o, c, h => by
    have ho : o < c.size := by simp at h; omega
    rw [setMany, setMany_all r (o + 1) _ (by simp at h ⊢; omega)]
    congr 1
    apply List.ext_getElem?
    intro k
    simp only [Array.toList_setIfInBounds, List.getElem?_append, List.length_take, List.length_set, Array.length_toList]
    by_cases hk : k < o
    · simp [hk, show k < o + 1 by omega, show min (o + 1) c.size = o + 1 by omega, show min o c.size = o by omega, show o ≠ k by omega]
    · by_cases hk2 : k = o
      · subst hk2
        simp [show min (k + 1) c.size = k + 1 by omega, show min k c.size = k by omega]
      · simp [hk, show ¬ k < o + 1 by omega, show min (o + 1) c.size = o + 1 by omega, show min o c.size = o by omega, show k - o = (k - (o + 1)) + 1 by omega]
@[go_sem] theorem setAgg_whole (w : World) (c m : Array Value) (t : TypeId) (b : Nat) (h : b = w.heap.size) (hn : c.size = m.size) : setAgg (w.alloc (.cells c t)) b 0 m = w.alloc (.cells m t) := by
  subst h
  unfold setAgg
  rw [setCells_alloc_at, setMany_all _ _ _ (by simpa using hn)]
  simp
theorem setCells_drew (b : Nat) : ∀ (vs : List Value) (o : Nat) (w : World), w.drew.setCells b o vs = (w.setCells b o vs).drew
  | [], _, _ => rfl
  | v :: r, o, w => by rw [World.setCells, World.setCells, World.setCell_drew]; exact setCells_drew b r (o + 1) _
theorem size_setMany : ∀ (vs : List Value) (o : Nat) (c : Array Value), (setMany c o vs).size = c.size
  | [], _, _ => rfl
  | v :: r, o, c => by rw [setMany, size_setMany r]; simp
theorem get_setMany : ∀ (vs : List Value) (o : Nat) (c : Array Value) (k : Nat), o + vs.length ≤ c.size → (setMany c o vs)[k]? = if o ≤ k ∧ k < o + vs.length then vs[k - o]? else c[k]?
  | [], o, c, k, _ => by rw [setMany, if_neg (by rw [List.length_nil]; omega)]
  | v :: r, o, c, k, h => by
    have ho : o < c.size := by simp at h; omega
    rw [setMany, get_setMany r (o + 1) _ k (by simp at h ⊢; omega)]
    by_cases h1 : k = o
    · subst h1
      rw [if_neg (by omega), if_pos (by simp)]
      simp [ho]
    · by_cases h2 : o + 1 ≤ k ∧ k < o + 1 + r.length
      · rw [if_pos h2, if_pos (by simp; omega), show k - o = (k - (o + 1)) + 1 by omega]
        rfl
      · rw [if_neg h2, if_neg (by simp; omega), Array.getElem?_setIfInBounds_ne (by omega)]
theorem heap_setCells_other (b k : Nat) (hk : k ≠ b) : ∀ (vs : List Value) (o : Nat) (w : World), (w.setCells b o vs).heap[k]? = w.heap[k]?
  | [], _, _ => rfl
  | v :: r, o, w => by rw [World.setCells, heap_setCells_other b k hk r, Below.heap_setCell _ _ _ _ hk]
theorem heap_setCells_same (b : Nat) (t : TypeId) (fr : Nat × Nat) : ∀ (vs : List Value) (o : Nat) (c : Array Value) (w : World), w.heap[b]? = some (.cells c t fr) → (w.setCells b o vs).heap[b]? = some (.cells (setMany c o vs) t fr)
  | [], _, _, _, h => h
  | v :: r, o, c, w, h => by
    rw [World.setCells, setMany]
    refine heap_setCells_same b t fr r (o + 1) _ _ ?_
    simp only [World.setCell, Array.getElem?_modify, h]
    simp
theorem agg?_setAgg_same {w : World} {b o : Nat} {c : Array Value} (h : there? w b o c.size = true) : agg? (setAgg w b o c) b o c.size = some c := by
  unfold there? at h
  split at h
  · rename_i C t hb
    have h' : o + c.size ≤ C.size := of_decide_eq_true h
    unfold agg? setAgg
    rw [heap_setCells_same b t (0, 0) c.toList o C w hb]
    simp only [size_setMany, h', if_true, Option.some.injEq]
    apply Array.ext_getElem?
    intro k
    rw [Array.getElem?_extract]
    by_cases hk : k < c.size
    · rw [if_pos (by rw [size_setMany]; omega), get_setMany _ _ _ _ (by simpa using h'), if_pos (by simp; omega)]
      simp
    · rw [if_neg (by rw [size_setMany]; omega)]
      simp; omega
  · cases h
theorem agg?_setAgg_nd {w : World} {b o : Nat} {n : Nd} (h : there? w b o 19 = true) : agg? (setAgg w b o n.arr) b o 19 = some n.arr := agg?_setAgg_same (c := n.arr) h
@[go_sem] theorem setAgg_drew (w : World) (b o : Nat) (c : Array Value) : setAgg w.drew b o c = (setAgg w b o c).drew := setCells_drew b _ o w
@[go_sem] theorem setAgg_alloc_past (w : World) (ob : Obj) (b o : Nat) (c : Array Value) (h : b < w.heap.size) : setAgg (w.alloc ob) b o c = (setAgg w b o c).alloc ob := setCells_alloc_past ob b _ o w h
@[simp] theorem size_setCells (b : Nat) : ∀ (vs : List Value) (o : Nat) (w : World), (w.setCells b o vs).heap.size = w.heap.size
  | [], _, _ => rfl
  | v :: r, o, w => by rw [World.setCells, size_setCells b r]; simp
@[simp, go_sem] theorem size_setAgg (w : World) (b o : Nat) (c : Array Value) : (setAgg w b o c).heap.size = w.heap.size := size_setCells b _ o w
theorem Below.setCells {B : Nat} {a : World} {b : Nat} (hb : B ≤ b) : ∀ (vs : List Value) (o : Nat) (w : World), Below B a w → Below B a (w.setCells b o vs)
  | [], _, _, h => h
  | v :: r, o, _, h => Below.setCells hb r (o + 1) _ (h.setCell (p := ⟨b, o, none⟩) hb v)
theorem Below.setAgg {B : Nat} {a w : World} (h : Below B a w) {b : Nat} (hb : B ≤ b) (o : Nat) (c : Array Value) : Below B a (setAgg w b o c) := Below.setCells hb _ o w h
theorem setMany_nd (n m : Nd) : setMany n.arr 0 m.cells = m.arr := by
  simp only [Nd.cells, setMany, Nat.reduceAdd, Nd.set0, Nd.set1, Nd.set2, Nd.set3, Nd.set4, Nd.set5, Nd.set6, Nd.set7, Nd.set8, Nd.set9, Nd.set10, Nd.set11, Nd.set12, Nd.set13, Nd.set14, Nd.set15, Nd.set16, Nd.set17, Nd.set18]
theorem setMany_ndGlue (n : Nd) (g : Gl) : setMany n.arr 7 g.cells = ({ n with glue := g } : Nd).arr := by
  simp only [Gl.cells, setMany, Nat.reduceAdd, Nd.set7, Nd.set8, Nd.set9, Nd.set10, Nd.set11]
theorem setMany_gl (g m : Gl) : setMany g.arr 0 m.cells = m.arr := by
  simp only [Gl.cells, setMany, Nat.reduceAdd, Gl.set0, Gl.set1, Gl.set2, Gl.set3, Gl.set4]
@[go_sem] theorem setAgg_nd (w : World) (n m : Nd) (t : TypeId) (b : Nat) (h : b = w.heap.size) : setAgg (w.alloc (.cells n.arr t)) b 0 m.arr = w.alloc (.cells m.arr t) := by
  subst h
  unfold setAgg
  rw [setCells_alloc_at, show m.arr.toList = m.cells from rfl, setMany_nd]
@[go_sem] theorem setAgg_ndGlue (w : World) (n : Nd) (g : Gl) (t : TypeId) (b : Nat) (h : b = w.heap.size) : setAgg (w.alloc (.cells n.arr t)) b 7 g.arr = w.alloc (.cells ({ n with glue := g } : Nd).arr t) := by
  subst h
  unfold setAgg
  rw [setCells_alloc_at, show g.arr.toList = g.cells from rfl, setMany_ndGlue]
@[go_sem] theorem setAgg_gl (w : World) (g m : Gl) (t : TypeId) (b : Nat) (h : b = w.heap.size) : setAgg (w.alloc (.cells g.arr t)) b 0 m.arr = w.alloc (.cells m.arr t) := by
  subst h
  unfold setAgg
  rw [setCells_alloc_at, show m.arr.toList = m.cells from rfl, setMany_gl]
theorem Nd.one (n : Nd) : n.arr.all (·.oneCell') = true := by simp [Nd.arr, Nd.cells, Value.oneCell']
theorem Gl.one (g : Gl) : g.arr.all (·.oneCell') = true := by simp [Gl.arr, Gl.cells, Value.oneCell']
@[go_sem] theorem run_storeNd (b o : Nat) (n : Nd) (w : World) : (stOp 49 (.pointer (some ⟨b, o, none⟩)) (.agg n.arr)).run Tryz.prog w = stRow Tryz.prog 49 b o n.arr w (there? w b o 19) := run_storeAt_row _ _ i_nd b o _ (Nd.size_arr n) (Nd.one n) w
@[go_sem] theorem run_storeGl (b o : Nat) (g : Gl) (w : World) : (stOp 23 (.pointer (some ⟨b, o, none⟩)) (.agg g.arr)).run Tryz.prog w = stRow Tryz.prog 23 b o g.arr w (there? w b o 5) := run_storeAt_row _ _ i_gl b o _ (Gl.size_arr g) (Gl.one g) w

/-! ### What a call left alone -/
theorem bfacts {B : Nat} {W w1 : World} (h : Below B W w1) :
    (∀ b o, b < B → w1.cell? ⟨b, o, none⟩ = W.cell? ⟨b, o, none⟩) ∧ (∀ b o, b < B → w1.frozen? ⟨b, o, none⟩ = W.frozen? ⟨b, o, none⟩) ∧
    (∀ b o n, b < B → agg? w1 b o n = agg? W b o n) ∧ (∀ b o n, b < B → there? w1 b o n = there? W b o n) :=
  ⟨fun b o hb => h.cell (p := ⟨b, o, none⟩) hb, fun b o hb => h.frozen (p := ⟨b, o, none⟩) hb, fun b o n hb => by unfold agg?; rw [h.block b hb], fun b o n hb => by unfold there?; rw [h.block b hb]⟩

/-! ### A result that is a struct -/
theorem ret_row {P : Program} {fn : Func} {R : Ending → World → Prop} {a : Act} {w : World} {p : Tmp} (ty : TypeId) (n : Nat) (d : TypeDesc) (hu : P.underlying ty = some d) (hd : d.isRow = true) (hi : (P.info? ty).map (·.size) = some n)
    (h : fn.results = #[.cell p ty]) (b o : Nat) (c : Array Value) (hp : a.tmps.getD p undef = .pointer (some ⟨b, o, none⟩)) (hc : agg? w b o n = some c) (hdf : a.defers = []) (hR : R (.returned (.agg c)) w) : bodyPost P fn R .ret a w := by
  refine ⟨hdf, .agg c, ?_, hR⟩
  have hl : (loadVar ty ⟨b, o, none⟩).run P w = .ok (.agg c) w := by
    have := run_loadAt_row (P := P) ty n d hu hd hi b o w
    rw [hc, ldRow_some] at this
    simpa [Instr.loadAt, Instr.sureAddr] using this
  have hp' : a.tmps[p]?.getD undef = .pointer (some ⟨b, o, none⟩) := by simpa using hp
  simp [results, h, hp', asAddr, hl]
theorem ret_nd {fn : Func} {R : Ending → World → Prop} {a : Act} {w : World} {p : Tmp} (h : fn.results = #[.cell p 49]) (b o : Nat) (n : Nd) (hp : a.tmps.getD p undef = .pointer (some ⟨b, o, none⟩)) (hc : agg? w b o 19 = some n.arr) (hdf : a.defers = []) (hR : R (.returned (.agg n.arr)) w) : bodyPost Tryz.prog fn R .ret a w :=
  ret_row _ _ _ u_nd rfl i_nd h b o _ hp hc hdf hR
/-! ### Small things -/
theorem ret_int {k : IntKind} {a b : Int} (h : a = b) : Ending.returned (.int k a) = .returned (.int k b) := by rw [h]
theorem ret_bool {a b : Bool} (h : a = b) : Ending.returned (.bool a) = .returned (.bool b) := by rw [h]
end Go.Proofs.YtomehdepjenilaaGreat
namespace Go.Proofs.YtomehdepjenilaaGreat
open Go.ChangeShapes Go.WideShapes Go.ChangeAt Go.RowKit Go.MapKept
def MapV (W : World) (mb : Nat) (M : List (Value × Value)) : Prop := ∃ es clock, W.heap[mb]? = some (.map es clock) ∧ es.toList.map (fun e => (e.key, e.val)) = M
def intM (M : List (Int × Value)) : List (Value × Value) := M.map fun p => (.int .i64 p.1, p.2)
theorem MapV.lt {W : World} {mb : Nat} {M : List (Value × Value)} (h : MapV W mb M) : mb < W.heap.size := by
  obtain ⟨es, c, hb, _⟩ := h
  exact (Array.getElem?_eq_some_iff.1 hb).1
theorem MapV.same {W W' : World} {mb : Nat} {M : List (Value × Value)} (h : MapV W mb M) (hs : W'.heap[mb]? = W.heap[mb]?) : MapV W' mb M := by
  obtain ⟨es, c, hb, hm⟩ := h
  exact ⟨es, c, hs.trans hb, hm⟩
theorem MapV.new (W : World) : MapV (W.alloc (.map #[] 0)) W.heap.size [] := ⟨#[], 0, heap_alloc_new W _, rfl⟩
section
variable {P : Program} {w : World} {mty kt et : TypeId}
end
end Go.Proofs.YtomehdepjenilaaGreat
namespace Go.Proofs.YtomehdepjenilaaGreat
open Go.ChangeShapes Go.WideShapes Go.ChangeAt Go.RowKit
theorem Nd.eq_iff (a b : Nd) : (a = b) ↔ (a.kind = b.kind ∧ a.font = b.font ∧ a.char = b.char ∧ a.w = b.w ∧ a.h = b.h ∧ a.d = b.d ∧ a.shift = b.shift ∧ (a.glue.nat = b.glue.nat ∧ a.glue.str = b.glue.str ∧ a.glue.shr = b.glue.shr ∧ a.glue.so = b.glue.so ∧ a.glue.ho = b.glue.ho) ∧ a.sign = b.sign ∧ a.order = b.order ∧ a.num = b.num ∧ a.den = b.den ∧ a.pen = b.pen ∧ a.sub = b.sub ∧ a.text = b.text) := by
  cases a; cases b; rename_i g _ _ _ _ _ _ _ _ _ _ _ _ _ _ g' _ _ _ _ _ _ _; cases g; cases g'
  simp
theorem bytes_toList_inj {a b : ByteArray} : a.toList = b.toList ↔ a = b := by
  rw [ByteArray.toList_eq, ByteArray.toList_eq]
  exact ⟨fun h => bytes_inj h, fun h => by rw [h]⟩
set_option maxRecDepth 100000 in
set_option maxHeartbeats 1000000 in
theorem run_eqNd (a b : Nd) (w : World) : (Op.equalIn 10000 49 (.agg a.arr) (.agg b.arr)).run Tryz.prog w = .ok (decide (a = b)) w := by
  simp only [Nd.arr, Nd.cells]
  simp [go_sem]
  by_cases h : a = b
  · subst h; simp
  · rw [decide_eq_false h]
    rw [Nd.eq_iff] at h
    by_cases h0 : a.kind = b.kind
    case neg => rw [if_neg h0]
    rw [if_pos h0]
    by_cases h1 : a.font = b.font
    case neg => rw [if_neg h1]
    rw [if_pos h1]
    by_cases h2 : a.char = b.char
    case neg => rw [if_neg h2]
    rw [if_pos h2]
    by_cases h3 : a.w = b.w
    case neg => rw [if_neg h3]
    rw [if_pos h3]
    by_cases h4 : a.h = b.h
    case neg => rw [if_neg h4]
    rw [if_pos h4]
    by_cases h5 : a.d = b.d
    case neg => rw [if_neg h5]
    rw [if_pos h5]
    by_cases h6 : a.shift = b.shift
    case neg => rw [if_neg h6]
    rw [if_pos h6]
    by_cases h7 : a.glue.nat = b.glue.nat
    case neg => rw [if_neg h7]
    rw [if_pos h7]
    by_cases h8 : a.glue.str = b.glue.str
    case neg => rw [if_neg h8]
    rw [if_pos h8]
    by_cases h9 : a.glue.shr = b.glue.shr
    case neg => rw [if_neg h9]
    rw [if_pos h9]
    by_cases h10 : a.glue.so = b.glue.so
    case neg => rw [if_neg h10]
    rw [if_pos h10]
    by_cases h11 : a.glue.ho = b.glue.ho
    case neg => rw [if_neg h11]
    rw [if_pos h11]
    by_cases h12 : a.sign = b.sign
    case neg => rw [if_neg h12]
    rw [if_pos h12]
    by_cases h13 : a.order = b.order
    case neg => rw [if_neg h13]
    rw [if_pos h13]
    by_cases h14 : a.num = b.num
    case neg => rw [if_neg h14]
    rw [if_pos h14]
    by_cases h15 : a.den = b.den
    case neg => rw [if_neg h15]
    rw [if_pos h15]
    by_cases h16 : a.pen = b.pen
    case neg => rw [if_neg h16]
    rw [if_pos h16]
    by_cases h17 : a.sub = b.sub
    case neg => rw [if_neg h17]
    rw [if_pos h17]
    by_cases h18 : a.text.toList = b.text.toList
    case neg => rw [if_neg h18]
    exact absurd ⟨h0, h1, h2, h3, h4, h5, h6, ⟨h7, h8, h9, h10, h11⟩, h12, h13, h14, h15, h16, h17, bytes_toList_inj.1 h18⟩ h
@[go_sem] theorem run_eqlNd (a b : Nd) (w : World) : (binOp .eql 49 (.agg a.arr) (.agg b.arr)).run Tryz.prog w = .ok (.bool (decide (a = b))) w := by
  rw [run_eql_struct, run_eqNd]; rfl
@[go_sem] theorem run_neqNd (a b : Nd) (w : World) : (binOp .neq 49 (.agg a.arr) (.agg b.arr)).run Tryz.prog w = .ok (.bool (!decide (a = b))) w := by
  rw [run_neq_struct, run_eqNd]; rfl
def bdNd (parts : Array (Nat × Value)) : Sem Value := Instr.build 49 parts
@[go_sem ↓] theorem execOp_buildNd (ρ : Operand → Value) (dst : Option Tmp) (x : Array (Nat × Operand)) (ty : TypeId) (pos : String) (after : Array Edge) (guard : Option (Nat × Bool)) :
    execOp ρ { dst, op := .build 49 x, type := ty, pos, after, guard } = (do pure (.value (← bdNd (x.map fun (i, y) => (i, ρ y))))) := rfl
@[go_sem] theorem run_bdNd_k (k : Int) (w : World) : (bdNd #[(0, .int .i64 k)]).run Tryz.prog w = .ok (.agg ({ Nd.zero with kind := k } : Nd).arr) w := by kernel_rfl
@[go_sem] theorem run_bdNd_0 (w : World) : (bdNd #[]).run Tryz.prog w = .ok (.agg Nd.zero.arr) w := by kernel_rfl
end Go.Proofs.YtomehdepjenilaaGreat
