/-
  The page builder: its structs (a class, a goal, a page, what became of an insert, a sheet, a builder) as Lean structures. No statement of the seat stands here.
-/
import Derived.Test.YtomehdepjenilaaGreatH0
import Derived.Test.YtomehdepjenilaaGreatC1
namespace Go.Proofs.YtomehdepjenilaaGreat
open Go.ChangeShapes Go.WideShapes Go.ChangeAt Go.RowKit
set_option maxRecDepth 10000
set_option maxHeartbeats 4000000


structure Cp where
  num : Int
  count : Int
  most : Int
  glue : Gl
deriving Inhabited, DecidableEq
def Cp.cells (n : Cp) : List Value := [.int .i64 n.num, .int .i64 n.count, .int .i64 n.most, .int .i64 n.glue.nat, .int .i64 n.glue.str, .int .i64 n.glue.shr, .int .i64 n.glue.so, .int .i64 n.glue.ho]
def Cp.arr (n : Cp) : Array Value := n.cells.toArray
structure Gp where
  height : Int
  depth : Int
  top : Gl
  clsA : Option Addr
  clsN : Nat
  clsC : Nat
deriving Inhabited
def Gp.cells (n : Gp) : List Value := [.int .i64 n.height, .int .i64 n.depth, .int .i64 n.top.nat, .int .i64 n.top.str, .int .i64 n.top.shr, .int .i64 n.top.so, .int .i64 n.top.ho, .slice n.clsA n.clsN n.clsC]
def Gp.arr (n : Gp) : Array Value := n.cells.toArray
@[go_sem] theorem Gp.size_arr (n : Gp) : n.arr.size = 8 := id rfl
@[go_sem] theorem Gp.get0 (n : Gp) : n.arr[0]? = some (.int .i64 n.height) := id rfl
@[go_sem] theorem Gp.get1 (n : Gp) : n.arr[1]? = some (.int .i64 n.depth) := id rfl
@[go_sem] theorem Gp.get7 (n : Gp) : n.arr[7]? = some (.slice n.clsA n.clsN n.clsC) := id rfl
@[go_sem] theorem Gp.set7 (n : Gp) (xA : Option Addr) (xN xC : Nat) : n.arr.setIfInBounds 7 (.slice xA xN xC) = ({ n with clsA := xA, clsN := xN, clsC := xC } : Gp).arr := id rfl
structure Tk where
  at_ : Int
  split : Int
deriving Inhabited, DecidableEq
def Tk.cells (n : Tk) : List Value := [.int .i64 n.at_, .int .i64 n.split]
structure Sc where
  listA : Option Addr
  listN : Nat
  listC : Nat
  body : Bool
  box : Bool
  goal : Int
  t : Tt
  depth : Int
  height : Nat
  closed : Nat
  insA : Option Addr
  insN : Nat
  insC : Nat
  pens : Int
  bat : Int
  bcost : Int
  bsome : Bool
  last : Nd
deriving Inhabited
def Sc.cells (n : Sc) : List Value := [.slice n.listA n.listN n.listC, .bool n.body, .bool n.box, .int .i64 n.goal, .int .i64 n.t.nat, .int .i64 n.t.s0, .int .i64 n.t.s1, .int .i64 n.t.s2, .int .i64 n.t.s3, .int .i64 n.t.h0, .int .i64 n.t.h1, .int .i64 n.t.h2, .int .i64 n.t.h3, .int .i64 n.depth, .map (some n.height), .map (some n.closed), .slice n.insA n.insN n.insC, .int .i64 n.pens, .int .i64 n.bat, .int .i64 n.bcost, .bool n.bsome, .int .i64 n.last.kind, .int .i64 n.last.font, .int .u8 n.last.char, .int .i64 n.last.w, .int .i64 n.last.h, .int .i64 n.last.d, .int .i64 n.last.shift, .int .i64 n.last.glue.nat, .int .i64 n.last.glue.str, .int .i64 n.last.glue.shr, .int .i64 n.last.glue.so, .int .i64 n.last.glue.ho, .int .i64 n.last.sign, .int .i64 n.last.order, .int .i64 n.last.num, .int .i64 n.last.den, .int .i64 n.last.pen, .int .i64 n.last.sub, .string n.last.text]
def Sc.arr (n : Sc) : Array Value := n.cells.toArray
@[go_sem] theorem Sc.size_arr (n : Sc) : n.arr.size = 40 := id rfl
@[go_sem] theorem Sc.get0 (n : Sc) : n.arr[0]? = some (.slice n.listA n.listN n.listC) := id rfl
@[go_sem] theorem Sc.get1 (n : Sc) : n.arr[1]? = some (.bool n.body) := id rfl
@[go_sem] theorem Sc.get2 (n : Sc) : n.arr[2]? = some (.bool n.box) := id rfl
@[go_sem] theorem Sc.get3 (n : Sc) : n.arr[3]? = some (.int .i64 n.goal) := id rfl
@[go_sem] theorem Sc.get4 (n : Sc) : n.arr[4]? = some (.int .i64 n.t.nat) := id rfl
@[go_sem] theorem Sc.get5 (n : Sc) : n.arr[5]? = some (.int .i64 n.t.s0) := id rfl
@[go_sem] theorem Sc.get6 (n : Sc) : n.arr[6]? = some (.int .i64 n.t.s1) := id rfl
@[go_sem] theorem Sc.get7 (n : Sc) : n.arr[7]? = some (.int .i64 n.t.s2) := id rfl
@[go_sem] theorem Sc.get8 (n : Sc) : n.arr[8]? = some (.int .i64 n.t.s3) := id rfl
@[go_sem] theorem Sc.get9 (n : Sc) : n.arr[9]? = some (.int .i64 n.t.h0) := id rfl
@[go_sem] theorem Sc.get13 (n : Sc) : n.arr[13]? = some (.int .i64 n.depth) := id rfl
@[go_sem] theorem Sc.get16 (n : Sc) : n.arr[16]? = some (.slice n.insA n.insN n.insC) := id rfl
@[go_sem] theorem Sc.get17 (n : Sc) : n.arr[17]? = some (.int .i64 n.pens) := id rfl
@[go_sem] theorem Sc.get18 (n : Sc) : n.arr[18]? = some (.int .i64 n.bat) := id rfl
@[go_sem] theorem Sc.get19 (n : Sc) : n.arr[19]? = some (.int .i64 n.bcost) := id rfl
@[go_sem] theorem Sc.get20 (n : Sc) : n.arr[20]? = some (.bool n.bsome) := id rfl
@[go_sem] theorem Sc.set0 (n : Sc) (xA : Option Addr) (xN xC : Nat) : n.arr.setIfInBounds 0 (.slice xA xN xC) = ({ n with listA := xA, listN := xN, listC := xC } : Sc).arr := id rfl
@[go_sem] theorem Sc.set1 (n : Sc) (x : Bool) : n.arr.setIfInBounds 1 (.bool x) = ({ n with body := x } : Sc).arr := id rfl
@[go_sem] theorem Sc.set2 (n : Sc) (x : Bool) : n.arr.setIfInBounds 2 (.bool x) = ({ n with box := x } : Sc).arr := id rfl
@[go_sem] theorem Sc.set18 (n : Sc) (x : Int) : n.arr.setIfInBounds 18 (.int .i64 x) = ({ n with bat := x } : Sc).arr := id rfl
@[go_sem] theorem Sc.set19 (n : Sc) (x : Int) : n.arr.setIfInBounds 19 (.int .i64 x) = ({ n with bcost := x } : Sc).arr := id rfl
@[go_sem] theorem Sc.set20 (n : Sc) (x : Bool) : n.arr.setIfInBounds 20 (.bool x) = ({ n with bsome := x } : Sc).arr := id rfl
@[go_sem] theorem Sc.set21 (n : Sc) (x : Int) : n.arr.setIfInBounds 21 (.int .i64 x) = ({ n with last := { n.last with kind := x } } : Sc).arr := id rfl
@[go_sem] theorem Sc.set22 (n : Sc) (x : Int) : n.arr.setIfInBounds 22 (.int .i64 x) = ({ n with last := { n.last with font := x } } : Sc).arr := id rfl
@[go_sem] theorem Sc.set23 (n : Sc) (x : Int) : n.arr.setIfInBounds 23 (.int .u8 x) = ({ n with last := { n.last with char := x } } : Sc).arr := id rfl
@[go_sem] theorem Sc.set24 (n : Sc) (x : Int) : n.arr.setIfInBounds 24 (.int .i64 x) = ({ n with last := { n.last with w := x } } : Sc).arr := id rfl
@[go_sem] theorem Sc.set25 (n : Sc) (x : Int) : n.arr.setIfInBounds 25 (.int .i64 x) = ({ n with last := { n.last with h := x } } : Sc).arr := id rfl
@[go_sem] theorem Sc.set26 (n : Sc) (x : Int) : n.arr.setIfInBounds 26 (.int .i64 x) = ({ n with last := { n.last with d := x } } : Sc).arr := id rfl
@[go_sem] theorem Sc.set27 (n : Sc) (x : Int) : n.arr.setIfInBounds 27 (.int .i64 x) = ({ n with last := { n.last with shift := x } } : Sc).arr := id rfl
@[go_sem] theorem Sc.set28 (n : Sc) (x : Int) : n.arr.setIfInBounds 28 (.int .i64 x) = ({ n with last := { n.last with glue := { n.last.glue with nat := x } } } : Sc).arr := id rfl
@[go_sem] theorem Sc.set29 (n : Sc) (x : Int) : n.arr.setIfInBounds 29 (.int .i64 x) = ({ n with last := { n.last with glue := { n.last.glue with str := x } } } : Sc).arr := id rfl
@[go_sem] theorem Sc.set30 (n : Sc) (x : Int) : n.arr.setIfInBounds 30 (.int .i64 x) = ({ n with last := { n.last with glue := { n.last.glue with shr := x } } } : Sc).arr := id rfl
@[go_sem] theorem Sc.set31 (n : Sc) (x : Int) : n.arr.setIfInBounds 31 (.int .i64 x) = ({ n with last := { n.last with glue := { n.last.glue with so := x } } } : Sc).arr := id rfl
@[go_sem] theorem Sc.set32 (n : Sc) (x : Int) : n.arr.setIfInBounds 32 (.int .i64 x) = ({ n with last := { n.last with glue := { n.last.glue with ho := x } } } : Sc).arr := id rfl
@[go_sem] theorem Sc.set33 (n : Sc) (x : Int) : n.arr.setIfInBounds 33 (.int .i64 x) = ({ n with last := { n.last with sign := x } } : Sc).arr := id rfl
@[go_sem] theorem Sc.set34 (n : Sc) (x : Int) : n.arr.setIfInBounds 34 (.int .i64 x) = ({ n with last := { n.last with order := x } } : Sc).arr := id rfl
@[go_sem] theorem Sc.set35 (n : Sc) (x : Int) : n.arr.setIfInBounds 35 (.int .i64 x) = ({ n with last := { n.last with num := x } } : Sc).arr := id rfl
@[go_sem] theorem Sc.set36 (n : Sc) (x : Int) : n.arr.setIfInBounds 36 (.int .i64 x) = ({ n with last := { n.last with den := x } } : Sc).arr := id rfl
@[go_sem] theorem Sc.set37 (n : Sc) (x : Int) : n.arr.setIfInBounds 37 (.int .i64 x) = ({ n with last := { n.last with pen := x } } : Sc).arr := id rfl
@[go_sem] theorem Sc.set38 (n : Sc) (x : Int) : n.arr.setIfInBounds 38 (.int .i64 x) = ({ n with last := { n.last with sub := x } } : Sc).arr := id rfl
@[go_sem] theorem Sc.set39 (n : Sc) (x : ByteArray) : n.arr.setIfInBounds 39 (.string x) = ({ n with last := { n.last with text := x } } : Sc).arr := id rfl
@[go_sem] theorem Sc.sub_last (n : Sc) : n.arr.extract 21 40 = n.last.arr := id rfl
theorem setMany_Sc_last (n : Sc) (g : Nd) : setMany n.arr 21 g.cells = ({ n with last := g } : Sc).arr := by
  simp only [Nd.cells, setMany, Nat.reduceAdd, Sc.set21, Sc.set22, Sc.set23, Sc.set24, Sc.set25, Sc.set26, Sc.set27, Sc.set28, Sc.set29, Sc.set30, Sc.set31, Sc.set32, Sc.set33, Sc.set34, Sc.set35, Sc.set36, Sc.set37, Sc.set38, Sc.set39]
structure Bc where
  height : Int
  depth : Int
  top : Gl
  clsA : Option Addr
  clsN : Nat
  clsC : Nat
  sheet : Nat
  waitsA : Option Addr
  waitsN : Nat
  waitsC : Nat
  bot : ByteArray
deriving Inhabited
def Bc.cells (n : Bc) : List Value := [.int .i64 n.height, .int .i64 n.depth, .int .i64 n.top.nat, .int .i64 n.top.str, .int .i64 n.top.shr, .int .i64 n.top.so, .int .i64 n.top.ho, .slice n.clsA n.clsN n.clsC, .pointer (some ⟨n.sheet, 0, none⟩), .slice n.waitsA n.waitsN n.waitsC, .string n.bot]
def Bc.arr (n : Bc) : Array Value := n.cells.toArray
@[go_sem] theorem Bc.size_arr (n : Bc) : n.arr.size = 11 := id rfl
@[go_sem] theorem Bc.get0 (n : Bc) : n.arr[0]? = some (.int .i64 n.height) := id rfl
@[go_sem] theorem Bc.get1 (n : Bc) : n.arr[1]? = some (.int .i64 n.depth) := id rfl
@[go_sem] theorem Bc.get8 (n : Bc) : n.arr[8]? = some (.pointer (some ⟨n.sheet, 0, none⟩)) := id rfl
@[go_sem] theorem Bc.get9 (n : Bc) : n.arr[9]? = some (.slice n.waitsA n.waitsN n.waitsC) := id rfl
@[go_sem] theorem Bc.get10 (n : Bc) : n.arr[10]? = some (.string n.bot) := id rfl
@[go_sem] theorem Bc.set8 (n : Bc) (x : Nat) : n.arr.setIfInBounds 8 (.pointer (some ⟨x, 0, none⟩)) = ({ n with sheet := x } : Bc).arr := id rfl
@[go_sem] theorem Bc.set9 (n : Bc) (xA : Option Addr) (xN xC : Nat) : n.arr.setIfInBounds 9 (.slice xA xN xC) = ({ n with waitsA := xA, waitsN := xN, waitsC := xC } : Bc).arr := id rfl
@[go_sem] theorem Bc.set10 (n : Bc) (x : ByteArray) : n.arr.setIfInBounds 10 (.string x) = ({ n with bot := x } : Bc).arr := id rfl
structure Pc where
  boxA : Option Addr
  boxN : Nat
  boxC : Nat
  insA : Option Addr
  insN : Nat
  insC : Nat
  heldA : Option Addr
  heldN : Nat
  heldC : Nat
  pen : Int
  cost : Int
  top : ByteArray
  first : ByteArray
  bot : ByteArray
deriving Inhabited
def Pc.cells (n : Pc) : List Value := [.slice n.boxA n.boxN n.boxC, .slice n.insA n.insN n.insC, .slice n.heldA n.heldN n.heldC, .int .i64 n.pen, .int .i64 n.cost, .string n.top, .string n.first, .string n.bot]
def Pc.arr (n : Pc) : Array Value := n.cells.toArray
@[go_sem] theorem Pc.size_arr (n : Pc) : n.arr.size = 8 := id rfl
@[go_sem] theorem Pc.get0 (n : Pc) : n.arr[0]? = some (.slice n.boxA n.boxN n.boxC) := id rfl
@[go_sem] theorem Pc.get1 (n : Pc) : n.arr[1]? = some (.slice n.insA n.insN n.insC) := id rfl
@[go_sem] theorem Pc.get2 (n : Pc) : n.arr[2]? = some (.slice n.heldA n.heldN n.heldC) := id rfl
@[go_sem] theorem Pc.get3 (n : Pc) : n.arr[3]? = some (.int .i64 n.pen) := id rfl
@[go_sem] theorem Pc.get4 (n : Pc) : n.arr[4]? = some (.int .i64 n.cost) := id rfl
@[go_sem] theorem Pc.get5 (n : Pc) : n.arr[5]? = some (.string n.top) := id rfl
@[go_sem] theorem Pc.get6 (n : Pc) : n.arr[6]? = some (.string n.first) := id rfl
@[go_sem] theorem Pc.get7 (n : Pc) : n.arr[7]? = some (.string n.bot) := id rfl
@[go_sem] theorem Pc.set0 (n : Pc) (xA : Option Addr) (xN xC : Nat) : n.arr.setIfInBounds 0 (.slice xA xN xC) = ({ n with boxA := xA, boxN := xN, boxC := xC } : Pc).arr := id rfl
@[go_sem] theorem Pc.set1 (n : Pc) (xA : Option Addr) (xN xC : Nat) : n.arr.setIfInBounds 1 (.slice xA xN xC) = ({ n with insA := xA, insN := xN, insC := xC } : Pc).arr := id rfl
@[go_sem] theorem Pc.set2 (n : Pc) (xA : Option Addr) (xN xC : Nat) : n.arr.setIfInBounds 2 (.slice xA xN xC) = ({ n with heldA := xA, heldN := xN, heldC := xC } : Pc).arr := id rfl
@[go_sem] theorem Pc.set3 (n : Pc) (x : Int) : n.arr.setIfInBounds 3 (.int .i64 x) = ({ n with pen := x } : Pc).arr := id rfl
@[go_sem] theorem Pc.set4 (n : Pc) (x : Int) : n.arr.setIfInBounds 4 (.int .i64 x) = ({ n with cost := x } : Pc).arr := id rfl
@[go_sem] theorem Pc.set5 (n : Pc) (x : ByteArray) : n.arr.setIfInBounds 5 (.string x) = ({ n with top := x } : Pc).arr := id rfl
@[go_sem] theorem Pc.set6 (n : Pc) (x : ByteArray) : n.arr.setIfInBounds 6 (.string x) = ({ n with first := x } : Pc).arr := id rfl
@[go_sem] theorem Pc.set7 (n : Pc) (x : ByteArray) : n.arr.setIfInBounds 7 (.string x) = ({ n with bot := x } : Pc).arr := id rfl
@[go_sem] theorem Pc.lit (x0A : Option Addr) (x0N x0C : Nat) (x1A : Option Addr) (x1N x1C : Nat) (x2A : Option Addr) (x2N x2C : Nat) (x3 : Int) (x4 : Int) (x5 : ByteArray) (x6 : ByteArray) (x7 : ByteArray) : (#[.slice x0A x0N x0C, .slice x1A x1N x1C, .slice x2A x2N x2C, .int .i64 x3, .int .i64 x4, .string x5, .string x6, .string x7] : Array Value) = (Pc.mk x0A x0N x0C x1A x1N x1C x2A x2N x2C x3 x4 x5 x6 x7).arr := id rfl
theorem setMany_Pc (n m : Pc) : setMany n.arr 0 m.cells = m.arr := by
  simp only [Pc.cells, setMany, Nat.reduceAdd, Pc.set0, Pc.set1, Pc.set2, Pc.set3, Pc.set4, Pc.set5, Pc.set6, Pc.set7]
theorem Pc.one (n : Pc) : n.arr.all (·.oneCell') = true := by simp [Pc.arr, Pc.cells, Value.oneCell']

@[go_sem ↓] theorem execOp_loadcp (ρ : Operand → Value) (dst : Option Tmp) (x : Operand) (ty : TypeId) (pos : String) (after : Array Edge) (guard : Option (Nat × Bool)) :
    execOp ρ { dst, op := .load 82 x, type := ty, pos, after, guard } = (do pure (.value (← ldOp 82 (ρ x)))) := rfl
@[go_sem ↓] theorem execOp_storecp (ρ : Operand → Value) (dst : Option Tmp) (x y : Operand) (ty : TypeId) (pos : String) (after : Array Edge) (guard : Option (Nat × Bool)) :
    execOp ρ { dst, op := .store 82 x y, type := ty, pos, after, guard } = (do stOp 82 (ρ x) (ρ y); pure .skip) := rfl
theorem u_gp : Tryz.prog.underlying 34 = some (.struct (Tryz.prog.fieldsOf 34)) := by kernel_rfl
theorem i_gp : (Tryz.prog.info? 34).map (·.size) = some 8 := by kernel_rfl
@[go_sem ↓] theorem execOp_loadgp (ρ : Operand → Value) (dst : Option Tmp) (x : Operand) (ty : TypeId) (pos : String) (after : Array Edge) (guard : Option (Nat × Bool)) :
    execOp ρ { dst, op := .load 34 x, type := ty, pos, after, guard } = (do pure (.value (← ldOp 34 (ρ x)))) := rfl
@[go_sem ↓] theorem execOp_storegp (ρ : Operand → Value) (dst : Option Tmp) (x y : Operand) (ty : TypeId) (pos : String) (after : Array Edge) (guard : Option (Nat × Bool)) :
    execOp ρ { dst, op := .store 34 x y, type := ty, pos, after, guard } = (do stOp 34 (ρ x) (ρ y); pure .skip) := rfl
@[go_sem] theorem run_loadgp (b o : Nat) (w : World) : (ldOp 34 (.pointer (some ⟨b, o, none⟩))).run Tryz.prog w = ldRow Tryz.prog 34 b o w (agg? w b o 8) := run_loadAt_row _ _ _ u_gp rfl i_gp b o w
@[go_sem ↓] theorem execOp_loadtk (ρ : Operand → Value) (dst : Option Tmp) (x : Operand) (ty : TypeId) (pos : String) (after : Array Edge) (guard : Option (Nat × Bool)) :
    execOp ρ { dst, op := .load 168 x, type := ty, pos, after, guard } = (do pure (.value (← ldOp 168 (ρ x)))) := rfl
@[go_sem ↓] theorem execOp_storetk (ρ : Operand → Value) (dst : Option Tmp) (x y : Operand) (ty : TypeId) (pos : String) (after : Array Edge) (guard : Option (Nat × Bool)) :
    execOp ρ { dst, op := .store 168 x y, type := ty, pos, after, guard } = (do stOp 168 (ρ x) (ρ y); pure .skip) := rfl
@[go_sem ↓] theorem execOp_loadsc (ρ : Operand → Value) (dst : Option Tmp) (x : Operand) (ty : TypeId) (pos : String) (after : Array Edge) (guard : Option (Nat × Bool)) :
    execOp ρ { dst, op := .load 98 x, type := ty, pos, after, guard } = (do pure (.value (← ldOp 98 (ρ x)))) := rfl
@[go_sem ↓] theorem execOp_storesc (ρ : Operand → Value) (dst : Option Tmp) (x y : Operand) (ty : TypeId) (pos : String) (after : Array Edge) (guard : Option (Nat × Bool)) :
    execOp ρ { dst, op := .store 98 x y, type := ty, pos, after, guard } = (do stOp 98 (ρ x) (ρ y); pure .skip) := rfl
@[go_sem ↓] theorem execOp_loadbc (ρ : Operand → Value) (dst : Option Tmp) (x : Operand) (ty : TypeId) (pos : String) (after : Array Edge) (guard : Option (Nat × Bool)) :
    execOp ρ { dst, op := .load 71 x, type := ty, pos, after, guard } = (do pure (.value (← ldOp 71 (ρ x)))) := rfl
@[go_sem ↓] theorem execOp_storebc (ρ : Operand → Value) (dst : Option Tmp) (x y : Operand) (ty : TypeId) (pos : String) (after : Array Edge) (guard : Option (Nat × Bool)) :
    execOp ρ { dst, op := .store 71 x y, type := ty, pos, after, guard } = (do stOp 71 (ρ x) (ρ y); pure .skip) := rfl
theorem u_pc : Tryz.prog.underlying 46 = some (.struct (Tryz.prog.fieldsOf 46)) := by kernel_rfl
theorem i_pc : (Tryz.prog.info? 46).map (·.size) = some 8 := by kernel_rfl
@[go_sem ↓] theorem execOp_loadpc (ρ : Operand → Value) (dst : Option Tmp) (x : Operand) (ty : TypeId) (pos : String) (after : Array Edge) (guard : Option (Nat × Bool)) :
    execOp ρ { dst, op := .load 46 x, type := ty, pos, after, guard } = (do pure (.value (← ldOp 46 (ρ x)))) := rfl
@[go_sem ↓] theorem execOp_storepc (ρ : Operand → Value) (dst : Option Tmp) (x y : Operand) (ty : TypeId) (pos : String) (after : Array Edge) (guard : Option (Nat × Bool)) :
    execOp ρ { dst, op := .store 46 x y, type := ty, pos, after, guard } = (do stOp 46 (ρ x) (ρ y); pure .skip) := rfl
@[go_sem] theorem run_loadpc (b o : Nat) (w : World) : (ldOp 46 (.pointer (some ⟨b, o, none⟩))).run Tryz.prog w = ldRow Tryz.prog 46 b o w (agg? w b o 8) := run_loadAt_row _ _ _ u_pc rfl i_pc b o w
@[go_sem] theorem run_storepc (b o : Nat) (n : Pc) (w : World) : (stOp 46 (.pointer (some ⟨b, o, none⟩)) (.agg n.arr)).run Tryz.prog w = stRow Tryz.prog 46 b o n.arr w (there? w b o 8) := run_storeAt_row _ _ i_pc b o _ (Pc.size_arr n) (Pc.one n) w

end Go.Proofs.YtomehdepjenilaaGreat
