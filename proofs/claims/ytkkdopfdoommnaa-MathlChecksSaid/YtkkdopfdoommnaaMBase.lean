/-
  Layer 20: a sign, an item: structs of the program as Lean structures. No statement of the seat stands here.
-/
import Derived.Test.YtkkdopfdoommnaaNodes2
import Derived.Test.YtkkdopfdoommnaaEq
namespace Go.Proofs.Ytkkdopfdoommnaa
open Go.ChangeShapes Go.WideShapes Go.ChangeAt Go.RowKit


structure Sn where
  kind : Int
  fam : Int
  char : Int
  n : Int
  glue : Gl
deriving Inhabited, DecidableEq
def Sn.cells (n : Sn) : List Value := [.int .i64 n.kind, .int .i64 n.fam, .int .u8 n.char, .int .i64 n.n, .int .i64 n.glue.nat, .int .i64 n.glue.str, .int .i64 n.glue.shr, .int .i64 n.glue.so, .int .i64 n.glue.ho]
def Sn.arr (n : Sn) : Array Value := n.cells.toArray
@[go_sem] theorem Sn.size_arr (n : Sn) : n.arr.size = 9 := id rfl
@[go_sem] theorem Sn.get0 (n : Sn) : n.arr[0]? = some (.int .i64 n.kind) := id rfl
@[go_sem] theorem Sn.at0 (n : Sn) (h : 0 < n.arr.size) : n.arr[0] = .int .i64 n.kind := id rfl
@[go_sem] theorem Sn.get1 (n : Sn) : n.arr[1]? = some (.int .i64 n.fam) := id rfl
@[go_sem] theorem Sn.at1 (n : Sn) (h : 1 < n.arr.size) : n.arr[1] = .int .i64 n.fam := id rfl
@[go_sem] theorem Sn.get2 (n : Sn) : n.arr[2]? = some (.int .u8 n.char) := id rfl
@[go_sem] theorem Sn.at2 (n : Sn) (h : 2 < n.arr.size) : n.arr[2] = .int .u8 n.char := id rfl
@[go_sem] theorem Sn.get3 (n : Sn) : n.arr[3]? = some (.int .i64 n.n) := id rfl
@[go_sem] theorem Sn.at3 (n : Sn) (h : 3 < n.arr.size) : n.arr[3] = .int .i64 n.n := id rfl
@[go_sem] theorem Sn.get4 (n : Sn) : n.arr[4]? = some (.int .i64 n.glue.nat) := id rfl
@[go_sem] theorem Sn.at4 (n : Sn) (h : 4 < n.arr.size) : n.arr[4] = .int .i64 n.glue.nat := id rfl
@[go_sem] theorem Sn.get5 (n : Sn) : n.arr[5]? = some (.int .i64 n.glue.str) := id rfl
@[go_sem] theorem Sn.at5 (n : Sn) (h : 5 < n.arr.size) : n.arr[5] = .int .i64 n.glue.str := id rfl
@[go_sem] theorem Sn.get6 (n : Sn) : n.arr[6]? = some (.int .i64 n.glue.shr) := id rfl
@[go_sem] theorem Sn.at6 (n : Sn) (h : 6 < n.arr.size) : n.arr[6] = .int .i64 n.glue.shr := id rfl
@[go_sem] theorem Sn.get7 (n : Sn) : n.arr[7]? = some (.int .i64 n.glue.so) := id rfl
@[go_sem] theorem Sn.at7 (n : Sn) (h : 7 < n.arr.size) : n.arr[7] = .int .i64 n.glue.so := id rfl
@[go_sem] theorem Sn.get8 (n : Sn) : n.arr[8]? = some (.int .i64 n.glue.ho) := id rfl
@[go_sem] theorem Sn.at8 (n : Sn) (h : 8 < n.arr.size) : n.arr[8] = .int .i64 n.glue.ho := id rfl
@[go_sem] theorem Sn.set0 (n : Sn) (x : Int) : n.arr.setIfInBounds 0 (.int .i64 x) = ({ n with kind := x } : Sn).arr := id rfl
@[go_sem] theorem Sn.set1 (n : Sn) (x : Int) : n.arr.setIfInBounds 1 (.int .i64 x) = ({ n with fam := x } : Sn).arr := id rfl
@[go_sem] theorem Sn.set2 (n : Sn) (x : Int) : n.arr.setIfInBounds 2 (.int .u8 x) = ({ n with char := x } : Sn).arr := id rfl
@[go_sem] theorem Sn.set3 (n : Sn) (x : Int) : n.arr.setIfInBounds 3 (.int .i64 x) = ({ n with n := x } : Sn).arr := id rfl
@[go_sem] theorem Sn.set4 (n : Sn) (x : Int) : n.arr.setIfInBounds 4 (.int .i64 x) = ({ n with glue := { n.glue with nat := x } } : Sn).arr := id rfl
@[go_sem] theorem Sn.set5 (n : Sn) (x : Int) : n.arr.setIfInBounds 5 (.int .i64 x) = ({ n with glue := { n.glue with str := x } } : Sn).arr := id rfl
@[go_sem] theorem Sn.set6 (n : Sn) (x : Int) : n.arr.setIfInBounds 6 (.int .i64 x) = ({ n with glue := { n.glue with shr := x } } : Sn).arr := id rfl
@[go_sem] theorem Sn.set7 (n : Sn) (x : Int) : n.arr.setIfInBounds 7 (.int .i64 x) = ({ n with glue := { n.glue with so := x } } : Sn).arr := id rfl
@[go_sem] theorem Sn.set8 (n : Sn) (x : Int) : n.arr.setIfInBounds 8 (.int .i64 x) = ({ n with glue := { n.glue with ho := x } } : Sn).arr := id rfl
@[go_sem] theorem Sn.lit (x0 : Int) (x1 : Int) (x2 : Int) (x3 : Int) (x4 : Int) (x5 : Int) (x6 : Int) (x7 : Int) (x8 : Int) : (#[.int .i64 x0, .int .i64 x1, .int .u8 x2, .int .i64 x3, .int .i64 x4, .int .i64 x5, .int .i64 x6, .int .i64 x7, .int .i64 x8] : Array Value) = (Sn.mk x0 x1 x2 x3 ⟨x4, x5, x6, x7, x8⟩).arr := id rfl
@[go_sem] theorem Sn.sub_glue (n : Sn) : n.arr.extract 4 9 = n.glue.arr := id rfl
@[go_sem] theorem agg?_Sn (w : World) (n : Sn) (t : TypeId) (fr : Nat × Nat) (b : Nat) (h : b = w.heap.size) : agg? (w.alloc (.cells n.arr t fr)) b 0 9 = some n.arr := by
  rw [agg?_alloc_at w n.arr t fr b 0 9 h (by simp [Sn.size_arr])]; simp [Sn.arr, Sn.cells]
@[go_sem] theorem agg?_Sn_glue (w : World) (n : Sn) (t : TypeId) (fr : Nat × Nat) (b : Nat) (h : b = w.heap.size) : agg? (w.alloc (.cells n.arr t fr)) b 4 5 = some n.glue.arr := by
  rw [agg?_alloc_at w n.arr t fr b 4 5 h (by simp [Sn.size_arr])]; rfl
theorem setMany_Sn (n m : Sn) : setMany n.arr 0 m.cells = m.arr := by
  simp only [Sn.cells, setMany, Nat.reduceAdd, Sn.set0, Sn.set1, Sn.set2, Sn.set3, Sn.set4, Sn.set5, Sn.set6, Sn.set7, Sn.set8]
@[go_sem] theorem setAgg_Sn (w : World) (n m : Sn) (t : TypeId) (b : Nat) (h : b = w.heap.size) : setAgg (w.alloc (.cells n.arr t)) b 0 m.arr = w.alloc (.cells m.arr t) := by
  subst h
  unfold setAgg
  rw [setCells_alloc_at, show m.arr.toList = m.cells from rfl, setMany_Sn]
theorem setMany_Sn_glue (n : Sn) (g : Gl) : setMany n.arr 4 g.cells = ({ n with glue := g } : Sn).arr := by
  simp only [Gl.cells, setMany, Nat.reduceAdd, Sn.set4, Sn.set5, Sn.set6, Sn.set7, Sn.set8]
@[go_sem] theorem setAgg_Sn_glue (w : World) (n : Sn) (g : Gl) (t : TypeId) (b : Nat) (h : b = w.heap.size) : setAgg (w.alloc (.cells n.arr t)) b 4 g.arr = w.alloc (.cells ({ n with glue := g } : Sn).arr t) := by
  subst h
  unfold setAgg
  rw [setCells_alloc_at, show g.arr.toList = g.cells from rfl, setMany_Sn_glue]

theorem Sn.one (n : Sn) : n.arr.all (·.oneCell') = true := by simp [Sn.arr, Sn.cells, Value.oneCell']
def Sn.zero : Sn := ⟨0, 0, 0, 0, .zero⟩

theorem Sn.eq_iff (a b : Sn) : (a = b) ↔ (a.kind = b.kind ∧ a.fam = b.fam ∧ a.char = b.char ∧ a.n = b.n ∧ a.glue.nat = b.glue.nat ∧ a.glue.str = b.glue.str ∧ a.glue.shr = b.glue.shr ∧ a.glue.so = b.glue.so ∧ a.glue.ho = b.glue.ho) := by
  cases a; cases b; rename_i g _ _ _ _ g'; cases g; cases g'; simp

theorem u_Sn : Try.prog.underlying 50 = some (.struct (Try.prog.fieldsOf 50)) := by kernel_rfl
theorem i_Sn : (Try.prog.info? 50).map (·.size) = some 9 := by kernel_rfl
@[go_sem ↓] theorem execOp_loadSn (ρ : Operand → Value) (dst : Option Tmp) (x : Operand) (ty : TypeId) (pos : String) (after : Array Edge) (guard : Option (Nat × Bool)) :
    execOp ρ { dst, op := .load 50 x, type := ty, pos, after, guard } = (do pure (.value (← ldOp 50 (ρ x)))) := rfl
@[go_sem ↓] theorem execOp_storeSn (ρ : Operand → Value) (dst : Option Tmp) (x y : Operand) (ty : TypeId) (pos : String) (after : Array Edge) (guard : Option (Nat × Bool)) :
    execOp ρ { dst, op := .store 50 x y, type := ty, pos, after, guard } = (do stOp 50 (ρ x) (ρ y); pure .skip) := rfl
@[go_sem] theorem run_loadSn (b o : Nat) (w : World) : (ldOp 50 (.pointer (some ⟨b, o, none⟩))).run Try.prog w = ldRow Try.prog 50 b o w (agg? w b o 9) := run_loadAt_row _ _ _ u_Sn rfl i_Sn b o w
theorem ret_Sn {fn : Func} {R : Ending → World → Prop} {a : Act} {w : World} {p : Tmp} (h : fn.results = #[.cell p 50]) (b o : Nat) (n : Sn) (hp : a.tmps.getD p undef = .pointer (some ⟨b, o, none⟩)) (hc : agg? w b o 9 = some n.arr) (hdf : a.defers = []) (hR : R (.returned (.agg n.arr)) w) : bodyPost Try.prog fn R .ret a w :=
  ret_row _ _ _ u_Sn rfl i_Sn h b o _ hp hc hdf hR
@[go_sem] theorem run_storeSn (b o : Nat) (n : Sn) (w : World) : (stOp 50 (.pointer (some ⟨b, o, none⟩)) (.agg n.arr)).run Try.prog w = stRow Try.prog 50 b o n.arr w (there? w b o 9) := run_storeAt_row _ _ i_Sn b o _ (Sn.size_arr n) (Sn.one n) w

theorem u_RSn : Try.prog.underlying 105 = some (.struct (Try.prog.fieldsOf 105)) := by kernel_rfl
theorem i_RSn : (Try.prog.info? 105).map (·.size) = some 9 := by kernel_rfl
@[go_sem ↓] theorem execOp_loadRSn (ρ : Operand → Value) (dst : Option Tmp) (x : Operand) (ty : TypeId) (pos : String) (after : Array Edge) (guard : Option (Nat × Bool)) :
    execOp ρ { dst, op := .load 105 x, type := ty, pos, after, guard } = (do pure (.value (← ldOp 105 (ρ x)))) := rfl
@[go_sem ↓] theorem execOp_storeRSn (ρ : Operand → Value) (dst : Option Tmp) (x y : Operand) (ty : TypeId) (pos : String) (after : Array Edge) (guard : Option (Nat × Bool)) :
    execOp ρ { dst, op := .store 105 x y, type := ty, pos, after, guard } = (do stOp 105 (ρ x) (ρ y); pure .skip) := rfl
@[go_sem] theorem run_loadRSn (b o : Nat) (w : World) : (ldOp 105 (.pointer (some ⟨b, o, none⟩))).run Try.prog w = ldRow Try.prog 105 b o w (agg? w b o 9) := run_loadAt_row _ _ _ u_RSn rfl i_RSn b o w
theorem ret_RSn {fn : Func} {R : Ending → World → Prop} {a : Act} {w : World} {p : Tmp} (h : fn.results = #[.cell p 105]) (b o : Nat) (n : Sn) (hp : a.tmps.getD p undef = .pointer (some ⟨b, o, none⟩)) (hc : agg? w b o 9 = some n.arr) (hdf : a.defers = []) (hR : R (.returned (.agg n.arr)) w) : bodyPost Try.prog fn R .ret a w :=
  ret_row _ _ _ u_RSn rfl i_RSn h b o _ hp hc hdf hR
@[go_sem] theorem run_storeRSn (b o : Nat) (n : Sn) (w : World) : (stOp 105 (.pointer (some ⟨b, o, none⟩)) (.agg n.arr)).run Try.prog w = stRow Try.prog 105 b o n.arr w (there? w b o 9) := run_storeAt_row _ _ i_RSn b o _ (Sn.size_arr n) (Sn.one n) w

/-- two signs are the same: opaque to the walk -/
def eqSn (a b : Sn) : Bool := decide (a = b)
theorem eqSn_iff {a b : Sn} : eqSn a b = true ↔ a = b := by simp [eqSn]
theorem eqSn_self (a : Sn) : eqSn a a = true := eqSn_iff.2 rfl

set_option maxRecDepth 100000 in
set_option maxHeartbeats 1000000 in
theorem run_eqSn (a b : Sn) (w : World) : (Op.equalIn 10000 50 (.agg a.arr) (.agg b.arr)).run Try.prog w = .ok (decide (a = b)) w := by
  simp only [Sn.arr, Sn.cells]
  simp [go_sem]
  by_cases h : a = b
  · subst h; simp
  · rw [decide_eq_false h]
    rw [Sn.eq_iff] at h
    by_cases h0 : a.kind = b.kind
    case neg => rw [if_neg h0]
    rw [if_pos h0]
    by_cases h1 : a.fam = b.fam
    case neg => rw [if_neg h1]
    rw [if_pos h1]
    by_cases h2 : a.char = b.char
    case neg => rw [if_neg h2]
    rw [if_pos h2]
    by_cases h3 : a.n = b.n
    case neg => rw [if_neg h3]
    rw [if_pos h3]
    by_cases h4 : a.glue.nat = b.glue.nat
    case neg => rw [if_neg h4]
    rw [if_pos h4]
    by_cases h5 : a.glue.str = b.glue.str
    case neg => rw [if_neg h5]
    rw [if_pos h5]
    by_cases h6 : a.glue.shr = b.glue.shr
    case neg => rw [if_neg h6]
    rw [if_pos h6]
    by_cases h7 : a.glue.so = b.glue.so
    case neg => rw [if_neg h7]
    rw [if_pos h7]
    by_cases h8 : a.glue.ho = b.glue.ho
    case neg => simp [h8]
    exact absurd ⟨h0, h1, h2, h3, h4, h5, h6, h7, h8⟩ h
def eqOp (ty : TypeId) (X Y : Operand) (x y : Value) : Sem Value := do eqGuard .eql ty X Y x y; binOp .eql ty x y
def neOp (ty : TypeId) (X Y : Operand) (x y : Value) : Sem Value := do eqGuard .neq ty X Y x y; binOp .neq ty x y
@[go_sem ↓] theorem execOp_eqSn (ρ : Operand → Value) (dst : Option Tmp) (x y : Operand) (k ty : TypeId) (pos : String) (after : Array Edge) (guard : Option (Nat × Bool)) :
    execOp ρ { dst, op := .binOp .eql 50 x y k, type := ty, pos, after, guard } = (do pure (.value (← eqOp 50 x y (ρ x) (ρ y)))) := rfl
@[go_sem ↓] theorem execOp_neSn (ρ : Operand → Value) (dst : Option Tmp) (x y : Operand) (k ty : TypeId) (pos : String) (after : Array Edge) (guard : Option (Nat × Bool)) :
    execOp ρ { dst, op := .binOp .neq 50 x y k, type := ty, pos, after, guard } = (do pure (.value (← neOp 50 x y (ρ x) (ρ y)))) := rfl
theorem eqGuardSn : Try.prog.eqGuardType Try.prog.depth 50 = false := by kernel_rfl
@[go_sem] theorem run_eqOpSn (a b : Sn) (X Y : Operand) (w : World) : (eqOp 50 X Y (.agg a.arr) (.agg b.arr)).run Try.prog w = .ok (.bool (eqSn a b)) w := by
  unfold eqOp
  have h1 := run_eqGuard_agg (P := Try.prog) w .eql 50 X Y a.arr b.arr eqGuardSn
  have h2 : (binOp .eql 50 (.agg a.arr) (.agg b.arr)).run Try.prog w = .ok (.bool (eqSn a b)) w := by rw [run_eql_struct, run_eqSn]; rfl
  simp only [Sem.run_bind, h1, Result.andThen_ok, h2]
@[go_sem] theorem run_neOpSn (a b : Sn) (X Y : Operand) (w : World) : (neOp 50 X Y (.agg a.arr) (.agg b.arr)).run Try.prog w = .ok (.bool (!eqSn a b)) w := by
  unfold neOp
  have h1 := run_eqGuard_agg (P := Try.prog) w .neq 50 X Y a.arr b.arr eqGuardSn
  have h2 : (binOp .neq 50 (.agg a.arr) (.agg b.arr)).run Try.prog w = .ok (.bool (!eqSn a b)) w := by rw [run_neq_struct, run_eqSn]; rfl
  simp only [Sem.run_bind, h1, Result.andThen_ok, h2]

def bdSn (parts : Array (Nat × Value)) : Sem Value := Instr.build 50 parts
@[go_sem ↓] theorem execOp_buildSn (ρ : Operand → Value) (dst : Option Tmp) (x : Array (Nat × Operand)) (ty : TypeId) (pos : String) (after : Array Edge) (guard : Option (Nat × Bool)) :
    execOp ρ { dst, op := .build 50 x, type := ty, pos, after, guard } = (do pure (.value (← bdSn (x.map fun (i, y) => (i, ρ y))))) := rfl
@[go_sem] theorem run_bdSn_0 (w : World) : (bdSn #[]).run Try.prog w = .ok (.agg Sn.zero.arr) w := by kernel_rfl
@[go_sem] theorem run_bdSn_k (k : Int) (w : World) : (bdSn #[(0, .int .i64 k)]).run Try.prog w = .ok (.agg ({ Sn.zero with kind := k } : Sn).arr) w := by kernel_rfl

end Go.Proofs.Ytkkdopfdoommnaa
