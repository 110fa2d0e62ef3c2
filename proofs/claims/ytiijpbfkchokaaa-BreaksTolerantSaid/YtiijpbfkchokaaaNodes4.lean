/-
  nodes: the table of the kinds, and whether a node is right by it.
-/
import Derived.Test.YtiijpbfkchokaaaNodes3
import Derived.Laws.EntriesVeiled
import Derived.Deep.RegionHeld3
import Derived.RegionTactic
namespace Go.Proofs.Ytiijpbfkchokaaa
open Go.ChangeShapes Go.WideShapes Go.ChangeAt Go.RowKit

/-- the rows of the table; p: the block of the variable that the ligatures' row captured -/
def KR (p : Nat) : List (List Value) := [
  [.string ⟨#[]⟩, .bool false, .nilFunc, .nilFunc],
  [.string ⟨#[]⟩, .bool false, .func (.func 55) #[] #[], .func (.func 47) #[] #[]],
  [.string ⟨#[]⟩, .bool false, .func (.func 56) #[] #[], .func (.func 48) #[] #[.pointer (some ⟨p, 0, none⟩)]],
  [.string ⟨#[114, 117, 108, 101]⟩, .bool false, .func (.func 58) #[] #[], .func (.func 59) #[] #[]],
  [.string ⟨#[104, 98, 111, 120]⟩, .bool true, .func (.func 60) #[] #[], .func (.func 49) #[] #[]],
  [.string ⟨#[118, 98, 111, 120]⟩, .bool true, .func (.func 60) #[] #[], .func (.func 49) #[] #[]],
  [.string ⟨#[]⟩, .bool false, .func (.func 61) #[] #[], .func (.func 62) #[] #[]],
  [.string ⟨#[103, 108, 117, 101]⟩, .bool false, .func (.func 63) #[] #[], .func (.func 64) #[] #[]],
  [.string ⟨#[107, 101, 114, 110]⟩, .bool false, .func (.func 65) #[] #[], .func (.func 66) #[] #[]],
  [.string ⟨#[112, 101, 110, 97, 108, 116, 121]⟩, .bool false, .func (.func 67) #[] #[], .func (.func 68) #[] #[]],
  [.string ⟨#[100, 105, 115, 99, 114, 101, 116, 105, 111, 110, 97, 114, 121]⟩, .bool true, .func (.func 61) #[] #[], .func (.func 62) #[] #[]],
  [.string ⟨#[]⟩, .bool false, .func (.func 61) #[] #[], .func (.func 62) #[] #[]],
  [.string ⟨#[109, 97, 114, 107]⟩, .bool false, .func (.func 52) #[] #[], .func (.func 51) #[] #[]],
  [.string ⟨#[105, 110, 115, 101, 114, 116]⟩, .bool true, .func (.func 69) #[] #[], .func (.func 70) #[] #[]],
  [.string ⟨#[115, 112, 101, 99, 105, 97, 108]⟩, .bool false, .func (.func 52) #[] #[], .func (.func 51) #[] #[]],
  [.string ⟨#[109, 97, 116, 104, 111, 110]⟩, .bool false, .func (.func 53) #[] #[], .func (.func 50) #[] #[]],
  [.string ⟨#[109, 97, 116, 104, 111, 102, 102]⟩, .bool false, .func (.func 53) #[] #[], .func (.func 50) #[] #[]],
  [.string ⟨#[97, 100, 106, 117, 115, 116]⟩, .bool true, .func (.func 61) #[] #[], .func (.func 62) #[] #[]]]
def KT (p : Nat) : Array Value := (KR p).flatten.toArray
theorem KT_size (p : Nat) : (KT p).size = 72 := rfl
/-- the table lies in block t; the captured variable in block p holds the characters' function -/
structure Table (w : World) (t p : Nat) : Prop where
  row : agg? w t 0 72 = some (KT p)
  cap : w.cell? ⟨p, 0, none⟩ = some (.func (.func 47) #[] #[])

theorem u_kd : Try.prog.underlying 102 = some (.struct (Try.prog.fieldsOf 102)) := by kernel_rfl
theorem i_kd : (Try.prog.info? 102).map (·.size) = some 4 := by kernel_rfl
theorem u_kt : Try.prog.underlying 103 = some (.array 18 102) := by kernel_rfl
theorem i_kt : (Try.prog.info? 103).map (·.size) = some 72 := by kernel_rfl
@[go_sem ↓] theorem execOp_loadKd (ρ : Operand → Value) (dst : Option Tmp) (x : Operand) (ty : TypeId) (pos : String) (after : Array Edge) (guard : Option (Nat × Bool)) :
    execOp ρ { dst, op := .load 102 x, type := ty, pos, after, guard } = (do pure (.value (← ldOp 102 (ρ x)))) := rfl
@[go_sem ↓] theorem execOp_storeKd (ρ : Operand → Value) (dst : Option Tmp) (x y : Operand) (ty : TypeId) (pos : String) (after : Array Edge) (guard : Option (Nat × Bool)) :
    execOp ρ { dst, op := .store 102 x y, type := ty, pos, after, guard } = (do stOp 102 (ρ x) (ρ y); pure .skip) := rfl
@[go_sem ↓] theorem execOp_storeKt (ρ : Operand → Value) (dst : Option Tmp) (x y : Operand) (ty : TypeId) (pos : String) (after : Array Edge) (guard : Option (Nat × Bool)) :
    execOp ρ { dst, op := .store 103 x y, type := ty, pos, after, guard } = (do stOp 103 (ρ x) (ρ y); pure .skip) := rfl
@[go_sem] theorem run_loadKd (b o : Nat) (w : World) : (ldOp 102 (.pointer (some ⟨b, o, none⟩))).run Try.prog w = ldRow Try.prog 102 b o w (agg? w b o 4) := run_loadAt_row _ _ _ u_kd rfl i_kd b o w
theorem run_storeKd (b o : Nat) (c : Array Value) (hc : c.size = 4) (h1 : c.all (·.oneCell') = true) (w : World) : (stOp 102 (.pointer (some ⟨b, o, none⟩)) (.agg c)).run Try.prog w = stRow Try.prog 102 b o c w (there? w b o 4) := run_storeAt_row _ _ i_kd b o _ hc h1 w
theorem run_storeKt (b o : Nat) (c : Array Value) (hc : c.size = 72) (h1 : c.all (·.oneCell') = true) (w : World) : (stOp 103 (.pointer (some ⟨b, o, none⟩)) (.agg c)).run Try.prog w = stRow Try.prog 103 b o c w (there? w b o 72) := run_storeAt_row _ _ i_kt b o _ hc h1 w

def bdOp (ty : TypeId) (parts : Array (Nat × Value)) : Sem Value := Instr.build ty parts
@[go_sem ↓] theorem execOp_buildKd (ρ : Operand → Value) (dst : Option Tmp) (x : Array (Nat × Operand)) (ty : TypeId) (pos : String) (after : Array Edge) (guard : Option (Nat × Bool)) :
    execOp ρ { dst, op := .build 102 x, type := ty, pos, after, guard } = (do pure (.value (← bdOp 102 (x.map fun (i, y) => (i, ρ y))))) := rfl
@[go_sem ↓] theorem execOp_buildKt (ρ : Operand → Value) (dst : Option Tmp) (x : Array (Nat × Operand)) (ty : TypeId) (pos : String) (after : Array Edge) (guard : Option (Nat × Bool)) :
    execOp ρ { dst, op := .build 103 x, type := ty, pos, after, guard } = (do pure (.value (← bdOp 103 (x.map fun (i, y) => (i, ρ y))))) := rfl
@[go_sem] theorem run_bdKd (s : ByteArray) (o : Bool) (f g : Fn) (x y c d : Array Value) (w : World) : (bdOp 102 #[(0, .string s), (1, .bool o), (2, .func f x c), (3, .func g y d)]).run Try.prog w = .ok (.agg #[.string s, .bool o, .func f x c, .func g y d]) w := by kernel_rfl
@[go_sem] theorem run_bdKt (p : Nat) (w : World) : (bdOp 103 #[(1, .agg #[.string ⟨#[]⟩, .bool false, .func (.func 55) #[] #[], .func (.func 47) #[] #[]]), (2, .agg #[.string ⟨#[]⟩, .bool false, .func (.func 56) #[] #[], .func (.func 48) #[] #[.pointer (some ⟨p, 0, none⟩)]]), (3, .agg #[.string ⟨#[114, 117, 108, 101]⟩, .bool false, .func (.func 58) #[] #[], .func (.func 59) #[] #[]]), (4, .agg #[.string ⟨#[104, 98, 111, 120]⟩, .bool true, .func (.func 60) #[] #[], .func (.func 49) #[] #[]]), (5, .agg #[.string ⟨#[118, 98, 111, 120]⟩, .bool true, .func (.func 60) #[] #[], .func (.func 49) #[] #[]]), (6, .agg #[.string ⟨#[]⟩, .bool false, .func (.func 61) #[] #[], .func (.func 62) #[] #[]]), (7, .agg #[.string ⟨#[103, 108, 117, 101]⟩, .bool false, .func (.func 63) #[] #[], .func (.func 64) #[] #[]]), (8, .agg #[.string ⟨#[107, 101, 114, 110]⟩, .bool false, .func (.func 65) #[] #[], .func (.func 66) #[] #[]]), (9, .agg #[.string ⟨#[112, 101, 110, 97, 108, 116, 121]⟩, .bool false, .func (.func 67) #[] #[], .func (.func 68) #[] #[]]), (10, .agg #[.string ⟨#[100, 105, 115, 99, 114, 101, 116, 105, 111, 110, 97, 114, 121]⟩, .bool true, .func (.func 61) #[] #[], .func (.func 62) #[] #[]]), (11, .agg #[.string ⟨#[]⟩, .bool false, .func (.func 61) #[] #[], .func (.func 62) #[] #[]]), (12, .agg #[.string ⟨#[109, 97, 114, 107]⟩, .bool false, .func (.func 52) #[] #[], .func (.func 51) #[] #[]]), (14, .agg #[.string ⟨#[115, 112, 101, 99, 105, 97, 108]⟩, .bool false, .func (.func 52) #[] #[], .func (.func 51) #[] #[]]), (13, .agg #[.string ⟨#[105, 110, 115, 101, 114, 116]⟩, .bool true, .func (.func 69) #[] #[], .func (.func 70) #[] #[]]), (15, .agg #[.string ⟨#[109, 97, 116, 104, 111, 110]⟩, .bool false, .func (.func 53) #[] #[], .func (.func 50) #[] #[]]), (16, .agg #[.string ⟨#[109, 97, 116, 104, 111, 102, 102]⟩, .bool false, .func (.func 53) #[] #[], .func (.func 50) #[] #[]]), (17, .agg #[.string ⟨#[97, 100, 106, 117, 115, 116]⟩, .bool true, .func (.func 61) #[] #[], .func (.func 62) #[] #[]])]).run Try.prog w = .ok (.agg (KT p)) w := by kernel_rfl
theorem KT_one (p : Nat) : (KT p).all (·.oneCell') = true := by simp [KT, KR, Value.oneCell']
@[go_sem] theorem run_storeKT (b o p : Nat) (w : World) : (stOp 103 (.pointer (some ⟨b, o, none⟩)) (.agg (KT p))).run Try.prog w = stRow Try.prog 103 b o (KT p) w (there? w b o 72) := run_storeKt b o _ (KT_size p) (KT_one p) w
theorem zs_kt : Try.zeroCells103.size = 72 := by kernel_rfl
@[go_sem] theorem setAgg_kt (w : World) (p b : Nat) (h : b = w.heap.size) : setAgg (w.alloc (.cells Try.zeroCells103 103)) b 0 (KT p) = w.alloc (.cells (KT p) 103) := setAgg_whole _ _ _ _ _ h (by rw [KT_size, zs_kt])
attribute [local go_sem] KT_size zs_kt
set_option maxRecDepth 100000 in
set_option maxHeartbeats 2000000 in
theorem kinds_any (w : World) : Calls Try.prog 39 #[] w fun e w' => ∃ p, e = .returned (.agg (KT p)) ∧ Below w.heap.size w w' ∧ w'.cell? ⟨p, 0, none⟩ = some (.func (.func 47) #[] #[]) := by
  go_enter Try.func39, Try.ntmps39
  go_wp2
  refine ret_row _ _ _ u_kt rfl i_kt rfl w.heap.size 0 (KT (w.heap.size + 1)) rfl ?_ rfl ⟨w.heap.size + 1, rfl, ?_, ?_⟩
  · rw [agg?_alloc_past _ _ _ _ _ (by simp), agg?_whole _ _ _ _ _ _ rfl (KT_size _)]
  · exact ((Below.refl _ _).alloc (Nat.le_refl _) _).alloc (by simp) _
  · rw [World.cell?_alloc_at _ _ _ _ (by simp)]; rfl

/-- the ligatures' row: what it captured is the characters' function -/
theorem r_kinds2 (n : Nd) (p : Nat) (w : World) (hp : w.cell? ⟨p, 0, none⟩ = some (.func (.func 47) #[] #[])) (hlt : p < w.heap.size) :
    Calls Try.prog 48 #[.agg n.arr, .pointer (some ⟨p, 0, none⟩)] w fun e w' => e = .returned (.agg ({n with font := 0, char := 0, w := 0, h := 0, d := 0, text := ⟨#[]⟩} : Nd).arr) ∧ Below w.heap.size w w' := by
  have hlt2 : p < w.heap.size + 1 := by omega
  go_enter Try.func48, Try.ntmps48
  go_wp2_with (go_at_call 47; refine (r_kinds1 _ _).mono ?_; rintro e w1 ⟨rfl, hb1⟩; obtain ⟨hc1, hf1, ha1, ht1⟩ := bfacts hb1)
  refine ret_nd rfl (w.heap.size + 1) 0 _ rfl (agg?_setAgg_nd (by go_simp)) rfl ⟨rfl, ?_⟩
  exact Below.setAgg (Below.trans (((Below.refl _ _).alloc (Nat.le_refl _) _).alloc (by simp) _) (hb1.mono (by simp; omega))) (by simp) _ _
end Go.Proofs.Ytiijpbfkchokaaa
