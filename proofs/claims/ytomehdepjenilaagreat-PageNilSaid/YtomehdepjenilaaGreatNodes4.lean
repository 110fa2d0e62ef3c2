/-
  nodes: the table of the kinds, and whether a node is right by it.
-/
import Derived.Test.YtomehdepjenilaaGreatNodes3
import Derived.Laws.EntriesVeiled
import Derived.Deep.RegionHeld3
import Derived.RegionTactic
namespace Go.Proofs.YtomehdepjenilaaGreat
open Go.ChangeShapes Go.WideShapes Go.ChangeAt Go.RowKit

def KR (p : Nat) : List (List Value) := [
  [.string ⟨#[]⟩, .bool false, .nilFunc, .nilFunc],
  [.string ⟨#[]⟩, .bool false, .func (.func 126) #[] #[], .func (.func 118) #[] #[]],
  [.string ⟨#[]⟩, .bool false, .func (.func 127) #[] #[], .func (.func 119) #[] #[.pointer (some ⟨p, 0, none⟩)]],
  [.string ⟨#[114, 117, 108, 101]⟩, .bool false, .func (.func 129) #[] #[], .func (.func 130) #[] #[]],
  [.string ⟨#[104, 98, 111, 120]⟩, .bool true, .func (.func 131) #[] #[], .func (.func 120) #[] #[]],
  [.string ⟨#[118, 98, 111, 120]⟩, .bool true, .func (.func 131) #[] #[], .func (.func 120) #[] #[]],
  [.string ⟨#[]⟩, .bool false, .func (.func 132) #[] #[], .func (.func 133) #[] #[]],
  [.string ⟨#[103, 108, 117, 101]⟩, .bool false, .func (.func 134) #[] #[], .func (.func 135) #[] #[]],
  [.string ⟨#[107, 101, 114, 110]⟩, .bool false, .func (.func 136) #[] #[], .func (.func 137) #[] #[]],
  [.string ⟨#[112, 101, 110, 97, 108, 116, 121]⟩, .bool false, .func (.func 138) #[] #[], .func (.func 139) #[] #[]],
  [.string ⟨#[100, 105, 115, 99, 114, 101, 116, 105, 111, 110, 97, 114, 121]⟩, .bool true, .func (.func 132) #[] #[], .func (.func 133) #[] #[]],
  [.string ⟨#[]⟩, .bool false, .func (.func 132) #[] #[], .func (.func 133) #[] #[]],
  [.string ⟨#[109, 97, 114, 107]⟩, .bool false, .func (.func 123) #[] #[], .func (.func 122) #[] #[]],
  [.string ⟨#[105, 110, 115, 101, 114, 116]⟩, .bool true, .func (.func 140) #[] #[], .func (.func 141) #[] #[]],
  [.string ⟨#[115, 112, 101, 99, 105, 97, 108]⟩, .bool false, .func (.func 123) #[] #[], .func (.func 122) #[] #[]],
  [.string ⟨#[109, 97, 116, 104, 111, 110]⟩, .bool false, .func (.func 124) #[] #[], .func (.func 121) #[] #[]],
  [.string ⟨#[109, 97, 116, 104, 111, 102, 102]⟩, .bool false, .func (.func 124) #[] #[], .func (.func 121) #[] #[]],
  [.string ⟨#[97, 100, 106, 117, 115, 116]⟩, .bool true, .func (.func 132) #[] #[], .func (.func 133) #[] #[]]]
def KT (p : Nat) : Array Value := (KR p).flatten.toArray
theorem KT_size (p : Nat) : (KT p).size = 72 := rfl
structure Table (w : World) (t p : Nat) : Prop where
  row : agg? w t 0 72 = some (KT p)
  cap : w.cell? ⟨p, 0, none⟩ = some (.func (.func 118) #[] #[])

theorem u_kd : Tryz.prog.underlying 156 = some (.struct (Tryz.prog.fieldsOf 156)) := by kernel_rfl
theorem i_kd : (Tryz.prog.info? 156).map (·.size) = some 4 := by kernel_rfl
theorem u_kt : Tryz.prog.underlying 157 = some (.array 18 156) := by kernel_rfl
theorem i_kt : (Tryz.prog.info? 157).map (·.size) = some 72 := by kernel_rfl
@[go_sem ↓] theorem execOp_loadKd (ρ : Operand → Value) (dst : Option Tmp) (x : Operand) (ty : TypeId) (pos : String) (after : Array Edge) (guard : Option (Nat × Bool)) :
    execOp ρ { dst, op := .load 156 x, type := ty, pos, after, guard } = (do pure (.value (← ldOp 156 (ρ x)))) := rfl
@[go_sem ↓] theorem execOp_storeKd (ρ : Operand → Value) (dst : Option Tmp) (x y : Operand) (ty : TypeId) (pos : String) (after : Array Edge) (guard : Option (Nat × Bool)) :
    execOp ρ { dst, op := .store 156 x y, type := ty, pos, after, guard } = (do stOp 156 (ρ x) (ρ y); pure .skip) := rfl
@[go_sem ↓] theorem execOp_storeKt (ρ : Operand → Value) (dst : Option Tmp) (x y : Operand) (ty : TypeId) (pos : String) (after : Array Edge) (guard : Option (Nat × Bool)) :
    execOp ρ { dst, op := .store 157 x y, type := ty, pos, after, guard } = (do stOp 157 (ρ x) (ρ y); pure .skip) := rfl
@[go_sem] theorem run_loadKd (b o : Nat) (w : World) : (ldOp 156 (.pointer (some ⟨b, o, none⟩))).run Tryz.prog w = ldRow Tryz.prog 156 b o w (agg? w b o 4) := run_loadAt_row _ _ _ u_kd rfl i_kd b o w
theorem run_storeKd (b o : Nat) (c : Array Value) (hc : c.size = 4) (h1 : c.all (·.oneCell') = true) (w : World) : (stOp 156 (.pointer (some ⟨b, o, none⟩)) (.agg c)).run Tryz.prog w = stRow Tryz.prog 156 b o c w (there? w b o 4) := run_storeAt_row _ _ i_kd b o _ hc h1 w
theorem run_storeKt (b o : Nat) (c : Array Value) (hc : c.size = 72) (h1 : c.all (·.oneCell') = true) (w : World) : (stOp 157 (.pointer (some ⟨b, o, none⟩)) (.agg c)).run Tryz.prog w = stRow Tryz.prog 157 b o c w (there? w b o 72) := run_storeAt_row _ _ i_kt b o _ hc h1 w

def bdOp (ty : TypeId) (parts : Array (Nat × Value)) : Sem Value := Instr.build ty parts
@[go_sem ↓] theorem execOp_buildKd (ρ : Operand → Value) (dst : Option Tmp) (x : Array (Nat × Operand)) (ty : TypeId) (pos : String) (after : Array Edge) (guard : Option (Nat × Bool)) :
    execOp ρ { dst, op := .build 156 x, type := ty, pos, after, guard } = (do pure (.value (← bdOp 156 (x.map fun (i, y) => (i, ρ y))))) := rfl
@[go_sem ↓] theorem execOp_buildKt (ρ : Operand → Value) (dst : Option Tmp) (x : Array (Nat × Operand)) (ty : TypeId) (pos : String) (after : Array Edge) (guard : Option (Nat × Bool)) :
    execOp ρ { dst, op := .build 157 x, type := ty, pos, after, guard } = (do pure (.value (← bdOp 157 (x.map fun (i, y) => (i, ρ y))))) := rfl
@[go_sem] theorem run_bdKd (s : ByteArray) (o : Bool) (f g : Fn) (x y c d : Array Value) (w : World) : (bdOp 156 #[(0, .string s), (1, .bool o), (2, .func f x c), (3, .func g y d)]).run Tryz.prog w = .ok (.agg #[.string s, .bool o, .func f x c, .func g y d]) w := by kernel_rfl
@[go_sem] theorem run_bdKt (p : Nat) (w : World) : (bdOp 157 #[(1, .agg #[.string ⟨#[]⟩, .bool false, .func (.func 126) #[] #[], .func (.func 118) #[] #[]]), (2, .agg #[.string ⟨#[]⟩, .bool false, .func (.func 127) #[] #[], .func (.func 119) #[] #[.pointer (some ⟨p, 0, none⟩)]]), (3, .agg #[.string ⟨#[114, 117, 108, 101]⟩, .bool false, .func (.func 129) #[] #[], .func (.func 130) #[] #[]]), (4, .agg #[.string ⟨#[104, 98, 111, 120]⟩, .bool true, .func (.func 131) #[] #[], .func (.func 120) #[] #[]]), (5, .agg #[.string ⟨#[118, 98, 111, 120]⟩, .bool true, .func (.func 131) #[] #[], .func (.func 120) #[] #[]]), (6, .agg #[.string ⟨#[]⟩, .bool false, .func (.func 132) #[] #[], .func (.func 133) #[] #[]]), (7, .agg #[.string ⟨#[103, 108, 117, 101]⟩, .bool false, .func (.func 134) #[] #[], .func (.func 135) #[] #[]]), (8, .agg #[.string ⟨#[107, 101, 114, 110]⟩, .bool false, .func (.func 136) #[] #[], .func (.func 137) #[] #[]]), (9, .agg #[.string ⟨#[112, 101, 110, 97, 108, 116, 121]⟩, .bool false, .func (.func 138) #[] #[], .func (.func 139) #[] #[]]), (10, .agg #[.string ⟨#[100, 105, 115, 99, 114, 101, 116, 105, 111, 110, 97, 114, 121]⟩, .bool true, .func (.func 132) #[] #[], .func (.func 133) #[] #[]]), (11, .agg #[.string ⟨#[]⟩, .bool false, .func (.func 132) #[] #[], .func (.func 133) #[] #[]]), (12, .agg #[.string ⟨#[109, 97, 114, 107]⟩, .bool false, .func (.func 123) #[] #[], .func (.func 122) #[] #[]]), (14, .agg #[.string ⟨#[115, 112, 101, 99, 105, 97, 108]⟩, .bool false, .func (.func 123) #[] #[], .func (.func 122) #[] #[]]), (13, .agg #[.string ⟨#[105, 110, 115, 101, 114, 116]⟩, .bool true, .func (.func 140) #[] #[], .func (.func 141) #[] #[]]), (15, .agg #[.string ⟨#[109, 97, 116, 104, 111, 110]⟩, .bool false, .func (.func 124) #[] #[], .func (.func 121) #[] #[]]), (16, .agg #[.string ⟨#[109, 97, 116, 104, 111, 102, 102]⟩, .bool false, .func (.func 124) #[] #[], .func (.func 121) #[] #[]]), (17, .agg #[.string ⟨#[97, 100, 106, 117, 115, 116]⟩, .bool true, .func (.func 132) #[] #[], .func (.func 133) #[] #[]])]).run Tryz.prog w = .ok (.agg (KT p)) w := by kernel_rfl
theorem KT_one (p : Nat) : (KT p).all (·.oneCell') = true := by simp [KT, KR, Value.oneCell']
@[go_sem] theorem run_storeKT (b o p : Nat) (w : World) : (stOp 157 (.pointer (some ⟨b, o, none⟩)) (.agg (KT p))).run Tryz.prog w = stRow Tryz.prog 157 b o (KT p) w (there? w b o 72) := run_storeKt b o _ (KT_size p) (KT_one p) w
theorem zs_kt : Tryz.zeroCells157.size = 72 := by kernel_rfl
@[go_sem] theorem setAgg_kt (w : World) (p b : Nat) (h : b = w.heap.size) : setAgg (w.alloc (.cells Tryz.zeroCells157 157)) b 0 (KT p) = w.alloc (.cells (KT p) 157) := setAgg_whole _ _ _ _ _ h (by rw [KT_size, zs_kt])
attribute [local go_sem] KT_size zs_kt
set_option maxRecDepth 100000 in
set_option maxHeartbeats 2000000 in
theorem kinds_any (w : World) : Calls Tryz.prog 95 #[] w fun e w' => ∃ p, e = .returned (.agg (KT p)) ∧ Below w.heap.size w w' ∧ w'.cell? ⟨p, 0, none⟩ = some (.func (.func 118) #[] #[]) := by
  go_enter Tryz.func95, Tryz.ntmps95
  go_wp2
  refine ret_row _ _ _ u_kt rfl i_kt rfl w.heap.size 0 (KT (w.heap.size + 1)) rfl ?_ rfl ⟨w.heap.size + 1, rfl, ?_, ?_⟩
  · rw [agg?_alloc_past _ _ _ _ _ (by simp), agg?_whole _ _ _ _ _ _ rfl (KT_size _)]
  · exact ((Below.refl _ _).alloc (Nat.le_refl _) _).alloc (by simp) _
  · rw [World.cell?_alloc_at _ _ _ _ (by simp)]; rfl

theorem r_kinds2 (n : Nd) (p : Nat) (w : World) (hp : w.cell? ⟨p, 0, none⟩ = some (.func (.func 118) #[] #[])) (hlt : p < w.heap.size) :
    Calls Tryz.prog 119 #[.agg n.arr, .pointer (some ⟨p, 0, none⟩)] w fun e w' => e = .returned (.agg ({n with font := 0, char := 0, w := 0, h := 0, d := 0, text := ⟨#[]⟩} : Nd).arr) ∧ Below w.heap.size w w' := by
  have hlt2 : p < w.heap.size + 1 := by omega
  go_enter Tryz.func119, Tryz.ntmps119
  go_wp2_with (go_at_call 118; refine (r_kinds1 _ _).mono ?_; rintro e w1 ⟨rfl, hb1⟩; obtain ⟨hc1, hf1, ha1, ht1⟩ := bfacts hb1)
  refine ret_nd rfl (w.heap.size + 1) 0 _ rfl (agg?_setAgg_nd (by go_simp)) rfl ⟨rfl, ?_⟩
  exact Below.setAgg (Below.trans (((Below.refl _ _).alloc (Nat.le_refl _) _).alloc (by simp) _) (hb1.mono (by simp; omega))) (by simp) _ _
end Go.Proofs.YtomehdepjenilaaGreat
