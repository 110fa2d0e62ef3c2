/-
  nodes: the table of the kinds, and whether a node is right by it.
-/
import Derived.Test.YtomehdepjenilaaGreatNodes3
import Derived.Test.YtomehdepjenilaaGreatEq
import Derived.Laws.EntriesVeiled
import Derived.Deep.RegionHeld3
import Derived.RegionTactic
import Derived.Outline
import Derived.Lib.Hide
set_option maxRecDepth 100000
set_option maxHeartbeats 2000000
namespace Go.Proofs.YtomehdepjenilaaGreat
open Go.ChangeShapes Go.WideShapes Go.ChangeAt Go.RowKit

def KR (p : Nat) : List (List Value) := [
  [.string ⟨#[]⟩, .bool false, .nilFunc, .nilFunc],
  [.string ⟨#[]⟩, .bool false, .func (.func 126) #[] #[], .func (.func 118) #[] #[]],
  [.string ⟨#[]⟩, .bool false, .func (.func 127) #[] #[], .func (.func 119) #[] #[.pointer (some ⟨p, 0, none⟩)]],
  [.string ⟨#[114, 117, 108, 101]⟩, .bool false, .func (.func 129) #[] #[], .func (.func 130) #[] #[]],
  [.string ⟨#[104, 98, 111, 120]⟩, .bool true, .func (.func 131) #[] #[], .func (.func 120) #[] #[]],
  [.string ⟨#[118, 98, 111, 120]⟩, .bool true, .func (.func 131) #[] #[], .func (.func 120) #[] #[]],
  [.string ⟨#[]⟩, .bool false, .func (.func 132) #[] #[], .func (.func 133) #[] #[]],
  [.string ⟨#[103, 108, 117, 101]⟩, .bool false, .func (.func 134) #[] #[], .func (.func 135) #[] #[]],
  [.string ⟨#[107, 101, 114, 110]⟩, .bool false, .func (.func 136) #[] #[], .func (.func 137) #[] #[]],
  [.string ⟨#[112, 101, 110, 97, 108, 116, 121]⟩, .bool false, .func (.func 138) #[] #[], .func (.func 139) #[] #[]],
  [.string ⟨#[100, 105, 115, 99, 114, 101, 116, 105, 111, 110, 97, 114, 121]⟩, .bool true, .func (.func 132) #[] #[], .func (.func 133) #[] #[]],
  [.string ⟨#[]⟩, .bool false, .func (.func 132) #[] #[], .func (.func 133) #[] #[]],
  [.string ⟨#[109, 97, 114, 107]⟩, .bool false, .func (.func 123) #[] #[], .func (.func 122) #[] #[]],
  [.string ⟨#[105, 110, 115, 101, 114, 116]⟩, .bool true, .func (.func 140) #[] #[], .func (.func 141) #[] #[]],
  [.string ⟨#[115, 112, 101, 99, 105, 97, 108]⟩, .bool false, .func (.func 123) #[] #[], .func (.func 122) #[] #[]],
  [.string ⟨#[109, 97, 116, 104, 111, 110]⟩, .bool false, .func (.func 124) #[] #[], .func (.func 121) #[] #[]],
  [.string ⟨#[109, 97, 116, 104, 111, 102, 102]⟩, .bool false, .func (.func 124) #[] #[], .func (.func 121) #[] #[]],
  [.string ⟨#[97, 100, 106, 117, 115, 116]⟩, .bool true, .func (.func 132) #[] #[], .func (.func 133) #[] #[]]]
def KT (p : Nat) : Array Value := (KR p).flatten.toArray
theorem KT_size (p : Nat) : (KT p).size = 72 := rfl
structure Table (w : World) (t p : Nat) : Prop where
  row : agg? w t 0 72 = some (KT p)
  cap : w.cell? ⟨p, 0, none⟩ = some (.func (.func 118) #[] #[])

theorem u_kd : Tryz.prog.underlying 156 = some (.struct (Tryz.prog.fieldsOf 156)) := by kernel_rfl
theorem i_kd : (Tryz.prog.info? 156).map (·.size) = some 4 := by kernel_rfl
theorem u_kt : Tryz.prog.underlying 157 = some (.array 18 156) := by kernel_rfl
theorem i_kt : (Tryz.prog.info? 157).map (·.size) = some 72 := by kernel_rfl
@[go_sem ↓] theorem execOp_loadKd (ρ : Operand → Value) (dst : Option Tmp) (x : Operand) (ty : TypeId) (pos : String) (after : Array Edge) (guard : Option (Nat × Bool)) :
    execOp ρ { dst, op := .load 156 x, type := ty, pos, after, guard } = (do pure (.value (← ldOp 156 (ρ x)))) := rfl
@[go_sem ↓] theorem execOp_storeKd (ρ : Operand → Value) (dst : Option Tmp) (x y : Operand) (ty : TypeId) (pos : String) (after : Array Edge) (guard : Option (Nat × Bool)) :
    execOp ρ { dst, op := .store 156 x y, type := ty, pos, after, guard } = (do stOp 156 (ρ x) (ρ y); pure .skip) := rfl
@[go_sem ↓] theorem execOp_storeKt (ρ : Operand → Value) (dst : Option Tmp) (x y : Operand) (ty : TypeId) (pos : String) (after : Array Edge) (guard : Option (Nat × Bool)) :
    execOp ρ { dst, op := .store 157 x y, type := ty, pos, after, guard } = (do stOp 157 (ρ x) (ρ y); pure .skip) := rfl
@[go_sem] theorem run_loadKd (b o : Nat) (w : World) : (ldOp 156 (.pointer (some ⟨b, o, none⟩))).run Tryz.prog w = ldRow Tryz.prog 156 b o w (agg? w b o 4) := run_loadAt_row _ _ _ u_kd rfl i_kd b o w
theorem run_storeKd (b o : Nat) (c : Array Value) (hc : c.size = 4) (h1 : c.all (·.oneCell') = true) (w : World) : (stOp 156 (.pointer (some ⟨b, o, none⟩)) (.agg c)).run Tryz.prog w = stRow Tryz.prog 156 b o c w (there? w b o 4) := run_storeAt_row _ _ i_kd b o _ hc h1 w
theorem run_storeKt (b o : Nat) (c : Array Value) (hc : c.size = 72) (h1 : c.all (·.oneCell') = true) (w : World) : (stOp 157 (.pointer (some ⟨b, o, none⟩)) (.agg c)).run Tryz.prog w = stRow Tryz.prog 157 b o c w (there? w b o 72) := run_storeAt_row _ _ i_kt b o _ hc h1 w

def bdOp (ty : TypeId) (parts : Array (Nat × Value)) : Sem Value := Instr.build ty parts
@[go_sem ↓] theorem execOp_buildKd (ρ : Operand → Value) (dst : Option Tmp) (x : Array (Nat × Operand)) (ty : TypeId) (pos : String) (after : Array Edge) (guard : Option (Nat × Bool)) :
    execOp ρ { dst, op := .build 156 x, type := ty, pos, after, guard } = (do pure (.value (← bdOp 156 (x.map fun (i, y) => (i, ρ y))))) := rfl
@[go_sem ↓] theorem execOp_buildKt (ρ : Operand → Value) (dst : Option Tmp) (x : Array (Nat × Operand)) (ty : TypeId) (pos : String) (after : Array Edge) (guard : Option (Nat × Bool)) :
    execOp ρ { dst, op := .build 157 x, type := ty, pos, after, guard } = (do pure (.value (← bdOp 157 (x.map fun (i, y) => (i, ρ y))))) := rfl
@[go_sem] theorem run_bdKd (s : ByteArray) (o : Bool) (f g : Fn) (x y c d : Array Value) (w : World) : (bdOp 156 #[(0, .string s), (1, .bool o), (2, .func f x c), (3, .func g y d)]).run Tryz.prog w = .ok (.agg #[.string s, .bool o, .func f x c, .func g y d]) w := by kernel_rfl
@[go_sem] theorem run_bdKt (p : Nat) (w : World) : (bdOp 157 #[(1, .agg #[.string ⟨#[]⟩, .bool false, .func (.func 126) #[] #[], .func (.func 118) #[] #[]]), (2, .agg #[.string ⟨#[]⟩, .bool false, .func (.func 127) #[] #[], .func (.func 119) #[] #[.pointer (some ⟨p, 0, none⟩)]]), (3, .agg #[.string ⟨#[114, 117, 108, 101]⟩, .bool false, .func (.func 129) #[] #[], .func (.func 130) #[] #[]]), (4, .agg #[.string ⟨#[104, 98, 111, 120]⟩, .bool true, .func (.func 131) #[] #[], .func (.func 120) #[] #[]]), (5, .agg #[.string ⟨#[118, 98, 111, 120]⟩, .bool true, .func (.func 131) #[] #[], .func (.func 120) #[] #[]]), (6, .agg #[.string ⟨#[]⟩, .bool false, .func (.func 132) #[] #[], .func (.func 133) #[] #[]]), (7, .agg #[.string ⟨#[103, 108, 117, 101]⟩, .bool false, .func (.func 134) #[] #[], .func (.func 135) #[] #[]]), (8, .agg #[.string ⟨#[107, 101, 114, 110]⟩, .bool false, .func (.func 136) #[] #[], .func (.func 137) #[] #[]]), (9, .agg #[.string ⟨#[112, 101, 110, 97, 108, 116, 121]⟩, .bool false, .func (.func 138) #[] #[], .func (.func 139) #[] #[]]), (10, .agg #[.string ⟨#[100, 105, 115, 99, 114, 101, 116, 105, 111, 110, 97, 114, 121]⟩, .bool true, .func (.func 132) #[] #[], .func (.func 133) #[] #[]]), (11, .agg #[.string ⟨#[]⟩, .bool false, .func (.func 132) #[] #[], .func (.func 133) #[] #[]]), (12, .agg #[.string ⟨#[109, 97, 114, 107]⟩, .bool false, .func (.func 123) #[] #[], .func (.func 122) #[] #[]]), (14, .agg #[.string ⟨#[115, 112, 101, 99, 105, 97, 108]⟩, .bool false, .func (.func 123) #[] #[], .func (.func 122) #[] #[]]), (13, .agg #[.string ⟨#[105, 110, 115, 101, 114, 116]⟩, .bool true, .func (.func 140) #[] #[], .func (.func 141) #[] #[]]), (15, .agg #[.string ⟨#[109, 97, 116, 104, 111, 110]⟩, .bool false, .func (.func 124) #[] #[], .func (.func 121) #[] #[]]), (16, .agg #[.string ⟨#[109, 97, 116, 104, 111, 102, 102]⟩, .bool false, .func (.func 124) #[] #[], .func (.func 121) #[] #[]]), (17, .agg #[.string ⟨#[97, 100, 106, 117, 115, 116]⟩, .bool true, .func (.func 132) #[] #[], .func (.func 133) #[] #[]])]).run Tryz.prog w = .ok (.agg (KT p)) w := by kernel_rfl
theorem KT_one (p : Nat) : (KT p).all (·.oneCell') = true := by simp [KT, KR, Value.oneCell']
@[go_sem] theorem run_storeKT (b o p : Nat) (w : World) : (stOp 157 (.pointer (some ⟨b, o, none⟩)) (.agg (KT p))).run Tryz.prog w = stRow Tryz.prog 157 b o (KT p) w (there? w b o 72) := run_storeKt b o _ (KT_size p) (KT_one p) w
theorem zs_kt : Tryz.zeroCells157.size = 72 := by kernel_rfl
@[go_sem] theorem setAgg_kt (w : World) (p b : Nat) (h : b = w.heap.size) : setAgg (w.alloc (.cells Tryz.zeroCells157 157)) b 0 (KT p) = w.alloc (.cells (KT p) 157) := setAgg_whole _ _ _ _ _ h (by rw [KT_size, zs_kt])
attribute [local go_sem] KT_size zs_kt
theorem kinds_any (w : World) : Calls Tryz.prog 95 #[] w fun e w' => ∃ p, e = .returned (.agg (KT p)) ∧ Below w.heap.size w w' ∧ w'.cell? ⟨p, 0, none⟩ = some (.func (.func 118) #[] #[]) := by
  go_enter Tryz.func95, Tryz.ntmps95
  go_wp2
  refine ret_row _ _ _ u_kt rfl i_kt rfl w.heap.size 0 (KT (w.heap.size + 1)) rfl ?_ rfl ⟨w.heap.size + 1, rfl, ?_, ?_⟩
  · rw [agg?_alloc_past _ _ _ _ _ (by simp), agg?_whole _ _ _ _ _ _ rfl (KT_size _)]
  · exact ((Below.refl _ _).alloc (Nat.le_refl _) _).alloc (by simp) _
  · rw [World.cell?_alloc_at _ _ _ _ (by simp)]; rfl

theorem r_kinds2 (n : Nd) (p : Nat) (w : World) (hp : w.cell? ⟨p, 0, none⟩ = some (.func (.func 118) #[] #[])) (hlt : p < w.heap.size) :
    Calls Tryz.prog 119 #[.agg n.arr, .pointer (some ⟨p, 0, none⟩)] w fun e w' => e = .returned (.agg ({n with font := 0, char := 0, w := 0, h := 0, d := 0, text := ⟨#[]⟩} : Nd).arr) ∧ Below w.heap.size w w' := by
  have hlt2 : p < w.heap.size + 1 := by omega
  go_enter Tryz.func119, Tryz.ntmps119
  go_wp2_with (go_at_call 118; refine (r_kinds1 _ _).mono ?_; rintro e w1 ⟨rfl, hb1⟩; obtain ⟨hc1, hf1, ha1, ht1⟩ := bfacts hb1)
  refine ret_nd rfl (w.heap.size + 1) 0 _ rfl (agg?_setAgg_nd (by go_simp)) rfl ⟨rfl, ?_⟩
  exact Below.setAgg (Below.trans (((Below.refl _ _).alloc (Nat.le_refl _) _).alloc (by simp) _) (hb1.mono (by simp; omega))) (by simp) _ _
end Go.Proofs.YtomehdepjenilaaGreat
namespace Go.Proofs.YtomehdepjenilaaGreat
open Go.ChangeShapes Go.WideShapes Go.ChangeAt Go.RowKit

def eqNd (a b : Nd) : Bool := decide (a = b)
def eqlNd (X Y : Operand) (x y : Value) : Sem Value := do eqGuard .eql 49 X Y x y; binOp .eql 49 x y
@[go_sem ↓] theorem execOp_eqNd (ρ : Operand → Value) (dst : Option Tmp) (x y : Operand) (k ty : TypeId) (pos : String) (after : Array Edge) (guard : Option (Nat × Bool)) :
    execOp ρ { dst, op := .binOp .eql 49 x y k, type := ty, pos, after, guard } = (do pure (.value (← eqlNd x y (ρ x) (ρ y)))) := rfl
theorem eqGuardNd : Tryz.prog.eqGuardType Tryz.prog.depth 49 = false := by kernel_rfl
@[go_sem] theorem run_eqlNd' (a b : Nd) (X Y : Operand) (w : World) : (eqlNd X Y (.agg a.arr) (.agg b.arr)).run Tryz.prog w = .ok (.bool (eqNd a b)) w := by
  unfold eqlNd
  have h1 := run_eqGuard_agg (P := Tryz.prog) w .eql 49 X Y a.arr b.arr eqGuardNd
  have h2 : (binOp .eql 49 (.agg a.arr) (.agg b.arr)).run Tryz.prog w = .ok (.bool (eqNd a b)) w := run_eqlNd a b w
  simp only [Sem.run_bind, h1, Result.andThen_ok, h2]
@[go_sem] theorem run_storeKd4 (b o : Nat) (s : ByteArray) (q : Bool) (f g : Fn) (x c y d : Array Value) (w : World) : (stOp 156 (.pointer (some ⟨b, o, none⟩)) (.agg #[.string s, .bool q, .func f x c, .func g y d])).run Tryz.prog w = stRow Tryz.prog 156 b o #[.string s, .bool q, .func f x c, .func g y d] w (there? w b o 4) := run_storeKd b o _ rfl (by simp [Value.oneCell']) w
@[go_sem] theorem setAgg_kd (w : World) (b : Nat) (x0 x1 x2 x3 y0 y1 y2 y3 : Value) (t : TypeId) (h : b = w.heap.size) : setAgg (w.alloc (.cells #[x0, x1, x2, x3] t)) b 0 #[y0, y1, y2, y3] = w.alloc (.cells #[y0, y1, y2, y3] t) := setAgg_whole _ _ _ _ _ h rfl
theorem agg?_blk' {w : World} {X : Nat} {c : Array Value} {t : TypeId} {fr : Nat × Nat} (h : w.heap[X]? = some (.cells c t fr)) (o n : Nat) (hn : o + n ≤ c.size) : agg? w X o n = some (c.extract o (o + n)) := by
  unfold agg?; rw [h]; simp [hn]
theorem cell?_blk' {w : World} {X : Nat} {c : Array Value} {t : TypeId} {fr : Nat × Nat} (h : w.heap[X]? = some (.cells c t fr)) (o : Nat) : w.cell? ⟨X, o, none⟩ = c[o]? := by simp [World.cell?, h]
theorem agg?_alloc_some' {w : World} {b o n : Nat} {c : Array Value} (ob : Obj) (h : agg? w b o n = some c) : agg? (w.alloc ob) b o n = some c := by rw [agg?_alloc_past w ob b o n (agg?_lt h), h]
structure NMid (w : World) (n : Nd) (X : Nat) (nm : ByteArray) (op : Bool) (gi fi : Nat) (gc fc : Array Value) (W : World) : Prop where
  below : Below w.heap.size w W
  nd : W.heap[w.heap.size]? = some (.cells n.arr 49 (0, 0))
  row : W.heap[X]? = some (.cells #[.string nm, .bool op, .func (.func gi) #[] gc, .func (.func fi) #[] fc] 156 (0, 0))
section
variable {w W w' : World} {n : Nd} {X : Nat} {nm : ByteArray} {op : Bool} {gi fi : Nat} {gc fc : Array Value}
theorem NMid.call (h : NMid w n X nm op gi fi gc fc W) (hb : Below W.heap.size W w') : NMid w n X nm op gi fi gc fc w' :=
  ⟨h.below.trans (hb.mono h.below.size), (hb.block _ (Array.getElem?_eq_some_iff.1 h.nd).1).trans h.nd, (hb.block _ (Array.getElem?_eq_some_iff.1 h.row).1).trans h.row⟩
theorem NMid.drew (h : NMid w n X nm op gi fi gc fc W) : NMid w n X nm op gi fi gc fc W.drew := ⟨h.below.drew, h.nd, h.row⟩
theorem NMid.seen (h : NMid w n X nm op gi fi gc fc W) :
    NMid w n X nm op gi fi gc fc W ∧ W.cell? ⟨X, 2, none⟩ = some (.func (.func gi) #[] gc) ∧ W.cell? ⟨X, 3, none⟩ = some (.func (.func fi) #[] fc) ∧ agg? W w.heap.size 0 19 = some n.arr ∧ W.cell? ⟨w.heap.size, 0, none⟩ = some (.int .i64 n.kind) := by
  refine ⟨h, ?_, ?_, ?_, ?_⟩
  · rw [cell?_blk' h.row]; rfl
  · rw [cell?_blk' h.row]; rfl
  · rw [agg?_blk' h.nd 0 19 (by simp [Nd.size_arr])]; simp [Nd.arr, Nd.cells]
  · rw [cell?_blk' h.nd]; rfl
end
theorem right_yes (n : Nd) (k : Nat) (hk1 : 1 ≤ k) (hk17 : k ≤ 17) (hn : n.kind = (k : Int)) (t : Nat) (w : World) (nm : ByteArray) (op : Bool) (gi fi : Nat) (hrow : agg? w t (k * 4) 4 = some #[.string nm, .bool op, .func (.func gi) #[] #[], .func (.func fi) #[] #[]])
    (hG : ∀ W, Calls Tryz.prog gi #[.agg n.arr] W fun e w' => e = .returned (.bool true) ∧ Below W.heap.size W w')
    (m : Nd) (hcg : ∀ W, (callFunc gi #[.agg n.arr]).run Tryz.prog W = .ok (.enter gi #[.agg n.arr]) W) (hcf : ∀ W, (callFunc fi #[.agg n.arr]).run Tryz.prog W = .ok (.enter fi #[.agg n.arr]) W) (hF : ∀ W, Calls Tryz.prog fi #[.agg n.arr] W fun e w' => e = .returned (.agg m.arr) ∧ Below W.heap.size W w') :
    Calls Tryz.prog 96 #[.agg n.arr, .pointer (some ⟨t, 0, none⟩)] w fun e w' => e = .returned (.bool (eqNd m { Nd.zero with kind := n.kind })) ∧ Below w.heap.size w w' := by
  have hlt := agg?_lt hrow
  have HG0 := Lib.hid hG
  have HF0 := Lib.hid hF
  have hk0' : (0 : Int) ≤ (k : Int) := by omega
  have hk1' : (1 : Int) ≤ (k : Int) := by omega
  have hk2' : (k : Int) ≤ (17 : Int) := by omega
  have hk3' : (k : Int) < (18 : Int) := by omega
  have hw1 : withinB (k : Int) 1 17 = true := by simp [withinB]; omega
  have hnd : (w.alloc (.cells n.arr 49)).heap[w.heap.size]? = some (.cells n.arr 49 (0, 0)) := heap_alloc_new _ _
  have hrow1 : agg? (w.alloc (.cells n.arr 49)) t (k * 4) 4 = some #[.string nm, .bool op, .func (.func gi) #[] #[], .func (.func fi) #[] #[]] := agg?_alloc_some' _ hrow
  have hb1 : Below w.heap.size w (w.alloc (.cells n.arr 49)) := (Below.refl _ _).alloc (Nat.le_refl _) _
  have hz1 : w.heap.size < (w.alloc (.cells n.arr 49)).heap.size := by simp
  have ck1 : (w.alloc (.cells n.arr 49)).cell? ⟨w.heap.size, 0, none⟩ = some (.int .i64 (k : Int)) := by rw [cell?_blk' hnd, ← hn]; rfl
  clear hG hF hrow
  go_enter Tryz.func96, Tryz.ntmps96
  go_wp2_with (go_at_call 128; refine (within_any _ _ _ _).mono ?_; rintro e w' ⟨rfl, rfl⟩)
  generalize w.alloc (.cells n.arr 49) = w1 at hnd hrow1 hz1 hb1 ck1 ⊢
  have Hnd := Lib.hid hnd
  have Hb1 := Lib.hid hb1
  clear hnd hb1
  go_region_held3 (fun w' => w'.cell? ⟨w.heap.size, 0, none⟩ = some (.int .i64 (k : Int)) ∧ agg? w' t (k * 4) 4 = some #[.string nm, .bool op, .func (.func gi) #[] #[], .func (.func fi) #[] #[]]) (simp [*, World.cell?_alloc_some, agg?_drew, agg?_alloc_some']) (fail)
  have hm : NMid w n w1.heap.size nm op gi fi #[] #[] (w1.alloc (.cells #[.string nm, .bool op, .func (.func gi) #[] #[], .func (.func fi) #[] #[]] 156)).drew :=
    ⟨(Hb1.out.alloc (Nat.le_of_lt hz1) _).drew, (Below.heap_alloc _ _ _ hz1).trans Hnd.out, heap_alloc_new _ _⟩
  generalize (w1.alloc (.cells #[.string nm, .bool op, .func (.func gi) #[] #[], .func (.func fi) #[] #[]] 156)).drew = w2 at hm ⊢
  generalize w1.heap.size = X at hm ⊢
  clear hrow1 ck1 Hnd Hb1 hz1 hlt hw1
  have HG : Hid (∀ W, NMid w n X nm op gi fi #[] #[] W → Calls Tryz.prog gi #[.agg n.arr] W fun e w' => e = .returned (.bool true) ∧ NMid w n X nm op gi fi #[] #[] w') := Lib.hid fun W h => (HG0.out W).mono fun _ _ ⟨a, b⟩ => ⟨a, h.call b⟩
  have HF : Hid (∀ W, NMid w n X nm op gi fi #[] #[] W → Calls Tryz.prog fi #[.agg n.arr] W fun e w' => e = .returned (.agg m.arr) ∧ NMid w n X nm op gi fi #[] #[] w') := Lib.hid fun W h => (HF0.out W).mono fun _ _ ⟨a, b⟩ => ⟨a, h.call b⟩
  clear HG0 HF0
  go_wp2_with fail
  go_region_held3 (fun w' => NMid w n X nm op gi fi #[] #[] w' ∧ w'.cell? ⟨X, 2, none⟩ = some (.func (.func gi) #[] #[]) ∧ w'.cell? ⟨X, 3, none⟩ = some (.func (.func fi) #[] #[]) ∧ agg? w' w.heap.size 0 19 = some n.arr ∧ w'.cell? ⟨w.heap.size, 0, none⟩ = some (.int .i64 n.kind))
    ((refine NMid.seen ?_; first | assumption | exact hm.drew))
    (first | ((with_reducible refine (HG.out _ (And.left (by assumption))).mono ?_); rintro e w8 ⟨rfl, h8⟩) | ((with_reducible refine (HF.out _ (And.left (by assumption))).mono ?_); rintro e w9 ⟨rfl, h9⟩))
  go_wp2_with fail
  go_ret
  exact ⟨by rw [hn]; rfl, h9.below⟩
theorem right_yes1 (n : Nd) (k : Nat) (hk1 : 1 ≤ k) (hk17 : k ≤ 17) (hn : n.kind = (k : Int)) (t : Nat) (w : World) (nm : ByteArray) (op : Bool) (gi fi : Nat) (q : Value) (hrow : agg? w t (k * 4) 4 = some #[.string nm, .bool op, .func (.func gi) #[] #[], .func (.func fi) #[] #[q]])
    (hG : ∀ W, Calls Tryz.prog gi #[.agg n.arr] W fun e w' => e = .returned (.bool true) ∧ Below W.heap.size W w')
    (m : Nd) (hcg : ∀ W, (callFunc gi #[.agg n.arr]).run Tryz.prog W = .ok (.enter gi #[.agg n.arr]) W) (hcf : ∀ W, (callFunc fi #[.agg n.arr, q]).run Tryz.prog W = .ok (.enter fi #[.agg n.arr, q]) W) (hF : ∀ W, Below w.heap.size w W → Calls Tryz.prog fi #[.agg n.arr, q] W fun e w' => e = .returned (.agg m.arr) ∧ Below W.heap.size W w') :
    Calls Tryz.prog 96 #[.agg n.arr, .pointer (some ⟨t, 0, none⟩)] w fun e w' => e = .returned (.bool (eqNd m { Nd.zero with kind := n.kind })) ∧ Below w.heap.size w w' := by
  have hlt := agg?_lt hrow
  have HG0 := Lib.hid hG
  have HF0 := Lib.hid hF
  have hk0' : (0 : Int) ≤ (k : Int) := by omega
  have hk1' : (1 : Int) ≤ (k : Int) := by omega
  have hk2' : (k : Int) ≤ (17 : Int) := by omega
  have hk3' : (k : Int) < (18 : Int) := by omega
  have hw1 : withinB (k : Int) 1 17 = true := by simp [withinB]; omega
  have hnd : (w.alloc (.cells n.arr 49)).heap[w.heap.size]? = some (.cells n.arr 49 (0, 0)) := heap_alloc_new _ _
  have hrow1 : agg? (w.alloc (.cells n.arr 49)) t (k * 4) 4 = some #[.string nm, .bool op, .func (.func gi) #[] #[], .func (.func fi) #[] #[q]] := agg?_alloc_some' _ hrow
  have hb1 : Below w.heap.size w (w.alloc (.cells n.arr 49)) := (Below.refl _ _).alloc (Nat.le_refl _) _
  have hz1 : w.heap.size < (w.alloc (.cells n.arr 49)).heap.size := by simp
  have ck1 : (w.alloc (.cells n.arr 49)).cell? ⟨w.heap.size, 0, none⟩ = some (.int .i64 (k : Int)) := by rw [cell?_blk' hnd, ← hn]; rfl
  clear hG hF hrow
  go_enter Tryz.func96, Tryz.ntmps96
  go_wp2_with (go_at_call 128; refine (within_any _ _ _ _).mono ?_; rintro e w' ⟨rfl, rfl⟩)
  generalize w.alloc (.cells n.arr 49) = w1 at hnd hrow1 hz1 hb1 ck1 ⊢
  have Hnd := Lib.hid hnd
  have Hb1 := Lib.hid hb1
  clear hnd hb1
  go_region_held3 (fun w' => w'.cell? ⟨w.heap.size, 0, none⟩ = some (.int .i64 (k : Int)) ∧ agg? w' t (k * 4) 4 = some #[.string nm, .bool op, .func (.func gi) #[] #[], .func (.func fi) #[] #[q]]) (simp [*, World.cell?_alloc_some, agg?_drew, agg?_alloc_some']) (fail)
  have hm : NMid w n w1.heap.size nm op gi fi #[] #[q] (w1.alloc (.cells #[.string nm, .bool op, .func (.func gi) #[] #[], .func (.func fi) #[] #[q]] 156)).drew :=
    ⟨(Hb1.out.alloc (Nat.le_of_lt hz1) _).drew, (Below.heap_alloc _ _ _ hz1).trans Hnd.out, heap_alloc_new _ _⟩
  generalize (w1.alloc (.cells #[.string nm, .bool op, .func (.func gi) #[] #[], .func (.func fi) #[] #[q]] 156)).drew = w2 at hm ⊢
  generalize w1.heap.size = X at hm ⊢
  clear hrow1 ck1 Hnd Hb1 hz1 hlt hw1
  have HG : Hid (∀ W, NMid w n X nm op gi fi #[] #[q] W → Calls Tryz.prog gi #[.agg n.arr] W fun e w' => e = .returned (.bool true) ∧ NMid w n X nm op gi fi #[] #[q] w') := Lib.hid fun W h => (HG0.out W).mono fun _ _ ⟨a, b⟩ => ⟨a, h.call b⟩
  have HF : Hid (∀ W, NMid w n X nm op gi fi #[] #[q] W → Calls Tryz.prog fi #[.agg n.arr, q] W fun e w' => e = .returned (.agg m.arr) ∧ NMid w n X nm op gi fi #[] #[q] w') := Lib.hid fun W h => (HF0.out W h.below).mono fun _ _ ⟨a, b⟩ => ⟨a, h.call b⟩
  clear HG0 HF0
  go_wp2_with fail
  go_region_held3 (fun w' => NMid w n X nm op gi fi #[] #[q] w' ∧ w'.cell? ⟨X, 2, none⟩ = some (.func (.func gi) #[] #[]) ∧ w'.cell? ⟨X, 3, none⟩ = some (.func (.func fi) #[] #[q]) ∧ agg? w' w.heap.size 0 19 = some n.arr ∧ w'.cell? ⟨w.heap.size, 0, none⟩ = some (.int .i64 n.kind))
    ((refine NMid.seen ?_; first | assumption | exact hm.drew))
    (first | ((with_reducible refine (HG.out _ (And.left (by assumption))).mono ?_); rintro e w8 ⟨rfl, h8⟩) | ((with_reducible refine (HF.out _ (And.left (by assumption))).mono ?_); rintro e w9 ⟨rfl, h9⟩))
  go_wp2_with fail
  go_ret
  exact ⟨by rw [hn]; rfl, h9.below⟩
end Go.Proofs.YtomehdepjenilaaGreat
