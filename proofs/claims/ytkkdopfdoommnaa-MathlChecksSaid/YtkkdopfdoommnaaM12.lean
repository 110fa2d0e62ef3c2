/-
  Layer 20: formulas of every depth; the law's short trial 'live'.
-/
import Derived.Test.YtkkdopfdoommnaaM7
import Derived.Test.YtkkdopfdoommnaaM11
namespace Go.Proofs.Ytkkdopfdoommnaa
open Go.ChangeShapes Go.WideShapes Go.ChangeAt Go.RowKit
attribute [local go_sem ↓] Go.wp_at_zero Go.wp_at_succ

theorem fmla_of (d : Nat) (hF : FieldOK d) : FmlaOK d := fun dp R b cap i p L w hd h hi => fmla_walk d hF dp hd R b cap i p L w h hi _ (Lib.hid rfl)
theorem field_ok : ∀ d, d ≤ 20 → FieldOK d
  | 0, _ => field_zero
  | d + 1, h => field_succ d (by omega) (fmla_of d (field_ok d (by omega)))
theorem fmla_ok : FmlaOK 20 := fmla_of 20 (field_ok 20 (Nat.le_refl _))

def bsSn (parts : Array (Nat × Value)) : Sem Value := Instr.buildSlice 40 4 parts
@[go_sem ↓] theorem execOp_bsSn (ρ : Operand → Value) (dst : Option Tmp) (x : Array (Nat × Operand)) (ty : TypeId) (pos : String) (after : Array Edge) (guard : Option (Nat × Bool)) :
    execOp ρ { dst, op := .buildSlice 40 4 x, type := ty, pos, after, guard } = (do pure (.value (← bsSn (x.map fun (i, y) => (i, ρ y))))) := rfl
def sn4 (a b c d : Sn) : Array Value := (a.cells ++ (b.cells ++ (c.cells ++ d.cells))).toArray
theorem fill_sn4 (a b c d : Sn) : Instr.fill (fun i => some (i * 9, 9)) ((Array.range (4 * 9)).map ((Value.agg Sn.zero.arr).cells[· % (Value.agg Sn.zero.arr).cells.size]!)) [(0, .agg a.arr), (1, .agg b.arr), (2, .agg c.arr), (3, .agg d.arr)] = some (sn4 a b c d) := by kernel_rfl
theorem info_sn0 : (Try.prog.info? 50).map (fun i => (i.zero, i.size)) = some (some (.agg Sn.zero.arr), 9) := by kernel_rfl
@[go_sem] theorem run_bsSn (a b c d : Sn) (w : World) : (bsSn #[(0, .agg a.arr), (1, .agg b.arr), (2, .agg c.arr), (3, .agg d.arr)]).run Try.prog w = .ok (.slice (some ⟨w.heap.size, 0, none⟩) 4 4) (w.alloc (.cells (sn4 a b c d) 50)) := by
  obtain ⟨i, hi, hzz⟩ := Option.map_eq_some_iff.1 info_sn0
  simp only [Prod.mk.injEq] at hzz
  obtain ⟨hz, hs⟩ := hzz
  refine run_buildSlice w _ 50 4 _ (sn4 a b c d) i (.agg Sn.zero.arr) Try.underlying40 hi hz (by rw [hs]; decide) (by rw [hs]; decide) ?_
  rw [hs]
  exact fill_sn4 a b c d
@[go_sem] theorem run_bdSn_kc (k c : Int) (w : World) : (bdSn #[(0, .int .i64 k), (2, .int .u8 c)]).run Try.prog w = .ok (.agg ({ Sn.zero with kind := k, char := c } : Sn).arr) w := by kernel_rfl
theorem signs4 {B : Nat} {t : TypeId} (a b c d : Sn) (w : World) (h : w.heap[B]? = some (.cells (sn4 a b c d) t (0, 0))) : SignsIn w (some ⟨B, 0, none⟩) B 4 [a, b, c, d] := by
  refine ⟨fun _ => rfl, fun _ => (Array.getElem?_eq_some_iff.1 h).1, fun j hj => ?_, by simp⟩
  have : j = 0 ∨ j = 1 ∨ j = 2 ∨ j = 3 := by simp at hj; omega
  rcases this with rfl | rfl | rfl | rfl
  all_goals rw [agg?_blk h _ _ (by simp [sn4, Sn.cells])]; rfl

def liveL : List Sn := [{ Sn.zero with kind := 3, char := 43 }, { Sn.zero with kind := 1, char := 120 }, { Sn.zero with kind := 3, char := 43 }, { Sn.zero with kind := 4, char := 61 }]
theorem live_read : readP liveL = some [3, 1, 3, 4] := by decide +kernel
theorem live_code : readCode liveL = 0 := by unfold readCode; rw [live_read]; rfl
theorem live_classes : classesP [3, 1, 3, 4] = [1, 1, 1, 4] := by decide +kernel

theorem num_any (x : Int) (w : World) : Calls Try.prog 23 #[.int .i64 x] w fun e w' => e = .returned (.int .i64 x) ∧ w = w' := by
  go_enter Try.func23, Try.ntmps23
  go_wp2
  go_ret
  exact ⟨rfl, rfl⟩
set_option maxHeartbeats 1000000 in
theorem space_live (w : World) : Calls Try.prog 18 #[.int .i64 1, .int .i64 3, .bool false] w fun e w' => e = .returned (.int .i64 2) ∧ Below w.heap.size w w' := by
  go_enter Try.func18, Try.ntmps18
  go_wp2
  go_ret
  exact ⟨rfl, (Below.refl _ _).alloc (Nat.le_refl _) _⟩
theorem IntsIn.alloc {w : World} {p : Option Addr} {b cap : Nat} {l : List Int} (h : IntsIn w p b cap l) (o : Obj) : IntsIn (w.alloc o) p b cap l := ⟨h.hp, fun j hj => (World.cell?_alloc_some _ _ _ (by rw [h.at_ j hj]; rfl)).trans (h.at_ j hj), h.cap'⟩
theorem ints_new (w : World) (l : List Int) (t : TypeId) : IntsIn (w.alloc (.cells (ints l).toArray t)) (some ⟨w.heap.size, 0, none⟩) w.heap.size l.length l :=
  ⟨fun _ => rfl, fun j hj => by rw [cell?_blk (heap_alloc_new _ _), ints_get, List.getElem?_eq_getElem hj]; rfl, Nat.le_refl _⟩
theorem same_live (w : World) (p : Option Addr) (b cap : Nat) (h : IntsIn w p b cap [1, 1, 1, 4]) (t : TypeId) :
    Calls Try.prog 27 #[.slice p 4 cap, .slice (some ⟨w.heap.size, 0, none⟩) 4 4] (w.alloc (.cells #[.int .i64 1, .int .i64 1, .int .i64 1, .int .i64 4] t)) fun e w' => e = .returned (.bool true) ∧ ∃ n, w' = (w.alloc (.cells #[.int .i64 1, .int .i64 1, .int .i64 1, .int .i64 4] t)).drewN n :=
  (sameInts_any p (some ⟨w.heap.size, 0, none⟩) b cap w.heap.size 4 [1, 1, 1, 4] [1, 1, 1, 4] _ (h.alloc _) (ints_new w [1, 1, 1, 4] t) (by decide) (by decide)).mono fun e w' ⟨h1, h2⟩ => ⟨h1, h2⟩
theorem style_live (w : World) : Calls Try.prog 16 #[.int .i64 0, .int .i64 1] w fun e w' => e = .returned (.int .i64 4) ∧ w = w' := style_any 0 1 w
set_option maxRecDepth 100000 in
set_option maxHeartbeats 2000000 in
theorem live_any (w : World) : Calls Try.prog 20 #[] w fun e w' => e = .returned (.bool true) ∧ Below w.heap.size w w' := by
  have hc : ∀ W : World, Calls Try.prog 21 #[.slice (some ⟨W.heap.size, 0, none⟩) 4 4] (W.alloc (.cells (sn4 { Sn.zero with kind := 3, char := 43 } { Sn.zero with kind := 1, char := 120 } { Sn.zero with kind := 3, char := 43 } { Sn.zero with kind := 4, char := 61 }) 50)) (ClassPost (W.alloc (.cells (sn4 { Sn.zero with kind := 3, char := 43 } { Sn.zero with kind := 1, char := 120 } { Sn.zero with kind := 3, char := 43 } { Sn.zero with kind := 4, char := 61 }) 50)) liveL) :=
    fun W : World => classes_any fmla_ok (some ⟨W.heap.size, 0, none⟩) W.heap.size 4 liveL (by decide) _ (signs4 _ _ _ _ _ (heap_alloc_new _ _))
  have HC := Lib.hid hc
  clear hc
  go_enter Try.func20, Try.ntmps20
  go_wp2_with fail
  refine (HC.out _).mono ?_
  rintro e w1 ⟨⟨v, rfl, _, hv⟩, hb⟩
  obtain ⟨ks, hks, hrow⟩ := hv live_code
  rw [live_read] at hks
  cases hks
  rw [live_classes] at hrow
  obtain ⟨p, b, cap, rfl, hI⟩ := ints_of_row hrow
  rw [live_code]
  have HI := Lib.hid hI
  have hb1 : Below w.heap.size w w1 := (Below.trans ((Below.refl _ _).alloc (Nat.le_refl _) _) (hb.mono (by simp)))
  clear hv hrow hI HC hb
  go_wp2_with (first | (go_at_call 23; refine (num_any _ _).mono ?_; rintro e w' ⟨rfl, rfl⟩) | (go_at_call 27; refine (same_live w1 p b cap HI.out _).mono ?_; rintro e w' ⟨rfl, n2, rfl⟩) | (go_at_call 18; refine (space_live _).mono ?_; rintro e w3 ⟨rfl, hb3⟩) | (go_at_call 16; refine (style_live _).mono ?_; rintro e w' ⟨rfl, rfl⟩))
  go_ret
  refine ⟨rfl, hb1.trans ?_⟩
  refine Below.trans (Below.mono ((Below.refl w1.heap.size w1).alloc (Nat.le_refl _) (.cells #[.int .i64 1, .int .i64 1, .int .i64 1, .int .i64 4] 3)) hb1.size) ?_
  exact Below.trans (b := (w1.alloc (.cells #[.int .i64 1, .int .i64 1, .int .i64 1, .int .i64 4] 3)).drewN n2) ⟨rfl, rfl, rfl, Nat.le_refl _, fun _ _ => rfl⟩ (hb3.mono (by have := hb1.size; show _ ≤ (w1.alloc _).heap.size; simp; omega))
end Go.Proofs.Ytkkdopfdoommnaa
