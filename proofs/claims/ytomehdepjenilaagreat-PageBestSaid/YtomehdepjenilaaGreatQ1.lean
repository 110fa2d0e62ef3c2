/-
  Layer 5, the document's side: whether a node may be.
-/
import Derived.Test.YtomehdepjenilaaGreatH0
import Derived.Deep.RegionHeld3
import Derived.Deep.QuietTactic
import Derived.Outline
import Derived.Deep.OwnRows
import Derived.Deep.DeepCutAuto
import Derived.BigQuiet
import Derived.Deep.DrawnRows
namespace Go.Proofs.YtomehdepjenilaaGreat
open Go.ChangeShapes Go.WideShapes Go.ChangeAt Go.RowKit

@[go_sem] theorem run_bdNd_q1 (k s : Int) (w : World) : (bdNd #[(0, .int .i64 k), (6, .int .i64 s)]).run Tryz.prog w = .ok (.agg ({ Nd.zero with kind := k, shift := s } : Nd).arr) w := by kernel_rfl
@[go_sem] theorem run_bdNd_q2 (k s a b c d : Int) (w : World) : (bdNd #[(0, .int .i64 k), (6, .int .i64 s), (8, .int .i64 a), (9, .int .i64 b), (10, .int .i64 c), (11, .int .i64 d)]).run Tryz.prog w = .ok (.agg ({ Nd.zero with kind := k, shift := s, sign := a, order := b, num := c, den := d } : Nd).arr) w := by kernel_rfl
@[go_sem] theorem run_bdNd_q3 (k s : Int) (w : World) : (bdNd #[(0, .int .i64 k), (13, .int .i64 s)]).run Tryz.prog w = .ok (.agg ({ Nd.zero with kind := k, sub := s } : Nd).arr) w := by kernel_rfl
@[go_sem] theorem run_bdNd_q4 (k f c : Int) (t : ByteArray) (w : World) : (bdNd #[(0, .int .i64 k), (1, .int .i64 f), (2, .int .u8 c), (14, .string t)]).run Tryz.prog w = .ok (.agg ({ Nd.zero with kind := k, font := f, char := c, text := t } : Nd).arr) w := by kernel_rfl
@[go_sem] theorem run_bdNd_q5 (k s : Int) (g : Gl) (w : World) : (bdNd #[(0, .int .i64 k), (7, .agg g.arr), (13, .int .i64 s)]).run Tryz.prog w = .ok (.agg ({ Nd.zero with kind := k, glue := g, sub := s } : Nd).arr) w := by kernel_rfl
@[go_sem] theorem run_bdNd_q6 (k x s : Int) (w : World) : (bdNd #[(0, .int .i64 k), (3, .int .i64 x), (13, .int .i64 s)]).run Tryz.prog w = .ok (.agg ({ Nd.zero with kind := k, w := x, sub := s } : Nd).arr) w := by kernel_rfl
@[go_sem] theorem run_bdNd_q7 (k p : Int) (w : World) : (bdNd #[(0, .int .i64 k), (12, .int .i64 p)]).run Tryz.prog w = .ok (.agg ({ Nd.zero with kind := k, pen := p } : Nd).arr) w := by kernel_rfl
@[go_sem] theorem run_bdNd_q8 (k : Int) (t : ByteArray) (w : World) : (bdNd #[(0, .int .i64 k), (14, .string t)]).run Tryz.prog w = .ok (.agg ({ Nd.zero with kind := k, text := t } : Nd).arr) w := by kernel_rfl
@[go_sem] theorem run_bdNd_q9 (k s h d p : Int) (g : Gl) (w : World) : (bdNd #[(0, .int .i64 k), (13, .int .i64 s), (4, .int .i64 h), (5, .int .i64 d), (12, .int .i64 p), (7, .agg g.arr)]).run Tryz.prog w = .ok (.agg ({ Nd.zero with kind := k, sub := s, h := h, d := d, pen := p, glue := g } : Nd).arr) w := by kernel_rfl
@[go_sem] theorem run_bdNd_q10 (k x : Int) (w : World) : (bdNd #[(0, .int .i64 k), (3, .int .i64 x)]).run Tryz.prog w = .ok (.agg ({ Nd.zero with kind := k, w := x } : Nd).arr) w := by kernel_rfl
theorem q5dimen (x : Int) (w : World) : Calls Tryz.prog 82 #[.int .i64 x] w fun e w' => e = .returned (.bool (dimenB x)) ∧ w = w' := by
  go_enter Tryz.func82, Tryz.ntmps82
  go_wp2
  all_goals go_ret
  all_goals exact ⟨by simp [dimenB]; omega, rfl⟩
theorem q2dimen (x : Int) (w : World) : Calls Tryz.prog 71 #[.int .i64 x] w fun e w' => e = .returned (.bool (dimenB x)) ∧ w = w' := by
  go_enter Tryz.func71, Tryz.ntmps71
  go_wp2
  all_goals go_ret
  all_goals exact ⟨by simp [dimenB]; omega, rfl⟩
def farB (x : Int) : Bool := !withinB x (-2147483647) 2147483647
theorem qfar (x : Int) (w : World) : Calls Tryz.prog 83 #[.int .i64 x] w fun e w' => e = .returned (.bool (farB x)) ∧ w = w' := by
  rcases Int.lt_or_le x (-2147483647) with h | h
  · have hf : farB x = true := by simp [farB, withinB] <;> omega
    go_enter Tryz.func83, Tryz.ntmps83
    go_wp2
    all_goals go_ret
    all_goals exact ⟨ret_bool (by rw [hf]; try (simp <;> omega)), rfl⟩
  · rcases Int.lt_or_le 2147483647 x with h2 | h2
    · have hf : farB x = true := by simp [farB, withinB] <;> omega
      go_enter Tryz.func83, Tryz.ntmps83
      go_wp2
      all_goals go_ret
      all_goals exact ⟨ret_bool (by rw [hf]; try (simp <;> omega)), rfl⟩
    · have hf : farB x = false := by simp [farB, withinB] <;> omega
      go_enter Tryz.func83, Tryz.ntmps83
      go_wp2
      all_goals go_ret
      all_goals exact ⟨ret_bool (by rw [hf]; try (simp <;> omega)), rfl⟩
theorem q2check_v (g : Gl) (r : Int) (hr : (if g.good then (0 : Int) else 30) = r) (w : World) : Calls Tryz.prog 51 #[.agg g.arr] w fun e w' => e = .returned (.int .i64 r) ∧ Below w.heap.size w w' := by
  have Hr := Lib.hid hr
  clear hr
  cases h0 : dimenB g.nat
  · skip
    have hg : g.good = false := by simp [Gl.good, h0]
    go_enter Tryz.func51, Tryz.ntmps51
    go_wp2_with (go_at_call 71; refine (q2dimen _ _).mono ?_; rintro e w' ⟨rfl, rfl⟩)
    go_ret
    exact ⟨ret_int (by rw [← Hr.out, hg]; rfl), (Below.refl _ _).alloc (Nat.le_refl _) _⟩
  cases h1 : dimenB g.str
  · skip
    have hg : g.good = false := by simp [Gl.good, h0, h1]
    go_enter Tryz.func51, Tryz.ntmps51
    go_wp2_with (go_at_call 71; refine (q2dimen _ _).mono ?_; rintro e w' ⟨rfl, rfl⟩)
    go_ret
    exact ⟨ret_int (by rw [← Hr.out, hg]; rfl), (Below.refl _ _).alloc (Nat.le_refl _) _⟩
  cases h2 : dimenB g.shr
  · skip
    have hg : g.good = false := by simp [Gl.good, h0, h1, h2]
    go_enter Tryz.func51, Tryz.ntmps51
    go_wp2_with (go_at_call 71; refine (q2dimen _ _).mono ?_; rintro e w' ⟨rfl, rfl⟩)
    go_ret
    exact ⟨ret_int (by rw [← Hr.out, hg]; rfl), (Below.refl _ _).alloc (Nat.le_refl _) _⟩
  have hd : g.good = (withinB g.so 0 3 && withinB g.ho 0 3) := by simp [Gl.good, h0, h1, h2]
  rcases Int.lt_or_le g.so 0 with h | klo
  · skip
    have hg : g.good = false := by rw [hd, show withinB g.so 0 3 = false by simp [withinB]; omega]; simp
    go_enter Tryz.func51, Tryz.ntmps51
    go_wp2_with (go_at_call 71; refine (q2dimen _ _).mono ?_; rintro e w' ⟨rfl, rfl⟩)
    go_ret
    exact ⟨ret_int (by rw [← Hr.out, hg]; rfl), (Below.refl _ _).alloc (Nat.le_refl _) _⟩
  rcases Int.lt_or_le 3 g.so with h | khi
  · skip
    have hg : g.good = false := by rw [hd, show withinB g.so 0 3 = false by simp [withinB]; omega]; simp
    go_enter Tryz.func51, Tryz.ntmps51
    go_wp2_with (go_at_call 71; refine (q2dimen _ _).mono ?_; rintro e w' ⟨rfl, rfl⟩)
    go_ret
    exact ⟨ret_int (by rw [← Hr.out, hg]; rfl), (Below.refl _ _).alloc (Nat.le_refl _) _⟩
  rcases Int.lt_or_le g.ho 0 with h | klo2
  · skip
    have hg : g.good = false := by rw [hd, show withinB g.ho 0 3 = false by simp [withinB]; omega]; simp
    go_enter Tryz.func51, Tryz.ntmps51
    go_wp2_with (go_at_call 71; refine (q2dimen _ _).mono ?_; rintro e w' ⟨rfl, rfl⟩)
    go_ret
    exact ⟨ret_int (by rw [← Hr.out, hg]; rfl), (Below.refl _ _).alloc (Nat.le_refl _) _⟩
  rcases Int.lt_or_le 3 g.ho with h | khi2
  · skip
    have hg : g.good = false := by rw [hd, show withinB g.ho 0 3 = false by simp [withinB]; omega]; simp
    go_enter Tryz.func51, Tryz.ntmps51
    go_wp2_with (go_at_call 71; refine (q2dimen _ _).mono ?_; rintro e w' ⟨rfl, rfl⟩)
    go_ret
    exact ⟨ret_int (by rw [← Hr.out, hg]; rfl), (Below.refl _ _).alloc (Nat.le_refl _) _⟩
  have hg : g.good = true := by rw [hd, show withinB g.so 0 3 = true by simp [withinB]; omega, show withinB g.ho 0 3 = true by simp [withinB]; omega]; rfl
  go_enter Tryz.func51, Tryz.ntmps51
  go_wp2_with (go_at_call 71; refine (q2dimen _ _).mono ?_; rintro e w' ⟨rfl, rfl⟩)
  go_ret
  exact ⟨ret_int (by rw [← Hr.out, hg]; rfl), (Below.refl _ _).alloc (Nat.le_refl _) _⟩
theorem qthree (n : Nd) (w : World) : Calls Tryz.prog 93 #[.agg n.arr] w fun e w' => e = .returned (.bool (dims3 n.w n.h n.d)) ∧ Below w.heap.size w w' := by
  cases h0 : dimenB n.w <;> cases h1 : dimenB n.h <;> cases h2 : dimenB n.d
  all_goals
    go_enter Tryz.func93, Tryz.ntmps93
    go_wp2_with (go_at_call 82; refine (q5dimen _ _).mono ?_; rintro e w' ⟨rfl, rfl⟩)
    all_goals go_ret
    all_goals exact ⟨ret_bool (by simp [dims3, h0, h1, h2]), (Below.refl _ _).alloc (Nat.le_refl _) _⟩
def bareN (n : Nd) : Nd := { n with w := 0, h := 0, d := 0 }
theorem qbare (n : Nd) (w : World) : Calls Tryz.prog 94 #[.agg n.arr] w fun e w' => e = .returned (.agg (bareN n).arr) ∧ Below w.heap.size w w' := by
  go_enter Tryz.func94, Tryz.ntmps94
  go_wp2
  refine ret_nd rfl (w.heap.size + 1) 0 _ rfl (agg?_nd _ _ _ _ _ (by simp)) rfl ⟨rfl, ?_⟩
  exact ((Below.refl _ _).alloc (Nat.le_refl _) _).alloc (by simp) _
structure NB (w : World) (n : Nd) (W : World) : Prop where
  below : Below w.heap.size w W
  nd : W.heap[w.heap.size]? = some (.cells n.arr 49 (0, 0))
section
variable {w W w' : World} {n : Nd}
theorem NB.call (h : NB w n W) (hb : Below W.heap.size W w') : NB w n w' := ⟨h.below.trans (hb.mono h.below.size), (hb.block _ (Array.getElem?_eq_some_iff.1 h.nd).1).trans h.nd⟩
theorem NB.drew (h : NB w n W) : NB w n W.drew := ⟨h.below.drew, h.nd⟩
theorem NB.new (w : World) (n : Nd) : NB w n (w.alloc (.cells n.arr 49)) := ⟨(Below.refl _ _).alloc (Nat.le_refl _) _, heap_alloc_new _ _⟩
theorem NB.seen (h : NB w n W) : NB w n W ∧ agg? W w.heap.size 0 19 = some n.arr ∧ agg? W w.heap.size 7 5 = some n.glue.arr ∧ W.cell? ⟨w.heap.size, 0, none⟩ = some (.int .i64 n.kind) ∧ W.cell? ⟨w.heap.size, 1, none⟩ = some (.int .i64 n.font) ∧ W.cell? ⟨w.heap.size, 2, none⟩ = some (.int .u8 n.char) ∧ W.cell? ⟨w.heap.size, 4, none⟩ = some (.int .i64 n.h) ∧ W.cell? ⟨w.heap.size, 5, none⟩ = some (.int .i64 n.d) ∧ W.cell? ⟨w.heap.size, 3, none⟩ = some (.int .i64 n.w) ∧ W.cell? ⟨w.heap.size, 6, none⟩ = some (.int .i64 n.shift) ∧ W.cell? ⟨w.heap.size, 12, none⟩ = some (.int .i64 n.sign) ∧ W.cell? ⟨w.heap.size, 13, none⟩ = some (.int .i64 n.order) ∧ W.cell? ⟨w.heap.size, 14, none⟩ = some (.int .i64 n.num) ∧ W.cell? ⟨w.heap.size, 15, none⟩ = some (.int .i64 n.den) ∧ W.cell? ⟨w.heap.size, 16, none⟩ = some (.int .i64 n.pen) ∧ W.cell? ⟨w.heap.size, 17, none⟩ = some (.int .i64 n.sub) ∧ W.cell? ⟨w.heap.size, 18, none⟩ = some (.string n.text) := by
  refine ⟨h, ?_, ?_, ?_, ?_, ?_, ?_, ?_, ?_, ?_, ?_, ?_, ?_, ?_, ?_, ?_, ?_⟩
  · rw [agg?_blk' h.nd 0 19 (by simp [Nd.size_arr])]; simp [Nd.arr, Nd.cells]
  · rw [agg?_blk' h.nd 7 5 (by simp [Nd.size_arr])]; simp [Nd.arr, Nd.cells, Gl.arr, Gl.cells]
  · rw [cell?_blk' h.nd]; rfl
  · rw [cell?_blk' h.nd]; rfl
  · rw [cell?_blk' h.nd]; rfl
  · rw [cell?_blk' h.nd]; rfl
  · rw [cell?_blk' h.nd]; rfl
  · rw [cell?_blk' h.nd]; rfl
  · rw [cell?_blk' h.nd]; rfl
  · rw [cell?_blk' h.nd]; rfl
  · rw [cell?_blk' h.nd]; rfl
  · rw [cell?_blk' h.nd]; rfl
  · rw [cell?_blk' h.nd]; rfl
  · rw [cell?_blk' h.nd]; rfl
  · rw [cell?_blk' h.nd]; rfl
  · rw [cell?_blk' h.nd]; rfl
end
def qboxB (n : Nd) : Bool := dims3 n.w n.h n.d && dimenB n.shift && (if n.sign == 0 then eqNd (bareN n) { Nd.zero with kind := n.kind, shift := n.shift } else
  withinB n.sign 1 2 && withinB n.order 0 3 && withinB n.num 1 1152921504606846976 && withinB n.den 1 1152921504606846976 && !(n.sign == 2 && n.order == 0 && decide (n.den < n.num)) && eqNd (bareN n) { Nd.zero with kind := n.kind, shift := n.shift, sign := n.sign, order := n.order, num := n.num, den := n.den })
set_option maxRecDepth 100000 in
set_option maxHeartbeats 8000000 in
theorem qbox (n : Nd) (w : World) : Calls Tryz.prog 81 #[.agg n.arr] w fun e w' => e = .returned (.bool (qboxB n)) ∧ Below w.heap.size w w' := by
  have hm := NB.new w n
  obtain ⟨-, aa, ag, c0, c1, c2, c4, c5, c3, c6, c12, c13, c14, c15, c16, c17, c18⟩ := hm.seen
  have HBare : Hid (∀ W, NB w n W → Calls Tryz.prog 94 #[.agg n.arr] W fun e w' => e = .returned (.agg (bareN n).arr) ∧ NB w n w') := Lib.hid fun W h => (qbare n W).mono fun _ _ ⟨a, b⟩ => ⟨a, h.call b⟩
  cases h3 : dims3 n.w n.h n.d
  · skip
    have Hv := Lib.hid (show qboxB n = false by simp [qboxB, h3])
    go_enter Tryz.func81, Tryz.ntmps81
    go_upto_region 1 with (fail)
    generalize w.alloc (.cells n.arr 49) = w1 at hm aa ag c0 c1 c2 c4 c5 c3 c6 c12 c13 c14 c15 c16 c17 c18 ⊢
    go_wp2_with (first | (go_at_call 93; refine (qthree _ _).mono ?_; rintro e w2 ⟨rfl, hb2⟩; have hm2 := hm.call hb2; obtain ⟨-, aa, ag, c0, c1, c2, c4, c5, c3, c6, c12, c13, c14, c15, c16, c17, c18⟩ := hm2.seen) | (go_at_call 82; refine (q5dimen _ _).mono ?_; rintro e w' ⟨rfl, rfl⟩))
    go_ret
    exact ⟨ret_bool Hv.out.symm, hm2.below⟩
  cases hs : dimenB n.shift
  · skip
    have Hv := Lib.hid (show qboxB n = false by simp [qboxB, hs])
    go_enter Tryz.func81, Tryz.ntmps81
    go_upto_region 1 with (fail)
    generalize w.alloc (.cells n.arr 49) = w1 at hm aa ag c0 c1 c2 c4 c5 c3 c6 c12 c13 c14 c15 c16 c17 c18 ⊢
    go_wp2_with (first | (go_at_call 93; refine (qthree _ _).mono ?_; rintro e w2 ⟨rfl, hb2⟩; have hm2 := hm.call hb2; obtain ⟨-, aa, ag, c0, c1, c2, c4, c5, c3, c6, c12, c13, c14, c15, c16, c17, c18⟩ := hm2.seen) | (go_at_call 82; refine (q5dimen _ _).mono ?_; rintro e w' ⟨rfl, rfl⟩))
    go_ret
    exact ⟨ret_bool Hv.out.symm, hm2.below⟩
  cases h0 : (n.sign == 0)
  rotate_left
  · skip
    have Hv := Lib.hid (show qboxB n = eqNd (bareN n) { Nd.zero with kind := n.kind, shift := n.shift } by simp [qboxB, h3, hs, h0])
    go_enter Tryz.func81, Tryz.ntmps81
    go_upto_region 1 with (fail)
    generalize w.alloc (.cells n.arr 49) = w1 at hm aa ag c0 c1 c2 c4 c5 c3 c6 c12 c13 c14 c15 c16 c17 c18 ⊢
    go_wp2_with (first | (go_at_call 93; refine (qthree _ _).mono ?_; rintro e w2 ⟨rfl, hb2⟩; have hm2 := hm.call hb2; obtain ⟨-, aa, ag, c0, c1, c2, c4, c5, c3, c6, c12, c13, c14, c15, c16, c17, c18⟩ := hm2.seen) | (go_at_call 82; refine (q5dimen _ _).mono ?_; rintro e w' ⟨rfl, rfl⟩))
    go_region_held3 (fun w' => NB w n w' ∧ agg? w' w.heap.size 0 19 = some n.arr ∧ agg? w' w.heap.size 7 5 = some n.glue.arr ∧ w'.cell? ⟨w.heap.size, 0, none⟩ = some (.int .i64 n.kind) ∧ w'.cell? ⟨w.heap.size, 1, none⟩ = some (.int .i64 n.font) ∧ w'.cell? ⟨w.heap.size, 2, none⟩ = some (.int .u8 n.char) ∧ w'.cell? ⟨w.heap.size, 4, none⟩ = some (.int .i64 n.h) ∧ w'.cell? ⟨w.heap.size, 5, none⟩ = some (.int .i64 n.d) ∧ w'.cell? ⟨w.heap.size, 3, none⟩ = some (.int .i64 n.w) ∧ w'.cell? ⟨w.heap.size, 6, none⟩ = some (.int .i64 n.shift) ∧ w'.cell? ⟨w.heap.size, 12, none⟩ = some (.int .i64 n.sign) ∧ w'.cell? ⟨w.heap.size, 13, none⟩ = some (.int .i64 n.order) ∧ w'.cell? ⟨w.heap.size, 14, none⟩ = some (.int .i64 n.num) ∧ w'.cell? ⟨w.heap.size, 15, none⟩ = some (.int .i64 n.den) ∧ w'.cell? ⟨w.heap.size, 16, none⟩ = some (.int .i64 n.pen) ∧ w'.cell? ⟨w.heap.size, 17, none⟩ = some (.int .i64 n.sub) ∧ w'.cell? ⟨w.heap.size, 18, none⟩ = some (.string n.text)) ((refine NB.seen ?_; first | assumption | exact hm2.drew)) (((with_reducible refine (HBare.out _ (And.left (by assumption))).mono ?_); rintro e w8 ⟨rfl, h8⟩))
    go_wp2_with fail
    go_ret
    exact ⟨ret_bool Hv.out.symm, h8.below⟩
  by_cases h12 : n.sign = 1 ∨ n.sign = 2
  rotate_left
  · have n1 : (n.sign != 1) = true := by simp; omega
    have n2 : (n.sign != 2) = true := by simp; omega
    have Hv := Lib.hid (show qboxB n = false by simp [qboxB, h3, hs, h0, show withinB n.sign 1 2 = false by simp [withinB]; omega])
    go_enter Tryz.func81, Tryz.ntmps81
    go_upto_region 1 with (fail)
    generalize w.alloc (.cells n.arr 49) = w1 at hm aa ag c0 c1 c2 c4 c5 c3 c6 c12 c13 c14 c15 c16 c17 c18 ⊢
    go_wp2_with (first | (go_at_call 93; refine (qthree _ _).mono ?_; rintro e w2 ⟨rfl, hb2⟩; have hm2 := hm.call hb2; obtain ⟨-, aa, ag, c0, c1, c2, c4, c5, c3, c6, c12, c13, c14, c15, c16, c17, c18⟩ := hm2.seen) | (go_at_call 82; refine (q5dimen _ _).mono ?_; rintro e w' ⟨rfl, rfl⟩))
    go_ret
    exact ⟨ret_bool Hv.out.symm, hm2.below⟩
  have hw12 : withinB n.sign 1 2 = true := by simp [withinB]; omega
  have n12 : (n.sign != 1) = false ∨ ((n.sign != 1) = true ∧ (n.sign != 2) = false) := by rcases h12 with h | h <;> simp [h]
  rcases Int.lt_or_le n.order 0 with a1o | b1o
  · skip
    rcases n12 with m1 | ⟨m1, m2⟩
    · skip
      have Hv := Lib.hid (show qboxB n = false by simp [qboxB, h3, hs, h0, hw12, show withinB n.order 0 3 = false by simp [withinB]; omega])
      go_enter Tryz.func81, Tryz.ntmps81
      go_upto_region 1 with (fail)
      generalize w.alloc (.cells n.arr 49) = w1 at hm aa ag c0 c1 c2 c4 c5 c3 c6 c12 c13 c14 c15 c16 c17 c18 ⊢
      go_wp2_with (first | (go_at_call 93; refine (qthree _ _).mono ?_; rintro e w2 ⟨rfl, hb2⟩; have hm2 := hm.call hb2; obtain ⟨-, aa, ag, c0, c1, c2, c4, c5, c3, c6, c12, c13, c14, c15, c16, c17, c18⟩ := hm2.seen) | (go_at_call 82; refine (q5dimen _ _).mono ?_; rintro e w' ⟨rfl, rfl⟩))
      go_ret
      exact ⟨ret_bool Hv.out.symm, hm2.below⟩
    · skip
      have Hv := Lib.hid (show qboxB n = false by simp [qboxB, h3, hs, h0, hw12, show withinB n.order 0 3 = false by simp [withinB]; omega])
      go_enter Tryz.func81, Tryz.ntmps81
      go_upto_region 1 with (fail)
      generalize w.alloc (.cells n.arr 49) = w1 at hm aa ag c0 c1 c2 c4 c5 c3 c6 c12 c13 c14 c15 c16 c17 c18 ⊢
      go_wp2_with (first | (go_at_call 93; refine (qthree _ _).mono ?_; rintro e w2 ⟨rfl, hb2⟩; have hm2 := hm.call hb2; obtain ⟨-, aa, ag, c0, c1, c2, c4, c5, c3, c6, c12, c13, c14, c15, c16, c17, c18⟩ := hm2.seen) | (go_at_call 82; refine (q5dimen _ _).mono ?_; rintro e w' ⟨rfl, rfl⟩))
      go_ret
      exact ⟨ret_bool Hv.out.symm, hm2.below⟩
  rcases Int.lt_or_le 3 n.order with c1o | d1o
  · skip
    rcases n12 with m1 | ⟨m1, m2⟩
    · skip
      have Hv := Lib.hid (show qboxB n = false by simp [qboxB, h3, hs, h0, hw12, show withinB n.order 0 3 = false by simp [withinB]; omega])
      go_enter Tryz.func81, Tryz.ntmps81
      go_upto_region 1 with (fail)
      generalize w.alloc (.cells n.arr 49) = w1 at hm aa ag c0 c1 c2 c4 c5 c3 c6 c12 c13 c14 c15 c16 c17 c18 ⊢
      go_wp2_with (first | (go_at_call 93; refine (qthree _ _).mono ?_; rintro e w2 ⟨rfl, hb2⟩; have hm2 := hm.call hb2; obtain ⟨-, aa, ag, c0, c1, c2, c4, c5, c3, c6, c12, c13, c14, c15, c16, c17, c18⟩ := hm2.seen) | (go_at_call 82; refine (q5dimen _ _).mono ?_; rintro e w' ⟨rfl, rfl⟩))
      go_ret
      exact ⟨ret_bool Hv.out.symm, hm2.below⟩
    · skip
      have Hv := Lib.hid (show qboxB n = false by simp [qboxB, h3, hs, h0, hw12, show withinB n.order 0 3 = false by simp [withinB]; omega])
      go_enter Tryz.func81, Tryz.ntmps81
      go_upto_region 1 with (fail)
      generalize w.alloc (.cells n.arr 49) = w1 at hm aa ag c0 c1 c2 c4 c5 c3 c6 c12 c13 c14 c15 c16 c17 c18 ⊢
      go_wp2_with (first | (go_at_call 93; refine (qthree _ _).mono ?_; rintro e w2 ⟨rfl, hb2⟩; have hm2 := hm.call hb2; obtain ⟨-, aa, ag, c0, c1, c2, c4, c5, c3, c6, c12, c13, c14, c15, c16, c17, c18⟩ := hm2.seen) | (go_at_call 82; refine (q5dimen _ _).mono ?_; rintro e w' ⟨rfl, rfl⟩))
      go_ret
      exact ⟨ret_bool Hv.out.symm, hm2.below⟩
  have wo : withinB n.order 0 3 = true := by simp [withinB]; omega
  rcases Int.lt_or_le n.num 1 with a1n | b1n
  · skip
    rcases n12 with m1 | ⟨m1, m2⟩
    · skip
      have Hv := Lib.hid (show qboxB n = false by simp [qboxB, h3, hs, h0, hw12, show withinB n.num 1 1152921504606846976 = false by simp [withinB]; omega])
      go_enter Tryz.func81, Tryz.ntmps81
      go_upto_region 1 with (fail)
      generalize w.alloc (.cells n.arr 49) = w1 at hm aa ag c0 c1 c2 c4 c5 c3 c6 c12 c13 c14 c15 c16 c17 c18 ⊢
      go_wp2_with (first | (go_at_call 93; refine (qthree _ _).mono ?_; rintro e w2 ⟨rfl, hb2⟩; have hm2 := hm.call hb2; obtain ⟨-, aa, ag, c0, c1, c2, c4, c5, c3, c6, c12, c13, c14, c15, c16, c17, c18⟩ := hm2.seen) | (go_at_call 82; refine (q5dimen _ _).mono ?_; rintro e w' ⟨rfl, rfl⟩))
      go_ret
      exact ⟨ret_bool Hv.out.symm, hm2.below⟩
    · skip
      have Hv := Lib.hid (show qboxB n = false by simp [qboxB, h3, hs, h0, hw12, show withinB n.num 1 1152921504606846976 = false by simp [withinB]; omega])
      go_enter Tryz.func81, Tryz.ntmps81
      go_upto_region 1 with (fail)
      generalize w.alloc (.cells n.arr 49) = w1 at hm aa ag c0 c1 c2 c4 c5 c3 c6 c12 c13 c14 c15 c16 c17 c18 ⊢
      go_wp2_with (first | (go_at_call 93; refine (qthree _ _).mono ?_; rintro e w2 ⟨rfl, hb2⟩; have hm2 := hm.call hb2; obtain ⟨-, aa, ag, c0, c1, c2, c4, c5, c3, c6, c12, c13, c14, c15, c16, c17, c18⟩ := hm2.seen) | (go_at_call 82; refine (q5dimen _ _).mono ?_; rintro e w' ⟨rfl, rfl⟩))
      go_ret
      exact ⟨ret_bool Hv.out.symm, hm2.below⟩
  rcases Int.lt_or_le 1152921504606846976 n.num with c1n | d1n
  · skip
    rcases n12 with m1 | ⟨m1, m2⟩
    · skip
      have Hv := Lib.hid (show qboxB n = false by simp [qboxB, h3, hs, h0, hw12, show withinB n.num 1 1152921504606846976 = false by simp [withinB]; omega])
      go_enter Tryz.func81, Tryz.ntmps81
      go_upto_region 1 with (fail)
      generalize w.alloc (.cells n.arr 49) = w1 at hm aa ag c0 c1 c2 c4 c5 c3 c6 c12 c13 c14 c15 c16 c17 c18 ⊢
      go_wp2_with (first | (go_at_call 93; refine (qthree _ _).mono ?_; rintro e w2 ⟨rfl, hb2⟩; have hm2 := hm.call hb2; obtain ⟨-, aa, ag, c0, c1, c2, c4, c5, c3, c6, c12, c13, c14, c15, c16, c17, c18⟩ := hm2.seen) | (go_at_call 82; refine (q5dimen _ _).mono ?_; rintro e w' ⟨rfl, rfl⟩))
      go_ret
      exact ⟨ret_bool Hv.out.symm, hm2.below⟩
    · skip
      have Hv := Lib.hid (show qboxB n = false by simp [qboxB, h3, hs, h0, hw12, show withinB n.num 1 1152921504606846976 = false by simp [withinB]; omega])
      go_enter Tryz.func81, Tryz.ntmps81
      go_upto_region 1 with (fail)
      generalize w.alloc (.cells n.arr 49) = w1 at hm aa ag c0 c1 c2 c4 c5 c3 c6 c12 c13 c14 c15 c16 c17 c18 ⊢
      go_wp2_with (first | (go_at_call 93; refine (qthree _ _).mono ?_; rintro e w2 ⟨rfl, hb2⟩; have hm2 := hm.call hb2; obtain ⟨-, aa, ag, c0, c1, c2, c4, c5, c3, c6, c12, c13, c14, c15, c16, c17, c18⟩ := hm2.seen) | (go_at_call 82; refine (q5dimen _ _).mono ?_; rintro e w' ⟨rfl, rfl⟩))
      go_ret
      exact ⟨ret_bool Hv.out.symm, hm2.below⟩
  have wn : withinB n.num 1 1152921504606846976 = true := by simp [withinB]; omega
  rcases Int.lt_or_le n.den 1 with a1d | b1d
  · skip
    rcases n12 with m1 | ⟨m1, m2⟩
    · skip
      have Hv := Lib.hid (show qboxB n = false by simp [qboxB, h3, hs, h0, hw12, show withinB n.den 1 1152921504606846976 = false by simp [withinB]; omega])
      go_enter Tryz.func81, Tryz.ntmps81
      go_upto_region 1 with (fail)
      generalize w.alloc (.cells n.arr 49) = w1 at hm aa ag c0 c1 c2 c4 c5 c3 c6 c12 c13 c14 c15 c16 c17 c18 ⊢
      go_wp2_with (first | (go_at_call 93; refine (qthree _ _).mono ?_; rintro e w2 ⟨rfl, hb2⟩; have hm2 := hm.call hb2; obtain ⟨-, aa, ag, c0, c1, c2, c4, c5, c3, c6, c12, c13, c14, c15, c16, c17, c18⟩ := hm2.seen) | (go_at_call 82; refine (q5dimen _ _).mono ?_; rintro e w' ⟨rfl, rfl⟩))
      go_ret
      exact ⟨ret_bool Hv.out.symm, hm2.below⟩
    · skip
      have Hv := Lib.hid (show qboxB n = false by simp [qboxB, h3, hs, h0, hw12, show withinB n.den 1 1152921504606846976 = false by simp [withinB]; omega])
      go_enter Tryz.func81, Tryz.ntmps81
      go_upto_region 1 with (fail)
      generalize w.alloc (.cells n.arr 49) = w1 at hm aa ag c0 c1 c2 c4 c5 c3 c6 c12 c13 c14 c15 c16 c17 c18 ⊢
      go_wp2_with (first | (go_at_call 93; refine (qthree _ _).mono ?_; rintro e w2 ⟨rfl, hb2⟩; have hm2 := hm.call hb2; obtain ⟨-, aa, ag, c0, c1, c2, c4, c5, c3, c6, c12, c13, c14, c15, c16, c17, c18⟩ := hm2.seen) | (go_at_call 82; refine (q5dimen _ _).mono ?_; rintro e w' ⟨rfl, rfl⟩))
      go_ret
      exact ⟨ret_bool Hv.out.symm, hm2.below⟩
  rcases Int.lt_or_le 1152921504606846976 n.den with c1d | d1d
  · skip
    rcases n12 with m1 | ⟨m1, m2⟩
    · skip
      have Hv := Lib.hid (show qboxB n = false by simp [qboxB, h3, hs, h0, hw12, show withinB n.den 1 1152921504606846976 = false by simp [withinB]; omega])
      go_enter Tryz.func81, Tryz.ntmps81
      go_upto_region 1 with (fail)
      generalize w.alloc (.cells n.arr 49) = w1 at hm aa ag c0 c1 c2 c4 c5 c3 c6 c12 c13 c14 c15 c16 c17 c18 ⊢
      go_wp2_with (first | (go_at_call 93; refine (qthree _ _).mono ?_; rintro e w2 ⟨rfl, hb2⟩; have hm2 := hm.call hb2; obtain ⟨-, aa, ag, c0, c1, c2, c4, c5, c3, c6, c12, c13, c14, c15, c16, c17, c18⟩ := hm2.seen) | (go_at_call 82; refine (q5dimen _ _).mono ?_; rintro e w' ⟨rfl, rfl⟩))
      go_ret
      exact ⟨ret_bool Hv.out.symm, hm2.below⟩
    · skip
      have Hv := Lib.hid (show qboxB n = false by simp [qboxB, h3, hs, h0, hw12, show withinB n.den 1 1152921504606846976 = false by simp [withinB]; omega])
      go_enter Tryz.func81, Tryz.ntmps81
      go_upto_region 1 with (fail)
      generalize w.alloc (.cells n.arr 49) = w1 at hm aa ag c0 c1 c2 c4 c5 c3 c6 c12 c13 c14 c15 c16 c17 c18 ⊢
      go_wp2_with (first | (go_at_call 93; refine (qthree _ _).mono ?_; rintro e w2 ⟨rfl, hb2⟩; have hm2 := hm.call hb2; obtain ⟨-, aa, ag, c0, c1, c2, c4, c5, c3, c6, c12, c13, c14, c15, c16, c17, c18⟩ := hm2.seen) | (go_at_call 82; refine (q5dimen _ _).mono ?_; rintro e w' ⟨rfl, rfl⟩))
      go_ret
      exact ⟨ret_bool Hv.out.symm, hm2.below⟩
  have wd : withinB n.den 1 1152921504606846976 = true := by simp [withinB]; omega
  skip
  rcases n12 with m1 | ⟨m1, m2⟩
  · have e1 : n.sign = 1 := by simpa using m1
    have s2 : (n.sign == 2) = false := by rw [e1]; rfl
    have Hv := Lib.hid (show qboxB n = eqNd (bareN n) { Nd.zero with kind := n.kind, shift := n.shift, sign := n.sign, order := n.order, num := n.num, den := n.den } by simp [qboxB, h3, hs, h0, hw12, wo, wn, wd, s2])
    go_enter Tryz.func81, Tryz.ntmps81
    go_upto_region 1 with (fail)
    generalize w.alloc (.cells n.arr 49) = w1 at hm aa ag c0 c1 c2 c4 c5 c3 c6 c12 c13 c14 c15 c16 c17 c18 ⊢
    go_wp2_with (first | (go_at_call 93; refine (qthree _ _).mono ?_; rintro e w2 ⟨rfl, hb2⟩; have hm2 := hm.call hb2; obtain ⟨-, aa, ag, c0, c1, c2, c4, c5, c3, c6, c12, c13, c14, c15, c16, c17, c18⟩ := hm2.seen) | (go_at_call 82; refine (q5dimen _ _).mono ?_; rintro e w' ⟨rfl, rfl⟩))
    go_region_held3 (fun w' => NB w n w' ∧ agg? w' w.heap.size 0 19 = some n.arr ∧ agg? w' w.heap.size 7 5 = some n.glue.arr ∧ w'.cell? ⟨w.heap.size, 0, none⟩ = some (.int .i64 n.kind) ∧ w'.cell? ⟨w.heap.size, 1, none⟩ = some (.int .i64 n.font) ∧ w'.cell? ⟨w.heap.size, 2, none⟩ = some (.int .u8 n.char) ∧ w'.cell? ⟨w.heap.size, 4, none⟩ = some (.int .i64 n.h) ∧ w'.cell? ⟨w.heap.size, 5, none⟩ = some (.int .i64 n.d) ∧ w'.cell? ⟨w.heap.size, 3, none⟩ = some (.int .i64 n.w) ∧ w'.cell? ⟨w.heap.size, 6, none⟩ = some (.int .i64 n.shift) ∧ w'.cell? ⟨w.heap.size, 12, none⟩ = some (.int .i64 n.sign) ∧ w'.cell? ⟨w.heap.size, 13, none⟩ = some (.int .i64 n.order) ∧ w'.cell? ⟨w.heap.size, 14, none⟩ = some (.int .i64 n.num) ∧ w'.cell? ⟨w.heap.size, 15, none⟩ = some (.int .i64 n.den) ∧ w'.cell? ⟨w.heap.size, 16, none⟩ = some (.int .i64 n.pen) ∧ w'.cell? ⟨w.heap.size, 17, none⟩ = some (.int .i64 n.sub) ∧ w'.cell? ⟨w.heap.size, 18, none⟩ = some (.string n.text)) ((refine NB.seen ?_; first | assumption | exact hm2.drew)) (((with_reducible refine (HBare.out _ (And.left (by assumption))).mono ?_); rintro e w8 ⟨rfl, h8⟩))
    go_wp2_with fail
    go_ret
    exact ⟨ret_bool (by rw [Hv.out, e1]), h8.below⟩
  · have e1 : n.sign = 2 := by simpa using m2
    have s2 : (n.sign == 2) = true := by rw [e1]; rfl
    cases z0 : (n.order == 0)
    · skip
      have Hv := Lib.hid (show qboxB n = eqNd (bareN n) { Nd.zero with kind := n.kind, shift := n.shift, sign := n.sign, order := n.order, num := n.num, den := n.den } by simp [qboxB, h3, hs, h0, hw12, wo, wn, wd, s2, z0])
      go_enter Tryz.func81, Tryz.ntmps81
      go_upto_region 1 with (fail)
      generalize w.alloc (.cells n.arr 49) = w1 at hm aa ag c0 c1 c2 c4 c5 c3 c6 c12 c13 c14 c15 c16 c17 c18 ⊢
      go_wp2_with (first | (go_at_call 93; refine (qthree _ _).mono ?_; rintro e w2 ⟨rfl, hb2⟩; have hm2 := hm.call hb2; obtain ⟨-, aa, ag, c0, c1, c2, c4, c5, c3, c6, c12, c13, c14, c15, c16, c17, c18⟩ := hm2.seen) | (go_at_call 82; refine (q5dimen _ _).mono ?_; rintro e w' ⟨rfl, rfl⟩))
      go_region_held3 (fun w' => NB w n w' ∧ agg? w' w.heap.size 0 19 = some n.arr ∧ agg? w' w.heap.size 7 5 = some n.glue.arr ∧ w'.cell? ⟨w.heap.size, 0, none⟩ = some (.int .i64 n.kind) ∧ w'.cell? ⟨w.heap.size, 1, none⟩ = some (.int .i64 n.font) ∧ w'.cell? ⟨w.heap.size, 2, none⟩ = some (.int .u8 n.char) ∧ w'.cell? ⟨w.heap.size, 4, none⟩ = some (.int .i64 n.h) ∧ w'.cell? ⟨w.heap.size, 5, none⟩ = some (.int .i64 n.d) ∧ w'.cell? ⟨w.heap.size, 3, none⟩ = some (.int .i64 n.w) ∧ w'.cell? ⟨w.heap.size, 6, none⟩ = some (.int .i64 n.shift) ∧ w'.cell? ⟨w.heap.size, 12, none⟩ = some (.int .i64 n.sign) ∧ w'.cell? ⟨w.heap.size, 13, none⟩ = some (.int .i64 n.order) ∧ w'.cell? ⟨w.heap.size, 14, none⟩ = some (.int .i64 n.num) ∧ w'.cell? ⟨w.heap.size, 15, none⟩ = some (.int .i64 n.den) ∧ w'.cell? ⟨w.heap.size, 16, none⟩ = some (.int .i64 n.pen) ∧ w'.cell? ⟨w.heap.size, 17, none⟩ = some (.int .i64 n.sub) ∧ w'.cell? ⟨w.heap.size, 18, none⟩ = some (.string n.text)) ((refine NB.seen ?_; first | assumption | exact hm2.drew)) (((with_reducible refine (HBare.out _ (And.left (by assumption))).mono ?_); rintro e w8 ⟨rfl, h8⟩))
      go_wp2_with fail
      go_ret
      exact ⟨ret_bool (by rw [Hv.out, e1]), h8.below⟩
    · rcases Int.lt_or_le n.den n.num with q | q
      · skip
        have Hv := Lib.hid (show qboxB n = false by simp [qboxB, h3, hs, h0, hw12, wo, wn, wd, s2, z0, q])
        go_enter Tryz.func81, Tryz.ntmps81
        go_upto_region 1 with (fail)
        generalize w.alloc (.cells n.arr 49) = w1 at hm aa ag c0 c1 c2 c4 c5 c3 c6 c12 c13 c14 c15 c16 c17 c18 ⊢
        go_wp2_with (first | (go_at_call 93; refine (qthree _ _).mono ?_; rintro e w2 ⟨rfl, hb2⟩; have hm2 := hm.call hb2; obtain ⟨-, aa, ag, c0, c1, c2, c4, c5, c3, c6, c12, c13, c14, c15, c16, c17, c18⟩ := hm2.seen) | (go_at_call 82; refine (q5dimen _ _).mono ?_; rintro e w' ⟨rfl, rfl⟩))
        go_ret
        exact ⟨ret_bool Hv.out.symm, hm2.below⟩
      · skip
        have Hv := Lib.hid (show qboxB n = eqNd (bareN n) { Nd.zero with kind := n.kind, shift := n.shift, sign := n.sign, order := n.order, num := n.num, den := n.den } by simp [qboxB, h3, hs, h0, hw12, wo, wn, wd, s2, z0, Int.not_lt.2 q])
        go_enter Tryz.func81, Tryz.ntmps81
        go_upto_region 1 with (fail)
        generalize w.alloc (.cells n.arr 49) = w1 at hm aa ag c0 c1 c2 c4 c5 c3 c6 c12 c13 c14 c15 c16 c17 c18 ⊢
        go_wp2_with (first | (go_at_call 93; refine (qthree _ _).mono ?_; rintro e w2 ⟨rfl, hb2⟩; have hm2 := hm.call hb2; obtain ⟨-, aa, ag, c0, c1, c2, c4, c5, c3, c6, c12, c13, c14, c15, c16, c17, c18⟩ := hm2.seen) | (go_at_call 82; refine (q5dimen _ _).mono ?_; rintro e w' ⟨rfl, rfl⟩))
        go_region_held3 (fun w' => NB w n w' ∧ agg? w' w.heap.size 0 19 = some n.arr ∧ agg? w' w.heap.size 7 5 = some n.glue.arr ∧ w'.cell? ⟨w.heap.size, 0, none⟩ = some (.int .i64 n.kind) ∧ w'.cell? ⟨w.heap.size, 1, none⟩ = some (.int .i64 n.font) ∧ w'.cell? ⟨w.heap.size, 2, none⟩ = some (.int .u8 n.char) ∧ w'.cell? ⟨w.heap.size, 4, none⟩ = some (.int .i64 n.h) ∧ w'.cell? ⟨w.heap.size, 5, none⟩ = some (.int .i64 n.d) ∧ w'.cell? ⟨w.heap.size, 3, none⟩ = some (.int .i64 n.w) ∧ w'.cell? ⟨w.heap.size, 6, none⟩ = some (.int .i64 n.shift) ∧ w'.cell? ⟨w.heap.size, 12, none⟩ = some (.int .i64 n.sign) ∧ w'.cell? ⟨w.heap.size, 13, none⟩ = some (.int .i64 n.order) ∧ w'.cell? ⟨w.heap.size, 14, none⟩ = some (.int .i64 n.num) ∧ w'.cell? ⟨w.heap.size, 15, none⟩ = some (.int .i64 n.den) ∧ w'.cell? ⟨w.heap.size, 16, none⟩ = some (.int .i64 n.pen) ∧ w'.cell? ⟨w.heap.size, 17, none⟩ = some (.int .i64 n.sub) ∧ w'.cell? ⟨w.heap.size, 18, none⟩ = some (.string n.text)) ((refine NB.seen ?_; first | assumption | exact hm2.drew)) (((with_reducible refine (HBare.out _ (And.left (by assumption))).mono ?_); rintro e w8 ⟨rfl, h8⟩))
        go_wp2_with fail
        go_ret
        exact ⟨ret_bool (by rw [Hv.out, e1, show n.order = 0 by simpa using z0]), h8.below⟩
end Go.Proofs.YtomehdepjenilaaGreat
