/-
  Layer 5, the document's side: whether a node may be: all kinds.
-/
import Derived.Test.YtomehdepjenilaaGreatQ2
set_option maxRecDepth 100000
set_option maxHeartbeats 8000000
namespace Go.Proofs.YtomehdepjenilaaGreat
open Go.ChangeShapes Go.WideShapes Go.ChangeAt Go.RowKit

theorem text_some {t : ByteArray} (h : ¬ t = ⟨#[]⟩) : t.toList.isEmpty = false := by
  cases hl : t.toList with
  | nil => exact absurd (bytes_toList_inj.1 (hl.trans (by first | decide | simp | simp [ByteArray.toList, ByteArray.toList.loop] | (unfold ByteArray.toList ByteArray.toList.loop; simp)))) h
  | cons a l => rfl
def qglyph1B (n : Nd) : Bool := dims3 n.w n.h n.d && withinB n.font 0 63 && decide (n.text = ⟨#[]⟩) && eqNd (bareN n) { Nd.zero with kind := n.kind, font := n.font, char := n.char, text := n.text }
theorem qglyph1 (n : Nd) (w : World) (hk : n.kind = 1) : Calls Tryz.prog 79 #[.agg n.arr] w fun e w' => e = .returned (.bool (qglyph1B n)) ∧ Below w.heap.size w w' := by
  have hm := NB.new w n
  obtain ⟨-, aa, ag, c0, c1, c2, c4, c5, c3, c6, c12, c13, c14, c15, c16, c17, c18⟩ := hm.seen
  have HBare : Hid (∀ W, NB w n W → Calls Tryz.prog 94 #[.agg n.arr] W fun e w' => e = .returned (.agg (bareN n).arr) ∧ NB w n w') := Lib.hid fun W h => (qbare n W).mono fun _ _ ⟨a, b⟩ => ⟨a, h.call b⟩
  cases h3 : dims3 n.w n.h n.d
  · skip
    have Hv := Lib.hid (show qglyph1B n = false by simp [qglyph1B, h3])
    go_enter Tryz.func79, Tryz.ntmps79
    go_upto_region 1 with (fail)
    generalize w.alloc (.cells n.arr 49) = w1 at hm aa ag c0 c1 c2 c4 c5 c3 c6 c12 c13 c14 c15 c16 c17 c18 ⊢
    go_wp2_with (first | (go_at_call 93; refine (qthree _ _).mono ?_; rintro e w2 ⟨rfl, hb2⟩; have hm2 := hm.call hb2; obtain ⟨-, aa, ag, c0, c1, c2, c4, c5, c3, c6, c12, c13, c14, c15, c16, c17, c18⟩ := hm2.seen))
    go_ret
    exact ⟨ret_bool Hv.out.symm, hm2.below⟩
  rcases Int.lt_or_le n.font 0 with a1 | b1
  · skip
    have Hv := Lib.hid (show qglyph1B n = false by simp [qglyph1B, h3, show withinB n.font 0 63 = false by simp [withinB]; omega])
    go_enter Tryz.func79, Tryz.ntmps79
    go_upto_region 1 with (fail)
    generalize w.alloc (.cells n.arr 49) = w1 at hm aa ag c0 c1 c2 c4 c5 c3 c6 c12 c13 c14 c15 c16 c17 c18 ⊢
    go_wp2_with (first | (go_at_call 93; refine (qthree _ _).mono ?_; rintro e w2 ⟨rfl, hb2⟩; have hm2 := hm.call hb2; obtain ⟨-, aa, ag, c0, c1, c2, c4, c5, c3, c6, c12, c13, c14, c15, c16, c17, c18⟩ := hm2.seen))
    go_ret
    exact ⟨ret_bool Hv.out.symm, hm2.below⟩
  rcases Int.lt_or_le n.font 64 with a2 | b2
  rotate_left
  · skip
    have Hv := Lib.hid (show qglyph1B n = false by simp [qglyph1B, h3, show withinB n.font 0 63 = false by simp [withinB]; omega])
    go_enter Tryz.func79, Tryz.ntmps79
    go_upto_region 1 with (fail)
    generalize w.alloc (.cells n.arr 49) = w1 at hm aa ag c0 c1 c2 c4 c5 c3 c6 c12 c13 c14 c15 c16 c17 c18 ⊢
    go_wp2_with (first | (go_at_call 93; refine (qthree _ _).mono ?_; rintro e w2 ⟨rfl, hb2⟩; have hm2 := hm.call hb2; obtain ⟨-, aa, ag, c0, c1, c2, c4, c5, c3, c6, c12, c13, c14, c15, c16, c17, c18⟩ := hm2.seen))
    go_ret
    exact ⟨ret_bool Hv.out.symm, hm2.below⟩
  have hw : withinB n.font 0 63 = true := by simp [withinB]; omega
  by_cases ht : n.text = ⟨#[]⟩
  · skip
    have Hv := Lib.hid (show qglyph1B n = eqNd (bareN n) { Nd.zero with kind := n.kind, font := n.font, char := n.char, text := n.text } by simp [qglyph1B, h3, hw, ht])
    go_enter Tryz.func79, Tryz.ntmps79
    go_upto_region 1 with (fail)
    generalize w.alloc (.cells n.arr 49) = w1 at hm aa ag c0 c1 c2 c4 c5 c3 c6 c12 c13 c14 c15 c16 c17 c18 ⊢
    go_wp2_with (first | (go_at_call 93; refine (qthree _ _).mono ?_; rintro e w2 ⟨rfl, hb2⟩; have hm2 := hm.call hb2; obtain ⟨-, aa, ag, c0, c1, c2, c4, c5, c3, c6, c12, c13, c14, c15, c16, c17, c18⟩ := hm2.seen))
    go_region_held3 (fun w' => NB w n w' ∧ agg? w' w.heap.size 0 19 = some n.arr ∧ agg? w' w.heap.size 7 5 = some n.glue.arr ∧ w'.cell? ⟨w.heap.size, 0, none⟩ = some (.int .i64 n.kind) ∧ w'.cell? ⟨w.heap.size, 1, none⟩ = some (.int .i64 n.font) ∧ w'.cell? ⟨w.heap.size, 2, none⟩ = some (.int .u8 n.char) ∧ w'.cell? ⟨w.heap.size, 4, none⟩ = some (.int .i64 n.h) ∧ w'.cell? ⟨w.heap.size, 5, none⟩ = some (.int .i64 n.d) ∧ w'.cell? ⟨w.heap.size, 3, none⟩ = some (.int .i64 n.w) ∧ w'.cell? ⟨w.heap.size, 6, none⟩ = some (.int .i64 n.shift) ∧ w'.cell? ⟨w.heap.size, 12, none⟩ = some (.int .i64 n.sign) ∧ w'.cell? ⟨w.heap.size, 13, none⟩ = some (.int .i64 n.order) ∧ w'.cell? ⟨w.heap.size, 14, none⟩ = some (.int .i64 n.num) ∧ w'.cell? ⟨w.heap.size, 15, none⟩ = some (.int .i64 n.den) ∧ w'.cell? ⟨w.heap.size, 16, none⟩ = some (.int .i64 n.pen) ∧ w'.cell? ⟨w.heap.size, 17, none⟩ = some (.int .i64 n.sub) ∧ w'.cell? ⟨w.heap.size, 18, none⟩ = some (.string n.text)) ((refine NB.seen ?_; first | assumption | exact hm2.drew)) (((with_reducible refine (HBare.out _ (And.left (by assumption))).mono ?_); rintro e w8 ⟨rfl, h8⟩))
    go_wp2_with fail
    go_ret
    exact ⟨ret_bool (by rw [Hv.out, hk, ht]), h8.below⟩
  have he : n.text.toList.isEmpty = false := text_some ht
  have Hv := Lib.hid (show qglyph1B n = false by simp [qglyph1B, h3, hw, ht])
  go_enter Tryz.func79, Tryz.ntmps79
  go_upto_region 1 with (fail)
  generalize w.alloc (.cells n.arr 49) = w1 at hm aa ag c0 c1 c2 c4 c5 c3 c6 c12 c13 c14 c15 c16 c17 c18 ⊢
  go_wp2_with (first | (go_at_call 93; refine (qthree _ _).mono ?_; rintro e w2 ⟨rfl, hb2⟩; have hm2 := hm.call hb2; obtain ⟨-, aa, ag, c0, c1, c2, c4, c5, c3, c6, c12, c13, c14, c15, c16, c17, c18⟩ := hm2.seen))
  go_ret
  exact ⟨ret_bool Hv.out.symm, hm2.below⟩
def qglyph2B (n : Nd) : Bool := dims3 n.w n.h n.d && withinB n.font 0 63 && withinB n.text.size 1 63 && eqNd (bareN n) { Nd.zero with kind := n.kind, font := n.font, char := n.char, text := n.text }
theorem qglyph2 (n : Nd) (w : World) (hk : n.kind = 2) : Calls Tryz.prog 79 #[.agg n.arr] w fun e w' => e = .returned (.bool (qglyph2B n)) ∧ Below w.heap.size w w' := by
  have hm := NB.new w n
  obtain ⟨-, aa, ag, c0, c1, c2, c4, c5, c3, c6, c12, c13, c14, c15, c16, c17, c18⟩ := hm.seen
  have HBare : Hid (∀ W, NB w n W → Calls Tryz.prog 94 #[.agg n.arr] W fun e w' => e = .returned (.agg (bareN n).arr) ∧ NB w n w') := Lib.hid fun W h => (qbare n W).mono fun _ _ ⟨a, b⟩ => ⟨a, h.call b⟩
  cases h3 : dims3 n.w n.h n.d
  · skip
    have Hv := Lib.hid (show qglyph2B n = false by simp [qglyph2B, h3])
    go_enter Tryz.func79, Tryz.ntmps79
    go_upto_region 1 with (fail)
    generalize w.alloc (.cells n.arr 49) = w1 at hm aa ag c0 c1 c2 c4 c5 c3 c6 c12 c13 c14 c15 c16 c17 c18 ⊢
    go_wp2_with (first | (go_at_call 93; refine (qthree _ _).mono ?_; rintro e w2 ⟨rfl, hb2⟩; have hm2 := hm.call hb2; obtain ⟨-, aa, ag, c0, c1, c2, c4, c5, c3, c6, c12, c13, c14, c15, c16, c17, c18⟩ := hm2.seen))
    go_ret
    exact ⟨ret_bool Hv.out.symm, hm2.below⟩
  rcases Int.lt_or_le n.font 0 with a1 | b1
  · skip
    have Hv := Lib.hid (show qglyph2B n = false by simp [qglyph2B, h3, show withinB n.font 0 63 = false by simp [withinB]; omega])
    go_enter Tryz.func79, Tryz.ntmps79
    go_upto_region 1 with (fail)
    generalize w.alloc (.cells n.arr 49) = w1 at hm aa ag c0 c1 c2 c4 c5 c3 c6 c12 c13 c14 c15 c16 c17 c18 ⊢
    go_wp2_with (first | (go_at_call 93; refine (qthree _ _).mono ?_; rintro e w2 ⟨rfl, hb2⟩; have hm2 := hm.call hb2; obtain ⟨-, aa, ag, c0, c1, c2, c4, c5, c3, c6, c12, c13, c14, c15, c16, c17, c18⟩ := hm2.seen))
    go_ret
    exact ⟨ret_bool Hv.out.symm, hm2.below⟩
  rcases Int.lt_or_le n.font 64 with a2 | b2
  rotate_left
  · skip
    have Hv := Lib.hid (show qglyph2B n = false by simp [qglyph2B, h3, show withinB n.font 0 63 = false by simp [withinB]; omega])
    go_enter Tryz.func79, Tryz.ntmps79
    go_upto_region 1 with (fail)
    generalize w.alloc (.cells n.arr 49) = w1 at hm aa ag c0 c1 c2 c4 c5 c3 c6 c12 c13 c14 c15 c16 c17 c18 ⊢
    go_wp2_with (first | (go_at_call 93; refine (qthree _ _).mono ?_; rintro e w2 ⟨rfl, hb2⟩; have hm2 := hm.call hb2; obtain ⟨-, aa, ag, c0, c1, c2, c4, c5, c3, c6, c12, c13, c14, c15, c16, c17, c18⟩ := hm2.seen))
    go_ret
    exact ⟨ret_bool Hv.out.symm, hm2.below⟩
  have hw : withinB n.font 0 63 = true := by simp [withinB]; omega
  have htz : (0 : Int) ≤ (n.text.size : Int) := by omega
  rcases Int.lt_or_le (n.text.size : Int) 1 with a3 | b3
  · skip
    have Hv := Lib.hid (show qglyph2B n = false by simp [qglyph2B, h3, hw, show withinB n.text.size 1 63 = false by simp [withinB]; omega])
    go_enter Tryz.func79, Tryz.ntmps79
    go_upto_region 1 with (fail)
    generalize w.alloc (.cells n.arr 49) = w1 at hm aa ag c0 c1 c2 c4 c5 c3 c6 c12 c13 c14 c15 c16 c17 c18 ⊢
    go_wp2_with (first | (go_at_call 93; refine (qthree _ _).mono ?_; rintro e w2 ⟨rfl, hb2⟩; have hm2 := hm.call hb2; obtain ⟨-, aa, ag, c0, c1, c2, c4, c5, c3, c6, c12, c13, c14, c15, c16, c17, c18⟩ := hm2.seen))
    go_ret
    exact ⟨ret_bool Hv.out.symm, hm2.below⟩
  rcases Int.lt_or_le 63 (n.text.size : Int) with a4 | b4
  · skip
    have Hv := Lib.hid (show qglyph2B n = false by simp [qglyph2B, h3, hw, show withinB n.text.size 1 63 = false by simp [withinB]; omega])
    go_enter Tryz.func79, Tryz.ntmps79
    go_upto_region 1 with (fail)
    generalize w.alloc (.cells n.arr 49) = w1 at hm aa ag c0 c1 c2 c4 c5 c3 c6 c12 c13 c14 c15 c16 c17 c18 ⊢
    go_wp2_with (first | (go_at_call 93; refine (qthree _ _).mono ?_; rintro e w2 ⟨rfl, hb2⟩; have hm2 := hm.call hb2; obtain ⟨-, aa, ag, c0, c1, c2, c4, c5, c3, c6, c12, c13, c14, c15, c16, c17, c18⟩ := hm2.seen))
    go_ret
    exact ⟨ret_bool Hv.out.symm, hm2.below⟩
  have Hv := Lib.hid (show qglyph2B n = eqNd (bareN n) { Nd.zero with kind := n.kind, font := n.font, char := n.char, text := n.text } by simp [qglyph2B, h3, hw, show withinB n.text.size 1 63 = true by simp [withinB]; omega])
  go_enter Tryz.func79, Tryz.ntmps79
  go_upto_region 1 with (fail)
  generalize w.alloc (.cells n.arr 49) = w1 at hm aa ag c0 c1 c2 c4 c5 c3 c6 c12 c13 c14 c15 c16 c17 c18 ⊢
  go_wp2_with (first | (go_at_call 93; refine (qthree _ _).mono ?_; rintro e w2 ⟨rfl, hb2⟩; have hm2 := hm.call hb2; obtain ⟨-, aa, ag, c0, c1, c2, c4, c5, c3, c6, c12, c13, c14, c15, c16, c17, c18⟩ := hm2.seen))
  go_region_held3 (fun w' => NB w n w' ∧ agg? w' w.heap.size 0 19 = some n.arr ∧ agg? w' w.heap.size 7 5 = some n.glue.arr ∧ w'.cell? ⟨w.heap.size, 0, none⟩ = some (.int .i64 n.kind) ∧ w'.cell? ⟨w.heap.size, 1, none⟩ = some (.int .i64 n.font) ∧ w'.cell? ⟨w.heap.size, 2, none⟩ = some (.int .u8 n.char) ∧ w'.cell? ⟨w.heap.size, 4, none⟩ = some (.int .i64 n.h) ∧ w'.cell? ⟨w.heap.size, 5, none⟩ = some (.int .i64 n.d) ∧ w'.cell? ⟨w.heap.size, 3, none⟩ = some (.int .i64 n.w) ∧ w'.cell? ⟨w.heap.size, 6, none⟩ = some (.int .i64 n.shift) ∧ w'.cell? ⟨w.heap.size, 12, none⟩ = some (.int .i64 n.sign) ∧ w'.cell? ⟨w.heap.size, 13, none⟩ = some (.int .i64 n.order) ∧ w'.cell? ⟨w.heap.size, 14, none⟩ = some (.int .i64 n.num) ∧ w'.cell? ⟨w.heap.size, 15, none⟩ = some (.int .i64 n.den) ∧ w'.cell? ⟨w.heap.size, 16, none⟩ = some (.int .i64 n.pen) ∧ w'.cell? ⟨w.heap.size, 17, none⟩ = some (.int .i64 n.sub) ∧ w'.cell? ⟨w.heap.size, 18, none⟩ = some (.string n.text)) ((refine NB.seen ?_; first | assumption | exact hm2.drew)) (((with_reducible refine (HBare.out _ (And.left (by assumption))).mono ?_); rintro e w8 ⟨rfl, h8⟩))
  go_wp2_with fail
  go_ret
  exact ⟨ret_bool (by rw [Hv.out, hk]), h8.below⟩
def qgoodN (k : Nat) (n : Nd) : Bool := match k with
  | 1 => qglyph1B n | 2 => qglyph2B n | 3 => qruleB n | 4 => qboxB n | 5 => qboxB n
  | 7 => n.glue.good && withinB n.sub 0 20 && eqNd n { Nd.zero with kind := n.kind, glue := n.glue, sub := n.sub }
  | 8 => dimenB n.w && withinB n.sub 0 2 && eqNd n { Nd.zero with kind := n.kind, w := n.w, sub := n.sub }
  | 9 => !farB n.pen && eqNd n { Nd.zero with kind := n.kind, pen := n.pen }
  | 12 => decide ((n.text.size : Int) ≤ 1000) && eqNd n { Nd.zero with kind := n.kind, text := n.text }
  | 14 => decide ((n.text.size : Int) ≤ 1000) && eqNd n { Nd.zero with kind := n.kind, text := n.text }
  | 13 => dimenB n.h && dimenB n.d && withinB n.sub 0 254 && !farB n.pen && n.glue.good && eqNd n { Nd.zero with kind := n.kind, sub := n.sub, h := n.h, d := n.d, pen := n.pen, glue := n.glue }
  | 15 => dimenB n.w && eqNd n { Nd.zero with kind := n.kind, w := n.w }
  | 16 => dimenB n.w && eqNd n { Nd.zero with kind := n.kind, w := n.w }
  | 6 => eqNd n { Nd.zero with kind := n.kind } | 10 => eqNd n { Nd.zero with kind := n.kind } | 11 => eqNd n { Nd.zero with kind := n.kind } | 17 => eqNd n { Nd.zero with kind := n.kind }
  | _ => false
theorem qgood_1 (n : Nd) (w : World) (hk : n.kind = 1) : Calls Tryz.prog 61 #[.agg n.arr] w fun e w' => e = .returned (.bool (qgoodN 1 n)) ∧ Below w.heap.size w w' := by
  have hm := NB.new w n
  obtain ⟨-, aa, ag, c0, c1, c2, c4, c5, c3, c6, c12, c13, c14, c15, c16, c17, c18⟩ := hm.seen
  skip
  have Hv := Lib.hid (show qgoodN 1 n = qglyph1B n by rfl)
  go_enter Tryz.func61, Tryz.ntmps61
  go_upto_region 1 with (fail)
  generalize w.alloc (.cells n.arr 49) = w1 at hm aa ag c0 c1 c2 c4 c5 c3 c6 c12 c13 c14 c15 c16 c17 c18 ⊢
  go_wp2_with (first | (go_at_call 79; refine (qglyph1 n _ hk).mono ?_; rintro e w2 ⟨rfl, hb2⟩; have hm2 := hm.call hb2))
  go_ret
  exact ⟨ret_bool Hv.out.symm, hm2.below⟩
theorem qgood_2 (n : Nd) (w : World) (hk : n.kind = 2) : Calls Tryz.prog 61 #[.agg n.arr] w fun e w' => e = .returned (.bool (qgoodN 2 n)) ∧ Below w.heap.size w w' := by
  have hm := NB.new w n
  obtain ⟨-, aa, ag, c0, c1, c2, c4, c5, c3, c6, c12, c13, c14, c15, c16, c17, c18⟩ := hm.seen
  skip
  have Hv := Lib.hid (show qgoodN 2 n = qglyph2B n by rfl)
  go_enter Tryz.func61, Tryz.ntmps61
  go_upto_region 1 with (fail)
  generalize w.alloc (.cells n.arr 49) = w1 at hm aa ag c0 c1 c2 c4 c5 c3 c6 c12 c13 c14 c15 c16 c17 c18 ⊢
  go_wp2_with (first | (go_at_call 79; refine (qglyph2 n _ hk).mono ?_; rintro e w2 ⟨rfl, hb2⟩; have hm2 := hm.call hb2))
  go_ret
  exact ⟨ret_bool Hv.out.symm, hm2.below⟩
theorem qgood_3 (n : Nd) (w : World) (hk : n.kind = 3) : Calls Tryz.prog 61 #[.agg n.arr] w fun e w' => e = .returned (.bool (qgoodN 3 n)) ∧ Below w.heap.size w w' := by
  have hm := NB.new w n
  obtain ⟨-, aa, ag, c0, c1, c2, c4, c5, c3, c6, c12, c13, c14, c15, c16, c17, c18⟩ := hm.seen
  skip
  have Hv := Lib.hid (show qgoodN 3 n = qruleB n by rfl)
  go_enter Tryz.func61, Tryz.ntmps61
  go_upto_region 1 with (fail)
  generalize w.alloc (.cells n.arr 49) = w1 at hm aa ag c0 c1 c2 c4 c5 c3 c6 c12 c13 c14 c15 c16 c17 c18 ⊢
  go_wp2_with (first | (go_at_call 80; refine (qrule n _).mono ?_; rintro e w2 ⟨rfl, hb2⟩; have hm2 := hm.call hb2))
  go_ret
  exact ⟨ret_bool Hv.out.symm, hm2.below⟩
theorem qgood_4 (n : Nd) (w : World) (hk : n.kind = 4) : Calls Tryz.prog 61 #[.agg n.arr] w fun e w' => e = .returned (.bool (qgoodN 4 n)) ∧ Below w.heap.size w w' := by
  have hm := NB.new w n
  obtain ⟨-, aa, ag, c0, c1, c2, c4, c5, c3, c6, c12, c13, c14, c15, c16, c17, c18⟩ := hm.seen
  skip
  have Hv := Lib.hid (show qgoodN 4 n = qboxB n by rfl)
  go_enter Tryz.func61, Tryz.ntmps61
  go_upto_region 1 with (fail)
  generalize w.alloc (.cells n.arr 49) = w1 at hm aa ag c0 c1 c2 c4 c5 c3 c6 c12 c13 c14 c15 c16 c17 c18 ⊢
  go_wp2_with (first | (go_at_call 81; refine (qbox n _).mono ?_; rintro e w2 ⟨rfl, hb2⟩; have hm2 := hm.call hb2))
  go_ret
  exact ⟨ret_bool Hv.out.symm, hm2.below⟩
theorem qgood_5 (n : Nd) (w : World) (hk : n.kind = 5) : Calls Tryz.prog 61 #[.agg n.arr] w fun e w' => e = .returned (.bool (qgoodN 5 n)) ∧ Below w.heap.size w w' := by
  have hm := NB.new w n
  obtain ⟨-, aa, ag, c0, c1, c2, c4, c5, c3, c6, c12, c13, c14, c15, c16, c17, c18⟩ := hm.seen
  skip
  have Hv := Lib.hid (show qgoodN 5 n = qboxB n by rfl)
  go_enter Tryz.func61, Tryz.ntmps61
  go_upto_region 1 with (fail)
  generalize w.alloc (.cells n.arr 49) = w1 at hm aa ag c0 c1 c2 c4 c5 c3 c6 c12 c13 c14 c15 c16 c17 c18 ⊢
  go_wp2_with (first | (go_at_call 81; refine (qbox n _).mono ?_; rintro e w2 ⟨rfl, hb2⟩; have hm2 := hm.call hb2))
  go_ret
  exact ⟨ret_bool Hv.out.symm, hm2.below⟩
theorem qgood_7 (n : Nd) (w : World) (hk : n.kind = 7) : Calls Tryz.prog 61 #[.agg n.arr] w fun e w' => e = .returned (.bool (qgoodN 7 n)) ∧ Below w.heap.size w w' := by
  have hm := NB.new w n
  obtain ⟨-, aa, ag, c0, c1, c2, c4, c5, c3, c6, c12, c13, c14, c15, c16, c17, c18⟩ := hm.seen
  skip
  cases hg : n.glue.good
  · have HGl : Hid (∀ W, Calls Tryz.prog 51 #[.agg n.glue.arr] W fun e w' => e = .returned (.int .i64 30) ∧ Below W.heap.size W w') := Lib.hid fun W => q2check_v _ _ (by rw [hg]; rfl) W
    have Hv := Lib.hid (show qgoodN 7 n = false by simp [qgoodN, hg])
    go_enter Tryz.func61, Tryz.ntmps61
    go_upto_region 1 with (fail)
    generalize w.alloc (.cells n.arr 49) = w1 at hm aa ag c0 c1 c2 c4 c5 c3 c6 c12 c13 c14 c15 c16 c17 c18 ⊢
    go_wp2_with (first | (go_at_call 51; refine (HGl.out _).mono ?_; rintro e w2 ⟨rfl, hb2⟩; have hm2 := hm.call hb2; obtain ⟨-, aa, ag, c0, c1, c2, c4, c5, c3, c6, c12, c13, c14, c15, c16, c17, c18⟩ := hm2.seen))
    go_ret
    exact ⟨ret_bool Hv.out.symm, hm2.below⟩
  have HGl : Hid (∀ W, Calls Tryz.prog 51 #[.agg n.glue.arr] W fun e w' => e = .returned (.int .i64 0) ∧ Below W.heap.size W w') := Lib.hid fun W => q2check_v _ _ (by rw [hg]; rfl) W
  rcases Int.lt_or_le n.sub 0 with a | b
  · skip
    have Hv := Lib.hid (show qgoodN 7 n = false by simp [qgoodN, hg, show withinB n.sub 0 20 = false by simp [withinB]; omega])
    go_enter Tryz.func61, Tryz.ntmps61
    go_upto_region 1 with (fail)
    generalize w.alloc (.cells n.arr 49) = w1 at hm aa ag c0 c1 c2 c4 c5 c3 c6 c12 c13 c14 c15 c16 c17 c18 ⊢
    go_wp2_with (first | (go_at_call 51; refine (HGl.out _).mono ?_; rintro e w2 ⟨rfl, hb2⟩; have hm2 := hm.call hb2; obtain ⟨-, aa, ag, c0, c1, c2, c4, c5, c3, c6, c12, c13, c14, c15, c16, c17, c18⟩ := hm2.seen))
    go_ret
    exact ⟨ret_bool Hv.out.symm, hm2.below⟩
  rcases Int.lt_or_le 20 n.sub with a0 | b0
  · skip
    have Hv := Lib.hid (show qgoodN 7 n = false by simp [qgoodN, hg, show withinB n.sub 0 20 = false by simp [withinB]; omega])
    go_enter Tryz.func61, Tryz.ntmps61
    go_upto_region 1 with (fail)
    generalize w.alloc (.cells n.arr 49) = w1 at hm aa ag c0 c1 c2 c4 c5 c3 c6 c12 c13 c14 c15 c16 c17 c18 ⊢
    go_wp2_with (first | (go_at_call 51; refine (HGl.out _).mono ?_; rintro e w2 ⟨rfl, hb2⟩; have hm2 := hm.call hb2; obtain ⟨-, aa, ag, c0, c1, c2, c4, c5, c3, c6, c12, c13, c14, c15, c16, c17, c18⟩ := hm2.seen))
    go_ret
    exact ⟨ret_bool Hv.out.symm, hm2.below⟩
  have hw : withinB n.sub 0 20 = true := by simp [withinB]; omega
  have Hv := Lib.hid (show qgoodN 7 n = eqNd n { Nd.zero with kind := n.kind, glue := n.glue, sub := n.sub } by simp [qgoodN, hg, hw])
  go_enter Tryz.func61, Tryz.ntmps61
  go_upto_region 1 with (fail)
  generalize w.alloc (.cells n.arr 49) = w1 at hm aa ag c0 c1 c2 c4 c5 c3 c6 c12 c13 c14 c15 c16 c17 c18 ⊢
  go_wp2_with (first | fail | (go_at_call 51; refine (HGl.out _).mono ?_; rintro e w2 ⟨rfl, hb2⟩; have hm2 := hm.call hb2; obtain ⟨-, aa, ag, c0, c1, c2, c4, c5, c3, c6, c12, c13, c14, c15, c16, c17, c18⟩ := hm2.seen))
  go_ret
  exact ⟨ret_bool (by rw [Hv.out, hk]), hm2.below⟩
theorem qgood_8 (n : Nd) (w : World) (hk : n.kind = 8) : Calls Tryz.prog 61 #[.agg n.arr] w fun e w' => e = .returned (.bool (qgoodN 8 n)) ∧ Below w.heap.size w w' := by
  have hm := NB.new w n
  obtain ⟨-, aa, ag, c0, c1, c2, c4, c5, c3, c6, c12, c13, c14, c15, c16, c17, c18⟩ := hm.seen
  skip
  cases h1 : dimenB n.w
  · skip
    have Hv := Lib.hid (show qgoodN 8 n = false by simp [qgoodN, h1])
    go_enter Tryz.func61, Tryz.ntmps61
    go_upto_region 1 with (fail)
    generalize w.alloc (.cells n.arr 49) = w1 at hm aa ag c0 c1 c2 c4 c5 c3 c6 c12 c13 c14 c15 c16 c17 c18 ⊢
    go_wp2_with (first | (go_at_call 82; refine (q5dimen _ _).mono ?_; rintro e w' ⟨rfl, rfl⟩))
    go_ret
    exact ⟨ret_bool Hv.out.symm, hm.below⟩
  rcases Int.lt_or_le n.sub 0 with a | b
  · skip
    have Hv := Lib.hid (show qgoodN 8 n = false by simp [qgoodN, h1, show withinB n.sub 0 2 = false by simp [withinB]; omega])
    go_enter Tryz.func61, Tryz.ntmps61
    go_upto_region 1 with (fail)
    generalize w.alloc (.cells n.arr 49) = w1 at hm aa ag c0 c1 c2 c4 c5 c3 c6 c12 c13 c14 c15 c16 c17 c18 ⊢
    go_wp2_with (first | (go_at_call 82; refine (q5dimen _ _).mono ?_; rintro e w' ⟨rfl, rfl⟩))
    go_ret
    exact ⟨ret_bool Hv.out.symm, hm.below⟩
  rcases Int.lt_or_le 2 n.sub with a0 | b0
  · skip
    have Hv := Lib.hid (show qgoodN 8 n = false by simp [qgoodN, h1, show withinB n.sub 0 2 = false by simp [withinB]; omega])
    go_enter Tryz.func61, Tryz.ntmps61
    go_upto_region 1 with (fail)
    generalize w.alloc (.cells n.arr 49) = w1 at hm aa ag c0 c1 c2 c4 c5 c3 c6 c12 c13 c14 c15 c16 c17 c18 ⊢
    go_wp2_with (first | (go_at_call 82; refine (q5dimen _ _).mono ?_; rintro e w' ⟨rfl, rfl⟩))
    go_ret
    exact ⟨ret_bool Hv.out.symm, hm.below⟩
  have hw : withinB n.sub 0 2 = true := by simp [withinB]; omega
  have Hv := Lib.hid (show qgoodN 8 n = eqNd n { Nd.zero with kind := n.kind, w := n.w, sub := n.sub } by simp [qgoodN, h1, hw])
  go_enter Tryz.func61, Tryz.ntmps61
  go_upto_region 1 with (fail)
  generalize w.alloc (.cells n.arr 49) = w1 at hm aa ag c0 c1 c2 c4 c5 c3 c6 c12 c13 c14 c15 c16 c17 c18 ⊢
  go_wp2_with (first | fail | (go_at_call 82; refine (q5dimen _ _).mono ?_; rintro e w' ⟨rfl, rfl⟩))
  go_ret
  exact ⟨ret_bool (by rw [Hv.out, hk]), hm.below⟩
theorem qgood_9 (n : Nd) (w : World) (hk : n.kind = 9) : Calls Tryz.prog 61 #[.agg n.arr] w fun e w' => e = .returned (.bool (qgoodN 9 n)) ∧ Below w.heap.size w w' := by
  have hm := NB.new w n
  obtain ⟨-, aa, ag, c0, c1, c2, c4, c5, c3, c6, c12, c13, c14, c15, c16, c17, c18⟩ := hm.seen
  skip
  cases h1 : farB n.pen
  rotate_left
  · skip
    have Hv := Lib.hid (show qgoodN 9 n = false by simp [qgoodN, h1])
    go_enter Tryz.func61, Tryz.ntmps61
    go_upto_region 1 with (fail)
    generalize w.alloc (.cells n.arr 49) = w1 at hm aa ag c0 c1 c2 c4 c5 c3 c6 c12 c13 c14 c15 c16 c17 c18 ⊢
    go_wp2_with (first | (go_at_call 83; refine (qfar _ _).mono ?_; rintro e w' ⟨rfl, rfl⟩))
    go_ret
    exact ⟨ret_bool Hv.out.symm, hm.below⟩
  have Hv := Lib.hid (show qgoodN 9 n = eqNd n { Nd.zero with kind := n.kind, pen := n.pen } by simp [qgoodN, h1])
  go_enter Tryz.func61, Tryz.ntmps61
  go_upto_region 1 with (fail)
  generalize w.alloc (.cells n.arr 49) = w1 at hm aa ag c0 c1 c2 c4 c5 c3 c6 c12 c13 c14 c15 c16 c17 c18 ⊢
  go_wp2_with (first | fail | (go_at_call 83; refine (qfar _ _).mono ?_; rintro e w' ⟨rfl, rfl⟩))
  go_ret
  exact ⟨ret_bool (by rw [Hv.out, hk]), hm.below⟩
theorem qgood_12 (n : Nd) (w : World) (hk : n.kind = 12) : Calls Tryz.prog 61 #[.agg n.arr] w fun e w' => e = .returned (.bool (qgoodN 12 n)) ∧ Below w.heap.size w w' := by
  have hm := NB.new w n
  obtain ⟨-, aa, ag, c0, c1, c2, c4, c5, c3, c6, c12, c13, c14, c15, c16, c17, c18⟩ := hm.seen
  skip
  rcases Int.lt_or_le 1000 (n.text.size : Int) with a | b
  · skip
    have Hv := Lib.hid (show qgoodN 12 n = false by simp [qgoodN]; omega)
    go_enter Tryz.func61, Tryz.ntmps61
    go_wp2
    go_ret
    exact ⟨ret_bool Hv.out.symm, hm.below⟩
  have Hv := Lib.hid (show qgoodN 12 n = eqNd n { Nd.zero with kind := n.kind, text := n.text } by simp only [qgoodN, decide_eq_true b, Bool.true_and])
  go_enter Tryz.func61, Tryz.ntmps61
  go_upto_region 1 with (fail)
  generalize w.alloc (.cells n.arr 49) = w1 at hm aa ag c0 c1 c2 c4 c5 c3 c6 c12 c13 c14 c15 c16 c17 c18 ⊢
  go_wp2_with (first | fail)
  go_ret
  exact ⟨ret_bool (by rw [Hv.out, hk]), hm.below⟩
theorem qgood_14 (n : Nd) (w : World) (hk : n.kind = 14) : Calls Tryz.prog 61 #[.agg n.arr] w fun e w' => e = .returned (.bool (qgoodN 14 n)) ∧ Below w.heap.size w w' := by
  have hm := NB.new w n
  obtain ⟨-, aa, ag, c0, c1, c2, c4, c5, c3, c6, c12, c13, c14, c15, c16, c17, c18⟩ := hm.seen
  skip
  rcases Int.lt_or_le 1000 (n.text.size : Int) with a | b
  · skip
    have Hv := Lib.hid (show qgoodN 14 n = false by simp [qgoodN]; omega)
    go_enter Tryz.func61, Tryz.ntmps61
    go_wp2
    go_ret
    exact ⟨ret_bool Hv.out.symm, hm.below⟩
  have Hv := Lib.hid (show qgoodN 14 n = eqNd n { Nd.zero with kind := n.kind, text := n.text } by simp only [qgoodN, decide_eq_true b, Bool.true_and])
  go_enter Tryz.func61, Tryz.ntmps61
  go_upto_region 1 with (fail)
  generalize w.alloc (.cells n.arr 49) = w1 at hm aa ag c0 c1 c2 c4 c5 c3 c6 c12 c13 c14 c15 c16 c17 c18 ⊢
  go_wp2_with (first | fail)
  go_ret
  exact ⟨ret_bool (by rw [Hv.out, hk]), hm.below⟩
theorem qgood_13 (n : Nd) (w : World) (hk : n.kind = 13) : Calls Tryz.prog 61 #[.agg n.arr] w fun e w' => e = .returned (.bool (qgoodN 13 n)) ∧ Below w.heap.size w w' := by
  have hm := NB.new w n
  obtain ⟨-, aa, ag, c0, c1, c2, c4, c5, c3, c6, c12, c13, c14, c15, c16, c17, c18⟩ := hm.seen
  skip
  cases h1 : dimenB n.h
  · skip
    have Hv := Lib.hid (show qgoodN 13 n = false by simp [qgoodN, h1])
    go_enter Tryz.func61, Tryz.ntmps61
    go_upto_region 1 with (fail)
    generalize w.alloc (.cells n.arr 49) = w1 at hm aa ag c0 c1 c2 c4 c5 c3 c6 c12 c13 c14 c15 c16 c17 c18 ⊢
    go_wp2_with (first | (go_at_call 82; refine (q5dimen _ _).mono ?_; rintro e w' ⟨rfl, rfl⟩) | (go_at_call 83; refine (qfar _ _).mono ?_; rintro e w' ⟨rfl, rfl⟩) | (go_at_call 51; refine (HGl.out _).mono ?_; rintro e w2 ⟨rfl, hb2⟩; have hm2 := hm.call hb2; obtain ⟨-, aa, ag, c0, c1, c2, c4, c5, c3, c6, c12, c13, c14, c15, c16, c17, c18⟩ := hm2.seen))
    go_ret
    exact ⟨ret_bool Hv.out.symm, hm.below⟩
  cases h2 : dimenB n.d
  · skip
    have Hv := Lib.hid (show qgoodN 13 n = false by simp [qgoodN, h1, h2])
    go_enter Tryz.func61, Tryz.ntmps61
    go_upto_region 1 with (fail)
    generalize w.alloc (.cells n.arr 49) = w1 at hm aa ag c0 c1 c2 c4 c5 c3 c6 c12 c13 c14 c15 c16 c17 c18 ⊢
    go_wp2_with (first | (go_at_call 82; refine (q5dimen _ _).mono ?_; rintro e w' ⟨rfl, rfl⟩) | (go_at_call 83; refine (qfar _ _).mono ?_; rintro e w' ⟨rfl, rfl⟩) | (go_at_call 51; refine (HGl.out _).mono ?_; rintro e w2 ⟨rfl, hb2⟩; have hm2 := hm.call hb2; obtain ⟨-, aa, ag, c0, c1, c2, c4, c5, c3, c6, c12, c13, c14, c15, c16, c17, c18⟩ := hm2.seen))
    go_ret
    exact ⟨ret_bool Hv.out.symm, hm.below⟩
  rcases Int.lt_or_le n.sub 0 with a | b
  · skip
    have Hv := Lib.hid (show qgoodN 13 n = false by simp [qgoodN, h1, h2, show withinB n.sub 0 254 = false by simp [withinB]; omega])
    go_enter Tryz.func61, Tryz.ntmps61
    go_upto_region 1 with (fail)
    generalize w.alloc (.cells n.arr 49) = w1 at hm aa ag c0 c1 c2 c4 c5 c3 c6 c12 c13 c14 c15 c16 c17 c18 ⊢
    go_wp2_with (first | (go_at_call 82; refine (q5dimen _ _).mono ?_; rintro e w' ⟨rfl, rfl⟩) | (go_at_call 83; refine (qfar _ _).mono ?_; rintro e w' ⟨rfl, rfl⟩) | (go_at_call 51; refine (HGl.out _).mono ?_; rintro e w2 ⟨rfl, hb2⟩; have hm2 := hm.call hb2; obtain ⟨-, aa, ag, c0, c1, c2, c4, c5, c3, c6, c12, c13, c14, c15, c16, c17, c18⟩ := hm2.seen))
    go_ret
    exact ⟨ret_bool Hv.out.symm, hm.below⟩
  rcases Int.lt_or_le 254 n.sub with a0 | b0
  · skip
    have Hv := Lib.hid (show qgoodN 13 n = false by simp [qgoodN, h1, h2, show withinB n.sub 0 254 = false by simp [withinB]; omega])
    go_enter Tryz.func61, Tryz.ntmps61
    go_upto_region 1 with (fail)
    generalize w.alloc (.cells n.arr 49) = w1 at hm aa ag c0 c1 c2 c4 c5 c3 c6 c12 c13 c14 c15 c16 c17 c18 ⊢
    go_wp2_with (first | (go_at_call 82; refine (q5dimen _ _).mono ?_; rintro e w' ⟨rfl, rfl⟩) | (go_at_call 83; refine (qfar _ _).mono ?_; rintro e w' ⟨rfl, rfl⟩) | (go_at_call 51; refine (HGl.out _).mono ?_; rintro e w2 ⟨rfl, hb2⟩; have hm2 := hm.call hb2; obtain ⟨-, aa, ag, c0, c1, c2, c4, c5, c3, c6, c12, c13, c14, c15, c16, c17, c18⟩ := hm2.seen))
    go_ret
    exact ⟨ret_bool Hv.out.symm, hm.below⟩
  have hw : withinB n.sub 0 254 = true := by simp [withinB]; omega
  cases h4 : farB n.pen
  rotate_left
  · skip
    have Hv := Lib.hid (show qgoodN 13 n = false by simp [qgoodN, h1, h2, h4])
    go_enter Tryz.func61, Tryz.ntmps61
    go_upto_region 1 with (fail)
    generalize w.alloc (.cells n.arr 49) = w1 at hm aa ag c0 c1 c2 c4 c5 c3 c6 c12 c13 c14 c15 c16 c17 c18 ⊢
    go_wp2_with (first | (go_at_call 82; refine (q5dimen _ _).mono ?_; rintro e w' ⟨rfl, rfl⟩) | (go_at_call 83; refine (qfar _ _).mono ?_; rintro e w' ⟨rfl, rfl⟩) | (go_at_call 51; refine (HGl.out _).mono ?_; rintro e w2 ⟨rfl, hb2⟩; have hm2 := hm.call hb2; obtain ⟨-, aa, ag, c0, c1, c2, c4, c5, c3, c6, c12, c13, c14, c15, c16, c17, c18⟩ := hm2.seen))
    go_ret
    exact ⟨ret_bool Hv.out.symm, hm.below⟩
  cases hg : n.glue.good
  · have HGl : Hid (∀ W, Calls Tryz.prog 51 #[.agg n.glue.arr] W fun e w' => e = .returned (.int .i64 30) ∧ Below W.heap.size W w') := Lib.hid fun W => q2check_v _ _ (by rw [hg]; rfl) W
    have Hv := Lib.hid (show qgoodN 13 n = false by simp [qgoodN, hg])
    go_enter Tryz.func61, Tryz.ntmps61
    go_upto_region 1 with (fail)
    generalize w.alloc (.cells n.arr 49) = w1 at hm aa ag c0 c1 c2 c4 c5 c3 c6 c12 c13 c14 c15 c16 c17 c18 ⊢
    go_wp2_with (first | (go_at_call 82; refine (q5dimen _ _).mono ?_; rintro e w' ⟨rfl, rfl⟩) | (go_at_call 83; refine (qfar _ _).mono ?_; rintro e w' ⟨rfl, rfl⟩) | (go_at_call 51; refine (HGl.out _).mono ?_; rintro e w2 ⟨rfl, hb2⟩; have hm2 := hm.call hb2; obtain ⟨-, aa, ag, c0, c1, c2, c4, c5, c3, c6, c12, c13, c14, c15, c16, c17, c18⟩ := hm2.seen))
    go_ret
    exact ⟨ret_bool Hv.out.symm, hm2.below⟩
  have HGl : Hid (∀ W, Calls Tryz.prog 51 #[.agg n.glue.arr] W fun e w' => e = .returned (.int .i64 0) ∧ Below W.heap.size W w') := Lib.hid fun W => q2check_v _ _ (by rw [hg]; rfl) W
  have Hv := Lib.hid (show qgoodN 13 n = eqNd n { Nd.zero with kind := n.kind, sub := n.sub, h := n.h, d := n.d, pen := n.pen, glue := n.glue } by simp [qgoodN, h1, h2, hw, h4, hg])
  go_enter Tryz.func61, Tryz.ntmps61
  go_upto_region 1 with (fail)
  generalize w.alloc (.cells n.arr 49) = w1 at hm aa ag c0 c1 c2 c4 c5 c3 c6 c12 c13 c14 c15 c16 c17 c18 ⊢
  go_wp2_with (first | fail | (go_at_call 82; refine (q5dimen _ _).mono ?_; rintro e w' ⟨rfl, rfl⟩) | (go_at_call 83; refine (qfar _ _).mono ?_; rintro e w' ⟨rfl, rfl⟩) | (go_at_call 51; refine (HGl.out _).mono ?_; rintro e w2 ⟨rfl, hb2⟩; have hm2 := hm.call hb2; obtain ⟨-, aa, ag, c0, c1, c2, c4, c5, c3, c6, c12, c13, c14, c15, c16, c17, c18⟩ := hm2.seen))
  go_ret
  exact ⟨ret_bool (by rw [Hv.out, hk]), hm2.below⟩
theorem qgood_15 (n : Nd) (w : World) (hk : n.kind = 15) : Calls Tryz.prog 61 #[.agg n.arr] w fun e w' => e = .returned (.bool (qgoodN 15 n)) ∧ Below w.heap.size w w' := by
  have hm := NB.new w n
  obtain ⟨-, aa, ag, c0, c1, c2, c4, c5, c3, c6, c12, c13, c14, c15, c16, c17, c18⟩ := hm.seen
  skip
  cases h1 : dimenB n.w
  · skip
    have Hv := Lib.hid (show qgoodN 15 n = false by simp [qgoodN, h1])
    go_enter Tryz.func61, Tryz.ntmps61
    go_upto_region 1 with (fail)
    generalize w.alloc (.cells n.arr 49) = w1 at hm aa ag c0 c1 c2 c4 c5 c3 c6 c12 c13 c14 c15 c16 c17 c18 ⊢
    go_wp2_with (first | (go_at_call 82; refine (q5dimen _ _).mono ?_; rintro e w' ⟨rfl, rfl⟩))
    go_ret
    exact ⟨ret_bool Hv.out.symm, hm.below⟩
  have Hv := Lib.hid (show qgoodN 15 n = eqNd n { Nd.zero with kind := n.kind, w := n.w } by simp [qgoodN, h1])
  go_enter Tryz.func61, Tryz.ntmps61
  go_upto_region 1 with (fail)
  generalize w.alloc (.cells n.arr 49) = w1 at hm aa ag c0 c1 c2 c4 c5 c3 c6 c12 c13 c14 c15 c16 c17 c18 ⊢
  go_wp2_with (first | fail | (go_at_call 82; refine (q5dimen _ _).mono ?_; rintro e w' ⟨rfl, rfl⟩))
  go_ret
  exact ⟨ret_bool (by rw [Hv.out, hk]), hm.below⟩
theorem qgood_16 (n : Nd) (w : World) (hk : n.kind = 16) : Calls Tryz.prog 61 #[.agg n.arr] w fun e w' => e = .returned (.bool (qgoodN 16 n)) ∧ Below w.heap.size w w' := by
  have hm := NB.new w n
  obtain ⟨-, aa, ag, c0, c1, c2, c4, c5, c3, c6, c12, c13, c14, c15, c16, c17, c18⟩ := hm.seen
  skip
  cases h1 : dimenB n.w
  · skip
    have Hv := Lib.hid (show qgoodN 16 n = false by simp [qgoodN, h1])
    go_enter Tryz.func61, Tryz.ntmps61
    go_upto_region 1 with (fail)
    generalize w.alloc (.cells n.arr 49) = w1 at hm aa ag c0 c1 c2 c4 c5 c3 c6 c12 c13 c14 c15 c16 c17 c18 ⊢
    go_wp2_with (first | (go_at_call 82; refine (q5dimen _ _).mono ?_; rintro e w' ⟨rfl, rfl⟩))
    go_ret
    exact ⟨ret_bool Hv.out.symm, hm.below⟩
  have Hv := Lib.hid (show qgoodN 16 n = eqNd n { Nd.zero with kind := n.kind, w := n.w } by simp [qgoodN, h1])
  go_enter Tryz.func61, Tryz.ntmps61
  go_upto_region 1 with (fail)
  generalize w.alloc (.cells n.arr 49) = w1 at hm aa ag c0 c1 c2 c4 c5 c3 c6 c12 c13 c14 c15 c16 c17 c18 ⊢
  go_wp2_with (first | fail | (go_at_call 82; refine (q5dimen _ _).mono ?_; rintro e w' ⟨rfl, rfl⟩))
  go_ret
  exact ⟨ret_bool (by rw [Hv.out, hk]), hm.below⟩
theorem qgood_6 (n : Nd) (w : World) (hk : n.kind = 6) : Calls Tryz.prog 61 #[.agg n.arr] w fun e w' => e = .returned (.bool (qgoodN 6 n)) ∧ Below w.heap.size w w' := by
  have hm := NB.new w n
  obtain ⟨-, aa, ag, c0, c1, c2, c4, c5, c3, c6, c12, c13, c14, c15, c16, c17, c18⟩ := hm.seen
  skip
  have Hv := Lib.hid (show qgoodN 6 n = eqNd n { Nd.zero with kind := n.kind } by rfl)
  go_enter Tryz.func61, Tryz.ntmps61
  go_upto_region 1 with (fail)
  generalize w.alloc (.cells n.arr 49) = w1 at hm aa ag c0 c1 c2 c4 c5 c3 c6 c12 c13 c14 c15 c16 c17 c18 ⊢
  go_wp2_with (first | fail)
  go_ret
  exact ⟨ret_bool (by rw [Hv.out, hk]), hm.below⟩
theorem qgood_10 (n : Nd) (w : World) (hk : n.kind = 10) : Calls Tryz.prog 61 #[.agg n.arr] w fun e w' => e = .returned (.bool (qgoodN 10 n)) ∧ Below w.heap.size w w' := by
  have hm := NB.new w n
  obtain ⟨-, aa, ag, c0, c1, c2, c4, c5, c3, c6, c12, c13, c14, c15, c16, c17, c18⟩ := hm.seen
  skip
  have Hv := Lib.hid (show qgoodN 10 n = eqNd n { Nd.zero with kind := n.kind } by rfl)
  go_enter Tryz.func61, Tryz.ntmps61
  go_upto_region 1 with (fail)
  generalize w.alloc (.cells n.arr 49) = w1 at hm aa ag c0 c1 c2 c4 c5 c3 c6 c12 c13 c14 c15 c16 c17 c18 ⊢
  go_wp2_with (first | fail)
  go_ret
  exact ⟨ret_bool (by rw [Hv.out, hk]), hm.below⟩
theorem qgood_11 (n : Nd) (w : World) (hk : n.kind = 11) : Calls Tryz.prog 61 #[.agg n.arr] w fun e w' => e = .returned (.bool (qgoodN 11 n)) ∧ Below w.heap.size w w' := by
  have hm := NB.new w n
  obtain ⟨-, aa, ag, c0, c1, c2, c4, c5, c3, c6, c12, c13, c14, c15, c16, c17, c18⟩ := hm.seen
  skip
  have Hv := Lib.hid (show qgoodN 11 n = eqNd n { Nd.zero with kind := n.kind } by rfl)
  go_enter Tryz.func61, Tryz.ntmps61
  go_upto_region 1 with (fail)
  generalize w.alloc (.cells n.arr 49) = w1 at hm aa ag c0 c1 c2 c4 c5 c3 c6 c12 c13 c14 c15 c16 c17 c18 ⊢
  go_wp2_with (first | fail)
  go_ret
  exact ⟨ret_bool (by rw [Hv.out, hk]), hm.below⟩
theorem qgood_17 (n : Nd) (w : World) (hk : n.kind = 17) : Calls Tryz.prog 61 #[.agg n.arr] w fun e w' => e = .returned (.bool (qgoodN 17 n)) ∧ Below w.heap.size w w' := by
  have hm := NB.new w n
  obtain ⟨-, aa, ag, c0, c1, c2, c4, c5, c3, c6, c12, c13, c14, c15, c16, c17, c18⟩ := hm.seen
  skip
  have Hv := Lib.hid (show qgoodN 17 n = eqNd n { Nd.zero with kind := n.kind } by rfl)
  go_enter Tryz.func61, Tryz.ntmps61
  go_upto_region 1 with (fail)
  generalize w.alloc (.cells n.arr 49) = w1 at hm aa ag c0 c1 c2 c4 c5 c3 c6 c12 c13 c14 c15 c16 c17 c18 ⊢
  go_wp2_with (first | fail)
  go_ret
  exact ⟨ret_bool (by rw [Hv.out, hk]), hm.below⟩
theorem qgood_out (n : Nd) (h : withinB n.kind 1 17 = false) (w : World) : Calls Tryz.prog 61 #[.agg n.arr] w fun e w' => e = .returned (.bool false) ∧ Below w.heap.size w w' := by
  have hk : ¬ (1 ≤ n.kind ∧ n.kind ≤ 17) := by simpa [withinB] using h
  have k1 : (n.kind == 1) = false := by rw [beq_eq_false_iff_ne]; omega
  have k2 : (n.kind == 2) = false := by rw [beq_eq_false_iff_ne]; omega
  have k3 : (n.kind == 3) = false := by rw [beq_eq_false_iff_ne]; omega
  have k4 : (n.kind == 4) = false := by rw [beq_eq_false_iff_ne]; omega
  have k5 : (n.kind == 5) = false := by rw [beq_eq_false_iff_ne]; omega
  have k6 : (n.kind == 6) = false := by rw [beq_eq_false_iff_ne]; omega
  have k7 : (n.kind == 7) = false := by rw [beq_eq_false_iff_ne]; omega
  have k8 : (n.kind == 8) = false := by rw [beq_eq_false_iff_ne]; omega
  have k9 : (n.kind == 9) = false := by rw [beq_eq_false_iff_ne]; omega
  have k10 : (n.kind == 10) = false := by rw [beq_eq_false_iff_ne]; omega
  have k11 : (n.kind == 11) = false := by rw [beq_eq_false_iff_ne]; omega
  have k12 : (n.kind == 12) = false := by rw [beq_eq_false_iff_ne]; omega
  have k13 : (n.kind == 13) = false := by rw [beq_eq_false_iff_ne]; omega
  have k14 : (n.kind == 14) = false := by rw [beq_eq_false_iff_ne]; omega
  have k15 : (n.kind == 15) = false := by rw [beq_eq_false_iff_ne]; omega
  have k16 : (n.kind == 16) = false := by rw [beq_eq_false_iff_ne]; omega
  have k17 : (n.kind == 17) = false := by rw [beq_eq_false_iff_ne]; omega
  clear h hk
  go_enter Tryz.func61, Tryz.ntmps61
  go_wp2
  go_ret
  exact ⟨rfl, (Below.refl _ _).alloc (Nat.le_refl _) _⟩
def qgoodB (n : Nd) : Bool := withinB n.kind 1 17 && qgoodN n.kind.toNat n
theorem qgood_any (n : Nd) (w : World) : Calls Tryz.prog 61 #[.agg n.arr] w fun e w' => e = .returned (.bool (qgoodB n)) ∧ Below w.heap.size w w' := by
  cases hw : withinB n.kind 1 17
  · exact (qgood_out n hw w).mono fun e w' ⟨h1, h2⟩ => ⟨by rw [h1, qgoodB, hw]; rfl, h2⟩
  · have h17 : ∃ k : Nat, n.kind = (k : Int) ∧ 1 ≤ k ∧ k ≤ 17 := ⟨n.kind.toNat, by simp [withinB] at hw; omega, by simp [withinB] at hw; omega, by simp [withinB] at hw; omega⟩
    obtain ⟨k, hn, h1, h2⟩ := h17
    have hq : qgoodB n = qgoodN k n := by rw [qgoodB, hw, hn]; rfl
    rw [hq]
    have hk : k = 1 ∨ k = 2 ∨ k = 3 ∨ k = 4 ∨ k = 5 ∨ k = 6 ∨ k = 7 ∨ k = 8 ∨ k = 9 ∨ k = 10 ∨ k = 11 ∨ k = 12 ∨ k = 13 ∨ k = 14 ∨ k = 15 ∨ k = 16 ∨ k = 17 := by omega
    rcases hk with rfl | rfl | rfl | rfl | rfl | rfl | rfl | rfl | rfl | rfl | rfl | rfl | rfl | rfl | rfl | rfl | rfl
    · exact qgood_1 n w hn
    · exact qgood_2 n w hn
    · exact qgood_3 n w hn
    · exact qgood_4 n w hn
    · exact qgood_5 n w hn
    · exact qgood_6 n w hn
    · exact qgood_7 n w hn
    · exact qgood_8 n w hn
    · exact qgood_9 n w hn
    · exact qgood_10 n w hn
    · exact qgood_11 n w hn
    · exact qgood_12 n w hn
    · exact qgood_13 n w hn
    · exact qgood_14 n w hn
    · exact qgood_15 n w hn
    · exact qgood_16 n w hn
    · exact qgood_17 n w hn
end Go.Proofs.YtomehdepjenilaaGreat
