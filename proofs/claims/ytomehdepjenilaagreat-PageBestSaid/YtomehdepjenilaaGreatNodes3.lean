/-
  nodes: whether the fields that a node's kind names are right, kind by kind.
-/
import Derived.Test.YtomehdepjenilaaGreatNodes2
namespace Go.Proofs.YtomehdepjenilaaGreat
open Go.ChangeShapes Go.WideShapes Go.ChangeAt Go.RowKit
set_option linter.unusedSimpArgs false

def glyphB (n : Nd) : Bool := withinB n.font 0 63 && dims3 n.w n.h n.d
def ligB (n : Nd) : Bool := glyphB n && withinB n.text.size 1 63
def ruleB (n : Nd) : Bool := withinB n.sub 0 3 && dims3 n.w n.h n.d && (n.sub == 0 || n.sub == 2 || n.w == 0) && (n.sub == 0 || n.sub == 1 || (n.h == 0 && n.d == 0))
def boxB (n : Nd) : Bool := dims4 n.w n.h n.d n.shift && (if n.sign == 0 then n.order == 0 && n.num == 0 && n.den == 0 else
  withinB n.sign 1 2 && withinB n.order 0 3 && withinB n.num 1 1152921504606846976 && withinB n.den 1 1152921504606846976 && !(n.sign == 2 && n.order == 0 && decide (n.den < n.num)))
def skipB (n : Nd) : Bool := n.glue.good && withinB n.sub 0 20
def kernB (n : Nd) : Bool := dims1 n.w && withinB n.sub 0 2
def penB (n : Nd) : Bool := withinB n.pen (-2147483647) 2147483647
def textB (n : Nd) : Bool := decide ((n.text.size : Int) ≤ 1000)
def insB (n : Nd) : Bool := withinB n.sub 0 254 && dims2 n.h n.d && withinB n.pen (-2147483647) 2147483647 && n.glue.good

theorem g_glyph (n : Nd) (w : World) : Calls Tryz.prog 126 #[.agg n.arr] w fun e w' => e = .returned (.bool (glyphB n)) ∧ Below w.heap.size w w' := by
  cases h0 : withinB n.font 0 63
  · skip
    go_enter Tryz.func126, Tryz.ntmps126
    go_wp2_with (first | (go_at_call 128; refine (within_any _ _ _ _).mono ?_; rintro e w' ⟨rfl, rfl⟩) | (go_at_call 125; refine (dimen_3 _ _ n.w n.h n.d _ (by go_simp) (by go_simp) (by go_simp)).mono ?_; rintro e w' ⟨rfl, rfl⟩))
    all_goals go_ret
    all_goals exact ⟨ret_bool (by simp [glyphB, h0]), (by repeat (first | exact Below.refl _ _ | refine Below.trans ?_ (Below.mono (by assumption) (by simp <;> omega)) | refine Below.alloc ?_ (by simp <;> omega) _))⟩
  cases h1 : dims3 n.w n.h n.d
  · skip
    go_enter Tryz.func126, Tryz.ntmps126
    go_wp2_with (first | (go_at_call 128; refine (within_any _ _ _ _).mono ?_; rintro e w' ⟨rfl, rfl⟩) | (go_at_call 125; refine (dimen_3 _ _ n.w n.h n.d _ (by go_simp) (by go_simp) (by go_simp)).mono ?_; rintro e w' ⟨rfl, rfl⟩))
    all_goals go_ret
    all_goals exact ⟨ret_bool (by simp [glyphB, h0, h1]), (by repeat (first | exact Below.refl _ _ | refine Below.trans ?_ (Below.mono (by assumption) (by simp <;> omega)) | refine Below.alloc ?_ (by simp <;> omega) _))⟩
  go_enter Tryz.func126, Tryz.ntmps126
  go_wp2_with (first | (go_at_call 128; refine (within_any _ _ _ _).mono ?_; rintro e w' ⟨rfl, rfl⟩) | (go_at_call 125; refine (dimen_3 _ _ n.w n.h n.d _ (by go_simp) (by go_simp) (by go_simp)).mono ?_; rintro e w' ⟨rfl, rfl⟩))
  all_goals go_ret
  all_goals exact ⟨ret_bool (by simp [glyphB, h0, h1]), (by repeat (first | exact Below.refl _ _ | refine Below.trans ?_ (Below.mono (by assumption) (by simp <;> omega)) | refine Below.alloc ?_ (by simp <;> omega) _))⟩

theorem g_lig (n : Nd) (w : World) : Calls Tryz.prog 127 #[.agg n.arr] w fun e w' => e = .returned (.bool (ligB n)) ∧ Below w.heap.size w w' := by
  cases h0 : glyphB n
  · skip
    go_enter Tryz.func127, Tryz.ntmps127
    go_wp2_with (first | (go_at_call 128; refine (within_any _ _ _ _).mono ?_; rintro e w' ⟨rfl, rfl⟩) | (go_at_call 126; refine (g_glyph _ _).mono ?_; rintro e w1 ⟨rfl, hb1⟩; obtain ⟨hc1, hf1, ha1, ht1⟩ := bfacts hb1))
    all_goals go_ret
    all_goals exact ⟨ret_bool (by simp [ligB, h0]), (by repeat (first | exact Below.refl _ _ | refine Below.trans ?_ (Below.mono (by assumption) (by simp <;> omega)) | refine Below.alloc ?_ (by simp <;> omega) _))⟩
  cases h1 : withinB n.text.size 1 63
  · skip
    go_enter Tryz.func127, Tryz.ntmps127
    go_wp2_with (first | (go_at_call 128; refine (within_any _ _ _ _).mono ?_; rintro e w' ⟨rfl, rfl⟩) | (go_at_call 126; refine (g_glyph _ _).mono ?_; rintro e w1 ⟨rfl, hb1⟩; obtain ⟨hc1, hf1, ha1, ht1⟩ := bfacts hb1))
    all_goals go_ret
    all_goals exact ⟨ret_bool (by simp [ligB, h0, h1]), (by repeat (first | exact Below.refl _ _ | refine Below.trans ?_ (Below.mono (by assumption) (by simp <;> omega)) | refine Below.alloc ?_ (by simp <;> omega) _))⟩
  go_enter Tryz.func127, Tryz.ntmps127
  go_wp2_with (first | (go_at_call 128; refine (within_any _ _ _ _).mono ?_; rintro e w' ⟨rfl, rfl⟩) | (go_at_call 126; refine (g_glyph _ _).mono ?_; rintro e w1 ⟨rfl, hb1⟩; obtain ⟨hc1, hf1, ha1, ht1⟩ := bfacts hb1))
  all_goals go_ret
  all_goals exact ⟨ret_bool (by simp [ligB, h0, h1]), (by repeat (first | exact Below.refl _ _ | refine Below.trans ?_ (Below.mono (by assumption) (by simp <;> omega)) | refine Below.alloc ?_ (by simp <;> omega) _))⟩

theorem g_ok (n : Nd) (w : World) : Calls Tryz.prog 132 #[.agg n.arr] w fun e w' => e = .returned (.bool (true)) ∧ Below w.heap.size w w' := by
  go_enter Tryz.func132, Tryz.ntmps132
  go_wp2
  all_goals go_ret
  all_goals exact ⟨ret_bool (by simp [true]), (by repeat (first | exact Below.refl _ _ | refine Below.trans ?_ (Below.mono (by assumption) (by simp <;> omega)) | refine Below.alloc ?_ (by simp <;> omega) _))⟩

theorem g_skip (n : Nd) (w : World) : Calls Tryz.prog 134 #[.agg n.arr] w fun e w' => e = .returned (.bool (skipB n)) ∧ Below w.heap.size w w' := by
  cases h0 : n.glue.good
  · skip
    go_enter Tryz.func134, Tryz.ntmps134
    go_wp2_with (first | (go_at_call 128; refine (within_any _ _ _ _).mono ?_; rintro e w' ⟨rfl, rfl⟩) | (go_at_call 30; refine (gcheck_any _ _).mono ?_; rintro e w1 ⟨rfl, hb1⟩; obtain ⟨hc1, hf1, ha1, ht1⟩ := bfacts hb1))
    all_goals go_ret
    all_goals exact ⟨ret_bool (by simp [skipB, h0]), (by repeat (first | exact Below.refl _ _ | refine Below.trans ?_ (Below.mono (by assumption) (by simp <;> omega)) | refine Below.alloc ?_ (by simp <;> omega) _))⟩
  cases h1 : withinB n.sub 0 20
  · skip
    go_enter Tryz.func134, Tryz.ntmps134
    go_wp2_with (first | (go_at_call 128; refine (within_any _ _ _ _).mono ?_; rintro e w' ⟨rfl, rfl⟩) | (go_at_call 30; refine (gcheck_any _ _).mono ?_; rintro e w1 ⟨rfl, hb1⟩; obtain ⟨hc1, hf1, ha1, ht1⟩ := bfacts hb1))
    all_goals go_ret
    all_goals exact ⟨ret_bool (by simp [skipB, h0, h1]), (by repeat (first | exact Below.refl _ _ | refine Below.trans ?_ (Below.mono (by assumption) (by simp <;> omega)) | refine Below.alloc ?_ (by simp <;> omega) _))⟩
  go_enter Tryz.func134, Tryz.ntmps134
  go_wp2_with (first | (go_at_call 128; refine (within_any _ _ _ _).mono ?_; rintro e w' ⟨rfl, rfl⟩) | (go_at_call 30; refine (gcheck_any _ _).mono ?_; rintro e w1 ⟨rfl, hb1⟩; obtain ⟨hc1, hf1, ha1, ht1⟩ := bfacts hb1))
  all_goals go_ret
  all_goals exact ⟨ret_bool (by simp [skipB, h0, h1]), (by repeat (first | exact Below.refl _ _ | refine Below.trans ?_ (Below.mono (by assumption) (by simp <;> omega)) | refine Below.alloc ?_ (by simp <;> omega) _))⟩

theorem g_kern (n : Nd) (w : World) : Calls Tryz.prog 136 #[.agg n.arr] w fun e w' => e = .returned (.bool (kernB n)) ∧ Below w.heap.size w w' := by
  cases h0 : dims1 n.w
  · skip
    go_enter Tryz.func136, Tryz.ntmps136
    go_wp2_with (first | (go_at_call 128; refine (within_any _ _ _ _).mono ?_; rintro e w' ⟨rfl, rfl⟩) | (go_at_call 125; refine (dimen_1 _ _ n.w _ (by go_simp)).mono ?_; rintro e w' ⟨rfl, rfl⟩))
    all_goals go_ret
    all_goals exact ⟨ret_bool (by simp [kernB, h0]), (by repeat (first | exact Below.refl _ _ | refine Below.trans ?_ (Below.mono (by assumption) (by simp <;> omega)) | refine Below.alloc ?_ (by simp <;> omega) _))⟩
  cases h1 : withinB n.sub 0 2
  · skip
    go_enter Tryz.func136, Tryz.ntmps136
    go_wp2_with (first | (go_at_call 128; refine (within_any _ _ _ _).mono ?_; rintro e w' ⟨rfl, rfl⟩) | (go_at_call 125; refine (dimen_1 _ _ n.w _ (by go_simp)).mono ?_; rintro e w' ⟨rfl, rfl⟩))
    all_goals go_ret
    all_goals exact ⟨ret_bool (by simp [kernB, h0, h1]), (by repeat (first | exact Below.refl _ _ | refine Below.trans ?_ (Below.mono (by assumption) (by simp <;> omega)) | refine Below.alloc ?_ (by simp <;> omega) _))⟩
  go_enter Tryz.func136, Tryz.ntmps136
  go_wp2_with (first | (go_at_call 128; refine (within_any _ _ _ _).mono ?_; rintro e w' ⟨rfl, rfl⟩) | (go_at_call 125; refine (dimen_1 _ _ n.w _ (by go_simp)).mono ?_; rintro e w' ⟨rfl, rfl⟩))
  all_goals go_ret
  all_goals exact ⟨ret_bool (by simp [kernB, h0, h1]), (by repeat (first | exact Below.refl _ _ | refine Below.trans ?_ (Below.mono (by assumption) (by simp <;> omega)) | refine Below.alloc ?_ (by simp <;> omega) _))⟩

theorem g_pen (n : Nd) (w : World) : Calls Tryz.prog 138 #[.agg n.arr] w fun e w' => e = .returned (.bool (penB n)) ∧ Below w.heap.size w w' := by
  go_enter Tryz.func138, Tryz.ntmps138
  go_wp2_with (first | (go_at_call 128; refine (within_any _ _ _ _).mono ?_; rintro e w' ⟨rfl, rfl⟩))
  all_goals go_ret
  all_goals exact ⟨ret_bool (by simp [penB]), (by repeat (first | exact Below.refl _ _ | refine Below.trans ?_ (Below.mono (by assumption) (by simp <;> omega)) | refine Below.alloc ?_ (by simp <;> omega) _))⟩

theorem g_text (n : Nd) (w : World) : Calls Tryz.prog 123 #[.agg n.arr] w fun e w' => e = .returned (.bool (textB n)) ∧ Below w.heap.size w w' := by
  go_enter Tryz.func123, Tryz.ntmps123
  go_wp2
  all_goals go_ret
  all_goals exact ⟨ret_bool (by simp [textB]), (by repeat (first | exact Below.refl _ _ | refine Below.trans ?_ (Below.mono (by assumption) (by simp <;> omega)) | refine Below.alloc ?_ (by simp <;> omega) _))⟩

theorem g_width (n : Nd) (w : World) : Calls Tryz.prog 124 #[.agg n.arr] w fun e w' => e = .returned (.bool (dims1 n.w)) ∧ Below w.heap.size w w' := by
  go_enter Tryz.func124, Tryz.ntmps124
  go_wp2_with (first | (go_at_call 125; refine (dimen_1 _ _ n.w _ (by go_simp)).mono ?_; rintro e w' ⟨rfl, rfl⟩))
  all_goals go_ret
  all_goals exact ⟨ret_bool (by simp [dims1]), (by repeat (first | exact Below.refl _ _ | refine Below.trans ?_ (Below.mono (by assumption) (by simp <;> omega)) | refine Below.alloc ?_ (by simp <;> omega) _))⟩

theorem g_ins (n : Nd) (w : World) : Calls Tryz.prog 140 #[.agg n.arr] w fun e w' => e = .returned (.bool (insB n)) ∧ Below w.heap.size w w' := by
  cases h0 : withinB n.sub 0 254
  · skip
    go_enter Tryz.func140, Tryz.ntmps140
    go_wp2_with (first | (go_at_call 128; refine (within_any _ _ _ _).mono ?_; rintro e w' ⟨rfl, rfl⟩) | (go_at_call 125; refine (dimen_2 _ _ n.h n.d _ (by go_simp) (by go_simp)).mono ?_; rintro e w' ⟨rfl, rfl⟩) | (go_at_call 30; refine (gcheck_any _ _).mono ?_; rintro e w1 ⟨rfl, hb1⟩; obtain ⟨hc1, hf1, ha1, ht1⟩ := bfacts hb1))
    all_goals go_ret
    all_goals exact ⟨ret_bool (by simp [insB, h0]), (by repeat (first | exact Below.refl _ _ | refine Below.trans ?_ (Below.mono (by assumption) (by simp <;> omega)) | refine Below.alloc ?_ (by simp <;> omega) _))⟩
  cases h1 : dims2 n.h n.d
  · skip
    go_enter Tryz.func140, Tryz.ntmps140
    go_wp2_with (first | (go_at_call 128; refine (within_any _ _ _ _).mono ?_; rintro e w' ⟨rfl, rfl⟩) | (go_at_call 125; refine (dimen_2 _ _ n.h n.d _ (by go_simp) (by go_simp)).mono ?_; rintro e w' ⟨rfl, rfl⟩) | (go_at_call 30; refine (gcheck_any _ _).mono ?_; rintro e w1 ⟨rfl, hb1⟩; obtain ⟨hc1, hf1, ha1, ht1⟩ := bfacts hb1))
    all_goals go_ret
    all_goals exact ⟨ret_bool (by simp [insB, h0, h1]), (by repeat (first | exact Below.refl _ _ | refine Below.trans ?_ (Below.mono (by assumption) (by simp <;> omega)) | refine Below.alloc ?_ (by simp <;> omega) _))⟩
  cases h2 : withinB n.pen (-2147483647) 2147483647
  · skip
    go_enter Tryz.func140, Tryz.ntmps140
    go_wp2_with (first | (go_at_call 128; refine (within_any _ _ _ _).mono ?_; rintro e w' ⟨rfl, rfl⟩) | (go_at_call 125; refine (dimen_2 _ _ n.h n.d _ (by go_simp) (by go_simp)).mono ?_; rintro e w' ⟨rfl, rfl⟩) | (go_at_call 30; refine (gcheck_any _ _).mono ?_; rintro e w1 ⟨rfl, hb1⟩; obtain ⟨hc1, hf1, ha1, ht1⟩ := bfacts hb1))
    all_goals go_ret
    all_goals exact ⟨ret_bool (by simp [insB, h0, h1, h2]), (by repeat (first | exact Below.refl _ _ | refine Below.trans ?_ (Below.mono (by assumption) (by simp <;> omega)) | refine Below.alloc ?_ (by simp <;> omega) _))⟩
  cases h3 : n.glue.good
  · skip
    go_enter Tryz.func140, Tryz.ntmps140
    go_wp2_with (first | (go_at_call 128; refine (within_any _ _ _ _).mono ?_; rintro e w' ⟨rfl, rfl⟩) | (go_at_call 125; refine (dimen_2 _ _ n.h n.d _ (by go_simp) (by go_simp)).mono ?_; rintro e w' ⟨rfl, rfl⟩) | (go_at_call 30; refine (gcheck_any _ _).mono ?_; rintro e w1 ⟨rfl, hb1⟩; obtain ⟨hc1, hf1, ha1, ht1⟩ := bfacts hb1))
    all_goals go_ret
    all_goals exact ⟨ret_bool (by simp [insB, h0, h1, h2, h3]), (by repeat (first | exact Below.refl _ _ | refine Below.trans ?_ (Below.mono (by assumption) (by simp <;> omega)) | refine Below.alloc ?_ (by simp <;> omega) _))⟩
  go_enter Tryz.func140, Tryz.ntmps140
  go_wp2_with (first | (go_at_call 128; refine (within_any _ _ _ _).mono ?_; rintro e w' ⟨rfl, rfl⟩) | (go_at_call 125; refine (dimen_2 _ _ n.h n.d _ (by go_simp) (by go_simp)).mono ?_; rintro e w' ⟨rfl, rfl⟩) | (go_at_call 30; refine (gcheck_any _ _).mono ?_; rintro e w1 ⟨rfl, hb1⟩; obtain ⟨hc1, hf1, ha1, ht1⟩ := bfacts hb1))
  all_goals go_ret
  all_goals exact ⟨ret_bool (by simp [insB, h0, h1, h2, h3]), (by repeat (first | exact Below.refl _ _ | refine Below.trans ?_ (Below.mono (by assumption) (by simp <;> omega)) | refine Below.alloc ?_ (by simp <;> omega) _))⟩

set_option maxHeartbeats 4000000 in
theorem g_box (n : Nd) (w : World) : Calls Tryz.prog 131 #[.agg n.arr] w fun e w' => e = .returned (.bool (boxB n)) ∧ Below w.heap.size w w' := by
  cases h0 : (dims4 n.w n.h n.d n.shift)
  · skip
    go_enter Tryz.func131, Tryz.ntmps131
    go_wp2_with (first | (go_at_call 128; refine (within_any _ _ _ _).mono ?_; rintro e w' ⟨rfl, rfl⟩) | (go_at_call 125; refine (dimen_4 _ _ n.w n.h n.d n.shift _ (by go_simp) (by go_simp) (by go_simp) (by go_simp)).mono ?_; rintro e w' ⟨rfl, rfl⟩))
    all_goals go_ret
    all_goals exact ⟨ret_bool (by simp [boxB, h0]), (by repeat (first | exact Below.refl _ _ | refine Below.trans ?_ (Below.mono (by assumption) (by simp <;> omega)) | refine Below.alloc ?_ (by simp <;> omega) _))⟩
  · skip
    cases h1 : (n.sign == 0)
    · skip
      cases h2 : (withinB n.sign 1 2)
      · skip
        go_enter Tryz.func131, Tryz.ntmps131
        go_wp2_with (first | (go_at_call 128; refine (within_any _ _ _ _).mono ?_; rintro e w' ⟨rfl, rfl⟩) | (go_at_call 125; refine (dimen_4 _ _ n.w n.h n.d n.shift _ (by go_simp) (by go_simp) (by go_simp) (by go_simp)).mono ?_; rintro e w' ⟨rfl, rfl⟩))
        all_goals go_ret
        all_goals exact ⟨ret_bool (by simp [boxB, h0, h1, h2]), (by repeat (first | exact Below.refl _ _ | refine Below.trans ?_ (Below.mono (by assumption) (by simp <;> omega)) | refine Below.alloc ?_ (by simp <;> omega) _))⟩
      · skip
        cases h3 : (withinB n.order 0 3)
        · skip
          go_enter Tryz.func131, Tryz.ntmps131
          go_wp2_with (first | (go_at_call 128; refine (within_any _ _ _ _).mono ?_; rintro e w' ⟨rfl, rfl⟩) | (go_at_call 125; refine (dimen_4 _ _ n.w n.h n.d n.shift _ (by go_simp) (by go_simp) (by go_simp) (by go_simp)).mono ?_; rintro e w' ⟨rfl, rfl⟩))
          all_goals go_ret
          all_goals exact ⟨ret_bool (by simp [boxB, h0, h1, h2, h3]), (by repeat (first | exact Below.refl _ _ | refine Below.trans ?_ (Below.mono (by assumption) (by simp <;> omega)) | refine Below.alloc ?_ (by simp <;> omega) _))⟩
        · skip
          cases h4 : (withinB n.num 1 1152921504606846976)
          · skip
            go_enter Tryz.func131, Tryz.ntmps131
            go_wp2_with (first | (go_at_call 128; refine (within_any _ _ _ _).mono ?_; rintro e w' ⟨rfl, rfl⟩) | (go_at_call 125; refine (dimen_4 _ _ n.w n.h n.d n.shift _ (by go_simp) (by go_simp) (by go_simp) (by go_simp)).mono ?_; rintro e w' ⟨rfl, rfl⟩))
            all_goals go_ret
            all_goals exact ⟨ret_bool (by simp [boxB, h0, h1, h2, h3, h4]), (by repeat (first | exact Below.refl _ _ | refine Below.trans ?_ (Below.mono (by assumption) (by simp <;> omega)) | refine Below.alloc ?_ (by simp <;> omega) _))⟩
          · skip
            cases h5 : (withinB n.den 1 1152921504606846976)
            · skip
              go_enter Tryz.func131, Tryz.ntmps131
              go_wp2_with (first | (go_at_call 128; refine (within_any _ _ _ _).mono ?_; rintro e w' ⟨rfl, rfl⟩) | (go_at_call 125; refine (dimen_4 _ _ n.w n.h n.d n.shift _ (by go_simp) (by go_simp) (by go_simp) (by go_simp)).mono ?_; rintro e w' ⟨rfl, rfl⟩))
              all_goals go_ret
              all_goals exact ⟨ret_bool (by simp [boxB, h0, h1, h2, h3, h4, h5]), (by repeat (first | exact Below.refl _ _ | refine Below.trans ?_ (Below.mono (by assumption) (by simp <;> omega)) | refine Below.alloc ?_ (by simp <;> omega) _))⟩
            · skip
              cases h6 : (n.sign == 2)
              · skip
                go_enter Tryz.func131, Tryz.ntmps131
                go_wp2_with (first | (go_at_call 128; refine (within_any _ _ _ _).mono ?_; rintro e w' ⟨rfl, rfl⟩) | (go_at_call 125; refine (dimen_4 _ _ n.w n.h n.d n.shift _ (by go_simp) (by go_simp) (by go_simp) (by go_simp)).mono ?_; rintro e w' ⟨rfl, rfl⟩))
                all_goals go_ret
                all_goals exact ⟨ret_bool (by simp [boxB, h0, h1, h2, h3, h4, h5, h6]), (by repeat (first | exact Below.refl _ _ | refine Below.trans ?_ (Below.mono (by assumption) (by simp <;> omega)) | refine Below.alloc ?_ (by simp <;> omega) _))⟩
              · skip
                cases h7 : (n.order == 0)
                · skip
                  go_enter Tryz.func131, Tryz.ntmps131
                  go_wp2_with (first | (go_at_call 128; refine (within_any _ _ _ _).mono ?_; rintro e w' ⟨rfl, rfl⟩) | (go_at_call 125; refine (dimen_4 _ _ n.w n.h n.d n.shift _ (by go_simp) (by go_simp) (by go_simp) (by go_simp)).mono ?_; rintro e w' ⟨rfl, rfl⟩))
                  all_goals go_ret
                  all_goals exact ⟨ret_bool (by simp [boxB, h0, h1, h2, h3, h4, h5, h6, h7]), (by repeat (first | exact Below.refl _ _ | refine Below.trans ?_ (Below.mono (by assumption) (by simp <;> omega)) | refine Below.alloc ?_ (by simp <;> omega) _))⟩
                · skip
                  cases h8 : (decide (n.den < n.num))
                  · skip
                    go_enter Tryz.func131, Tryz.ntmps131
                    go_wp2_with (first | (go_at_call 128; refine (within_any _ _ _ _).mono ?_; rintro e w' ⟨rfl, rfl⟩) | (go_at_call 125; refine (dimen_4 _ _ n.w n.h n.d n.shift _ (by go_simp) (by go_simp) (by go_simp) (by go_simp)).mono ?_; rintro e w' ⟨rfl, rfl⟩))
                    all_goals go_ret
                    all_goals exact ⟨ret_bool (by simp [boxB, h0, h1, h2, h3, h4, h5, h6, h7, h8]), (by repeat (first | exact Below.refl _ _ | refine Below.trans ?_ (Below.mono (by assumption) (by simp <;> omega)) | refine Below.alloc ?_ (by simp <;> omega) _))⟩
                  · skip
                    go_enter Tryz.func131, Tryz.ntmps131
                    go_wp2_with (first | (go_at_call 128; refine (within_any _ _ _ _).mono ?_; rintro e w' ⟨rfl, rfl⟩) | (go_at_call 125; refine (dimen_4 _ _ n.w n.h n.d n.shift _ (by go_simp) (by go_simp) (by go_simp) (by go_simp)).mono ?_; rintro e w' ⟨rfl, rfl⟩))
                    all_goals go_ret
                    all_goals exact ⟨ret_bool (by simp [boxB, h0, h1, h2, h3, h4, h5, h6, h7, h8]), (by repeat (first | exact Below.refl _ _ | refine Below.trans ?_ (Below.mono (by assumption) (by simp <;> omega)) | refine Below.alloc ?_ (by simp <;> omega) _))⟩
    · skip
      cases h9 : (n.order == 0)
      · skip
        go_enter Tryz.func131, Tryz.ntmps131
        go_wp2_with (first | (go_at_call 128; refine (within_any _ _ _ _).mono ?_; rintro e w' ⟨rfl, rfl⟩) | (go_at_call 125; refine (dimen_4 _ _ n.w n.h n.d n.shift _ (by go_simp) (by go_simp) (by go_simp) (by go_simp)).mono ?_; rintro e w' ⟨rfl, rfl⟩))
        all_goals go_ret
        all_goals exact ⟨ret_bool (by simp [boxB, h0, h1, h9]), (by repeat (first | exact Below.refl _ _ | refine Below.trans ?_ (Below.mono (by assumption) (by simp <;> omega)) | refine Below.alloc ?_ (by simp <;> omega) _))⟩
      · skip
        cases h10 : (n.num == 0)
        · skip
          go_enter Tryz.func131, Tryz.ntmps131
          go_wp2_with (first | (go_at_call 128; refine (within_any _ _ _ _).mono ?_; rintro e w' ⟨rfl, rfl⟩) | (go_at_call 125; refine (dimen_4 _ _ n.w n.h n.d n.shift _ (by go_simp) (by go_simp) (by go_simp) (by go_simp)).mono ?_; rintro e w' ⟨rfl, rfl⟩))
          all_goals go_ret
          all_goals exact ⟨ret_bool (by simp [boxB, h0, h1, h9, h10]), (by repeat (first | exact Below.refl _ _ | refine Below.trans ?_ (Below.mono (by assumption) (by simp <;> omega)) | refine Below.alloc ?_ (by simp <;> omega) _))⟩
        · skip
          cases h11 : (n.den == 0)
          · skip
            go_enter Tryz.func131, Tryz.ntmps131
            go_wp2_with (first | (go_at_call 128; refine (within_any _ _ _ _).mono ?_; rintro e w' ⟨rfl, rfl⟩) | (go_at_call 125; refine (dimen_4 _ _ n.w n.h n.d n.shift _ (by go_simp) (by go_simp) (by go_simp) (by go_simp)).mono ?_; rintro e w' ⟨rfl, rfl⟩))
            all_goals go_ret
            all_goals exact ⟨ret_bool (by simp [boxB, h0, h1, h9, h10, h11]), (by repeat (first | exact Below.refl _ _ | refine Below.trans ?_ (Below.mono (by assumption) (by simp <;> omega)) | refine Below.alloc ?_ (by simp <;> omega) _))⟩
          · skip
            go_enter Tryz.func131, Tryz.ntmps131
            go_wp2_with (first | (go_at_call 128; refine (within_any _ _ _ _).mono ?_; rintro e w' ⟨rfl, rfl⟩) | (go_at_call 125; refine (dimen_4 _ _ n.w n.h n.d n.shift _ (by go_simp) (by go_simp) (by go_simp) (by go_simp)).mono ?_; rintro e w' ⟨rfl, rfl⟩))
            all_goals go_ret
            all_goals exact ⟨ret_bool (by simp [boxB, h0, h1, h9, h10, h11]), (by repeat (first | exact Below.refl _ _ | refine Below.trans ?_ (Below.mono (by assumption) (by simp <;> omega)) | refine Below.alloc ?_ (by simp <;> omega) _))⟩

theorem bits_0_1 : bits .and .i64 0 1 = 0 := by decide
theorem bits_0_2 : bits .and .i64 0 2 = 0 := by decide
theorem bits_1_1 : bits .and .i64 1 1 = 1 := by decide
theorem bits_1_2 : bits .and .i64 1 2 = 0 := by decide
theorem bits_2_1 : bits .and .i64 2 1 = 0 := by decide
theorem bits_2_2 : bits .and .i64 2 2 = 2 := by decide
theorem bits_3_1 : bits .and .i64 3 1 = 1 := by decide
theorem bits_3_2 : bits .and .i64 3 2 = 2 := by decide
theorem rule_a (n : Nd) (w : World) (h0 : withinB n.sub 0 3 = false) : Calls Tryz.prog 129 #[.agg n.arr] w fun e w' => e = .returned (.bool (ruleB n)) ∧ Below w.heap.size w w' := by
  go_enter Tryz.func129, Tryz.ntmps129
  go_wp2_with (first | (go_at_call 128; refine (within_any _ _ _ _).mono ?_; rintro e w' ⟨rfl, rfl⟩) | (go_at_call 125; refine (dimen_3 _ _ n.w n.h n.d _ (by go_simp) (by go_simp) (by go_simp)).mono ?_; rintro e w' ⟨rfl, rfl⟩))
  all_goals go_ret
  all_goals exact ⟨ret_bool (by simp [ruleB, h0]), (by repeat (first | exact Below.refl _ _ | refine Below.trans ?_ (Below.mono (by assumption) (by simp <;> omega)) | refine Below.alloc ?_ (by simp <;> omega) _))⟩
theorem rule_b (n : Nd) (w : World) (h0 : withinB n.sub 0 3 = true) (h1 : dims3 n.w n.h n.d = false) : Calls Tryz.prog 129 #[.agg n.arr] w fun e w' => e = .returned (.bool (ruleB n)) ∧ Below w.heap.size w w' := by
  go_enter Tryz.func129, Tryz.ntmps129
  go_wp2_with (first | (go_at_call 128; refine (within_any _ _ _ _).mono ?_; rintro e w' ⟨rfl, rfl⟩) | (go_at_call 125; refine (dimen_3 _ _ n.w n.h n.d _ (by go_simp) (by go_simp) (by go_simp)).mono ?_; rintro e w' ⟨rfl, rfl⟩))
  all_goals go_ret
  all_goals exact ⟨ret_bool (by simp [ruleB, h0, h1]), (by repeat (first | exact Below.refl _ _ | refine Below.trans ?_ (Below.mono (by assumption) (by simp <;> omega)) | refine Below.alloc ?_ (by simp <;> omega) _))⟩
theorem rule_000 (n : Nd) (w : World) (_h0 : withinB n.sub 0 3 = true) (h1 : dims3 n.w n.h n.d = true) (hk : n.sub = 0)  : Calls Tryz.prog 129 #[.agg n.arr] w fun e w' => e = .returned (.bool (ruleB n)) ∧ Below w.heap.size w w' := by
  go_enter Tryz.func129, Tryz.ntmps129
  go_wp2_with (first | (go_at_call 128; refine (within_any _ _ _ _).mono ?_; rintro e w' ⟨rfl, rfl⟩) | (go_at_call 125; refine (dimen_3 _ _ n.w n.h n.d _ (by go_simp) (by go_simp) (by go_simp)).mono ?_; rintro e w' ⟨rfl, rfl⟩))
  all_goals go_ret
  all_goals exact ⟨ret_bool (by simp [ruleB, h1, hk, withinB, bits_0_1, bits_0_2, bits_1_1, bits_1_2, bits_2_1, bits_2_2, bits_3_1, bits_3_2]), (by repeat (first | exact Below.refl _ _ | refine Below.trans ?_ (Below.mono (by assumption) (by simp <;> omega)) | refine Below.alloc ?_ (by simp <;> omega) _))⟩
theorem rule_100 (n : Nd) (w : World) (_h0 : withinB n.sub 0 3 = true) (h1 : dims3 n.w n.h n.d = true) (hk : n.sub = 1) (h2 : (n.w == 0) = false) : Calls Tryz.prog 129 #[.agg n.arr] w fun e w' => e = .returned (.bool (ruleB n)) ∧ Below w.heap.size w w' := by
  go_enter Tryz.func129, Tryz.ntmps129
  go_wp2_with (first | (go_at_call 128; refine (within_any _ _ _ _).mono ?_; rintro e w' ⟨rfl, rfl⟩) | (go_at_call 125; refine (dimen_3 _ _ n.w n.h n.d _ (by go_simp) (by go_simp) (by go_simp)).mono ?_; rintro e w' ⟨rfl, rfl⟩))
  all_goals go_ret
  all_goals exact ⟨ret_bool (by simp [ruleB, h1, hk, h2, withinB, bits_0_1, bits_0_2, bits_1_1, bits_1_2, bits_2_1, bits_2_2, bits_3_1, bits_3_2]), (by repeat (first | exact Below.refl _ _ | refine Below.trans ?_ (Below.mono (by assumption) (by simp <;> omega)) | refine Below.alloc ?_ (by simp <;> omega) _))⟩
theorem rule_110 (n : Nd) (w : World) (_h0 : withinB n.sub 0 3 = true) (h1 : dims3 n.w n.h n.d = true) (hk : n.sub = 1) (h2 : (n.w == 0) = true) : Calls Tryz.prog 129 #[.agg n.arr] w fun e w' => e = .returned (.bool (ruleB n)) ∧ Below w.heap.size w w' := by
  go_enter Tryz.func129, Tryz.ntmps129
  go_wp2_with (first | (go_at_call 128; refine (within_any _ _ _ _).mono ?_; rintro e w' ⟨rfl, rfl⟩) | (go_at_call 125; refine (dimen_3 _ _ n.w n.h n.d _ (by go_simp) (by go_simp) (by go_simp)).mono ?_; rintro e w' ⟨rfl, rfl⟩))
  all_goals go_ret
  all_goals exact ⟨ret_bool (by simp [ruleB, h1, hk, h2, withinB, bits_0_1, bits_0_2, bits_1_1, bits_1_2, bits_2_1, bits_2_2, bits_3_1, bits_3_2]), (by repeat (first | exact Below.refl _ _ | refine Below.trans ?_ (Below.mono (by assumption) (by simp <;> omega)) | refine Below.alloc ?_ (by simp <;> omega) _))⟩
theorem rule_200 (n : Nd) (w : World) (_h0 : withinB n.sub 0 3 = true) (h1 : dims3 n.w n.h n.d = true) (hk : n.sub = 2) (h3 : (n.h == 0) = false) : Calls Tryz.prog 129 #[.agg n.arr] w fun e w' => e = .returned (.bool (ruleB n)) ∧ Below w.heap.size w w' := by
  go_enter Tryz.func129, Tryz.ntmps129
  go_wp2_with (first | (go_at_call 128; refine (within_any _ _ _ _).mono ?_; rintro e w' ⟨rfl, rfl⟩) | (go_at_call 125; refine (dimen_3 _ _ n.w n.h n.d _ (by go_simp) (by go_simp) (by go_simp)).mono ?_; rintro e w' ⟨rfl, rfl⟩))
  all_goals go_ret
  all_goals exact ⟨ret_bool (by simp [ruleB, h1, hk, h3, withinB, bits_0_1, bits_0_2, bits_1_1, bits_1_2, bits_2_1, bits_2_2, bits_3_1, bits_3_2]), (by repeat (first | exact Below.refl _ _ | refine Below.trans ?_ (Below.mono (by assumption) (by simp <;> omega)) | refine Below.alloc ?_ (by simp <;> omega) _))⟩
theorem rule_201 (n : Nd) (w : World) (_h0 : withinB n.sub 0 3 = true) (h1 : dims3 n.w n.h n.d = true) (hk : n.sub = 2) (h3 : (n.h == 0) = true) (h4 : (n.d == 0) = false) : Calls Tryz.prog 129 #[.agg n.arr] w fun e w' => e = .returned (.bool (ruleB n)) ∧ Below w.heap.size w w' := by
  go_enter Tryz.func129, Tryz.ntmps129
  go_wp2_with (first | (go_at_call 128; refine (within_any _ _ _ _).mono ?_; rintro e w' ⟨rfl, rfl⟩) | (go_at_call 125; refine (dimen_3 _ _ n.w n.h n.d _ (by go_simp) (by go_simp) (by go_simp)).mono ?_; rintro e w' ⟨rfl, rfl⟩))
  all_goals go_ret
  all_goals exact ⟨ret_bool (by simp [ruleB, h1, hk, h3, h4, withinB, bits_0_1, bits_0_2, bits_1_1, bits_1_2, bits_2_1, bits_2_2, bits_3_1, bits_3_2]), (by repeat (first | exact Below.refl _ _ | refine Below.trans ?_ (Below.mono (by assumption) (by simp <;> omega)) | refine Below.alloc ?_ (by simp <;> omega) _))⟩
theorem rule_202 (n : Nd) (w : World) (_h0 : withinB n.sub 0 3 = true) (h1 : dims3 n.w n.h n.d = true) (hk : n.sub = 2) (h3 : (n.h == 0) = true) (h4 : (n.d == 0) = true) : Calls Tryz.prog 129 #[.agg n.arr] w fun e w' => e = .returned (.bool (ruleB n)) ∧ Below w.heap.size w w' := by
  go_enter Tryz.func129, Tryz.ntmps129
  go_wp2_with (first | (go_at_call 128; refine (within_any _ _ _ _).mono ?_; rintro e w' ⟨rfl, rfl⟩) | (go_at_call 125; refine (dimen_3 _ _ n.w n.h n.d _ (by go_simp) (by go_simp) (by go_simp)).mono ?_; rintro e w' ⟨rfl, rfl⟩))
  all_goals go_ret
  all_goals exact ⟨ret_bool (by simp [ruleB, h1, hk, h3, h4, withinB, bits_0_1, bits_0_2, bits_1_1, bits_1_2, bits_2_1, bits_2_2, bits_3_1, bits_3_2]), (by repeat (first | exact Below.refl _ _ | refine Below.trans ?_ (Below.mono (by assumption) (by simp <;> omega)) | refine Below.alloc ?_ (by simp <;> omega) _))⟩
theorem rule_300 (n : Nd) (w : World) (_h0 : withinB n.sub 0 3 = true) (h1 : dims3 n.w n.h n.d = true) (hk : n.sub = 3) (h2 : (n.w == 0) = false) : Calls Tryz.prog 129 #[.agg n.arr] w fun e w' => e = .returned (.bool (ruleB n)) ∧ Below w.heap.size w w' := by
  go_enter Tryz.func129, Tryz.ntmps129
  go_wp2_with (first | (go_at_call 128; refine (within_any _ _ _ _).mono ?_; rintro e w' ⟨rfl, rfl⟩) | (go_at_call 125; refine (dimen_3 _ _ n.w n.h n.d _ (by go_simp) (by go_simp) (by go_simp)).mono ?_; rintro e w' ⟨rfl, rfl⟩))
  all_goals go_ret
  all_goals exact ⟨ret_bool (by simp [ruleB, h1, hk, h2, withinB, bits_0_1, bits_0_2, bits_1_1, bits_1_2, bits_2_1, bits_2_2, bits_3_1, bits_3_2]), (by repeat (first | exact Below.refl _ _ | refine Below.trans ?_ (Below.mono (by assumption) (by simp <;> omega)) | refine Below.alloc ?_ (by simp <;> omega) _))⟩
theorem rule_310 (n : Nd) (w : World) (_h0 : withinB n.sub 0 3 = true) (h1 : dims3 n.w n.h n.d = true) (hk : n.sub = 3) (h2 : (n.w == 0) = true)(h3 : (n.h == 0) = false) : Calls Tryz.prog 129 #[.agg n.arr] w fun e w' => e = .returned (.bool (ruleB n)) ∧ Below w.heap.size w w' := by
  go_enter Tryz.func129, Tryz.ntmps129
  go_wp2_with (first | (go_at_call 128; refine (within_any _ _ _ _).mono ?_; rintro e w' ⟨rfl, rfl⟩) | (go_at_call 125; refine (dimen_3 _ _ n.w n.h n.d _ (by go_simp) (by go_simp) (by go_simp)).mono ?_; rintro e w' ⟨rfl, rfl⟩))
  all_goals go_ret
  all_goals exact ⟨ret_bool (by simp [ruleB, h1, hk, h2, h3, withinB, bits_0_1, bits_0_2, bits_1_1, bits_1_2, bits_2_1, bits_2_2, bits_3_1, bits_3_2]), (by repeat (first | exact Below.refl _ _ | refine Below.trans ?_ (Below.mono (by assumption) (by simp <;> omega)) | refine Below.alloc ?_ (by simp <;> omega) _))⟩
theorem rule_311 (n : Nd) (w : World) (_h0 : withinB n.sub 0 3 = true) (h1 : dims3 n.w n.h n.d = true) (hk : n.sub = 3) (h2 : (n.w == 0) = true)(h3 : (n.h == 0) = true) (h4 : (n.d == 0) = false) : Calls Tryz.prog 129 #[.agg n.arr] w fun e w' => e = .returned (.bool (ruleB n)) ∧ Below w.heap.size w w' := by
  go_enter Tryz.func129, Tryz.ntmps129
  go_wp2_with (first | (go_at_call 128; refine (within_any _ _ _ _).mono ?_; rintro e w' ⟨rfl, rfl⟩) | (go_at_call 125; refine (dimen_3 _ _ n.w n.h n.d _ (by go_simp) (by go_simp) (by go_simp)).mono ?_; rintro e w' ⟨rfl, rfl⟩))
  all_goals go_ret
  all_goals exact ⟨ret_bool (by simp [ruleB, h1, hk, h2, h3, h4, withinB, bits_0_1, bits_0_2, bits_1_1, bits_1_2, bits_2_1, bits_2_2, bits_3_1, bits_3_2]), (by repeat (first | exact Below.refl _ _ | refine Below.trans ?_ (Below.mono (by assumption) (by simp <;> omega)) | refine Below.alloc ?_ (by simp <;> omega) _))⟩
theorem rule_312 (n : Nd) (w : World) (_h0 : withinB n.sub 0 3 = true) (h1 : dims3 n.w n.h n.d = true) (hk : n.sub = 3) (h2 : (n.w == 0) = true)(h3 : (n.h == 0) = true) (h4 : (n.d == 0) = true) : Calls Tryz.prog 129 #[.agg n.arr] w fun e w' => e = .returned (.bool (ruleB n)) ∧ Below w.heap.size w w' := by
  go_enter Tryz.func129, Tryz.ntmps129
  go_wp2_with (first | (go_at_call 128; refine (within_any _ _ _ _).mono ?_; rintro e w' ⟨rfl, rfl⟩) | (go_at_call 125; refine (dimen_3 _ _ n.w n.h n.d _ (by go_simp) (by go_simp) (by go_simp)).mono ?_; rintro e w' ⟨rfl, rfl⟩))
  all_goals go_ret
  all_goals exact ⟨ret_bool (by simp [ruleB, h1, hk, h2, h3, h4, withinB, bits_0_1, bits_0_2, bits_1_1, bits_1_2, bits_2_1, bits_2_2, bits_3_1, bits_3_2]), (by repeat (first | exact Below.refl _ _ | refine Below.trans ?_ (Below.mono (by assumption) (by simp <;> omega)) | refine Below.alloc ?_ (by simp <;> omega) _))⟩
theorem g_rule (n : Nd) (w : World) : Calls Tryz.prog 129 #[.agg n.arr] w fun e w' => e = .returned (.bool (ruleB n)) ∧ Below w.heap.size w w' := by
  cases h0 : withinB n.sub 0 3
  · exact rule_a n w h0
  cases h1 : dims3 n.w n.h n.d
  · exact rule_b n w h0 h1
  have hk : n.sub = 0 ∨ n.sub = 1 ∨ n.sub = 2 ∨ n.sub = 3 := by simp [withinB] at h0; omega
  cases h2 : (n.w == 0) <;> cases h3 : (n.h == 0) <;> cases h4 : (n.d == 0) <;> rcases hk with hk | hk | hk | hk
  all_goals first
    | exact rule_000 n w h0 h1 hk
    | exact rule_100 n w h0 h1 hk h2
    | exact rule_110 n w h0 h1 hk h2
    | exact rule_200 n w h0 h1 hk h3
    | exact rule_201 n w h0 h1 hk h3 h4
    | exact rule_202 n w h0 h1 hk h3 h4
    | exact rule_300 n w h0 h1 hk h2
    | exact rule_310 n w h0 h1 hk h2 h3
    | exact rule_311 n w h0 h1 hk h2 h3 h4
    | exact rule_312 n w h0 h1 hk h2 h3 h4

end Go.Proofs.YtomehdepjenilaaGreat
