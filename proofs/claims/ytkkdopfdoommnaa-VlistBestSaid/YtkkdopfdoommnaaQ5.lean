/-
  The document's side: lists of nodes: what opens, where an item ends, where the items begin.
-/
import Derived.Test.YtkkdopfdoommnaaV9
namespace Go.Proofs.Ytkkdopfdoommnaa
open Go.ChangeShapes Go.WideShapes Go.ChangeAt Go.RowKit
attribute [local go_sem ↓] Go.wp_at_zero Go.wp_at_succ

def solidK (k : Int) : Bool := k == 4 || k == 5 || k == 3
def fallsK (k : Int) : Bool := k == 7 || k == 8 || k == 9
set_option maxHeartbeats 1000000 in
theorem qsmall (n : Nd) (w : World) : Calls Try.prog 135 #[.agg n.arr] w fun e w' => e = .returned (.bool (smallK n.kind)) ∧ Below w.heap.size w w' := by
  cases h0 : (n.kind == 1)
  rotate_left
  · go_enter Try.func135, Try.ntmps135
    go_wp2_with fail
    go_ret
    exact ⟨ret_bool (by simp [smallK, h0]), (Below.refl _ _).alloc (Nat.le_refl _) _⟩
  cases h1 : (n.kind == 2)
  rotate_left
  · go_enter Try.func135, Try.ntmps135
    go_wp2_with fail
    go_ret
    exact ⟨ret_bool (by simp [smallK, h0, h1]), (Below.refl _ _).alloc (Nat.le_refl _) _⟩
  cases h2 : (n.kind == 8)
  rotate_left
  · go_enter Try.func135, Try.ntmps135
    go_wp2_with fail
    go_ret
    exact ⟨ret_bool (by simp [smallK, h0, h1, h2]), (Below.refl _ _).alloc (Nat.le_refl _) _⟩
  cases h3 : (n.kind == 3)
  rotate_left
  · go_enter Try.func135, Try.ntmps135
    go_wp2_with fail
    go_ret
    exact ⟨ret_bool (by simp [smallK, h0, h1, h2, h3]), (Below.refl _ _).alloc (Nat.le_refl _) _⟩
  cases h4 : (n.kind == 4)
  rotate_left
  · go_enter Try.func135, Try.ntmps135
    go_wp2_with fail
    go_ret
    exact ⟨ret_bool (by simp [smallK, h0, h1, h2, h3, h4]), (Below.refl _ _).alloc (Nat.le_refl _) _⟩
  cases h5 : (n.kind == 5)
  rotate_left
  · go_enter Try.func135, Try.ntmps135
    go_wp2_with fail
    go_ret
    exact ⟨ret_bool (by simp [smallK, h0, h1, h2, h3, h4, h5]), (Below.refl _ _).alloc (Nat.le_refl _) _⟩
  go_enter Try.func135, Try.ntmps135
  go_wp2_with fail
  go_ret
  exact ⟨ret_bool (by simp [smallK, h0, h1, h2, h3, h4, h5]), (Below.refl _ _).alloc (Nat.le_refl _) _⟩
set_option maxHeartbeats 1000000 in
theorem qopens (n : Nd) (w : World) : Calls Try.prog 136 #[.agg n.arr] w fun e w' => e = .returned (.bool (opensK n.kind)) ∧ Below w.heap.size w w' := by
  cases h0 : (n.kind == 4)
  rotate_left
  · go_enter Try.func136, Try.ntmps136
    go_wp2_with fail
    go_ret
    exact ⟨ret_bool (by simp [opensK, h0]), (Below.refl _ _).alloc (Nat.le_refl _) _⟩
  cases h1 : (n.kind == 5)
  rotate_left
  · go_enter Try.func136, Try.ntmps136
    go_wp2_with fail
    go_ret
    exact ⟨ret_bool (by simp [opensK, h0, h1]), (Below.refl _ _).alloc (Nat.le_refl _) _⟩
  cases h2 : (n.kind == 10)
  rotate_left
  · go_enter Try.func136, Try.ntmps136
    go_wp2_with fail
    go_ret
    exact ⟨ret_bool (by simp [opensK, h0, h1, h2]), (Below.refl _ _).alloc (Nat.le_refl _) _⟩
  cases h3 : (n.kind == 13)
  rotate_left
  · go_enter Try.func136, Try.ntmps136
    go_wp2_with fail
    go_ret
    exact ⟨ret_bool (by simp [opensK, h0, h1, h2, h3]), (Below.refl _ _).alloc (Nat.le_refl _) _⟩
  cases h4 : (n.kind == 17)
  rotate_left
  · go_enter Try.func136, Try.ntmps136
    go_wp2_with fail
    go_ret
    exact ⟨ret_bool (by simp [opensK, h0, h1, h2, h3, h4]), (Below.refl _ _).alloc (Nat.le_refl _) _⟩
  go_enter Try.func136, Try.ntmps136
  go_wp2_with fail
  go_ret
  exact ⟨ret_bool (by simp [opensK, h0, h1, h2, h3, h4]), (Below.refl _ _).alloc (Nat.le_refl _) _⟩
set_option maxHeartbeats 1000000 in
theorem qsolid (n : Nd) (w : World) : Calls Try.prog 88 #[.agg n.arr] w fun e w' => e = .returned (.bool (solidK n.kind)) ∧ Below w.heap.size w w' := by
  cases h0 : (n.kind == 4)
  rotate_left
  · go_enter Try.func88, Try.ntmps88
    go_wp2_with fail
    go_ret
    exact ⟨ret_bool (by simp [solidK, h0]), (Below.refl _ _).alloc (Nat.le_refl _) _⟩
  cases h1 : (n.kind == 5)
  rotate_left
  · go_enter Try.func88, Try.ntmps88
    go_wp2_with fail
    go_ret
    exact ⟨ret_bool (by simp [solidK, h0, h1]), (Below.refl _ _).alloc (Nat.le_refl _) _⟩
  cases h2 : (n.kind == 3)
  rotate_left
  · go_enter Try.func88, Try.ntmps88
    go_wp2_with fail
    go_ret
    exact ⟨ret_bool (by simp [solidK, h0, h1, h2]), (Below.refl _ _).alloc (Nat.le_refl _) _⟩
  go_enter Try.func88, Try.ntmps88
  go_wp2_with fail
  go_ret
  exact ⟨ret_bool (by simp [solidK, h0, h1, h2]), (Below.refl _ _).alloc (Nat.le_refl _) _⟩
set_option maxHeartbeats 1000000 in
theorem qfalls (n : Nd) (w : World) : Calls Try.prog 89 #[.agg n.arr] w fun e w' => e = .returned (.bool (fallsK n.kind)) ∧ Below w.heap.size w w' := by
  cases h0 : (n.kind == 7)
  rotate_left
  · go_enter Try.func89, Try.ntmps89
    go_wp2_with fail
    go_ret
    exact ⟨ret_bool (by simp [fallsK, h0]), (Below.refl _ _).alloc (Nat.le_refl _) _⟩
  cases h1 : (n.kind == 8)
  rotate_left
  · go_enter Try.func89, Try.ntmps89
    go_wp2_with fail
    go_ret
    exact ⟨ret_bool (by simp [fallsK, h0, h1]), (Below.refl _ _).alloc (Nat.le_refl _) _⟩
  cases h2 : (n.kind == 9)
  rotate_left
  · go_enter Try.func89, Try.ntmps89
    go_wp2_with fail
    go_ret
    exact ⟨ret_bool (by simp [fallsK, h0, h1, h2]), (Below.refl _ _).alloc (Nat.le_refl _) _⟩
  go_enter Try.func89, Try.ntmps89
  go_wp2_with fail
  go_ret
  exact ⟨ret_bool (by simp [fallsK, h0, h1, h2]), (Below.refl _ _).alloc (Nat.le_refl _) _⟩
set_option maxHeartbeats 1000000 in
theorem vsolid (n : Nd) (w : World) : Calls Try.prog 62 #[.agg n.arr] w fun e w' => e = .returned (.bool (solidK n.kind)) ∧ Below w.heap.size w w' := by
  cases h0 : (n.kind == 4)
  rotate_left
  · go_enter Try.func62, Try.ntmps62
    go_wp2_with fail
    go_ret
    exact ⟨ret_bool (by simp [solidK, h0]), (Below.refl _ _).alloc (Nat.le_refl _) _⟩
  cases h1 : (n.kind == 5)
  rotate_left
  · go_enter Try.func62, Try.ntmps62
    go_wp2_with fail
    go_ret
    exact ⟨ret_bool (by simp [solidK, h0, h1]), (Below.refl _ _).alloc (Nat.le_refl _) _⟩
  cases h2 : (n.kind == 3)
  rotate_left
  · go_enter Try.func62, Try.ntmps62
    go_wp2_with fail
    go_ret
    exact ⟨ret_bool (by simp [solidK, h0, h1, h2]), (Below.refl _ _).alloc (Nat.le_refl _) _⟩
  go_enter Try.func62, Try.ntmps62
  go_wp2_with fail
  go_ret
  exact ⟨ret_bool (by simp [solidK, h0, h1, h2]), (Below.refl _ _).alloc (Nat.le_refl _) _⟩
set_option maxHeartbeats 1000000 in
theorem vfalls (n : Nd) (w : World) : Calls Try.prog 63 #[.agg n.arr] w fun e w' => e = .returned (.bool (fallsK n.kind)) ∧ Below w.heap.size w w' := by
  cases h0 : (n.kind == 7)
  rotate_left
  · go_enter Try.func63, Try.ntmps63
    go_wp2_with fail
    go_ret
    exact ⟨ret_bool (by simp [fallsK, h0]), (Below.refl _ _).alloc (Nat.le_refl _) _⟩
  cases h1 : (n.kind == 8)
  rotate_left
  · go_enter Try.func63, Try.ntmps63
    go_wp2_with fail
    go_ret
    exact ⟨ret_bool (by simp [fallsK, h0, h1]), (Below.refl _ _).alloc (Nat.le_refl _) _⟩
  cases h2 : (n.kind == 9)
  rotate_left
  · go_enter Try.func63, Try.ntmps63
    go_wp2_with fail
    go_ret
    exact ⟨ret_bool (by simp [fallsK, h0, h1, h2]), (Below.refl _ _).alloc (Nat.le_refl _) _⟩
  go_enter Try.func63, Try.ntmps63
  go_wp2_with fail
  go_ret
  exact ⟨ret_bool (by simp [fallsK, h0, h1, h2]), (Below.refl _ _).alloc (Nat.le_refl _) _⟩

set_option maxRecDepth 100000 in
set_option maxHeartbeats 4000000 in
theorem qends (p0 : Option Addr) (b off cap : Nat) (L : List Nd) (at_ m : Nat) (w : World) (h : NIn w p0 b off cap L) (hm : behC (L.drop at_) 0 = some m) (hk6 : (nth L at_).kind ≠ 6) :
    Calls Try.prog 90 #[.slice p0 L.length cap, .int .i64 at_] w fun e w' => e = .returned (.int .i64 ((at_ + m : Nat) : Int)) ∧ Below w.heap.size w w' := by
  have hlt : at_ < L.length := by have := behC_pos _ _ _ hm; simp at this; omega
  have H := Lib.hid h
  have hl := h.len
  obtain rfl := h.at_ hlt
  have hj1 : (0 : Int) ≤ (at_ : Int) := by omega
  have hj2 : (at_ : Int) < (L.length : Int) := by omega
  have xa := h.nth hlt
  have HM := Lib.hid hm
  have HB := behC_at hlt hm
  rw [← nth_get hlt] at HB
  have HB := Lib.hid HB
  obtain ⟨x, hx⟩ : ∃ x, nth L at_ = x := ⟨_, rfl⟩
  rw [hx] at xa HB hk6
  have Hx := Lib.hid hx
  have Hlt := Lib.hid hlt
  have HO := Lib.hid (qopens x w)
  clear h hm hx hlt
  cases ho : opensK x.kind
  · have hm1 : m = 1 := by
      have := HB.out
      unfold behN at this
      rw [ho, if_neg (by simp), if_neg hk6] at this
      rcases this with ⟨_, h⟩ | ⟨h, _⟩
      · exact h
      · exact absurd rfl h
    subst hm1
    rw [ho] at HO
    clear ho hk6
    go_enter Try.func90, Try.ntmps90
    go_wp2_with fail
    refine HO.out.mono ?_
    clear HO
    rintro e w1 ⟨rfl, hb1⟩
    go_wp2_with fail
    go_ret
    exact ⟨ret_int (by omega), hb1⟩
  · have Ho := Lib.hid ho
    rw [ho] at HO
    clear ho hk6
    go_enter Try.func90, Try.ntmps90
    go_wp2_with fail
    refine HO.out.mono ?_
    clear HO xa HB
    rintro e w1 ⟨rfl, hb1⟩
    go_wp2_with fail
    go_loopg [5, 6] (L.length + 1 - at_) (fun g t5 t6 wr => ∃ (j k : Nat) (n : Int), g = L.length + 1 - j ∧ t5 = .int .i64 n ∧ t6 = .int .i64 j ∧ behC (L.drop j) n = some k ∧ j + k = at_ + m ∧ (0 ≤ n ∧ n ≤ j) ∧ (n = 0 → opensK (nth L j).kind = true) ∧ Below w.heap.size w wr)
    case atStart => exact ⟨at_, m, 0, rfl, rfl, rfl, HM.out, rfl, by omega, fun _ => by rw [Hx.out]; exact Ho.out, hb1⟩
    case round =>
      clear HM Hx Ho hb1
      obtain ⟨j, k, n, rfl, rfl, rfl, hk, hjk, hn, hop, hbl⟩ := hrel
      have hlt : j < L.length := by have := behC_pos _ _ _ hk; simp at this; omega
      have hN := H.out.below hbl
      have x1 := hN.nth hlt
      have hj1 : (0 : Int) ≤ (j : Int) := by omega
      have hj2 : (j : Int) < (L.length : Int) := by omega
      obtain ⟨hn1, hn2⟩ := hn
      have HB := behC_at hlt hk
      rw [← nth_get hlt] at HB
      obtain ⟨x, hx⟩ : ∃ x, nth L j = x := ⟨_, rfl⟩
      rw [hx] at x1 HB hop
      have HB := Lib.hid HB
      have Hjk := Lib.hid hjk
      have Hl := Lib.hid hlt
      have Hop := Lib.hid hop
      have Hbl := Lib.hid hbl
      have hblt := hN.lt hlt
      have HO := Lib.hid (qopens x wr)
      clear hk hjk hlt hx hop hbl hN
      cases ho : opensK x.kind
      · rw [ho] at HO
        have hn3 : 1 ≤ n := by
          have := Hop.out
          rw [ho] at this
          rcases Int.lt_or_le n 1 with h | h
          · exact absurd (this (by omega)) (by simp)
          · exact h
        cases h6 : (x.kind == 6)
        · have hb : behN x.kind n = n := by unfold behN; rw [ho, if_neg (by simp), if_neg (by simpa using h6)]
          have HB := HB.out
          rw [hb] at HB
          rcases HB with ⟨hz, hk1⟩ | ⟨hz, k1, hk1, hk2⟩
          · omega
          · have Hk2 := Lib.hid hk2
            clear hk2 hz hb ho
            go_wp2_with fail
            refine HO.out.mono ?_
            clear HO
            rintro e w2 ⟨rfl, hb2⟩
            have y0 : w2.cell? ⟨b, off + j * 19, none⟩ = some (.int .i64 x.kind) := by have := agg_cell (((bfacts hb2).2.2.1 b (off + j * 19) 19 hblt).trans x1) 0 (.int .i64 x.kind) rfl; simpa using this
            go_wp2_with fail
            go_roundg (L.length + 1 - (j + 1))
            case measure => have := Hl.out; omega
            case rel => exact ⟨j + 1, k1, n, rfl, rfl, by go_num, Hk2.out, by have := Hjk.out; omega, by omega, fun h => by omega, Hbl.out.trans (hb2.mono Hbl.out.size)⟩
        · have hb : behN x.kind n = n - 1 := by unfold behN; rw [ho, if_neg (by simp), if_pos (by simpa using h6)]
          have HB := HB.out
          rw [hb] at HB
          rcases HB with ⟨hz, hk1⟩ | ⟨hz, k1, hk1, hk2⟩
          · have hz' : ((n - 1 : Int) == 0) = true := by simpa using hz
            clear hz hb ho
            go_wp2_with fail
            refine HO.out.mono ?_
            clear HO
            rintro e w2 ⟨rfl, hb2⟩
            have y0 : w2.cell? ⟨b, off + j * 19, none⟩ = some (.int .i64 x.kind) := by have := agg_cell (((bfacts hb2).2.2.1 b (off + j * 19) 19 hblt).trans x1) 0 (.int .i64 x.kind) rfl; simpa using this
            go_wp2_with fail
            go_ret
            exact ⟨ret_int (by have := Hjk.out; omega), Hbl.out.trans (hb2.mono Hbl.out.size)⟩
          · have Hk2 := Lib.hid hk2
            have hz' : ((n - 1 : Int) == 0) = false := by simpa using hz
            have Hz := Lib.hid hz
            clear hk2 hz hb ho
            go_wp2_with fail
            refine HO.out.mono ?_
            clear HO
            rintro e w2 ⟨rfl, hb2⟩
            have y0 : w2.cell? ⟨b, off + j * 19, none⟩ = some (.int .i64 x.kind) := by have := agg_cell (((bfacts hb2).2.2.1 b (off + j * 19) 19 hblt).trans x1) 0 (.int .i64 x.kind) rfl; simpa using this
            go_wp2_with fail
            go_roundg (L.length + 1 - (j + 1))
            case measure => have := Hl.out; omega
            case rel => exact ⟨j + 1, k1, n - 1, rfl, rfl, by go_num, Hk2.out, by have := Hjk.out; omega, by omega, fun h => absurd h Hz.out, Hbl.out.trans (hb2.mono Hbl.out.size)⟩
      · rw [ho] at HO
        have hb : behN x.kind n = n + 1 := by unfold behN; rw [ho, if_pos rfl]
        have h6 : (x.kind == 6) = false := by
          cases h : (x.kind == 6)
          · rfl
          · have e : x.kind = 6 := by simpa using h
            rw [e] at ho; cases ho
        have HB := HB.out
        rw [hb] at HB
        rcases HB with ⟨hz, hk1⟩ | ⟨hz, k1, hk1, hk2⟩
        · omega
        · have Hk2 := Lib.hid hk2
          clear hk2 hz hb ho
          go_wp2_with fail
          refine HO.out.mono ?_
          clear HO
          rintro e w2 ⟨rfl, hb2⟩
          have y0 : w2.cell? ⟨b, off + j * 19, none⟩ = some (.int .i64 x.kind) := by have := agg_cell (((bfacts hb2).2.2.1 b (off + j * 19) 19 hblt).trans x1) 0 (.int .i64 x.kind) rfl; simpa using this
          go_wp2_with fail
          go_roundg (L.length + 1 - (j + 1))
          case measure => have := Hl.out; omega
          case rel => exact ⟨j + 1, k1, n + 1, rfl, rfl, by go_num, Hk2.out, by have := Hjk.out; omega, by omega, fun h => by omega, Hbl.out.trans (hb2.mono Hbl.out.size)⟩
end Go.Proofs.Ytkkdopfdoommnaa
