/-
  Layer 20: styles; the law's short trial 'live'.
-/
import Derived.Test.YtkkdopfdoommnaaM10
import Derived.Great.BuildSlice
namespace Go.Proofs.Ytkkdopfdoommnaa
open Go.ChangeShapes Go.WideShapes Go.ChangeAt Go.RowKit
attribute [local go_sem ↓] Go.wp_at_zero Go.wp_at_succ

def styleI (s p : Int) : Int := if s < 0 ∨ 7 < s then 0 else if p = 1 then s / 4 * 2 + 4 + s % 2 else if p = 2 then s / 4 * 2 + 5 else if p = 3 then s + 2 - s / 6 * 2 else if p = 4 then s / 2 * 2 + 3 - s / 6 * 2 else if p = 5 then s / 2 * 2 + 1 else 0
set_option maxHeartbeats 1000000 in
theorem style_any (s p : Int) (w : World) : Calls Try.prog 16 #[.int .i64 s, .int .i64 p] w fun e w' => e = .returned (.int .i64 (styleI s p)) ∧ w = w' := by
  by_cases h1 : s < 0
  · go_enter Try.func16, Try.ntmps16
    go_wp2
    go_ret
    exact ⟨ret_int (by simp [styleI, h1]), rfl⟩
  by_cases h2 : 7 < s
  · go_enter Try.func16, Try.ntmps16
    go_wp2
    go_ret
    exact ⟨ret_int (by simp [styleI, h2]), rfl⟩
  have h3 : 0 ≤ s := by omega
  have h4 : s ≤ 7 := by omega
  have H12 := Lib.hid (show ¬ (s < 0 ∨ 7 < s) by omega)
  clear h1 h2
  go_enter Try.func16, Try.ntmps16
  go_wp2
  all_goals go_ret
  all_goals refine ⟨ret_int ?_, rfl⟩
  all_goals rw [styleI, if_neg H12.out]
  all_goals simp_all

/-- ints in memory, handed over as a slice -/
structure IntsIn (w : World) (p : Option Addr) (b cap : Nat) (l : List Int) : Prop where
  hp : l ≠ [] → p = some ⟨b, 0, none⟩
  at_ : ∀ j, (h : j < l.length) → w.cell? ⟨b, j, none⟩ = some (.int .i64 l[j])
  cap' : l.length ≤ cap
theorem IntsIn.drewN {w : World} {p : Option Addr} {b cap : Nat} {l : List Int} (h : IntsIn w p b cap l) (n : Nat) : IntsIn (w.drewN n) p b cap l := ⟨h.hp, h.at_, h.cap'⟩
theorem ints_of_row {w : World} {B : Nat} {v : Value} {l : List Int} (h : w.ownsRow B 3 1 v l.length (ints l)) : ∃ p b cap, v = .slice p l.length cap ∧ IntsIn w p b cap l := by
  obtain ⟨hl, ⟨rfl, h0⟩ | ⟨g, cap, cur, rfl, hb, hg, hn, hm, hs, ht⟩⟩ := h
  · exact ⟨none, 0, 0, by rw [h0], fun hne => by simp at h0; exact absurd h0 hne, fun j hj => by omega, by omega⟩
  · refine ⟨_, g, cap, rfl, fun _ => rfl, fun j hj => ?_, hn⟩
    rw [cell?_blk hg]
    have : (cur.toList.take (l.length * 1))[j]? = (ints l)[j]? := by rw [ht]
    rw [List.getElem?_take, if_pos (by omega)] at this
    rw [← Array.getElem?_toList, this]
    simp [ints, hj]
set_option maxHeartbeats 2000000 in
theorem sameInts_any (p q : Option Addr) (b1 c1 b2 c2 : Nat) (l1 l2 : List Int) (w : World) (h1 : IntsIn w p b1 c1 l1) (h2 : IntsIn w q b2 c2 l2) (hm1 : l1.length ≤ 9223372036854775806) (_hm2 : l2.length ≤ 9223372036854775806) :
    Calls Try.prog 27 #[.slice p l1.length c1, .slice q l2.length c2] w fun e w' => e = .returned (.bool (decide (l1 = l2))) ∧ ∃ n, w' = w.drewN n := by
  by_cases hlen : l1.length = l2.length
  · have hL := Lib.hid hlen
    have H1 := Lib.hid h1
    have H2 := Lib.hid h2
    have hll : ((l1.length : Int) != (l2.length : Int)) = false := by simp [hlen]
    have k1 := h1.cap'
    have k2 := h2.cap'
    clear hlen h1 h2
    go_enter Try.func27, Try.ntmps27
    go_wp2_with fail
    go_loopg [5] (l1.length + 1) (fun g t wr => ∃ k m : Nat, g = l1.length + 1 - k ∧ k ≤ l1.length ∧ t = .int .i64 k ∧ wr = w.drewN m ∧ l1.take k = l2.take k)
    case atStart => exact ⟨0, 0, rfl, Nat.zero_le _, rfl, rfl, rfl⟩
    case round =>
      obtain ⟨k, m, rfl, hk, rfl, rfl, heq⟩ := hrel
      have Heq := Lib.hid heq
      clear heq
      have hk1 : (0 : Int) ≤ (k : Int) := by omega
      by_cases hlt : k < l1.length
      · have hk2 : (k : Int) < (l1.length : Int) := by omega
        have hk3 : (k : Int) < (l2.length : Int) := by have := hL.out; omega
        have hlt2 : k < l2.length := by omega
        have x1 : w.cell? ⟨b1, k, none⟩ = some (.int .i64 l1[k]) := H1.out.at_ k hlt
        have x2 : w.cell? ⟨b2, k, none⟩ = some (.int .i64 l2[k]) := H2.out.at_ k hlt2
        have t1 := Lib.hid (List.take_succ_eq_append_getElem hlt)
        have t2 := Lib.hid (List.take_succ_eq_append_getElem hlt2)
        have e1 := Lib.hid (List.getElem?_eq_getElem hlt)
        have e2 := Lib.hid (List.getElem?_eq_getElem hlt2)
        obtain rfl := H1.out.hp (by intro e; rw [e] at hlt; simp at hlt)
        obtain rfl := H2.out.hp (by intro e; rw [e] at hlt2; simp at hlt2)
        generalize l1[k] = y1 at x1 t1 e1
        generalize l2[k] = y2 at x2 t2 e2
        cases hy : ((y1 : Int) != y2)
        · have Hy := Lib.hid (show y1 = y2 by simpa using hy)
          go_wp2_with fail
          go_quiet (fail)
          go_wp2_with fail
          go_roundg (l1.length + 1 - (k + 1))
          case measure => omega
          case rel => exact ⟨k + 1, _, rfl, hlt, by go_num, rfl, by rw [t1.out, t2.out, Heq.out, Hy.out]⟩
        · have Hy := Lib.hid (show y1 ≠ y2 by simpa using hy)
          go_wp2_with fail
          go_quiet (fail)
          go_wp2_with fail
          go_ret
          refine ⟨ret_bool ?_, m + nq, by first | rfl | exact World.drewN_drewN _ _ _⟩
          rw [eq_comm, decide_eq_false_iff_not]
          intro e
          have := e1.out
          rw [e, e2.out] at this
          exact Hy.out (Option.some.inj this).symm
      · have hk2 : (l1.length : Int) ≤ (k : Int) := by omega
        have Hfin := Lib.hid (show l1 = l2 by
          have := Heq.out
          rw [List.take_of_length_le (by omega), List.take_of_length_le (by have := hL.out; omega)] at this
          exact this)
        go_wp2_with fail
        go_ret
        exact ⟨ret_bool (by rw [eq_comm, decide_eq_true_iff]; exact Hfin.out), _, rfl⟩
  · have hne := Lib.hid (show ¬ l1 = l2 from fun e => hlen (by rw [e]))
    have hll : ((l1.length : Int) != (l2.length : Int)) = true := by simp; omega
    clear hlen h1 h2
    go_enter Try.func27, Try.ntmps27
    go_wp2_with fail
    go_ret
    exact ⟨ret_bool (by rw [eq_comm, decide_eq_false_iff_not]; exact hne.out), 0, rfl⟩
end Go.Proofs.Ytkkdopfdoommnaa
