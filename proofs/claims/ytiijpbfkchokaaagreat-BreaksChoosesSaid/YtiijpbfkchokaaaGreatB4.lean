/-
  Numbers and dimensions; what falls away; glue that is firm; badness: the program's.
-/
import Derived.Test.YtiijpbfkchokaaaGreatS10
import Derived.Test.YtiijpbfkchokaaaGreatL6
import Derived.Test.YtiijpbfkchokaaaGreatB8
import Derived.Test.YtiijpbfkchokaaaGreatW9
import Derived.BigQuiet
set_option maxRecDepth 100000
set_option maxHeartbeats 8000000
namespace Go.Proofs.YtiijpbfkchokaaaGreat
open Go.ChangeShapes Go.WideShapes Go.ChangeAt Go.RowKit
attribute [local go_sem ↓] Go.wp_at_zero Go.wp_at_succ
theorem vnumber (p : Option Addr) (g c : Nat) (l : List Int) (w : World) (h : ZIn w p g c l) (hl : l.length ≤ 100000) :
    Calls Tryz.prog 43 #[.slice p l.length c] w fun e w' => e = .returned (.bool (l.all numB)) ∧ w = w' := by
  have H := Lib.hid h
  have k1 := h.cap
  clear h
  go_enter Tryz.func43, Tryz.ntmps43
  go_wp2_with fail
  go_loopg [7] (l.length + 1) (fun g t wr => ∃ k : Nat, g = l.length + 1 - k ∧ k ≤ l.length ∧ t = .int .i64 k ∧ (l.take k).all numB = true ∧ wr = w)
  case atStart => exact ⟨0, rfl, Nat.zero_le _, rfl, rfl, rfl⟩
  case round =>
    obtain ⟨k, rfl, hk, rfl, ha, rfl⟩ := hrel
    have Ha := Lib.hid ha
    clear ha
    have hk1 : (0 : Int) ≤ (k : Int) := by omega
    by_cases hlt : k < l.length
    · have hk2 : (k : Int) < (l.length : Int) := by omega
      have x1 := H.out.at_ k hlt
      obtain rfl := H.out.hp (by intro e; rw [e] at hlt; simp at hlt)
      have hnx : Hid ((l.take (k + 1)).all numB = numB l[k]) := Lib.hid (by rw [List.take_succ_eq_append_getElem hlt, List.all_append, Ha.out]; simp)
      have hall : Hid (numB l[k] = false → l.all numB = false) := Lib.hid fun h => by
        rw [List.all_eq_false]
        exact ⟨_, List.getElem_mem hlt, by rw [h]; decide⟩
      generalize l[k] = y at x1 hnx hall
      by_cases h1 : y < -2147483647
      · have hb : l.all numB = false := hall.out (by simp [numB, withinB]; omega)
        have Hb := Lib.hid hb
        clear hb hall hnx
        go_wp2_with fail
        go_ret
        exact ⟨by rw [Hb.out]; rfl, rfl⟩
      · by_cases h2 : y > 2147483647
        · have hb : l.all numB = false := hall.out (by simp [numB, withinB]; omega)
          have Hb := Lib.hid hb
          clear hb hall hnx
          go_wp2_with fail
          go_ret
          exact ⟨by rw [Hb.out]; rfl, rfl⟩
        · have hb := Lib.hid (hnx.out.trans (show numB y = true by simp [numB, withinB]; omega))
          clear hall hnx
          go_wp2_with fail
          go_roundg (l.length + 1 - (k + 1))
          case measure => omega
          case rel => exact ⟨k + 1, rfl, hlt, by go_num, hb.out, rfl⟩
    · have hk2 : (l.length : Int) ≤ (k : Int) := by omega
      have hb : l.all numB = true := by have := Ha.out; rwa [List.take_of_length_le (by omega)] at this
      have Hb := Lib.hid hb
      clear hb
      go_wp2_with fail
      go_ret
      exact ⟨by rw [Hb.out]; rfl, rfl⟩
theorem vdimen9 (p : Option Addr) (g c : Nat) (l : List Int) (w : World) (h : ZIn w p g c l) (hl : l.length ≤ 100000) :
    Calls Tryz.prog 44 #[.slice p l.length c] w fun e w' => e = .returned (.bool (l.all dimenB)) ∧ w = w' := by
  have H := Lib.hid h
  have k1 := h.cap
  clear h
  go_enter Tryz.func44, Tryz.ntmps44
  go_wp2_with fail
  go_loopg [7] (l.length + 1) (fun g t wr => ∃ k : Nat, g = l.length + 1 - k ∧ k ≤ l.length ∧ t = .int .i64 k ∧ (l.take k).all dimenB = true ∧ wr = w)
  case atStart => exact ⟨0, rfl, Nat.zero_le _, rfl, rfl, rfl⟩
  case round =>
    obtain ⟨k, rfl, hk, rfl, ha, rfl⟩ := hrel
    have Ha := Lib.hid ha
    clear ha
    have hk1 : (0 : Int) ≤ (k : Int) := by omega
    by_cases hlt : k < l.length
    · have hk2 : (k : Int) < (l.length : Int) := by omega
      have x1 := H.out.at_ k hlt
      obtain rfl := H.out.hp (by intro e; rw [e] at hlt; simp at hlt)
      have hnx : Hid ((l.take (k + 1)).all dimenB = dimenB l[k]) := Lib.hid (by rw [List.take_succ_eq_append_getElem hlt, List.all_append, Ha.out]; simp)
      have hall : Hid (dimenB l[k] = false → l.all dimenB = false) := Lib.hid fun h => by
        rw [List.all_eq_false]
        exact ⟨_, List.getElem_mem hlt, by rw [h]; decide⟩
      generalize l[k] = y at x1 hnx hall
      by_cases h1 : y < -1073741823
      · have hb : l.all dimenB = false := hall.out (by simp [dimenB]; omega)
        have Hb := Lib.hid hb
        clear hb hall hnx
        go_wp2_with fail
        go_ret
        exact ⟨by rw [Hb.out]; rfl, rfl⟩
      · by_cases h2 : y > 1073741823
        · have hb : l.all dimenB = false := hall.out (by simp [dimenB]; omega)
          have Hb := Lib.hid hb
          clear hb hall hnx
          go_wp2_with fail
          go_ret
          exact ⟨by rw [Hb.out]; rfl, rfl⟩
        · have hb := Lib.hid (hnx.out.trans (show dimenB y = true by simp [dimenB]; omega))
          clear hall hnx
          go_wp2_with fail
          go_roundg (l.length + 1 - (k + 1))
          case measure => omega
          case rel => exact ⟨k + 1, rfl, hlt, by go_num, hb.out, rfl⟩
    · have hk2 : (l.length : Int) ≤ (k : Int) := by omega
      have hb : l.all dimenB = true := by have := Ha.out; rwa [List.take_of_length_le (by omega)] at this
      have Hb := Lib.hid hb
      clear hb
      go_wp2_with fail
      go_ret
      exact ⟨by rw [Hb.out]; rfl, rfl⟩
def firm9 (g : Gl) : Bool := g.ho == 0 || g.shr == 0
theorem vfirm (g : Gl) (w : World) : Calls Tryz.prog 46 #[.agg g.arr] w fun e w' => e = .returned (.bool (firm9 g)) ∧ Below w.heap.size w w' := by
  have d0 := heap_alloc_new w (.cells g.arr 24)
  have hb0 : Below w.heap.size w (w.alloc (.cells g.arr 24)) := (Below.refl _ _).alloc (Nat.le_refl _) _
  have x2 : (w.alloc (.cells g.arr 24)).cell? ⟨w.heap.size, 2, none⟩ = some (.int .i64 g.shr) := by rw [cell?_blk' d0]; rfl
  have x4 : (w.alloc (.cells g.arr 24)).cell? ⟨w.heap.size, 4, none⟩ = some (.int .i64 g.ho) := by rw [cell?_blk' d0]; rfl
  clear d0
  go_enter Tryz.func46, Tryz.ntmps46
  cases h1 : (g.ho == 0)
  · cases h2 : (g.shr == 0)
    · have hf := Lib.hid (show firm9 g = false by simp [firm9, h1, h2])
      go_wp2_with fail
      go_ret
      exact ⟨by rw [hf.out]; rfl, hb0⟩
    · have hf := Lib.hid (show firm9 g = true by simp [firm9, h1, h2])
      go_wp2_with fail
      go_ret
      exact ⟨by rw [hf.out]; rfl, hb0⟩
  · have hf := Lib.hid (show firm9 g = true by simp [firm9, h1])
    go_wp2_with fail
    go_ret
    exact ⟨by rw [hf.out]; rfl, hb0⟩
theorem vfalls9 (n : Nd) (w : World) : Calls Tryz.prog 73 #[.agg n.arr] w fun e w' => e = .returned (.bool (fallsR n.kind)) ∧ Below w.heap.size w w' := by
  have hb0 : Below w.heap.size w (w.alloc (.cells n.arr 69)) := (Below.refl _ _).alloc (Nat.le_refl _) _
  have d0 := heap_alloc_new w (.cells n.arr 69)
  have x0 : (w.alloc (.cells n.arr 69)).cell? ⟨w.heap.size, 0, none⟩ = some (.int .i64 n.kind) := by rw [cell?_blk' d0]; rfl
  clear d0
  go_enter Tryz.func73, Tryz.ntmps73
  go_upto_region 1 with (fail)
  generalize w.alloc (.cells n.arr 69) = w1 at hb0 x0 ⊢
  cases h7 : (n.kind == 7)
  case true =>
    have HR := Lib.hid (show fallsR n.kind = true by simp [fallsR, h7])
    go_wp2_with fail
    go_ret
    exact ⟨by rw [HR.out]; rfl, hb0⟩
  cases h8 : (n.kind == 8)
  case true =>
    have HR := Lib.hid (show fallsR n.kind = true by simp [fallsR, h7, h8])
    go_wp2_with fail
    go_ret
    exact ⟨by rw [HR.out]; rfl, hb0⟩
  cases h9 : (n.kind == 9)
  case true =>
    have HR := Lib.hid (show fallsR n.kind = true by simp [fallsR, h7, h8, h9])
    go_wp2_with fail
    go_ret
    exact ⟨by rw [HR.out]; rfl, hb0⟩
  cases h15 : (n.kind == 15)
  case true =>
    have HR := Lib.hid (show fallsR n.kind = true by simp [fallsR, h7, h8, h9, h15])
    go_wp2_with fail
    go_ret
    exact ⟨by rw [HR.out]; rfl, hb0⟩
  cases h16 : (n.kind == 16)
  · have HR := Lib.hid (show fallsR n.kind = false by simp [fallsR, h7, h8, h9, h15, h16])
    go_wp2_with fail
    go_ret
    exact ⟨by rw [HR.out]; rfl, hb0⟩
  · have HR := Lib.hid (show fallsR n.kind = true by simp [fallsR, h7, h8, h9, h15, h16])
    go_wp2_with fail
    go_ret
    exact ⟨by rw [HR.out]; rfl, hb0⟩
end Go.Proofs.YtiijpbfkchokaaaGreat
namespace Go.Proofs.YtiijpbfkchokaaaGreat
open Go.ChangeShapes Go.WideShapes Go.ChangeAt Go.RowKit
attribute [local go_sem ↓] Go.wp_at_zero Go.wp_at_succ
theorem ret_ii {a b c d : Int} (h : a = c) (k : b = d) : Ending.returned (.tuple #[.int .i64 a, .int .i64 b]) = .returned (.tuple #[.int .i64 c, .int .i64 d]) := by rw [h, k]
theorem vjudge (T : Tt) (wd : Int) (w : World) (hs : -4611686018427387904 ≤ wd - T.nat ∧ wd - T.nat ≤ 4611686018427387904) :
    Calls Tryz.prog 77 #[.agg T.arr, .int .i64 wd] w fun e w' => e = .returned (.tuple #[.int .i64 (judP T wd).1, .int .i64 (judP T wd).2]) ∧ Below w.heap.size w w' := by
  have hb0 : Below w.heap.size w (w.alloc (.cells T.arr 62)) := (Below.refl _ _).alloc (Nat.le_refl _) _
  have d0 : TAt (w.alloc (.cells T.arr 62)) w.heap.size T := heap_alloc_new w _
  go_enter Tryz.func77, Tryz.ntmps77
  go_upto_region 1 with (fail)
  generalize w.alloc (.cells T.arr 62) = w1 at hb0 d0 ⊢
  have x0 := d0.cell 0 _ rfl
  have x1 := d0.cell 1 _ rfl
  have x2 := d0.cell 2 _ rfl
  have x3 := d0.cell 3 _ rfl
  have x4 := d0.cell 4 _ rfl
  have x5 := d0.cell 5 _ rfl
  clear d0
  obtain ⟨s, hse⟩ : ∃ s, wd - T.nat = s := ⟨_, rfl⟩
  have hw1 : IntKind.i64.wrap (wd - T.nat) = s := by rw [hse]; exact Go.IntWalk.i64_in _ (by omega)
  have hw2 : IntKind.i64.wrap (-s) = -s := Go.IntWalk.i64_in _ (by omega)
  have HP : Hid (judP T wd = if s = 0 then (0, 2) else if 0 < s then (if T.s1 ≠ 0 ∨ T.s2 ≠ 0 ∨ T.s3 ≠ 0 then (0, 2) else (badM s T.s0, if 99 < badM s T.s0 then 0 else if 12 < badM s T.s0 then 1 else 2)) else if T.h0 < -s then (10001, 3) else (badM (-s) T.h0, if 12 < badM (-s) T.h0 then 3 else 2)) := Lib.hid (by rw [← hse]; rfl)
  rw [hse] at hs
  clear hse
  by_cases h0 : s = 0
  · have HR := Lib.hid (HP.out.trans (if_pos h0))
    subst h0
    clear HP hw2
    go_wp2_with fail
    go_ret2
    exact ⟨by rw [HR.out]; rfl, hb0⟩
  by_cases h1 : 0 < s
  · have HR := Lib.hid (HP.out.trans ((if_neg h0).trans (if_pos h1)))
    clear HP hw2
    by_cases h2 : T.s1 ≠ 0 ∨ T.s2 ≠ 0 ∨ T.s3 ≠ 0
    · have HS := Lib.hid (HR.out.trans (if_pos h2))
      clear HR
      have hways : (T.s1 != 0) = true ∨ ((T.s1 != 0) = false ∧ (T.s2 != 0) = true) ∨ ((T.s1 != 0) = false ∧ (T.s2 != 0) = false ∧ (T.s3 != 0) = true) := by
        by_cases a : T.s1 = 0
        · by_cases b : T.s2 = 0
          · refine .inr (.inr ⟨by simp [a], by simp [b], ?_⟩)
            simp only [a, b] at h2; simpa using h2
          · exact .inr (.inl ⟨by simp [a], by simpa using b⟩)
        · exact .inl (by simpa using a)
      clear h2
      rcases hways with a | ⟨a, b⟩ | ⟨a, b, c⟩
      all_goals
        go_wp2_with fail
        go_ret2
        exact ⟨by rw [HS.out]; rfl, hb0⟩
    · have HS := Lib.hid (HR.out.trans (if_neg h2))
      clear HR
      have a : (T.s1 != 0) = false := by simp; omega
      have b : (T.s2 != 0) = false := by simp; omega
      have c : (T.s3 != 0) = false := by simp; omega
      have HB := Lib.hid (fun W => vbad9 s T.s0 W (by omega))
      clear h2
      generalize badM s T.s0 = y at HB HS
      go_wp2_with (go_at_call 94; refine (HB.out _).mono ?_; rintro e w2 ⟨rfl, hb2⟩)
      all_goals go_ret2
      all_goals refine ⟨?_, hb0.trans (hb2.mono hb0.size)⟩
      all_goals rw [HS.out]
      all_goals refine ret_ii rfl ?_
      · rw [if_pos (by omega)]
      · rw [if_neg (by omega), if_pos (by omega)]
      · rw [if_neg (by omega), if_neg (by omega)]
  · have HR := Lib.hid (HP.out.trans ((if_neg h0).trans (if_neg h1)))
    clear HP
    by_cases h2 : T.h0 < -s
    · have HS := Lib.hid (HR.out.trans (if_pos h2))
      clear HR
      go_wp2_with fail
      go_ret2
      exact ⟨by rw [HS.out]; rfl, hb0⟩
    · have HS := Lib.hid (HR.out.trans (if_neg h2))
      have HB := Lib.hid (fun W => vbad9 (-s) T.h0 W (by omega))
      clear HR
      generalize badM (-s) T.h0 = y at HB HS
      go_wp2_with (go_at_call 94; refine (HB.out _).mono ?_; rintro e w2 ⟨rfl, hb2⟩)
      all_goals go_ret2
      all_goals refine ⟨?_, hb0.trans (hb2.mono hb0.size)⟩
      all_goals rw [HS.out]
      all_goals refine ret_ii rfl ?_
      · rw [if_pos (by omega)]
      · rw [if_neg (by omega)]
end Go.Proofs.YtiijpbfkchokaaaGreat
namespace Go.Proofs.YtiijpbfkchokaaaGreat
open Go.ChangeShapes Go.WideShapes Go.ChangeAt Go.RowKit
structure ShIn (w : World) (P : Pm) (g off : Nat) (S : List Sh2) : Prop where
  hp : S ≠ [] → P.shA = some ⟨g, off, none⟩
  hb : S ≠ [] → g < w.heap.size
  n : P.shN = S.length
  at_ : ∀ i (hi : i < S.length), agg? w g (off + i * 2) 2 = some S[i].arr
  cap : S.length ≤ P.shC
  len : S.length * 16 ≤ 140737488351232
theorem ShIn.below {w w' : World} {P : Pm} {g off : Nat} {S : List Sh2} (h : ShIn w P g off S) (hb : Below w.heap.size w w') : ShIn w' P g off S :=
  ⟨h.hp, fun e => Nat.lt_of_lt_of_le (h.hb e) hb.size, h.n, fun i hi => ((bfacts hb).2.2.1 _ _ _ (h.hb (by intro e; rw [e] at hi; simp at hi))).trans (h.at_ i hi), h.cap, h.len⟩
structure PmB (P : Pm) : Prop where
  hsize : -1073741823 ≤ P.hsize ∧ P.hsize ≤ 1073741823
  hangi : -1073741823 ≤ P.hangi ∧ P.hangi ≤ 1073741823
  hanga : -2147483647 ≤ P.hanga ∧ P.hanga ≤ 2147483647
theorem vwidth (P : Pm) (g off : Nat) (S : List Sh2) (hP : PmB P) (line : Int) (hl : 1 ≤ line ∧ line ≤ 9223372036854775807) (w : World) (hS : ShIn w P g off S) :
    Calls Tryz.prog 39 #[.agg P.arr, .int .i64 line] w fun e w' => e = .returned (.tuple #[.int .i64 (widP P S line).1, .int .i64 (widP P S line).2]) ∧ Below w.heap.size w w' := by
  have hb0 : Below w.heap.size w (w.alloc (.cells P.arr 27)) := (Below.refl _ _).alloc (Nat.le_refl _) _
  have d0 := heap_alloc_new w (.cells P.arr 27)
  have hS1 := hS.below hb0
  have hn := hS.n
  have hlen := hS.len
  have hcap := hS.cap
  obtain ⟨p1, p2, p3⟩ := hP
  clear hS
  go_enter Tryz.func39, Tryz.ntmps39
  go_upto_region 1 with (fail)
  generalize w.alloc (.cells P.arr 27) = w1 at hb0 d0 hS1 ⊢
  have x20 : w1.cell? ⟨w.heap.size, 20, none⟩ = some (.int .i64 P.hsize) := by rw [cell?_blk' d0]; rfl
  have x21 : w1.cell? ⟨w.heap.size, 21, none⟩ = some (.int .i64 P.hangi) := by rw [cell?_blk' d0]; rfl
  have x22 : w1.cell? ⟨w.heap.size, 22, none⟩ = some (.int .i64 P.hanga) := by rw [cell?_blk' d0]; rfl
  have x23 : w1.cell? ⟨w.heap.size, 23, none⟩ = some (.slice P.shA P.shN P.shC) := by rw [cell?_blk' d0]; rfl
  rw [hn] at x23
  clear d0 hn
  by_cases hS0 : S = []
  · have HP : Hid (widP P S line = if P.hangi = 0 ∨ (0 ≤ P.hanga ∧ line ≤ P.hanga) ∨ (P.hanga < 0 ∧ -P.hanga < line) then (P.hsize, 0) else if P.hangi < 0 then (P.hsize + P.hangi, 0) else (P.hsize - P.hangi, P.hangi)) := Lib.hid (if_pos hS0)
    subst hS0
    simp only [List.length_nil] at x23
    clear hS1 hlen hcap
    have hw1 : IntKind.i64.wrap (-P.hanga) = -P.hanga := Go.IntWalk.i64_in _ (by omega)
    have hw2 : IntKind.i64.wrap (P.hsize + P.hangi) = P.hsize + P.hangi := Go.IntWalk.i64_in _ (by omega)
    have hw3 : IntKind.i64.wrap (P.hsize - P.hangi) = P.hsize - P.hangi := Go.IntWalk.i64_in _ (by omega)
    by_cases h0 : P.hangi = 0
    · have HR := Lib.hid (HP.out.trans (if_pos (.inl h0)))
      have h0' : (P.hangi == 0) = true := by simpa using h0
      clear HP h0
      go_wp2_with fail
      go_ret2
      exact ⟨by rw [HR.out]; rfl, hb0⟩
    · have h0' : (P.hangi == 0) = false := by simpa using h0
      by_cases h1 : 0 ≤ P.hanga
      · by_cases h2 : line ≤ P.hanga
        · have HR := Lib.hid (HP.out.trans (if_pos (.inr (.inl ⟨h1, h2⟩))))
          clear HP h0
          go_wp2_with fail
          go_ret2
          exact ⟨by rw [HR.out]; rfl, hb0⟩
        · have HR := Lib.hid (HP.out.trans (if_neg (by omega)))
          clear HP h0
          by_cases h3 : P.hangi < 0
          · have HS := Lib.hid (HR.out.trans (if_pos h3))
            clear HR
            go_wp2_with fail
            go_ret2
            exact ⟨by rw [HS.out]; rfl, hb0⟩
          · have HS := Lib.hid (HR.out.trans (if_neg h3))
            clear HR
            go_wp2_with fail
            go_quiet (fail)
            go_wp2_with fail
            go_ret2
            exact ⟨by rw [HS.out]; rfl, below_drewN hb0 _⟩
      · by_cases h2 : -P.hanga < line
        · have HR := Lib.hid (HP.out.trans (if_pos (.inr (.inr ⟨by omega, h2⟩))))
          clear HP h0
          go_wp2_with fail
          go_ret2
          exact ⟨by rw [HR.out]; rfl, hb0⟩
        · have HR := Lib.hid (HP.out.trans (if_neg (by omega)))
          clear HP h0
          by_cases h3 : P.hangi < 0
          · have HS := Lib.hid (HR.out.trans (if_pos h3))
            clear HR
            go_wp2_with fail
            go_ret2
            exact ⟨by rw [HS.out]; rfl, hb0⟩
          · have HS := Lib.hid (HR.out.trans (if_neg h3))
            clear HR
            go_wp2_with fail
            go_quiet (fail)
            go_wp2_with fail
            go_ret2
            exact ⟨by rw [HS.out]; rfl, below_drewN hb0 _⟩
  · have hpos : 0 < S.length := List.length_pos_iff.2 hS0
    obtain ⟨k, hk⟩ : ∃ k : Nat, (min line S.length).toNat - 1 = k := ⟨_, rfl⟩
    have hk1 : k < S.length := by omega
    have hk2 : min line (S.length : Int) - 1 = (k : Int) := by omega
    have HP : Hid (widP P S line = (S[k].b, S[k].a)) := Lib.hid (by unfold widP; rw [if_neg hS0, hk]; simp [List.getD, List.getElem?_eq_getElem hk1])
    have xs := hS1.at_ k hk1
    have hA := hS1.hp hS0
    rw [hA] at x23
    generalize S[k] = q at xs HP
    have hw1 : Hid (k < S.length ∧ min line (S.length : Int) - 1 = (k : Int)) := Lib.hid ⟨hk1, hk2⟩
    clear hS1 hA hk hk2 hS0
    by_cases hle : (S.length : Int) < line
    · obtain rfl : k = S.length - 1 := by have := hw1.out.2; omega
      clear hw1
      go_upto_region 4 with (fail)
      have dq := heap_alloc_new w1 (.cells q.arr 108)
      have y0 : (w1.alloc (.cells q.arr 108)).cell? ⟨w1.heap.size, 0, none⟩ = some (.int .i64 q.a) := by rw [cell?_blk' dq]; rfl
      have y1 : (w1.alloc (.cells q.arr 108)).cell? ⟨w1.heap.size, 1, none⟩ = some (.int .i64 q.b) := by rw [cell?_blk' dq]; rfl
      have hb2 : Below w.heap.size w (w1.alloc (.cells q.arr 108)) := hb0.alloc hb0.size _
      clear dq xs x20 x21 x22 x23 hb0
      generalize w1.alloc (.cells q.arr 108) = w2 at y0 y1 hb2 ⊢
      go_quiet (fail)
      go_wp2_with fail
      go_ret2
      exact ⟨by rw [HP.out]; rfl, below_drewN hb2 _⟩
    · obtain rfl : k = line.toNat - 1 := by have := hw1.out.2; omega
      clear hw1
      go_upto_region 4 with (fail)
      have dq := heap_alloc_new w1 (.cells q.arr 108)
      have y0 : (w1.alloc (.cells q.arr 108)).cell? ⟨w1.heap.size, 0, none⟩ = some (.int .i64 q.a) := by rw [cell?_blk' dq]; rfl
      have y1 : (w1.alloc (.cells q.arr 108)).cell? ⟨w1.heap.size, 1, none⟩ = some (.int .i64 q.b) := by rw [cell?_blk' dq]; rfl
      have hb2 : Below w.heap.size w (w1.alloc (.cells q.arr 108)) := hb0.alloc hb0.size _
      clear dq xs x20 x21 x22 x23 hb0
      generalize w1.alloc (.cells q.arr 108) = w2 at y0 y1 hb2 ⊢
      go_quiet (fail)
      go_wp2_with fail
      go_ret2
      exact ⟨by rw [HP.out]; rfl, below_drewN hb2 _⟩
attribute [local go_sem ↓] Go.wp_at_zero Go.wp_at_succ
def Tt.addS (a b : Tt) (g : Int) : Tt := ⟨a.nat + g * b.nat, a.s0 + g * b.s0, a.s1 + g * b.s1, a.s2 + g * b.s2, a.s3 + g * b.s3, a.h0 + g * b.h0, a.h1 + g * b.h1, a.h2 + g * b.h2, a.h3 + g * b.h3⟩
theorem addS_one (a b : Tt) : a.addS b 1 = a.plus b := by apply Tt.ext_all <;> simp [Tt.addS, Tt.plus]
theorem addS_neg (a b : Tt) : a.addS b (-1) = a.minus b := by apply Tt.ext_all <;> simp [Tt.addS, Tt.minus] <;> omega
theorem TtB.st {K : Int} {T : Tt} (h : TtB K T) (j : Nat) : -K ≤ T.st j ∧ T.st j ≤ K := by
  rcases j with _ | _ | _ | j
  · exact h.s0
  · exact h.s1
  · exact h.s2
  · exact h.s3
theorem TtB.sh {K : Int} {T : Tt} (h : TtB K T) (j : Nat) : -K ≤ T.sh j ∧ T.sh j ≤ K := by
  rcases j with _ | _ | _ | j
  · exact h.h0
  · exact h.h1
  · exact h.h2
  · exact h.h3
structure AddI (w : World) (Z : Nat) (a b : Tt) (g : Int) (o : Nat) (W : World) : Prop where
  ex : ∃ T : Tt, TAt W Z T ∧ T.nat = a.nat + g * b.nat ∧ (∀ j, j < 4 → T.st j = if j < o then a.st j + g * b.st j else a.st j) ∧ (∀ j, j < 4 → T.sh j = if j < o then a.sh j + g * b.sh j else a.sh j)
  b : TAt W (Z + 1) b
  r : TAt W (Z + 2) .zero
  below : Below w.heap.size w W
theorem AddI.done {w : World} {Z : Nat} {a b : Tt} {g : Int} {W : World} (h : AddI w Z a b g 4 W) : TAt W Z (a.addS b g) := by
  obtain ⟨T, hT, hn, hs, hh⟩ := h.ex
  have e : T = a.addS b g := by
    have s0 := hs 0 (by decide)
    have s1 := hs 1 (by decide)
    have s2 := hs 2 (by decide)
    have s3 := hs 3 (by decide)
    have h0 := hh 0 (by decide)
    have h1 := hh 1 (by decide)
    have h2 := hh 2 (by decide)
    have h3 := hh 3 (by decide)
    exact Tt.ext_all hn s0 s1 s2 s3 h0 h1 h2 h3
  rwa [e] at hT
theorem vadd (a b : Tt) (g : Int) (hg : g = 1 ∨ g = -1) (ha : TtB 2305843009213693952 a) (hb : TtB 2305843009213693952 b) (w : World) :
    Calls Tryz.prog 63 #[.agg a.arr, .agg b.arr, .int .i64 g] w fun e w' => e = .returned (.agg (a.addS b g).arr) ∧ Below w.heap.size w w' := by
  have Hg := Lib.hid hg
  have HA := Lib.hid ha
  have HB := Lib.hid hb
  have hmul : Hid (∀ x, -2305843009213693952 ≤ x ∧ x ≤ 2305843009213693952 → -2305843009213693952 ≤ g * x ∧ g * x ≤ 2305843009213693952) := Lib.hid fun x hx => by
    rcases hg with rfl | rfl <;> omega
  have d0 : TAt (((w.alloc (.cells a.arr 62)).alloc (.cells b.arr 62)).alloc (.cells (Tt.mk 0 0 0 0 0 0 0 0 0).arr 62)) w.heap.size a := (Below.heap_alloc _ _ _ (by simp; omega)).trans ((Below.heap_alloc _ _ _ (by simp)).trans (heap_alloc_new w _))
  have d1 : TAt (((w.alloc (.cells a.arr 62)).alloc (.cells b.arr 62)).alloc (.cells (Tt.mk 0 0 0 0 0 0 0 0 0).arr 62)) (w.heap.size + 1) b := (Below.heap_alloc _ _ _ (by simp)).trans (by have := heap_alloc_new (w.alloc (.cells a.arr 62)) (.cells b.arr 62); simpa using this)
  have d2 : TAt (((w.alloc (.cells a.arr 62)).alloc (.cells b.arr 62)).alloc (.cells (Tt.mk 0 0 0 0 0 0 0 0 0).arr 62)) (w.heap.size + 2) .zero := by have := heap_alloc_new ((w.alloc (.cells a.arr 62)).alloc (.cells b.arr 62)) (.cells (Tt.mk 0 0 0 0 0 0 0 0 0).arr 62); rw [World.size_alloc, World.size_alloc] at this; exact this
  have hb0 : Below w.heap.size w (((w.alloc (.cells a.arr 62)).alloc (.cells b.arr 62)).alloc (.cells (Tt.mk 0 0 0 0 0 0 0 0 0).arr 62)) := (((Below.refl _ _).alloc (Nat.le_refl _) _).alloc (by simp) _).alloc (by simp; omega) _
  clear hg ha hb
  go_enter Tryz.func63, Tryz.ntmps63
  go_upto_region 1 with (fail)
  obtain ⟨Z, hZ⟩ : ∃ Z, w.heap.size = Z := ⟨_, rfl⟩
  generalize ((w.alloc (.cells a.arr 62)).alloc (.cells b.arr 62)).alloc (.cells (Tt.mk 0 0 0 0 0 0 0 0 0).arr 62) = w1 at d0 d1 d2 hb0 ⊢
  rw [hZ] at d0 d1 d2 ⊢
  have HZ := Lib.hid hZ
  clear hZ
  have x0 := d0.cell 0 _ (Tt.get0 a)
  have f0 := d0.frozen 0
  have y0 := d1.cell 0 _ (Tt.get0 b)
  obtain ⟨m1, m2⟩ := hmul.out b.nat HB.out.nat
  obtain ⟨a1, a2⟩ := HA.out.nat
  have hw1 : IntKind.i64.wrap (g * b.nat) = g * b.nat := Go.IntWalk.i64_in _ (by omega)
  have hw2 : IntKind.i64.wrap (a.nat + g * b.nat) = a.nat + g * b.nat := Go.IntWalk.i64_in _ (by omega)
  go_upto_region 2 with (fail)
  have hI : AddI w Z a b g 0 (w1.setCell ⟨Z, 0, none⟩ (.int .i64 (a.nat + g * b.nat))) := ⟨⟨{ a with nat := a.nat + g * b.nat }, d0.set 0 _ rfl, rfl, fun j hj => by rw [if_neg (Nat.not_lt_zero _)]; rcases j with _ | _ | _ | j <;> rfl, fun j hj => by rw [if_neg (Nat.not_lt_zero _)]; rcases j with _ | _ | _ | j <;> rfl⟩, (Below.heap_setCell _ _ _ _ (by simp only; omega)).trans d1, (Below.heap_setCell _ _ _ _ (by simp only; omega)).trans d2, hb0.setCell (p := ⟨Z, 0, none⟩) (by simp only; rw [HZ.out]; exact Nat.le_refl _) _⟩
  have HI := Lib.hid hI
  clear hI d0 d1 d2 hb0 x0 f0 y0 m1 m2 a1 a2 hw1 hw2
  generalize w1.setCell ⟨Z, 0, none⟩ (.int .i64 (a.nat + g * b.nat)) = w2 at HI ⊢
  go_wp2_with fail
  go_loopg [16] 5 (fun gg t16 wr => ∃ o : Nat, gg = 5 - o ∧ o ≤ 4 ∧ t16 = .int .i64 o ∧ AddI w Z a b g o wr)
  case atStart => exact ⟨0, rfl, Nat.zero_le _, rfl, HI.out⟩
  case round =>
    clear HI
    obtain ⟨o, rfl, ho, rfl, hI⟩ := hrel
    by_cases hlt : o < 4
    · have ho1 : (0 : Int) ≤ (o : Int) := by omega
      have ho2 : (o : Int) < 4 := by omega
      obtain ⟨⟨T, hT, hn, hs, hh⟩, hB, hR, hbl⟩ := hI
      have so := hs o hlt
      have sh := hh o hlt
      rw [if_neg (Nat.lt_irrefl _)] at so sh
      have Hn := Lib.hid hn
      have Hs := Lib.hid hs
      have Hh := Lib.hid hh
      clear hn hs hh
      have cT := hT.cell (1 + o) _ (tt_get_st _ o (by omega))
      have cB := hB.cell (1 + o) _ (tt_get_st _ o (by omega))
      have fT := hT.frozen (1 + o)
      rw [so] at cT
      obtain ⟨m1, m2⟩ := hmul.out (b.st o) (HB.out.st o)
      obtain ⟨a1, a2⟩ := HA.out.st o
      have hw1 : IntKind.i64.wrap (g * b.st o) = g * b.st o := Go.IntWalk.i64_in _ (by omega)
      have hw2 : IntKind.i64.wrap (a.st o + g * b.st o) = a.st o + g * b.st o := Go.IntWalk.i64_in _ (by omega)
      have So := Lib.hid so
      have Sh := Lib.hid sh
      clear so sh
      go_wp2_with fail
      go_region
      have hT2 : TAt (wr.setCell ⟨Z, 1 + o, none⟩ (.int .i64 (a.st o + g * b.st o))).drew Z (T.setS o (a.st o + g * b.st o)) := hT.set (1 + o) _ (tt_set_st _ _ o (by omega))
      have hB2 : TAt (wr.setCell ⟨Z, 1 + o, none⟩ (.int .i64 (a.st o + g * b.st o))).drew (Z + 1) b := (Below.heap_setCell _ _ _ _ (by simp only; omega)).trans hB
      have hR2 : TAt (wr.setCell ⟨Z, 1 + o, none⟩ (.int .i64 (a.st o + g * b.st o))).drew (Z + 2) .zero := (Below.heap_setCell _ _ _ _ (by simp only; omega)).trans hR
      have hb2 : Below w.heap.size w (wr.setCell ⟨Z, 1 + o, none⟩ (.int .i64 (a.st o + g * b.st o))).drew := (hbl.setCell (p := ⟨Z, 1 + o, none⟩) (by simp only; rw [HZ.out]; exact Nat.le_refl _) _).drew
      clear hT hB hR hbl cT cB fT m1 m2 a1 a2 hw1 hw2
      generalize (wr.setCell ⟨Z, 1 + o, none⟩ (.int .i64 (a.st o + g * b.st o))).drew = w3 at hT2 hB2 hR2 hb2 ⊢
      have cT := hT2.cell (5 + o) _ (tt_get_sh _ o (by omega))
      rw [sh_setS, Sh.out] at cT
      have cB := hB2.cell (5 + o) _ (tt_get_sh _ o (by omega))
      have fT := hT2.frozen (5 + o)
      obtain ⟨m1, m2⟩ := hmul.out (b.sh o) (HB.out.sh o)
      obtain ⟨a1, a2⟩ := HA.out.sh o
      have hw1 : IntKind.i64.wrap (g * b.sh o) = g * b.sh o := Go.IntWalk.i64_in _ (by omega)
      have hw2 : IntKind.i64.wrap (a.sh o + g * b.sh o) = a.sh o + g * b.sh o := Go.IntWalk.i64_in _ (by omega)
      go_wp2_with fail
      go_region
      have hI3 : AddI w Z a b g (o + 1) (w3.setCell ⟨Z, 5 + o, none⟩ (.int .i64 (a.sh o + g * b.sh o))).drew := by
        refine ⟨⟨(T.setS o (a.st o + g * b.st o)).setH o (a.sh o + g * b.sh o), hT2.set (5 + o) _ (tt_set_sh _ _ o (by omega)), by rw [nat_setH, nat_setS]; exact Hn.out, fun j hj => ?_, fun j hj => ?_⟩, (Below.heap_setCell _ _ _ _ (by simp only; omega)).trans hB2, (Below.heap_setCell _ _ _ _ (by simp only; omega)).trans hR2, (hb2.setCell (p := ⟨Z, 5 + o, none⟩) (by simp only; rw [HZ.out]; exact Nat.le_refl _) _).drew⟩
        · rw [st_setH, st_setS]
          by_cases e : j = o
          · subst e; rw [if_pos rfl, if_pos (by omega)]
          · rw [if_neg (by omega), Hs.out j hj]
            by_cases e2 : j < o
            · rw [if_pos e2, if_pos (by omega)]
            · rw [if_neg e2, if_neg (by omega)]
        · rw [sh_setH]
          by_cases e : j = o
          · subst e; rw [if_pos rfl, if_pos (by omega)]
          · rw [if_neg (by omega), sh_setS, Hh.out j hj]
            by_cases e2 : j < o
            · rw [if_pos e2, if_pos (by omega)]
            · rw [if_neg e2, if_neg (by omega)]
      have HI3 := Lib.hid hI3
      clear hI3 hT2 hB2 hR2 hb2 cT cB fT m1 m2 a1 a2 hw1 hw2
      go_wp2_with fail
      go_roundg (5 - (o + 1))
      case measure => omega
      case rel => exact ⟨o + 1, rfl, by omega, by go_num, HI3.out⟩
    · obtain rfl : o = 4 := by omega
      have hF := hI.done
      have hR := hI.r
      have aF := hF.agg
      have tR := hR.there
      have hbl := hI.below
      clear hI
      go_wp2_with fail
      exact ret_tt rfl (Z + 2) 0 (a.addS b g) rfl (hR.store (U := a.addS b g)).agg rfl ⟨rfl, Below.setAgg hbl (by rw [HZ.out]; omega) _ _⟩
end Go.Proofs.YtiijpbfkchokaaaGreat
