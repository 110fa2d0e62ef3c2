/-
  vlist: the place behind an item; dimensions, glue.
-/
import Derived.Test.YtkkdopfdoommnaaV2
namespace Go.Proofs.Ytkkdopfdoommnaa
open Go.ChangeShapes Go.WideShapes Go.ChangeAt Go.RowKit
attribute [local go_sem ↓] Go.wp_at_zero Go.wp_at_succ

def behN (k n : Int) : Int := if opensK k then n + 1 else if k = 6 then n - 1 else n
/-- how many nodes an item has: from its first one on; n: how many are open -/
def behC : List Nd → Int → Option Nat
  | [], _ => none
  | x :: l, n => if behN x.kind n = 0 then some 1 else (behC l (behN x.kind n)).map (· + 1)
theorem behC_pos : ∀ (l : List Nd) (n : Int) (m : Nat), behC l n = some m → 1 ≤ m ∧ m ≤ l.length
  | [], _, _, h => by cases h
  | x :: l, n, m, h => by
    unfold behC at h
    split at h
    · cases h; simp
    · obtain ⟨k, hk, rfl⟩ := Option.map_eq_some_iff.1 h
      have := behC_pos l _ k hk
      simp; omega
theorem behC_at {L : List Nd} {j : Nat} (hj : j < L.length) {n : Int} {m : Nat} (h : behC (L.drop j) n = some m) : (behN L[j].kind n = 0 ∧ m = 1) ∨ (behN L[j].kind n ≠ 0 ∧ ∃ k, m = k + 1 ∧ behC (L.drop (j + 1)) (behN L[j].kind n) = some k) := by
  rw [List.drop_eq_getElem_cons hj] at h
  unfold behC at h
  split at h
  · rename_i h0; cases h; exact .inl ⟨h0, rfl⟩
  · rename_i h0
    obtain ⟨k, hk, rfl⟩ := Option.map_eq_some_iff.1 h
    exact .inr ⟨h0, k, rfl, hk⟩
theorem kinds_split (k : Int) : ((k == 4) = true ∧ opensK k = true) ∨ ((k == 4) = false ∧ (k == 5) = true ∧ opensK k = true) ∨ ((k == 4) = false ∧ (k == 5) = false ∧ (k == 10) = true ∧ opensK k = true) ∨
    ((k == 4) = false ∧ (k == 5) = false ∧ (k == 10) = false ∧ (k == 13) = true ∧ opensK k = true) ∨ ((k == 4) = false ∧ (k == 5) = false ∧ (k == 10) = false ∧ (k == 13) = false ∧ (k == 17) = true ∧ opensK k = true) ∨
    ((k == 4) = false ∧ (k == 5) = false ∧ (k == 10) = false ∧ (k == 13) = false ∧ (k == 17) = false ∧ opensK k = false) := by
  unfold opensK
  cases (k == 4) <;> cases (k == 5) <;> cases (k == 10) <;> cases (k == 13) <;> cases (k == 17) <;> simp
set_option maxRecDepth 100000 in
set_option maxHeartbeats 4000000 in
theorem behind_any (p0 : Option Addr) (b off cap : Nat) (L : List Nd) (at_ m : Nat) (w : World) (h : NIn w p0 b off cap L) (hm : behC (L.drop at_) 0 = some m) :
    Calls Try.prog 51 #[.slice p0 L.length cap, .int .i64 at_] w fun e w' => e = .returned (.int .i64 ((at_ + m : Nat) : Int)) ∧ w = w' := by
  have H := Lib.hid h
  have hl := h.len
  have Hm := Lib.hid hm
  clear h hm
  go_enter Try.func51, Try.ntmps51
  go_wp2_with fail
  go_loopg [1, 5] (L.length + 1 - at_) (fun g t1 t5 wr => ∃ (j k : Nat) (n : Int), g = L.length + 1 - j ∧ t1 = .int .i64 j ∧ t5 = .int .i64 n ∧ behC (L.drop j) n = some k ∧ j + k = at_ + m ∧ (-(j : Int) ≤ n ∧ n ≤ j) ∧ wr = w)
  case atStart => exact ⟨at_, m, 0, rfl, rfl, rfl, Hm.out, rfl, by omega, rfl⟩
  case round =>
    clear Hm
    obtain ⟨j, k, n, rfl, rfl, rfl, hk, hjk, hn, rfl⟩ := hrel
    have hlt : j < L.length := by have := behC_pos _ _ _ hk; simp at this; omega
    have x1 : wr.cell? ⟨b, off + j * 19, none⟩ = some (.int .i64 L[j].kind) := agg_cell (H.out.nd j hlt) 0 _ rfl
    obtain rfl := H.out.at_ hlt
    have hj1 : (0 : Int) ≤ (j : Int) := by omega
    have hj2 : (j : Int) < (L.length : Int) := by omega
    obtain ⟨hn1, hn2⟩ := hn
    have HB := Lib.hid (behC_at hlt hk)
    have Hjk := Lib.hid hjk
    have Hl := Lib.hid hlt
    generalize L[j].kind = kd at x1 HB
    clear hk hjk hlt
    rcases kinds_split kd with ⟨h4, ho⟩ | ⟨h4, h5, ho⟩ | ⟨h4, h5, h10, ho⟩ | ⟨h4, h5, h10, h13, ho⟩ | ⟨h4, h5, h10, h13, h17, ho⟩ | ⟨h4, h5, h10, h13, h17, ho⟩
    rotate_right
    · cases h6 : (kd == 6)
      · have hb : behN kd n = n := by unfold behN; rw [ho, if_neg (by simp), if_neg (by simpa using h6)]
        have HB := HB.out
        rw [hb] at HB
        clear hb ho
        rcases HB with ⟨hz, hk1⟩ | ⟨hz, k1, hk1, hk2⟩
        · subst hz
          go_wp2_with fail
          go_ret
          exact ⟨ret_int (by have := Hjk.out; omega), rfl⟩
        · have Hk2 := Lib.hid hk2
          have hz' : (n == 0) = false := by simpa using hz
          clear hk2 hz
          go_wp2_with fail
          go_roundg (L.length + 1 - (j + 1))
          case measure => have := Hl.out; omega
          case rel => exact ⟨j + 1, k1, n, rfl, by go_num, rfl, Hk2.out, by have := Hjk.out; omega, by omega, rfl⟩
      · have hb : behN kd n = n - 1 := by unfold behN; rw [ho, if_neg (by simp), if_pos (by simpa using h6)]
        have HB := HB.out
        rw [hb] at HB
        clear hb ho
        rcases HB with ⟨hz, hk1⟩ | ⟨hz, k1, hk1, hk2⟩
        · have hz' : ((n - 1 : Int) == 0) = true := by simpa using hz
          clear hz
          go_wp2_with fail
          go_ret
          exact ⟨ret_int (by have := Hjk.out; omega), rfl⟩
        · have Hk2 := Lib.hid hk2
          have hz' : ((n - 1 : Int) == 0) = false := by simpa using hz
          clear hk2 hz
          go_wp2_with fail
          go_roundg (L.length + 1 - (j + 1))
          case measure => have := Hl.out; omega
          case rel => exact ⟨j + 1, k1, n - 1, rfl, by go_num, rfl, Hk2.out, by have := Hjk.out; omega, by omega, rfl⟩
    all_goals
      have hb : behN kd n = n + 1 := by unfold behN; rw [ho, if_pos rfl]
      have HB := HB.out
      rw [hb] at HB
      clear hb ho
      rcases HB with ⟨hz, hk1⟩ | ⟨hz, k1, hk1, hk2⟩
      · have hz' : ((n + 1 : Int) == 0) = true := by simpa using hz
        clear hz
        go_wp2_with fail
        go_ret
        exact ⟨ret_int (by have := Hjk.out; omega), rfl⟩
      · have Hk2 := Lib.hid hk2
        have hz' : ((n + 1 : Int) == 0) = false := by simpa using hz
        clear hk2 hz
        go_wp2_with fail
        go_roundg (L.length + 1 - (j + 1))
        case measure => have := Hl.out; omega
        case rel => exact ⟨j + 1, k1, n + 1, rfl, by go_num, rfl, Hk2.out, by have := Hjk.out; omega, by omega, rfl⟩
theorem vdimen_any (x : Int) (w : World) : Calls Try.prog 48 #[.int .i64 x] w fun e w' => e = .returned (.bool (dimenB x)) ∧ w = w' := by
  go_enter Try.func48, Try.ntmps48
  go_wp2
  all_goals go_ret
  all_goals exact ⟨by simp [dimenB]; omega, rfl⟩
theorem vright_any (g : Gl) (w : World) : Calls Try.prog 49 #[.agg g.arr] w fun e w' => e = .returned (.bool g.good) ∧ Below w.heap.size w w' := by
  cases hg : g.good
  all_goals
    have HC : Hid (∀ w, Calls Try.prog 76 #[.agg g.arr] w fun e w' => e = .returned (.int .i64 (if g.good then 0 else 30)) ∧ Below w.heap.size w w') := Lib.hid (gcheck_any g)
    rw [hg] at HC
    clear hg
    go_enter Try.func49, Try.ntmps49
    go_wp2_with (go_at_call 76; refine (HC.out _).mono ?_; rintro e w1 ⟨rfl, hb1⟩)
    go_ret
    exact ⟨rfl, Below.trans ((Below.refl _ _).alloc (Nat.le_refl _) _) (hb1.mono (by simp))⟩
theorem num11_any (x : Int) (w : World) : Calls Try.prog 14 #[.int .i64 x] w fun e w' => e = .returned (.int .i64 x) ∧ w = w' := by
  go_enter Try.func14, Try.ntmps14
  go_wp2
  go_ret
  exact ⟨rfl, rfl⟩
end Go.Proofs.Ytkkdopfdoommnaa
