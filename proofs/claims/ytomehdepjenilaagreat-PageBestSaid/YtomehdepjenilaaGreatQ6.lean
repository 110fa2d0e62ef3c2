/-
  The document's side: lists of nodes: what opens, where an item ends, where the items begin.
-/
import Derived.Test.YtomehdepjenilaaGreatW2
set_option maxRecDepth 100000
set_option maxHeartbeats 4000000
namespace Go.Proofs.YtomehdepjenilaaGreat
open Go.ChangeShapes Go.WideShapes Go.ChangeAt Go.RowKit
attribute [local go_sem ↓] Go.wp_at_zero Go.wp_at_succ

def solidK (k : Int) : Bool := k == 4 || k == 5 || k == 3
def fallsK (k : Int) : Bool := k == 7 || k == 8 || k == 9
theorem qsmall (n : Nd) (w : World) : Calls Tryz.prog 62 #[.agg n.arr] w fun e w' => e = .returned (.bool (smallK n.kind)) ∧ Below w.heap.size w w' := by
  cases h0 : (n.kind == 1)
  rotate_left
  · go_enter Tryz.func62, Tryz.ntmps62
    go_wp2_with fail
    go_ret
    exact ⟨ret_bool (by simp [smallK, h0]), (Below.refl _ _).alloc (Nat.le_refl _) _⟩
  cases h1 : (n.kind == 2)
  rotate_left
  · go_enter Tryz.func62, Tryz.ntmps62
    go_wp2_with fail
    go_ret
    exact ⟨ret_bool (by simp [smallK, h0, h1]), (Below.refl _ _).alloc (Nat.le_refl _) _⟩
  cases h2 : (n.kind == 8)
  rotate_left
  · go_enter Tryz.func62, Tryz.ntmps62
    go_wp2_with fail
    go_ret
    exact ⟨ret_bool (by simp [smallK, h0, h1, h2]), (Below.refl _ _).alloc (Nat.le_refl _) _⟩
  cases h3 : (n.kind == 3)
  rotate_left
  · go_enter Tryz.func62, Tryz.ntmps62
    go_wp2_with fail
    go_ret
    exact ⟨ret_bool (by simp [smallK, h0, h1, h2, h3]), (Below.refl _ _).alloc (Nat.le_refl _) _⟩
  cases h4 : (n.kind == 4)
  rotate_left
  · go_enter Tryz.func62, Tryz.ntmps62
    go_wp2_with fail
    go_ret
    exact ⟨ret_bool (by simp [smallK, h0, h1, h2, h3, h4]), (Below.refl _ _).alloc (Nat.le_refl _) _⟩
  cases h5 : (n.kind == 5)
  rotate_left
  · go_enter Tryz.func62, Tryz.ntmps62
    go_wp2_with fail
    go_ret
    exact ⟨ret_bool (by simp [smallK, h0, h1, h2, h3, h4, h5]), (Below.refl _ _).alloc (Nat.le_refl _) _⟩
  go_enter Tryz.func62, Tryz.ntmps62
  go_wp2_with fail
  go_ret
  exact ⟨ret_bool (by simp [smallK, h0, h1, h2, h3, h4, h5]), (Below.refl _ _).alloc (Nat.le_refl _) _⟩
theorem qopens (n : Nd) (w : World) : Calls Tryz.prog 43 #[.agg n.arr] w fun e w' => e = .returned (.bool (opensK n.kind)) ∧ Below w.heap.size w w' := by
  cases h0 : (n.kind == 4)
  rotate_left
  · go_enter Tryz.func43, Tryz.ntmps43
    go_wp2_with fail
    go_ret
    exact ⟨ret_bool (by simp [opensK, h0]), (Below.refl _ _).alloc (Nat.le_refl _) _⟩
  cases h1 : (n.kind == 5)
  rotate_left
  · go_enter Tryz.func43, Tryz.ntmps43
    go_wp2_with fail
    go_ret
    exact ⟨ret_bool (by simp [opensK, h0, h1]), (Below.refl _ _).alloc (Nat.le_refl _) _⟩
  cases h2 : (n.kind == 10)
  rotate_left
  · go_enter Tryz.func43, Tryz.ntmps43
    go_wp2_with fail
    go_ret
    exact ⟨ret_bool (by simp [opensK, h0, h1, h2]), (Below.refl _ _).alloc (Nat.le_refl _) _⟩
  cases h3 : (n.kind == 13)
  rotate_left
  · go_enter Tryz.func43, Tryz.ntmps43
    go_wp2_with fail
    go_ret
    exact ⟨ret_bool (by simp [opensK, h0, h1, h2, h3]), (Below.refl _ _).alloc (Nat.le_refl _) _⟩
  cases h4 : (n.kind == 17)
  rotate_left
  · go_enter Tryz.func43, Tryz.ntmps43
    go_wp2_with fail
    go_ret
    exact ⟨ret_bool (by simp [opensK, h0, h1, h2, h3, h4]), (Below.refl _ _).alloc (Nat.le_refl _) _⟩
  go_enter Tryz.func43, Tryz.ntmps43
  go_wp2_with fail
  go_ret
  exact ⟨ret_bool (by simp [opensK, h0, h1, h2, h3, h4]), (Below.refl _ _).alloc (Nat.le_refl _) _⟩
theorem qsolid (n : Nd) (w : World) : Calls Tryz.prog 45 #[.agg n.arr] w fun e w' => e = .returned (.bool (solidK n.kind)) ∧ Below w.heap.size w w' := by
  cases h0 : (n.kind == 4)
  rotate_left
  · go_enter Tryz.func45, Tryz.ntmps45
    go_wp2_with fail
    go_ret
    exact ⟨ret_bool (by simp [solidK, h0]), (Below.refl _ _).alloc (Nat.le_refl _) _⟩
  cases h1 : (n.kind == 5)
  rotate_left
  · go_enter Tryz.func45, Tryz.ntmps45
    go_wp2_with fail
    go_ret
    exact ⟨ret_bool (by simp [solidK, h0, h1]), (Below.refl _ _).alloc (Nat.le_refl _) _⟩
  cases h2 : (n.kind == 3)
  rotate_left
  · go_enter Tryz.func45, Tryz.ntmps45
    go_wp2_with fail
    go_ret
    exact ⟨ret_bool (by simp [solidK, h0, h1, h2]), (Below.refl _ _).alloc (Nat.le_refl _) _⟩
  go_enter Tryz.func45, Tryz.ntmps45
  go_wp2_with fail
  go_ret
  exact ⟨ret_bool (by simp [solidK, h0, h1, h2]), (Below.refl _ _).alloc (Nat.le_refl _) _⟩
theorem qfalls (n : Nd) (w : World) : Calls Tryz.prog 46 #[.agg n.arr] w fun e w' => e = .returned (.bool (fallsK n.kind)) ∧ Below w.heap.size w w' := by
  cases h0 : (n.kind == 7)
  rotate_left
  · go_enter Tryz.func46, Tryz.ntmps46
    go_wp2_with fail
    go_ret
    exact ⟨ret_bool (by simp [fallsK, h0]), (Below.refl _ _).alloc (Nat.le_refl _) _⟩
  cases h1 : (n.kind == 8)
  rotate_left
  · go_enter Tryz.func46, Tryz.ntmps46
    go_wp2_with fail
    go_ret
    exact ⟨ret_bool (by simp [fallsK, h0, h1]), (Below.refl _ _).alloc (Nat.le_refl _) _⟩
  cases h2 : (n.kind == 9)
  rotate_left
  · go_enter Tryz.func46, Tryz.ntmps46
    go_wp2_with fail
    go_ret
    exact ⟨ret_bool (by simp [fallsK, h0, h1, h2]), (Below.refl _ _).alloc (Nat.le_refl _) _⟩
  go_enter Tryz.func46, Tryz.ntmps46
  go_wp2_with fail
  go_ret
  exact ⟨ret_bool (by simp [fallsK, h0, h1, h2]), (Below.refl _ _).alloc (Nat.le_refl _) _⟩
theorem vfalls (n : Nd) (w : World) : Calls Tryz.prog 87 #[.agg n.arr] w fun e w' => e = .returned (.bool (fallsK n.kind)) ∧ Below w.heap.size w w' := by
  cases h0 : (n.kind == 7)
  rotate_left
  · go_enter Tryz.func87, Tryz.ntmps87
    go_wp2_with fail
    go_ret
    exact ⟨ret_bool (by simp [fallsK, h0]), (Below.refl _ _).alloc (Nat.le_refl _) _⟩
  cases h1 : (n.kind == 8)
  rotate_left
  · go_enter Tryz.func87, Tryz.ntmps87
    go_wp2_with fail
    go_ret
    exact ⟨ret_bool (by simp [fallsK, h0, h1]), (Below.refl _ _).alloc (Nat.le_refl _) _⟩
  cases h2 : (n.kind == 9)
  rotate_left
  · go_enter Tryz.func87, Tryz.ntmps87
    go_wp2_with fail
    go_ret
    exact ⟨ret_bool (by simp [fallsK, h0, h1, h2]), (Below.refl _ _).alloc (Nat.le_refl _) _⟩
  go_enter Tryz.func87, Tryz.ntmps87
  go_wp2_with fail
  go_ret
  exact ⟨ret_bool (by simp [fallsK, h0, h1, h2]), (Below.refl _ _).alloc (Nat.le_refl _) _⟩

theorem qends (p0 : Option Addr) (b off cap : Nat) (L : List Nd) (at_ m : Nat) (w : World) (h : NIn w p0 b off cap L) (hm : behC (L.drop at_) 0 = some m) (hk6 : (nth L at_).kind ≠ 6) :
    Calls Tryz.prog 15 #[.slice p0 L.length cap, .int .i64 at_] w fun e w' => e = .returned (.int .i64 ((at_ + m : Nat) : Int)) ∧ Below w.heap.size w w' := by
  have hlt : at_ < L.length := by have := behC_pos _ _ _ hm; simp at this; omega
  have H := Lib.hid h
  have hl := h.len
  obtain rfl := h.at_ hlt
  have hj1 : (0 : Int) ≤ (at_ : Int) := by omega
  have hj2 : (at_ : Int) < (L.length : Int) := by omega
  have xa := h.nth hlt
  have HM := Lib.hid hm
  have HB := behC_at hlt hm
  rw [← nth_get hlt] at HB
  have HB := Lib.hid HB
  obtain ⟨x, hx⟩ : ∃ x, nth L at_ = x := ⟨_, rfl⟩
  rw [hx] at xa HB hk6
  have Hx := Lib.hid hx
  have Hlt := Lib.hid hlt
  have HO := Lib.hid (qopens x w)
  clear h hm hx hlt
  cases ho : opensK x.kind
  · have hm1 : m = 1 := by
      have := HB.out
      unfold behN at this
      rw [ho, if_neg (by simp), if_neg hk6] at this
      rcases this with ⟨_, h⟩ | ⟨h, _⟩
      · exact h
      · exact absurd rfl h
    subst hm1
    rw [ho] at HO
    clear ho hk6
    go_enter Tryz.func15, Tryz.ntmps15
    go_wp2_with fail
    refine HO.out.mono ?_
    clear HO
    rintro e w1 ⟨rfl, hb1⟩
    go_wp2_with fail
    go_ret
    exact ⟨ret_int (by omega), hb1⟩
  · have Ho := Lib.hid ho
    rw [ho] at HO
    clear ho hk6
    go_enter Tryz.func15, Tryz.ntmps15
    go_wp2_with fail
    refine HO.out.mono ?_
    clear HO xa HB
    rintro e w1 ⟨rfl, hb1⟩
    go_wp2_with fail
    go_loopg [5, 6] (L.length + 1 - at_) (fun g t5 t6 wr => ∃ (j k : Nat) (n : Int), g = L.length + 1 - j ∧ t5 = .int .i64 n ∧ t6 = .int .i64 j ∧ behC (L.drop j) n = some k ∧ j + k = at_ + m ∧ (0 ≤ n ∧ n ≤ j) ∧ (n = 0 → opensK (nth L j).kind = true) ∧ Below w.heap.size w wr)
    case atStart => exact ⟨at_, m, 0, rfl, rfl, rfl, HM.out, rfl, by omega, fun _ => by rw [Hx.out]; exact Ho.out, hb1⟩
    case round =>
      clear HM Hx Ho hb1
      obtain ⟨j, k, n, rfl, rfl, rfl, hk, hjk, hn, hop, hbl⟩ := hrel
      have hlt : j < L.length := by have := behC_pos _ _ _ hk; simp at this; omega
      have hN := H.out.below hbl
      have x1 := hN.nth hlt
      have hj1 : (0 : Int) ≤ (j : Int) := by omega
      have hj2 : (j : Int) < (L.length : Int) := by omega
      obtain ⟨hn1, hn2⟩ := hn
      have HB := behC_at hlt hk
      rw [← nth_get hlt] at HB
      obtain ⟨x, hx⟩ : ∃ x, nth L j = x := ⟨_, rfl⟩
      rw [hx] at x1 HB hop
      have HB := Lib.hid HB
      have Hjk := Lib.hid hjk
      have Hl := Lib.hid hlt
      have Hop := Lib.hid hop
      have Hbl := Lib.hid hbl
      have hblt := hN.lt hlt
      have HO := Lib.hid (qopens x wr)
      clear hk hjk hlt hx hop hbl hN
      cases ho : opensK x.kind
      · rw [ho] at HO
        have hn3 : 1 ≤ n := by
          have := Hop.out
          rw [ho] at this
          rcases Int.lt_or_le n 1 with h | h
          · exact absurd (this (by omega)) (by simp)
          · exact h
        cases h6 : (x.kind == 6)
        · have hb : behN x.kind n = n := by unfold behN; rw [ho, if_neg (by simp), if_neg (by simpa using h6)]
          have HB := HB.out
          rw [hb] at HB
          rcases HB with ⟨hz, hk1⟩ | ⟨hz, k1, hk1, hk2⟩
          · omega
          · have Hk2 := Lib.hid hk2
            clear hk2 hz hb ho
            go_wp2_with fail
            refine HO.out.mono ?_
            clear HO
            rintro e w2 ⟨rfl, hb2⟩
            have y0 : w2.cell? ⟨b, off + j * 19, none⟩ = some (.int .i64 x.kind) := by have := agg_cell (((bfacts hb2).2.2.1 b (off + j * 19) 19 hblt).trans x1) 0 (.int .i64 x.kind) rfl; simpa using this
            go_wp2_with fail
            go_roundg (L.length + 1 - (j + 1))
            case measure => have := Hl.out; omega
            case rel => exact ⟨j + 1, k1, n, rfl, rfl, by go_num, Hk2.out, by have := Hjk.out; omega, by omega, fun h => by omega, Hbl.out.trans (hb2.mono Hbl.out.size)⟩
        · have hb : behN x.kind n = n - 1 := by unfold behN; rw [ho, if_neg (by simp), if_pos (by simpa using h6)]
          have HB := HB.out
          rw [hb] at HB
          rcases HB with ⟨hz, hk1⟩ | ⟨hz, k1, hk1, hk2⟩
          · have hz' : ((n - 1 : Int) == 0) = true := by simpa using hz
            clear hz hb ho
            go_wp2_with fail
            refine HO.out.mono ?_
            clear HO
            rintro e w2 ⟨rfl, hb2⟩
            have y0 : w2.cell? ⟨b, off + j * 19, none⟩ = some (.int .i64 x.kind) := by have := agg_cell (((bfacts hb2).2.2.1 b (off + j * 19) 19 hblt).trans x1) 0 (.int .i64 x.kind) rfl; simpa using this
            go_wp2_with fail
            go_ret
            exact ⟨ret_int (by have := Hjk.out; omega), Hbl.out.trans (hb2.mono Hbl.out.size)⟩
          · have Hk2 := Lib.hid hk2
            have hz' : ((n - 1 : Int) == 0) = false := by simpa using hz
            have Hz := Lib.hid hz
            clear hk2 hz hb ho
            go_wp2_with fail
            refine HO.out.mono ?_
            clear HO
            rintro e w2 ⟨rfl, hb2⟩
            have y0 : w2.cell? ⟨b, off + j * 19, none⟩ = some (.int .i64 x.kind) := by have := agg_cell (((bfacts hb2).2.2.1 b (off + j * 19) 19 hblt).trans x1) 0 (.int .i64 x.kind) rfl; simpa using this
            go_wp2_with fail
            go_roundg (L.length + 1 - (j + 1))
            case measure => have := Hl.out; omega
            case rel => exact ⟨j + 1, k1, n - 1, rfl, rfl, by go_num, Hk2.out, by have := Hjk.out; omega, by omega, fun h => absurd h Hz.out, Hbl.out.trans (hb2.mono Hbl.out.size)⟩
      · rw [ho] at HO
        have hb : behN x.kind n = n + 1 := by unfold behN; rw [ho, if_pos rfl]
        have h6 : (x.kind == 6) = false := by
          cases h : (x.kind == 6)
          · rfl
          · have e : x.kind = 6 := by simpa using h
            rw [e] at ho; cases ho
        have HB := HB.out
        rw [hb] at HB
        rcases HB with ⟨hz, hk1⟩ | ⟨hz, k1, hk1, hk2⟩
        · omega
        · have Hk2 := Lib.hid hk2
          clear hk2 hz hb ho
          go_wp2_with fail
          refine HO.out.mono ?_
          clear HO
          rintro e w2 ⟨rfl, hb2⟩
          have y0 : w2.cell? ⟨b, off + j * 19, none⟩ = some (.int .i64 x.kind) := by have := agg_cell (((bfacts hb2).2.2.1 b (off + j * 19) 19 hblt).trans x1) 0 (.int .i64 x.kind) rfl; simpa using this
          go_wp2_with fail
          go_roundg (L.length + 1 - (j + 1))
          case measure => have := Hl.out; omega
          case rel => exact ⟨j + 1, k1, n + 1, rfl, rfl, by go_num, Hk2.out, by have := Hjk.out; omega, by omega, fun h => by omega, Hbl.out.trans (hb2.mono Hbl.out.size)⟩
end Go.Proofs.YtomehdepjenilaaGreat
namespace Go.Proofs.YtomehdepjenilaaGreat
open Go.ChangeShapes Go.WideShapes Go.ChangeAt Go.RowKit
attribute [local go_sem ↓] Go.wp_at_zero Go.wp_at_succ

theorem runC_head {x : Nd} {l : List Nd} {d d' : Int} (h : runC (x :: l) [] d = some ([], d')) : x.kind ≠ 6 ∧ x.kind ≠ 11 := by
  unfold runC at h
  split at h
  · obtain ⟨⟨st', d1⟩, hs, _⟩ := Option.bind_eq_some_iff.1 h
    exact (stepC_len hs).2 rfl
  · cases h
theorem items_kind {L : List Nd} {i : Nat} {s : List Nat} (h : Items L i s) : ∀ {d d' : Int}, runC (L.drop i) [] d = some ([], d') → ∀ x ∈ s, (nth L x).kind ≠ 6 ∧ (nth L x).kind ≠ 11 := by
  induction h with
  | done => intro d d' _ x hx; cases hx
  | step hi hm hs ih =>
    rename_i i' m' s'
    intro d d' hr x hx
    have e := List.drop_eq_getElem_cons hi
    rw [e] at hr
    rcases List.mem_cons.1 hx with rfl | hx
    · rw [nth_get hi]; exact runC_head hr
    · obtain ⟨m, d2, hb, hr2⟩ := runC_top hr
      rw [← e] at hb hr2
      rw [hm] at hb
      cases hb
      rw [List.drop_drop] at hr2
      exact ih hr2 x hx
theorem items_kind0 {L : List Nd} {s : List Nat} (h : Items L 0 s) (hc : checkC L = 0) : ∀ x ∈ s, (nth L x).kind ≠ 6 ∧ (nth L x).kind ≠ 11 := by
  obtain ⟨_, d, _, hr⟩ := checkC_zero hc
  exact items_kind h (d := 0) (d' := d) (by rw [List.drop_zero]; exact hr)
def ofN (s : List Nat) : List Int := s.map fun i : Nat => (i : Int)
theorem ofN_len (s : List Nat) : (ofN s).length = s.length := by simp [ofN]
theorem ofN_append (a b : List Nat) : ofN (a ++ b) = ofN a ++ ofN b := by simp [ofN]
def IRow (w : World) (v : Value) (s : List Nat) (w' : World) : Prop := w'.ownsRow w.heap.size 3 1 v s.length (ints (ofN s))
theorem qstarts (p0 : Option Addr) (b off cap : Nat) (L : List Nd) (s : List Nat) (w : World) (h : NIn w p0 b off cap L) (hs : Items L 0 s) (hk : ∀ x ∈ s, (nth L x).kind ≠ 6) :
    Calls Tryz.prog 35 #[.slice p0 L.length cap] w fun e w' => (∃ v, e = .returned v ∧ IRow w v s w') ∧ Below w.heap.size w w' := by
  have H := Lib.hid h
  have hl := h.len
  have HS := Lib.hid hs
  have HK := Lib.hid hk
  clear h hs hk
  go_enter Tryz.func35, Tryz.ntmps35
  go_wp2_with fail
  go_loopg [3, 4] (L.length + 1) (fun g t3 t4 wr => ∃ (k : Nat) (pre rest : List Nat), g = L.length + 1 - k ∧ k ≤ L.length ∧ t4 = .int .i64 k ∧ s = pre ++ rest ∧ Items L k rest ∧ wr.ownsRow w.heap.size 3 1 t3 pre.length (ints (ofN pre)) ∧ Below w.heap.size w wr ∧ pre.length ≤ k)
  case atStart => exact ⟨0, [], s, rfl, Nat.zero_le _, rfl, rfl, HS.out, World.ownsRow_nil _ _ _ _, .refl _ _, Nat.zero_le _⟩
  case round =>
    obtain ⟨k, pre, rest, rfl, hk, rfl, hsp, hit, hown, hbl, hpl⟩ := hrel
    have hk1 : (0 : Int) ≤ (k : Int) := by omega
    cases hit with
    | done =>
      have hsp' : s = pre := by simpa using hsp
      subst hsp'
      have hk2 : (L.length : Int) ≤ (L.length : Int) := by omega
      go_wp2_with fail
      go_ret
      exact ⟨⟨_, rfl, hown⟩, hbl⟩
    | step hi hm hs2 =>
      rename_i m rest'
      have hk2 : (k : Int) < (L.length : Int) := by omega
      have hsz := hbl.size
      obtain ⟨i0, hi0', hz0, hz1, hz2⟩ := info_parts info_int
      have HM := Lib.hid hm
      have HS2 := Lib.hid hs2
      have Hsp := Lib.hid hsp
      have Hbl := Lib.hid hbl
      have hkl : k ≤ L.length := by omega
      have hm2 := behC_pos _ _ _ hm
      rw [List.length_drop] at hm2
      clear hm hs2 hsp hi
      go_wp2_with (at_builtin; refine wpList_append_lies _ rfl _ _ _ rfl w.heap.size 3 i0 (.int .i64 0) 1 8 Tryz.underlying50 hi0' hz0 hz1 hz2 rfl (by decide) u3 pre.length (ints (ofN pre)) rfl (hown.alloc _) ⟨wr.heap.size, 0, none⟩ 1 1 [.int .i64 k] rfl rfl (World.news_of_block (heap_alloc_new _ _)) (by simp [Value.oneCell']) (by decide) (by unfold maxLen; omega) (by omega) (by simp; omega) _ rfl ?_; intro g8 cap8 w8 hown8 hgrow8 hat8 hlt8)
      have hb8 := Below.grown (hbl.alloc hsz _) hgrow8 (by simp; omega) (fun k hk => (hown.lt k hk).1)
      have HE := Lib.hid (qends p0 b off cap L k m w8 (H.out.below hb8) HM.out (HK.out k (by rw [Hsp.out]; simp)))
      refine HE.out.mono ?_
      clear HE
      rintro e w9 ⟨rfl, hb9⟩
      go_wp2_with fail
      go_roundg (L.length + 1 - (k + m))
      case measure => omega
      case rel => exact ⟨k + m, pre ++ [k], rest', rfl, by omega, rfl, by rw [Hsp.out]; simp, HS2.out, by
        have := ownsRow_below hown8 hb9
        rw [List.length_append, ofN_append, ints_append]
        exact this, hb8.trans (hb9.mono hb8.size), by simp; omega⟩
end Go.Proofs.YtomehdepjenilaaGreat
