/-
  vlist: the place behind an item; dimensions, glue.
-/
import Derived.Test.YtiijpbfkchokaaaGreatV2
import Derived.RangeFuncNested
import Derived.RangeFuncBound
import Derived.RangeFuncCalls
import Derived.RangeFuncLeaves
import Derived.RangeFuncFrom
import Derived.RangeFuncBox
import Derived.Shelf.Abstract
import Derived.Shelf.RegionOpen
import Derived.OwnWalkIn
import Derived.TacticsInMore
import Derived.LoopNIn
import Derived.LoopIn
namespace Go.Proofs.YtiijpbfkchokaaaGreat
open Go.ChangeShapes Go.WideShapes Go.ChangeAt Go.RowKit
attribute [local go_sem ↓] Go.wp_at_zero Go.wp_at_succ

def behN (k n : Int) : Int := if opensK k then n + 1 else if k = 6 then n - 1 else n
def behC : List Nd → Int → Option Nat
  | [], _ => none
  | x :: l, n => if behN x.kind n = 0 then some 1 else (behC l (behN x.kind n)).map (· + 1)
theorem behC_pos : ∀ (l : List Nd) (n : Int) (m : Nat), behC l n = some m → 1 ≤ m ∧ m ≤ l.length
  | [], _, _, h => by cases h
  | x :: l, n, m, h => by
    unfold behC at h
    split at h
    · cases h; simp
    · obtain ⟨k, hk, rfl⟩ := Option.map_eq_some_iff.1 h
      have := behC_pos l _ k hk
      simp; omega
theorem behC_at {L : List Nd} {j : Nat} (hj : j < L.length) {n : Int} {m : Nat} (h : behC (L.drop j) n = some m) : (behN L[j].kind n = 0 ∧ m = 1) ∨ (behN L[j].kind n ≠ 0 ∧ ∃ k, m = k + 1 ∧ behC (L.drop (j + 1)) (behN L[j].kind n) = some k) := by
  rw [List.drop_eq_getElem_cons hj] at h
  unfold behC at h
  split at h
  · rename_i h0; cases h; exact .inl ⟨h0, rfl⟩
  · rename_i h0
    obtain ⟨k, hk, rfl⟩ := Option.map_eq_some_iff.1 h
    exact .inr ⟨h0, k, rfl, hk⟩
theorem kinds_split (k : Int) : ((k == 4) = true ∧ opensK k = true) ∨ ((k == 4) = false ∧ (k == 5) = true ∧ opensK k = true) ∨ ((k == 4) = false ∧ (k == 5) = false ∧ (k == 10) = true ∧ opensK k = true) ∨
    ((k == 4) = false ∧ (k == 5) = false ∧ (k == 10) = false ∧ (k == 13) = true ∧ opensK k = true) ∨ ((k == 4) = false ∧ (k == 5) = false ∧ (k == 10) = false ∧ (k == 13) = false ∧ (k == 17) = true ∧ opensK k = true) ∨
    ((k == 4) = false ∧ (k == 5) = false ∧ (k == 10) = false ∧ (k == 13) = false ∧ (k == 17) = false ∧ opensK k = false) := by
  unfold opensK
  cases (k == 4) <;> cases (k == 5) <;> cases (k == 10) <;> cases (k == 13) <;> cases (k == 17) <;> simp
end Go.Proofs.YtiijpbfkchokaaaGreat
namespace Go.Proofs.YtiijpbfkchokaaaGreat
open Go.ChangeShapes Go.WideShapes Go.ChangeAt Go.RowKit Go.Shelf

inductive Items (L : List Nd) : Nat → List Nat → Prop
  | done : Items L L.length []
  | step {i m : Nat} {s : List Nat} (hi : i < L.length) (hm : behC (L.drop i) 0 = some m) (hs : Items L (i + m) s) : Items L i (i :: s)
theorem Items.lt {L : List Nd} {i : Nat} {s : List Nat} (h : Items L i s) : ∀ x ∈ s, i ≤ x ∧ x < L.length := by
  induction h with
  | done => intro x hx; cases hx
  | step hi hm hs ih =>
    rename_i i' m' s'
    have := behC_pos _ _ _ hm
    intro x hx
    rcases List.mem_cons.1 hx with rfl | hx
    · exact ⟨Nat.le_refl _, hi⟩
    · have := ih x hx; omega
theorem Items.len {L : List Nd} {i : Nat} {s : List Nat} (h : Items L i s) : s.length + i ≤ L.length := by
  induction h with
  | done => simp
  | step hi hm hs ih => have := behC_pos _ _ _ hm; simp; omega
section
attribute [local go_sem] Oper.semAt_some
end
end Go.Proofs.YtiijpbfkchokaaaGreat

namespace Go.Proofs.YtiijpbfkchokaaaGreat
open Go.ChangeShapes Go.WideShapes Go.ChangeAt Go.RowKit Go.Shelf
attribute [local go_sem] Oper.semAt_some

def nth (L : List Nd) (i : Nat) : Nd := (L[i]?).getD Nd.zero
theorem nth_get {L : List Nd} {i : Nat} (h : i < L.length) : nth L i = L[i] := by unfold nth; rw [List.getElem?_eq_getElem h]; rfl
theorem NIn.nth {w : World} {p : Option Addr} {b off cap : Nat} {L : List Nd} (h : NIn w p b off cap L) {i : Nat} (hi : i < L.length) : agg? w b (off + i * 19) 19 = some (nth L i).arr := by rw [nth_get hi]; exact h.nd i hi
def firmN (n : Nd) : Bool := !(n.kind == 7) || n.glue.ho == 0 || n.glue.shr == 0
end Go.Proofs.YtiijpbfkchokaaaGreat
namespace Go.Proofs.YtiijpbfkchokaaaGreat
open Go.ChangeShapes Go.WideShapes Go.ChangeAt Go.RowKit
attribute [local go_sem ↓] Go.wp_at_zero Go.wp_at_succ
set_option maxRecDepth 100000 in
set_option maxHeartbeats 4000000 in
theorem behind9 (p0 : Option Addr) (b off cap : Nat) (L : List Nd) (at_ m : Nat) (w : World) (h : NIn w p0 b off cap L) (hm : behC (L.drop at_) 0 = some m) :
    Calls Tryz.prog 61 #[.slice p0 L.length cap, .int .i64 at_] w fun e w' => e = .returned (.int .i64 ((at_ + m : Nat) : Int)) ∧ w = w' := by
  have H := Lib.hid h
  have hl := h.len
  have Hm := Lib.hid hm
  clear h hm
  go_enter Tryz.func61, Tryz.ntmps61
  go_wp2_with fail
  go_loopg [1, 5] (L.length + 1 - at_) (fun g t1 t5 wr => ∃ (j k : Nat) (n : Int), g = L.length + 1 - j ∧ t1 = .int .i64 j ∧ t5 = .int .i64 n ∧ behC (L.drop j) n = some k ∧ j + k = at_ + m ∧ (-(j : Int) ≤ n ∧ n ≤ j) ∧ wr = w)
  case atStart => exact ⟨at_, m, 0, rfl, rfl, rfl, Hm.out, rfl, by omega, rfl⟩
  case round =>
    clear Hm
    obtain ⟨j, k, n, rfl, rfl, rfl, hk, hjk, hn, rfl⟩ := hrel
    have hlt : j < L.length := by have := behC_pos _ _ _ hk; simp at this; omega
    have x1 : wr.cell? ⟨b, off + j * 19, none⟩ = some (.int .i64 L[j].kind) := agg_cell (H.out.nd j hlt) 0 _ rfl
    obtain rfl := H.out.at_ hlt
    have hj1 : (0 : Int) ≤ (j : Int) := by omega
    have hj2 : (j : Int) < (L.length : Int) := by omega
    obtain ⟨hn1, hn2⟩ := hn
    have HB := Lib.hid (behC_at hlt hk)
    have Hjk := Lib.hid hjk
    have Hl := Lib.hid hlt
    generalize L[j].kind = kd at x1 HB
    clear hk hjk hlt
    rcases kinds_split kd with ⟨h4, ho⟩ | ⟨h4, h5, ho⟩ | ⟨h4, h5, h10, ho⟩ | ⟨h4, h5, h10, h13, ho⟩ | ⟨h4, h5, h10, h13, h17, ho⟩ | ⟨h4, h5, h10, h13, h17, ho⟩
    rotate_right
    · cases h6 : (kd == 6)
      · have hb : behN kd n = n := by unfold behN; rw [ho, if_neg (by simp), if_neg (by simpa using h6)]
        have HB := HB.out
        rw [hb] at HB
        clear hb ho
        rcases HB with ⟨hz, hk1⟩ | ⟨hz, k1, hk1, hk2⟩
        · subst hz
          go_wp2_with fail
          go_ret
          exact ⟨ret_int (by have := Hjk.out; omega), rfl⟩
        · have Hk2 := Lib.hid hk2
          have hz' : (n == 0) = false := by simpa using hz
          clear hk2 hz
          go_wp2_with fail
          go_roundg (L.length + 1 - (j + 1))
          case measure => have := Hl.out; omega
          case rel => exact ⟨j + 1, k1, n, rfl, by go_num, rfl, Hk2.out, by have := Hjk.out; omega, by omega, rfl⟩
      · have hb : behN kd n = n - 1 := by unfold behN; rw [ho, if_neg (by simp), if_pos (by simpa using h6)]
        have HB := HB.out
        rw [hb] at HB
        clear hb ho
        rcases HB with ⟨hz, hk1⟩ | ⟨hz, k1, hk1, hk2⟩
        · have hz' : ((n - 1 : Int) == 0) = true := by simpa using hz
          clear hz
          go_wp2_with fail
          go_ret
          exact ⟨ret_int (by have := Hjk.out; omega), rfl⟩
        · have Hk2 := Lib.hid hk2
          have hz' : ((n - 1 : Int) == 0) = false := by simpa using hz
          clear hk2 hz
          go_wp2_with fail
          go_roundg (L.length + 1 - (j + 1))
          case measure => have := Hl.out; omega
          case rel => exact ⟨j + 1, k1, n - 1, rfl, by go_num, rfl, Hk2.out, by have := Hjk.out; omega, by omega, rfl⟩
    all_goals
      have hb : behN kd n = n + 1 := by unfold behN; rw [ho, if_pos rfl]
      have HB := HB.out
      rw [hb] at HB
      clear hb ho
      rcases HB with ⟨hz, hk1⟩ | ⟨hz, k1, hk1, hk2⟩
      · have hz' : ((n + 1 : Int) == 0) = true := by simpa using hz
        clear hz
        go_wp2_with fail
        go_ret
        exact ⟨ret_int (by have := Hjk.out; omega), rfl⟩
      · have Hk2 := Lib.hid hk2
        have hz' : ((n + 1 : Int) == 0) = false := by simpa using hz
        clear hk2 hz
        go_wp2_with fail
        go_roundg (L.length + 1 - (j + 1))
        case measure => have := Hl.out; omega
        case rel => exact ⟨j + 1, k1, n + 1, rfl, by go_num, rfl, Hk2.out, by have := Hjk.out; omega, by omega, rfl⟩
end Go.Proofs.YtiijpbfkchokaaaGreat
namespace Go.Proofs.YtiijpbfkchokaaaGreat

theorem stepC_len {k : Int} {st st' : List Int} {d d' : Int} (h : stepC k st d = some (st', d')) : (st'.length : Int) = behN k st.length ∧ (st = [] → k ≠ 6 ∧ k ≠ 11) := by
  unfold stepC at h
  unfold behN
  split at h
  · rename_i h6
    subst h6
    cases hl : st.getLast? with
    | none => rw [hl] at h; cases h
    | some x =>
      rw [hl] at h
      simp only at h
      split at h
      · cases h
      · simp only [Option.some.injEq, Prod.mk.injEq] at h
        obtain ⟨rfl, _⟩ := h
        have hne : st ≠ [] := by intro e; rw [e] at hl; cases hl
        have := List.length_pos_iff.2 hne
        refine ⟨?_, fun e => absurd e hne⟩
        rw [List.length_dropLast]
        simp [opensK]; omega
  · rename_i h6
    split at h
    · rename_i h11
      subst h11
      cases hl : st.getLast? with
      | none => rw [hl] at h; cases h
      | some x =>
        rw [hl] at h
        simp only at h
        split at h
        · cases h
        · simp only [Option.some.injEq, Prod.mk.injEq] at h
          obtain ⟨rfl, _⟩ := h
          have hne : st ≠ [] := by intro e; rw [e] at hl; cases hl
          refine ⟨?_, fun e => absurd e hne⟩
          rw [List.length_set]
          simp [opensK]
    · rename_i h11
      refine ⟨?_, fun _ => ⟨h6, h11⟩⟩
      have h2 : ∀ bad : Bool, (if bad = true then none else some (if opensK k = true then st ++ [if k = 10 then (2 : Int) else -1] else st, max d (st.length + 1))) = some (st', d') → (if opensK k = true then st ++ [if k = 10 then (2 : Int) else -1] else st) = st' := by
        intro bad hb
        cases bad
        · simp only [Bool.false_eq_true, if_false, Option.some.injEq, Prod.mk.injEq] at hb
          exact hb.1
        · simp at hb
      have h3 := h2 _ h
      rw [← h3, if_neg h6]
      split
      · simp
      · rfl
theorem runC_item : ∀ (l : List Nd) (st : List Int) (d d' : Int), runC l st d = some ([], d') → 0 < st.length → ∃ m d2, behC l st.length = some m ∧ runC (l.drop m) [] d2 = some ([], d')
  | [], st, d, d', h, hn => by
    simp only [runC, Option.some.injEq, Prod.mk.injEq] at h
    rw [h.1] at hn; simp at hn
  | x :: l, st, d, d', h, hn => by
    unfold runC at h
    split at h
    · obtain ⟨⟨st', d1⟩, hs, hr⟩ := Option.bind_eq_some_iff.1 h
      obtain ⟨hl, _⟩ := stepC_len hs
      simp only at hr
      by_cases h0 : st'.length = 0
      · have e : st' = [] := List.length_eq_zero_iff.1 h0
        subst e
        refine ⟨1, d1, ?_, hr⟩
        unfold behC
        rw [← hl]
        simp
      · obtain ⟨m, d2, hb, hr2⟩ := runC_item l st' d1 d' hr (by omega)
        refine ⟨m + 1, d2, ?_, hr2⟩
        unfold behC
        rw [← hl, hb, if_neg (by omega)]
        rfl
    · cases h
theorem runC_top {x : Nd} {l : List Nd} {d d' : Int} (h : runC (x :: l) [] d = some ([], d')) : ∃ m d2, behC (x :: l) 0 = some m ∧ runC ((x :: l).drop m) [] d2 = some ([], d') := by
  unfold runC at h
  split at h
  · obtain ⟨⟨st', d1⟩, hs, hr⟩ := Option.bind_eq_some_iff.1 h
    obtain ⟨hl, _⟩ := stepC_len hs
    simp only at hr
    by_cases h0 : st'.length = 0
    · have e : st' = [] := List.length_eq_zero_iff.1 h0
      subst e
      refine ⟨1, d1, ?_, hr⟩
      unfold behC
      have hl' : behN x.kind 0 = 0 := hl.symm
      rw [if_pos hl']
    · obtain ⟨m, d2, hb, hr2⟩ := runC_item l st' d1 d' hr (by omega)
      refine ⟨m + 1, d2, ?_, hr2⟩
      unfold behC
      have hl' : behN x.kind 0 = (st'.length : Int) := hl.symm
      rw [hl', hb, if_neg (by omega)]
      rfl
  · cases h
theorem items_of_run (L : List Nd) : ∀ (n i : Nat) (d d' : Int), L.length - i ≤ n → i ≤ L.length → runC (L.drop i) [] d = some ([], d') → ∃ s, Items L i s
  | n, i, d, d', hn, hi, h => by
    by_cases hlt : i < L.length
    · have e := List.drop_eq_getElem_cons hlt
      rw [e] at h
      obtain ⟨m, d2, hb, hr⟩ := runC_top h
      rw [← e] at hb hr
      have hm := behC_pos _ _ _ hb
      rw [List.length_drop] at hm
      rw [List.drop_drop] at hr
      match n, hn with
      | 0, hn => omega
      | n + 1, hn =>
        obtain ⟨s, hs⟩ := items_of_run L n (i + m) d2 d' (by omega) (by omega) hr
        exact ⟨i :: s, .step hlt hb hs⟩
    · obtain rfl : i = L.length := by omega
      exact ⟨[], .done⟩
theorem checkC_zero {L : List Nd} (h : checkC L = 0) : L.length ≤ 2000 ∧ ∃ d, d ≤ 40 ∧ runC L [] 0 = some ([], d) := by
  unfold checkC at h
  split at h
  · cases h
  · rename_i hn
    refine ⟨by omega, ?_⟩
    cases hr : runC L [] 0 with
    | none => rw [hr] at h; cases h
    | some r =>
      obtain ⟨st, d⟩ := r
      rw [hr] at h
      simp only [codeC] at h
      split at h
      · cases h
      · rename_i h0
        split at h
        · cases h
        · exact ⟨d, by omega, by rw [show st = [] from List.length_eq_zero_iff.1 (by omega)]⟩
theorem items_of_check {L : List Nd} (h : checkC L = 0) : ∃ s, Items L 0 s := by
  obtain ⟨_, d, _, hr⟩ := checkC_zero h
  exact items_of_run L L.length 0 0 d (by omega) (Nat.zero_le _) (by rw [List.drop_zero]; exact hr)
noncomputable def itemsP (L : List Nd) : List Nat := open Classical in if h : checkC L = 0 then (items_of_check h).choose else []
theorem itemsP_spec {L : List Nd} (h : checkC L = 0) : Items L 0 (itemsP L) := by
  unfold itemsP
  rw [dif_pos h]
  exact (items_of_check h).choose_spec
end Go.Proofs.YtiijpbfkchokaaaGreat
namespace Go.Proofs.YtiijpbfkchokaaaGreat
open Go.RowKit
theorem stepC_app {k : Int} {a st X : List Int} {d d1 : Int} (hst : st ≠ []) (h : stepC k (a ++ st) d = some (X, d1)) : ∃ st', X = a ++ st' ∧ (st'.length : Int) = behN k st.length := by
  obtain ⟨y, hy⟩ : ∃ y, st.getLast? = some y := by
    cases hg : st.getLast? with
    | none => rw [List.getLast?_eq_none_iff] at hg; exact absurd hg hst
    | some x => exact ⟨x, rfl⟩
  have hl : (a ++ st).getLast? = some y := by rw [List.getLast?_append, hy]; rfl
  have hp : 0 < st.length := List.length_pos_iff.2 hst
  unfold stepC at h
  simp only [hl] at h
  by_cases h6 : k = 6
  · subst h6
    rw [if_pos rfl] at h
    by_cases h1 : 0 < y
    · rw [if_pos h1] at h; cases h
    · rw [if_neg h1] at h
      cases h
      refine ⟨st.dropLast, List.dropLast_append_of_ne_nil hst, ?_⟩
      rw [List.length_dropLast]
      show _ = (st.length : Int) - 1
      omega
  · rw [if_neg h6] at h
    by_cases h11 : k = 11
    · subst h11
      rw [if_pos rfl] at h
      by_cases h1 : y < 1
      · rw [if_pos h1] at h; cases h
      · rw [if_neg h1] at h
        cases h
        refine ⟨st.set (st.length - 1) (y - 1), ?_, by rw [List.length_set]; rfl⟩
        rw [List.length_append, List.set_append, if_neg (by omega)]
        congr 2
        omega
    · rw [if_neg h11] at h
      by_cases h1 : (decide (0 ≤ y) && !smallK k) = true
      · rw [if_pos h1] at h; cases h
      · rw [if_neg h1] at h
        cases h
        unfold behN
        cases ho : opensK k
        · exact ⟨st, by simp, by simp [h6]⟩
        · exact ⟨st ++ [if k = 10 then 2 else -1], by simp, by simp⟩
theorem runC_inner : ∀ (l : List Nd) (a st : List Int) (d d' : Int), a ≠ [] → st ≠ [] → runC l (a ++ st) d = some ([], d') → ∃ m d2, behC l st.length = some m ∧ runC (l.drop m) a d2 = some ([], d')
  | [], a, st, d, d', ha, hs, h => by
    simp only [runC, Option.some.injEq, Prod.mk.injEq, List.append_eq_nil_iff] at h
    exact absurd h.1.1 ha
  | x :: l, a, st, d, d', ha, hs, h => by
    unfold runC at h
    split at h
    · obtain ⟨⟨X, d1⟩, h1, h2⟩ := Option.bind_eq_some_iff.1 h
      obtain ⟨st', rfl, hl⟩ := stepC_app hs h1
      by_cases h0 : st' = []
      · subst h0
        refine ⟨1, d1, ?_, by simpa using h2⟩
        unfold behC
        rw [← hl]
        simp
      · obtain ⟨m, d2, hb, hr⟩ := runC_inner l a st' d1 d' ha h0 h2
        have hp : 0 < st'.length := List.length_pos_iff.2 h0
        refine ⟨m + 1, d2, ?_, hr⟩
        unfold behC
        rw [← hl, hb, if_neg (by omega)]
        rfl
    · cases h
theorem stepC_sing (k c d : Int) : stepC k [c] d = if k = 6 then (if 0 < c then none else some ([], d)) else if k = 11 then (if c < 1 then none else some ([c - 1], d)) else if (decide (0 ≤ c) && !smallK k) = true then none else some (if opensK k = true then [c, if k = 10 then 2 else -1] else [c], max d ((1 : Nat) + 1)) := rfl
inductive Els (L : List Nd) (e : Nat) : Nat → List (Nat × Nat) → Prop
  | done : Els L e e []
  | sep {i : Nat} {s : List (Nat × Nat)} (hi : i < e) (hk : (nth L i).kind = 11) (hs : Els L e (i + 1) s) : Els L e i ((i, 1) :: s)
  | item {i m : Nat} {s : List (Nat × Nat)} (hi : i < e) (hk : smallK (nth L i).kind = true) (hm : behC (L.drop i) 0 = some m) (hs : Els L e (i + m) s) : Els L e i ((i, m) :: s)
def sepsN (L : List Nd) (s : List (Nat × Nat)) : Nat := (s.filter fun x => (nth L x.1).kind == 11).length
theorem small_not {k : Int} (h : smallK k = true) : k ≠ 11 ∧ k ≠ 6 ∧ k ≠ 10 ∧ k ≠ 7 ∧ k ≠ 13 ∧ k ≠ 17 := by
  unfold smallK at h
  simp only [Bool.or_eq_true, beq_iff_eq] at h
  omega
theorem Els.le {L : List Nd} {e i : Nat} {s : List (Nat × Nat)} (h : Els L e i s) : i ≤ e := by
  induction h with
  | done => exact Nat.le_refl _
  | sep hi _ _ _ => exact Nat.le_of_lt hi
  | item hi _ _ _ _ => exact Nat.le_of_lt hi
theorem els_of_run (L : List Nd) : ∀ (n i : Nat) (c d d' : Int), L.length - i ≤ n → i ≤ L.length → 0 ≤ c → runC (L.drop i) [c] d = some ([], d') → ∃ s e d2, Els L e i s ∧ e < L.length ∧ (nth L e).kind = 6 ∧ (sepsN L s : Int) = c ∧ runC (L.drop (e + 1)) [] d2 = some ([], d')
  | n, i, c, d, d', hn, hi, hc, h => by
    by_cases hlt : i < L.length
    · match n, hn with
      | 0, hn => omega
      | n + 1, hn =>
      have e := List.drop_eq_getElem_cons hlt
      have hnth := nth_get hlt
      have h0 := h
      rw [e] at h
      unfold runC at h
      split at h
      · obtain ⟨⟨X, d1⟩, h1, h2⟩ := Option.bind_eq_some_iff.1 h
        simp only at h2
        rw [stepC_sing] at h1
        by_cases h6 : L[i].kind = 6
        · rw [if_pos h6] at h1
          by_cases h3 : 0 < c
          · rw [if_pos h3] at h1; cases h1
          · rw [if_neg h3] at h1
            cases h1
            have hc0 : c = 0 := by omega
            exact ⟨[], i, d, .done, hlt, by rw [hnth]; exact h6, by rw [hc0]; rfl, h2⟩
        · rw [if_neg h6] at h1
          by_cases h11 : L[i].kind = 11
          · rw [if_pos h11] at h1
            by_cases h3 : c < 1
            · rw [if_pos h3] at h1; cases h1
            · rw [if_neg h3] at h1
              cases h1
              obtain ⟨s, e', d2, h3, h4, h5, h7, h8⟩ := els_of_run L n (i + 1) (c - 1) d d' (by omega) hlt (by omega) (by simpa using h2)
              refine ⟨(i, 1) :: s, e', d2, .sep (by have := h3.le; omega) (by rw [hnth]; exact h11) h3, h4, h5, ?_, h8⟩
              unfold sepsN at h7 ⊢
              rw [List.filter_cons_of_pos (by rw [hnth]; simpa using h11), List.length_cons]
              omega
          · rw [if_neg h11] at h1
            by_cases hsm : (decide (0 ≤ c) && !smallK L[i].kind) = true
            · rw [if_pos hsm] at h1; cases h1
            · rw [if_neg hsm] at h1
              have hk : smallK L[i].kind = true := by
                simp only [Bool.not_eq_true, Bool.and_eq_false_iff, decide_eq_false_iff_not, Bool.not_eq_false'] at hsm
                rcases hsm with h | h
                · omega
                · exact h
              have key : ∃ m d2, behC (L.drop i) 0 = some m ∧ runC (L.drop (i + m)) [c] d2 = some ([], d') := by
                cases ho : opensK L[i].kind
                · rw [ho] at h1
                  simp only [Bool.false_eq_true, if_false] at h1
                  cases h1
                  refine ⟨1, _, ?_, h2⟩
                  rw [e]
                  unfold behC behN
                  simp [ho, h6]
                · rw [ho] at h1
                  simp only [if_true] at h1
                  cases h1
                  obtain ⟨m, d2, hb, hr⟩ := runC_inner (L.drop (i + 1)) [c] [if L[i].kind = 10 then 2 else -1] _ d' (by simp) (by simp) h2
                  refine ⟨m + 1, d2, ?_, ?_⟩
                  · rw [e]
                    unfold behC behN
                    rw [ho, if_pos rfl, if_neg (by decide)]
                    simp only [List.length_singleton] at hb
                    rw [show ((0 : Int) + 1) = ((1 : Nat) : Int) by rfl, hb]
                    rfl
                  · rw [List.drop_drop] at hr
                    rwa [show i + (m + 1) = i + 1 + m by omega]
              obtain ⟨m, d3, hb, hr⟩ := key
              have hm := behC_pos _ _ _ hb
              rw [List.length_drop] at hm
              obtain ⟨s, e', d2, h3, h4, h5, h7, h8⟩ := els_of_run L n (i + m) c d3 d' (by omega) (by omega) hc hr
              refine ⟨(i, m) :: s, e', d2, .item (by have := h3.le; omega) (by rw [hnth]; exact hk) hb h3, h4, h5, ?_, h8⟩
              unfold sepsN at h7 ⊢
              rw [List.filter_cons_of_neg (by rw [hnth]; simpa using h11)]
              exact h7
      · cases h
    · obtain rfl : i = L.length := by omega
      rw [List.drop_length] at h
      simp [runC] at h
theorem behC_app : ∀ (l r : List Nd) (n : Int) (m : Nat), behC l n = some m → behC (l ++ r) n = some m
  | [], _, _, _, h => by cases h
  | x :: l, r, n, m, h => by
    rw [List.cons_append]
    unfold behC at h ⊢
    split at h
    · rename_i h0; rw [if_pos h0]; exact h
    · rename_i h0
      rw [if_neg h0]
      obtain ⟨k, hk, rfl⟩ := Option.map_eq_some_iff.1 h
      rw [behC_app l r _ k hk]
      rfl
theorem behC_take0 : ∀ (l : List Nd) (n : Int) (m : Nat), behC l n = some m → behC (l.take m) n = some m
  | [], _, _, h => by cases h
  | x :: l, n, m, h => by
    have hp := behC_pos _ _ _ h
    obtain ⟨m', rfl⟩ : ∃ m', m = m' + 1 := ⟨m - 1, by omega⟩
    rw [List.take_succ_cons]
    unfold behC at h ⊢
    split at h
    · rename_i h0; rw [if_pos h0]; exact h
    · rename_i h0
      rw [if_neg h0]
      obtain ⟨k, hk, e⟩ := Option.map_eq_some_iff.1 h
      have : k = m' := by omega
      subst this
      rw [behC_take0 l _ k hk]
      rfl
theorem behC_lift1 : ∀ (l : List Nd) (c : Int) (m : Nat), 1 ≤ c → behC l c = some m → ∀ n, 1 ≤ n → behC l (c + n) = (behC (l.drop m) n).map (· + m)
  | [], _, _, _, h, _, _ => by cases h
  | x :: l, c, m, hc, h, n, hn => by
    have hb : behN x.kind (c + n) = behN x.kind c + n := by unfold behN; split <;> (try split) <;> omega
    have hge : 0 ≤ behN x.kind c := by unfold behN; split <;> (try split) <;> omega
    unfold behC at h
    split at h
    · rename_i h0
      cases h
      rw [behC, hb, h0, Int.zero_add, if_neg (by omega)]
      rfl
    · rename_i h0
      obtain ⟨k, hk, rfl⟩ := Option.map_eq_some_iff.1 h
      rw [behC, hb, if_neg (by omega), behC_lift1 l _ k (by omega) hk n hn, List.drop_succ_cons, Option.map_map]
      congr 1
theorem behC_lift {l : List Nd} {m : Nat} (h : behC l 0 = some m) (hk : ∀ x, l.head? = some x → x.kind ≠ 6) {n : Int} (hn : 1 ≤ n) : behC l n = (behC (l.drop m) n).map (· + m) := by
  cases l with
  | nil => cases h
  | cons x l =>
    have h6 := hk x rfl
    unfold behC at h
    have hb : behN x.kind n = behN x.kind 0 + n := by unfold behN; rw [if_neg h6, if_neg h6]; split <;> omega
    split at h
    · rename_i h0
      cases h
      rw [behC, hb, h0, Int.zero_add, if_neg (by omega)]
      rfl
    · rename_i h0
      obtain ⟨k, hk, rfl⟩ := Option.map_eq_some_iff.1 h
      have hpos : 1 ≤ behN x.kind 0 := by
        unfold behN at h0 ⊢
        rw [if_neg h6] at h0 ⊢
        split
        · omega
        · rename_i ho; rw [if_neg ho] at h0; exact absurd rfl h0
      rw [behC, hb, if_neg (by omega), behC_lift1 l _ k hpos hk n hn, List.drop_succ_cons, Option.map_map]
      congr 1
theorem items_app {X Y : List Nd} {i : Nat} {s t : List Nat} (h : Items X i s) (k : Items Y 0 t) : Items (X ++ Y) i (s ++ t.map (X.length + ·)) := by
  have shift : ∀ {j : Nat} {u : List Nat}, Items Y j u → Items (X ++ Y) (X.length + j) (u.map (X.length + ·)) := by
    intro j u hu
    induction hu with
    | done => rw [← List.length_append]; exact .done
    | step hi hm hs2 ih =>
      rename_i j m u
      refine .step (m := m) (by rw [List.length_append]; omega) ?_ (by rwa [Nat.add_assoc])
      rw [List.drop_append, List.drop_eq_nil_of_le (by omega), List.nil_append, Nat.add_sub_cancel_left]
      exact hm
  induction h with
  | done => exact shift k
  | step hi hm _ ih =>
    refine .step (by rw [List.length_append]; omega) ?_ ih
    rw [List.drop_append, Nat.sub_eq_zero_of_le (by omega), List.drop_zero]
    exact behC_app _ _ _ _ hm
theorem items_nil : Items [] 0 [] := .done
def sl (L : List Nd) (i m : Nat) : List Nd := (L.drop i).take m
theorem sl_len {L : List Nd} {i m : Nat} (h : i + m ≤ L.length) : (sl L i m).length = m := by unfold sl; simp; omega
theorem sl_sub {L : List Nd} {i m : Nat} : ∀ n ∈ sl L i m, n ∈ L := fun _ h => List.mem_of_mem_drop (List.mem_of_mem_take h)
theorem nth_sl {L : List Nd} {i m j : Nat} (hj : j < m) : nth (sl L i m) j = nth L (i + j) := by
  unfold nth sl
  rw [List.getElem?_take, if_pos hj, List.getElem?_drop]
theorem items_one {L : List Nd} {i m : Nat} (h : behC (L.drop i) 0 = some m) : Items (sl L i m) 0 [0] := by
  have hp := behC_pos _ _ _ h
  rw [List.length_drop] at hp
  have hl := sl_len (L := L) (i := i) (m := m) (by omega)
  refine .step (m := m) (by omega) ?_ ?_
  · rw [List.drop_zero]; exact behC_take0 _ _ _ h
  · rw [Nat.zero_add]
    have := Items.done (L := sl L i m)
    rwa [hl] at this
theorem items_slice {L : List Nd} {i : Nat} {s : List Nat} (h : Items L i s) {q : Nat} (hto : q ∈ s ∨ q = L.length) : Items (sl L i (q - i)) 0 ((s.takeWhile (· < q)).map (· - i)) := by
  induction h with
  | done =>
    rcases hto with h | rfl
    · cases h
    · rw [Nat.sub_self]; exact items_nil
  | step hi hm hs ih =>
    rename_i i m s
    have hp := behC_pos _ _ _ hm
    rw [List.length_drop] at hp
    by_cases he : q = i
    · subst he
      rw [Nat.sub_self, List.takeWhile_cons_of_neg (by simp)]
      exact items_nil
    · have hto' : q ∈ s ∨ q = L.length := by
        rcases hto with h | h
        · rcases List.mem_cons.1 h with h | h
          · exact absurd h he
          · exact .inl h
        · exact .inr h
      have hge : i + m ≤ q := by
        rcases hto' with h | h
        · exact (hs.lt q h).1
        · omega
      have hle : q ≤ L.length := by
        rcases hto' with h | h
        · exact Nat.le_of_lt (hs.lt q h).2
        · omega
      have h1 := items_app (items_one hm) (ih hto')
      have e : sl L i m ++ sl L (i + m) (q - (i + m)) = sl L i (q - i) := by
        unfold sl
        rw [← List.drop_drop, ← List.take_add]
        congr 1
        omega
      rw [e, sl_len (by omega)] at h1
      rw [List.takeWhile_cons_of_pos (by simp; omega)]
      have e2 : ((i :: s.takeWhile (· < q)).map (· - i)) = [0] ++ (((s.takeWhile (· < q)).map (· - (i + m))).map (m + ·)) := by
        rw [List.map_cons, Nat.sub_self, List.map_map]
        show _ = 0 :: _
        congr 1
        refine List.map_congr_left fun x hx => ?_
        have := (hs.lt x ((List.takeWhile_sublist _).subset hx)).1
        simp only [Function.comp]
        omega
      rw [e2]
      exact h1
def elsF (L : List Nd) : Nat → Nat → List (Nat × Nat)
  | 0, _ => []
  | n + 1, i => if (nth L i).kind = 6 then [] else if (nth L i).kind = 11 then (i, 1) :: elsF L n (i + 1) else match behC (L.drop i) 0 with | none => [] | some m => (i, m) :: elsF L n (i + m)
theorem elsF_eq {L : List Nd} {e i : Nat} {s : List (Nat × Nat)} (h : Els L e i s) (he : (nth L e).kind = 6) : ∀ n, e - i < n → elsF L n i = s := by
  induction h with
  | done =>
    intro n hn
    obtain ⟨n, rfl⟩ : ∃ k, n = k + 1 := ⟨n - 1, by omega⟩
    rw [elsF, if_pos he]
  | sep hi hk hs ih =>
    intro n hn
    obtain ⟨n, rfl⟩ : ∃ k, n = k + 1 := ⟨n - 1, by omega⟩
    rw [elsF, if_neg (by rw [hk]; decide), if_pos hk, ih n (by omega)]
  | item hi hk hm hs ih =>
    intro n hn
    obtain ⟨n, rfl⟩ : ∃ k, n = k + 1 := ⟨n - 1, by omega⟩
    have hp := behC_pos _ _ _ hm
    have hle := hs.le
    have hn6 := small_not hk
    rw [elsF, if_neg hn6.2.1, if_neg hn6.1, hm]
    simp only
    rw [ih n (by omega)]
abbrev Three := List Nd × List Nd × List Nd
def addP (t : Three) (k : Nat) (x : List Nd) : Three :=
  match k with
  | 0 => (t.1 ++ x, t.2.1, t.2.2)
  | 1 => (t.1, t.2.1 ++ x, t.2.2)
  | _ => (t.1, t.2.1, t.2.2 ++ x)
def thrF (L : List Nd) : List (Nat × Nat) → Nat → Three → Three
  | [], _, t => t
  | x :: s, k, t => if (nth L x.1).kind = 11 then thrF L s (k + 1) t else thrF L s k (addP t k (sl L x.1 x.2))
def threeP (L : List Nd) (x : Nat) : Three := thrF L (elsF L L.length (x + 1)) 0 ([], [], [])
structure PartOK (L X : List Nd) : Prop where
  items : ∃ s, Items X 0 s ∧ ∀ x ∈ s, smallK (nth X x).kind = true
  sub : ∀ n ∈ X, n ∈ L
theorem PartOK.nil (L : List Nd) : PartOK L [] := ⟨⟨[], items_nil, fun _ h => by cases h⟩, fun _ h => by cases h⟩
theorem PartOK.add {L X : List Nd} (h : PartOK L X) {i m : Nat} (hk : smallK (nth L i).kind = true) (hm : behC (L.drop i) 0 = some m) : PartOK L (X ++ sl L i m) := by
  obtain ⟨s, hs, hsm⟩ := h.items
  have hp := behC_pos _ _ _ hm
  refine ⟨⟨_, items_app hs (items_one hm), fun x hx => ?_⟩, fun n hn => ?_⟩
  · rcases List.mem_append.1 hx with hx | hx
    · have hlt := (hs.lt x hx).2
      have e : nth (X ++ sl L i m) x = nth X x := by unfold nth; rw [List.getElem?_append_left hlt]
      rw [e]; exact hsm x hx
    · simp only [List.map_cons, List.map_nil, List.mem_singleton, Nat.add_zero] at hx
      subst hx
      have e : nth (X ++ sl L i m) X.length = nth L i := by
        unfold nth
        rw [List.getElem?_append_right (Nat.le_refl _), Nat.sub_self]
        have := nth_sl (L := L) (i := i) (m := m) (j := 0) (by omega)
        unfold nth at this
        rw [this]; rfl
      rw [e]; exact hk
  · rcases List.mem_append.1 hn with hn | hn
    · exact h.sub n hn
    · exact sl_sub n hn
structure ThreeOK (L : List Nd) (t : Three) : Prop where
  a : PartOK L t.1
  b : PartOK L t.2.1
  c : PartOK L t.2.2
theorem ThreeOK.add {L : List Nd} {t : Three} (h : ThreeOK L t) (k : Nat) {i m : Nat} (hk : smallK (nth L i).kind = true) (hm : behC (L.drop i) 0 = some m) : ThreeOK L (addP t k (sl L i m)) := by
  unfold addP
  split
  · exact ⟨h.a.add hk hm, h.b, h.c⟩
  · exact ⟨h.a, h.b.add hk hm, h.c⟩
  · exact ⟨h.a, h.b, h.c.add hk hm⟩
theorem thrF_ok {L : List Nd} {e i : Nat} {s : List (Nat × Nat)} (h : Els L e i s) : ∀ (k : Nat) (t : Three), ThreeOK L t → ThreeOK L (thrF L s k t) := by
  induction h with
  | done => intro k t ht; exact ht
  | sep hi hk hs ih =>
    intro k t ht
    rw [thrF, if_pos hk]
    exact ih (k + 1) t ht
  | item hi hk hm hs ih =>
    intro k t ht
    rw [thrF, if_neg (small_not hk).1]
    exact ih k _ (ht.add k hk hm)
theorem thrF_len {L : List Nd} {e i : Nat} {s : List (Nat × Nat)} (h : Els L e i s) (hl : e ≤ L.length) : ∀ (k : Nat) (t : Three), (thrF L s k t).1.length + (thrF L s k t).2.1.length + (thrF L s k t).2.2.length ≤ t.1.length + t.2.1.length + t.2.2.length + (e - i) := by
  induction h with
  | done => intro k t; simp [thrF]
  | sep hi hk hs ih =>
    intro k t
    have := ih (k + 1) t
    rw [thrF, if_pos hk]
    omega
  | item hi hk hm hs ih =>
    rename_i i m s
    intro k t
    have := ih k (addP t k (sl L i m))
    have hle := hs.le
    have hsl := sl_len (L := L) (i := i) (m := m) (by omega)
    rw [thrF, if_neg (small_not hk).1]
    have e3 : (addP t k (sl L i m)).1.length + (addP t k (sl L i m)).2.1.length + (addP t k (sl L i m)).2.2.length = t.1.length + t.2.1.length + t.2.2.length + m := by
      unfold addP
      split <;> simp [hsl] <;> omega
    simp only
    omega
structure DiscAt (L : List Nd) (x m : Nat) (s : List (Nat × Nat)) : Prop where
  beh : behC (L.drop x) 0 = some m
  els : Els L (x + m - 1) (x + 1) s
  two : 2 ≤ m
  lt : x + m ≤ L.length
  end_ : (nth L (x + m - 1)).kind = 6
  seps : sepsN L s = 2
  eq : threeP L x = thrF L s 0 ([], [], [])
theorem els_beh {L : List Nd} {e i : Nat} {s : List (Nat × Nat)} (h : Els L e i s) (he : (nth L e).kind = 6) (hl : e < L.length) : behC (L.drop i) 1 = some (e + 1 - i) := by
  induction h with
  | done =>
    rw [List.drop_eq_getElem_cons hl, behC, ← nth_get hl, he, if_pos (by decide)]
    congr 1; omega
  | sep hi hk hs ih =>
    rename_i i s
    have hil : i < L.length := by omega
    rw [List.drop_eq_getElem_cons hil, behC, ← nth_get hil, hk, if_neg (by decide)]
    rw [show behN 11 1 = 1 by decide, ih]
    simp; omega
  | item hi hk hm hs ih =>
    rename_i i m s
    have hil : i < L.length := by omega
    have hle := hs.le
    rw [behC_lift hm (fun x hx => ?_) (Int.le_refl 1), List.drop_drop, ih]
    · simp; omega
    · rw [List.head?_drop, List.getElem?_eq_getElem hil] at hx
      cases hx
      rw [← nth_get hil]
      exact (small_not hk).2.1
theorem items_run2 {L : List Nd} {i : Nat} {s : List Nat} (h : Items L i s) : ∀ {d d' : Int}, runC (L.drop i) [] d = some ([], d') → ∀ x ∈ s, ∃ d2, runC (L.drop x) [] d2 = some ([], d') := by
  induction h with
  | done => intro d d' _ x hx; cases hx
  | step hi hm hs ih =>
    rename_i i m s
    intro d d' hr x hx
    rcases List.mem_cons.1 hx with rfl | hx
    · exact ⟨d, hr⟩
    · have e := List.drop_eq_getElem_cons hi
      rw [e] at hr
      obtain ⟨m2, d2, hb, hr2⟩ := runC_top hr
      rw [← e] at hb hr2
      rw [hm] at hb
      cases hb
      rw [List.drop_drop] at hr2
      exact ih hr2 x hx
theorem disc_at {L : List Nd} {s : List Nat} (hc : checkC L = 0) (hs : Items L 0 s) {x : Nat} (hx : x ∈ s) (hk : (nth L x).kind = 10) : ∃ m u, DiscAt L x m u := by
  obtain ⟨_, d, _, hr⟩ := checkC_zero hc
  obtain ⟨d1, h1⟩ := items_run2 hs (by rw [List.drop_zero]; exact hr) x hx
  have hlt := (hs.lt x hx).2
  rw [List.drop_eq_getElem_cons hlt] at h1
  unfold runC at h1
  split at h1
  · obtain ⟨⟨X, d2⟩, h2, h3⟩ := Option.bind_eq_some_iff.1 h1
    have hst : X = [2] := by
      rw [← nth_get hlt, hk] at h2
      have e : stepC 10 [] d1 = some ([2], max d1 (0 + 1)) := rfl
      rw [e] at h2
      cases h2; rfl
    subst hst
    obtain ⟨u, e, d3, h4, h5, h6, h7, _⟩ := els_of_run L L.length (x + 1) 2 d2 d (by omega) hlt (by decide) h3
    have hle := h4.le
    have hb := els_beh h4 h6 h5
    have hbx : behC (L.drop x) 0 = some (e + 1 - x) := by
      rw [List.drop_eq_getElem_cons hlt, behC, ← nth_get hlt, hk]
      rw [show behN 10 0 = 1 by decide, if_neg (by decide), hb]
      simp; omega
    have he : x + (e + 1 - x) - 1 = e := by omega
    refine ⟨e + 1 - x, u, hbx, by rw [he]; exact h4, by omega, by omega, by rw [he]; exact h6, by exact_mod_cast h7, ?_⟩
    unfold threeP
    rw [elsF_eq h4 h6 L.length (by omega)]
  · cases h1
theorem disc_ok {L : List Nd} {x m : Nat} {u : List (Nat × Nat)} (h : DiscAt L x m u) : ThreeOK L (threeP L x) ∧ (threeP L x).1.length + (threeP L x).2.1.length + (threeP L x).2.2.length ≤ m := by
  have h2 := h.two
  have hl := h.lt
  rw [h.eq]
  refine ⟨thrF_ok h.els 0 _ ⟨.nil L, .nil L, .nil L⟩, ?_⟩
  have := thrF_len h.els (by omega) 0 ([], [], [])
  simp only [List.length_nil] at this
  omega
end Go.Proofs.YtiijpbfkchokaaaGreat
