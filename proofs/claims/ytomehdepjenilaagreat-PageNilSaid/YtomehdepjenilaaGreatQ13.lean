/-
  What is a list has items, one behind the other (plain).
-/
import Derived.Test.YtomehdepjenilaaGreatV8
import Derived.Test.YtomehdepjenilaaGreatVBs
import Derived.Great.BuildSlice
import Derived.Laws.OwnMore
namespace Go.Proofs.YtomehdepjenilaaGreat

theorem stepC_len {k : Int} {st st' : List Int} {d d' : Int} (h : stepC k st d = some (st', d')) : (st'.length : Int) = behN k st.length ∧ (st = [] → k ≠ 6 ∧ k ≠ 11) := by
  unfold stepC at h
  unfold behN
  split at h
  · rename_i h6
    subst h6
    cases hl : st.getLast? with
    | none => rw [hl] at h; cases h
    | some x =>
      rw [hl] at h
      simp only at h
      split at h
      · cases h
      · simp only [Option.some.injEq, Prod.mk.injEq] at h
        obtain ⟨rfl, _⟩ := h
        have hne : st ≠ [] := by intro e; rw [e] at hl; cases hl
        have := List.length_pos_iff.2 hne
        refine ⟨?_, fun e => absurd e hne⟩
        rw [List.length_dropLast]
        simp [opensK]; omega
  · rename_i h6
    split at h
    · rename_i h11
      subst h11
      cases hl : st.getLast? with
      | none => rw [hl] at h; cases h
      | some x =>
        rw [hl] at h
        simp only at h
        split at h
        · cases h
        · simp only [Option.some.injEq, Prod.mk.injEq] at h
          obtain ⟨rfl, _⟩ := h
          have hne : st ≠ [] := by intro e; rw [e] at hl; cases hl
          refine ⟨?_, fun e => absurd e hne⟩
          rw [List.length_set]
          simp [opensK]
    · rename_i h11
      refine ⟨?_, fun _ => ⟨h6, h11⟩⟩
      have h2 : ∀ bad : Bool, (if bad = true then none else some (if opensK k = true then st ++ [if k = 10 then (2 : Int) else -1] else st, max d (st.length + 1))) = some (st', d') → (if opensK k = true then st ++ [if k = 10 then (2 : Int) else -1] else st) = st' := by
        intro bad hb
        cases bad
        · simp only [Bool.false_eq_true, if_false, Option.some.injEq, Prod.mk.injEq] at hb
          exact hb.1
        · simp at hb
      have h3 := h2 _ h
      rw [← h3, if_neg h6]
      split
      · simp
      · rfl
theorem runC_item : ∀ (l : List Nd) (st : List Int) (d d' : Int), runC l st d = some ([], d') → 0 < st.length → ∃ m d2, behC l st.length = some m ∧ runC (l.drop m) [] d2 = some ([], d')
  | [], st, d, d', h, hn => by
    simp only [runC, Option.some.injEq, Prod.mk.injEq] at h
    rw [h.1] at hn; simp at hn
  | x :: l, st, d, d', h, hn => by
    unfold runC at h
    split at h
    · obtain ⟨⟨st', d1⟩, hs, hr⟩ := Option.bind_eq_some_iff.1 h
      obtain ⟨hl, _⟩ := stepC_len hs
      simp only at hr
      by_cases h0 : st'.length = 0
      · have e : st' = [] := List.length_eq_zero_iff.1 h0
        subst e
        refine ⟨1, d1, ?_, hr⟩
        unfold behC
        rw [← hl]
        simp
      · obtain ⟨m, d2, hb, hr2⟩ := runC_item l st' d1 d' hr (by omega)
        refine ⟨m + 1, d2, ?_, hr2⟩
        unfold behC
        rw [← hl, hb, if_neg (by omega)]
        rfl
    · cases h
theorem runC_top {x : Nd} {l : List Nd} {d d' : Int} (h : runC (x :: l) [] d = some ([], d')) : ∃ m d2, behC (x :: l) 0 = some m ∧ runC ((x :: l).drop m) [] d2 = some ([], d') := by
  unfold runC at h
  split at h
  · obtain ⟨⟨st', d1⟩, hs, hr⟩ := Option.bind_eq_some_iff.1 h
    obtain ⟨hl, _⟩ := stepC_len hs
    simp only at hr
    by_cases h0 : st'.length = 0
    · have e : st' = [] := List.length_eq_zero_iff.1 h0
      subst e
      refine ⟨1, d1, ?_, hr⟩
      unfold behC
      have hl' : behN x.kind 0 = 0 := hl.symm
      rw [if_pos hl']
    · obtain ⟨m, d2, hb, hr2⟩ := runC_item l st' d1 d' hr (by omega)
      refine ⟨m + 1, d2, ?_, hr2⟩
      unfold behC
      have hl' : behN x.kind 0 = (st'.length : Int) := hl.symm
      rw [hl', hb, if_neg (by omega)]
      rfl
  · cases h
theorem items_of_run (L : List Nd) : ∀ (n i : Nat) (d d' : Int), L.length - i ≤ n → i ≤ L.length → runC (L.drop i) [] d = some ([], d') → ∃ s, Items L i s
  | n, i, d, d', hn, hi, h => by
    by_cases hlt : i < L.length
    · have e := List.drop_eq_getElem_cons hlt
      rw [e] at h
      obtain ⟨m, d2, hb, hr⟩ := runC_top h
      rw [← e] at hb hr
      have hm := behC_pos _ _ _ hb
      rw [List.length_drop] at hm
      rw [List.drop_drop] at hr
      match n, hn with
      | 0, hn => omega
      | n + 1, hn =>
        obtain ⟨s, hs⟩ := items_of_run L n (i + m) d2 d' (by omega) (by omega) hr
        exact ⟨i :: s, .step hlt hb hs⟩
    · obtain rfl : i = L.length := by omega
      exact ⟨[], .done⟩
theorem checkC_zero {L : List Nd} (h : checkC L = 0) : L.length ≤ 2000 ∧ ∃ d, d ≤ 40 ∧ runC L [] 0 = some ([], d) := by
  unfold checkC at h
  split at h
  · cases h
  · rename_i hn
    refine ⟨by omega, ?_⟩
    cases hr : runC L [] 0 with
    | none => rw [hr] at h; cases h
    | some r =>
      obtain ⟨st, d⟩ := r
      rw [hr] at h
      simp only [codeC] at h
      split at h
      · cases h
      · rename_i h0
        split at h
        · cases h
        · exact ⟨d, by omega, by rw [show st = [] from List.length_eq_zero_iff.1 (by omega)]⟩
theorem items_of_check {L : List Nd} (h : checkC L = 0) : ∃ s, Items L 0 s := by
  obtain ⟨_, d, _, hr⟩ := checkC_zero h
  exact items_of_run L L.length 0 0 d (by omega) (Nat.zero_le _) (by rw [List.drop_zero]; exact hr)
noncomputable def itemsP (L : List Nd) : List Nat := open Classical in if h : checkC L = 0 then (items_of_check h).choose else []
theorem itemsP_spec {L : List Nd} (h : checkC L = 0) : Items L 0 (itemsP L) := by
  unfold itemsP
  rw [dif_pos h]
  exact (items_of_check h).choose_spec
end Go.Proofs.YtomehdepjenilaaGreat

namespace Go.Proofs.YtomehdepjenilaaGreat
open Go.RowKit
theorem behC_app : ∀ (l r : List Nd) (n : Int) (m : Nat), behC l n = some m → behC (l ++ r) n = some m
  | [], _, _, _, h => by cases h
  | x :: l, r, n, m, h => by
    rw [List.cons_append]
    unfold behC at h ⊢
    split at h
    · rename_i h0; rw [if_pos h0]; exact h
    · rename_i h0
      rw [if_neg h0]
      obtain ⟨k, hk, rfl⟩ := Option.map_eq_some_iff.1 h
      rw [behC_app l r _ k hk]
      rfl
end Go.Proofs.YtomehdepjenilaaGreat
namespace Go.Proofs.YtomehdepjenilaaGreat
open Go.ChangeShapes Go.WideShapes Go.ChangeAt Go.RowKit
attribute [local go_sem ↓] Go.wp_at_zero Go.wp_at_succ

def solidK (k : Int) : Bool := k == 4 || k == 5 || k == 3
def fallsK (k : Int) : Bool := k == 7 || k == 8 || k == 9
set_option maxHeartbeats 1000000 in
theorem vfalls (n : Nd) (w : World) : Calls Tryz.prog 87 #[.agg n.arr] w fun e w' => e = .returned (.bool (fallsK n.kind)) ∧ Below w.heap.size w w' := by
  cases h0 : (n.kind == 7)
  rotate_left
  · go_enter Tryz.func87, Tryz.ntmps87
    go_wp2_with fail
    go_ret
    exact ⟨ret_bool (by simp [fallsK, h0]), (Below.refl _ _).alloc (Nat.le_refl _) _⟩
  cases h1 : (n.kind == 8)
  rotate_left
  · go_enter Tryz.func87, Tryz.ntmps87
    go_wp2_with fail
    go_ret
    exact ⟨ret_bool (by simp [fallsK, h0, h1]), (Below.refl _ _).alloc (Nat.le_refl _) _⟩
  cases h2 : (n.kind == 9)
  rotate_left
  · go_enter Tryz.func87, Tryz.ntmps87
    go_wp2_with fail
    go_ret
    exact ⟨ret_bool (by simp [fallsK, h0, h1, h2]), (Below.refl _ _).alloc (Nat.le_refl _) _⟩
  go_enter Tryz.func87, Tryz.ntmps87
  go_wp2_with fail
  go_ret
  exact ⟨ret_bool (by simp [fallsK, h0, h1, h2]), (Below.refl _ _).alloc (Nat.le_refl _) _⟩

end Go.Proofs.YtomehdepjenilaaGreat




namespace Go.Proofs.YtomehdepjenilaaGreat
open Go.ChangeShapes Go.WideShapes Go.ChangeAt Go.RowKit
attribute [local go_sem ↓] Go.wp_at_zero Go.wp_at_succ

structure Mk where
  first : ByteArray
  last : ByteArray
  some : Bool
def Mk.none : Mk := ⟨⟨#[]⟩, ⟨#[]⟩, false⟩
def mkStep (n : Nd) (a : Mk) : Mk := if n.kind = 12 then ⟨if a.some then a.first else n.text, n.text, true⟩ else a
def marksP (L : List Nd) (s : List Nat) : Mk := s.foldl (fun a i => mkStep (nth L i) a) Mk.none
theorem marksP_step {L : List Nd} {s t : List Nat} {x : Nat} (h : t = s ++ [x]) : marksP L t = mkStep (nth L x) (marksP L s) := by rw [h]; simp [marksP]
def marksR (L : List Nd) (s : List Nat) : Mk := if colP L s = 0 then marksP L s else Mk.none
def Mk.vals (m : Mk) (e : Int) : Value := .tuple #[.string m.first, .string m.last, .bool m.some, .int .i64 e]
theorem colP_check {L : List Nd} {s : List Nat} (h : colP L s = 0) : checkC L = 0 := by
  unfold colP at h
  split at h
  · assumption
  · exact h
end Go.Proofs.YtomehdepjenilaaGreat
namespace Go.Proofs.YtomehdepjenilaaGreat
open Go.RowKit
def qOf (L : List Nd) (prev : Option Nat) (i : Nat) : Int :=
  if ((nth L i).kind == 7 && prev.any fun j => !fallsK (nth L j).kind) = true then 0
  else if ((nth L i).kind == 8 && decide (i + 1 < L.length) && (nth L (i + 1)).kind == 7) = true then 0
  else if ((nth L i).kind == 9) = true then (nth L i).pen else 10000
def brk (i : Nat) (q : Int) : List (Nat × Int) := if q < 10000 then [(i, q)] else []
def breaksF (L : List Nd) : Option Nat → List Nat → List (Nat × Int)
  | _, [] => []
  | prev, i :: s => brk i (qOf L prev i) ++ breaksF L (some i) s
def lastO (prev : Option Nat) (pre : List Nat) : Option Nat := match pre.getLast? with | some x => some x | none => prev
theorem lastO_snoc (prev : Option Nat) (pre : List Nat) (x : Nat) : lastO prev (pre ++ [x]) = some x := by simp [lastO]
theorem lastO_cons (prev : Option Nat) (i : Nat) (pre : List Nat) : lastO prev (i :: pre) = lastO (some i) pre := by
  unfold lastO
  cases pre with
  | nil => rfl
  | cons a r => simp [List.getLast?_cons]
theorem breaksF_append (L : List Nd) : ∀ (pre rest : List Nat) (prev : Option Nat), breaksF L prev (pre ++ rest) = breaksF L prev pre ++ breaksF L (lastO prev pre) rest
  | [], rest, prev => by simp [breaksF, lastO]
  | i :: pre, rest, prev => by
    rw [List.cons_append, breaksF, breaksF, breaksF_append L pre rest (some i), List.append_assoc, lastO_cons]
theorem breaksF_snoc (L : List Nd) (pre : List Nat) (i : Nat) : breaksF L none (pre ++ [i]) = breaksF L none pre ++ brk i (qOf L (lastO none pre) i) := by
  rw [breaksF_append]; simp [breaksF]
theorem breaksF_len (L : List Nd) : ∀ (s : List Nat) (prev : Option Nat), (breaksF L prev s).length ≤ s.length
  | [], _ => Nat.le_refl _
  | i :: s, prev => by
    rw [breaksF, List.length_append, List.length_cons]
    have := breaksF_len L s (some i)
    have h2 : (brk i (qOf L prev i)).length ≤ 1 := by unfold brk; split <;> simp
    omega
def legalP (L : List Nd) (s : List Nat) : List (Nat × Int) := breaksF L none s ++ [(L.length, -10000)]
def BrOk (L : List Nd) (s : List Nat) (x : Nat × Int) : Prop := (x.1 ∈ s ∧ x.2 < 10000 ∧ ∃ prev, x.2 = qOf L prev x.1) ∨ x = (L.length, -10000)
abbrev Br (L : List Nd) (s : List Nat) := {x : Nat × Int // BrOk L s x}
def lastV (prev : Option Nat) : Int := match prev with | some j => j | none => -1
theorem breaksF_pre {L : List Nd} {s pre : List Nat} (h : pre <+: s) : breaksF L none pre <+: legalP L s := by
  obtain ⟨r, rfl⟩ := h
  unfold legalP
  rw [breaksF_append, List.append_assoc]
  exact List.prefix_append _ _
theorem lastO_mem {pre : List Nat} {j : Nat} (h : lastO none pre = some j) : j ∈ pre := by
  unfold lastO at h
  cases hp : pre.getLast? with
  | none => rw [hp] at h; cases h
  | some x => rw [hp] at h; cases h; exact List.mem_of_getLast? hp
end Go.Proofs.YtomehdepjenilaaGreat
namespace Go.Proofs.YtomehdepjenilaaGreat
open Go.ChangeShapes Go.WideShapes Go.ChangeAt Go.RowKit
attribute [local go_sem ↓] Go.wp_at_zero Go.wp_at_succ

def itemN (L : List Nd) (i : Nat) : List Nd := (L.drop i).take ((behC (L.drop i) 0).getD 0)
def topNat (g : Gl) (h : Int) : Int := min 1073741823 (max 0 (g.nat - h))
def topN (g : Gl) (h : Int) : Nd := { Nd.zero with kind := 7, glue := { g with nat := topNat g h }, sub := 10 }
def prunF (L : List Nd) (g : Gl) : List Nat → List Nd → List Nd
  | [], out => out
  | i :: s, out => if solidK (nth L i).kind then out ++ topN g (nth L i).h :: L.drop i else prunF L g s (if fallsK (nth L i).kind then out else out ++ itemN L i)
def topB (g : Gl) : Bool := g.good && (g.ho == 0 || g.shr == 0)
end Go.Proofs.YtomehdepjenilaaGreat
namespace Go.Proofs.YtomehdepjenilaaGreat
open Go.ChangeShapes Go.WideShapes Go.ChangeAt Go.RowKit
attribute [local go_sem ↓] Go.wp_at_zero Go.wp_at_succ

def NRow (w : World) (v : Value) (R : List Nd) (w' : World) : Prop := w'.ownsRow w.heap.size 49 19 v R.length (R.flatMap Nd.cells)
end Go.Proofs.YtomehdepjenilaaGreat
namespace Go.Proofs.YtomehdepjenilaaGreat
open Go.ChangeShapes Go.WideShapes Go.ChangeAt Go.RowKit
attribute [local go_sem ↓] Go.wp_at_zero Go.wp_at_succ

def prunC (L : List Nd) (s : List Nat) (g : Gl) : Int := if colP L s = 0 then (if topB g then (if 2000 < (prunF L g s []).length then 6 else 0) else 30) else colP L s
end Go.Proofs.YtomehdepjenilaaGreat
