/-
  vlist.measured: what stands ahead of a place of a good column.
-/
import Derived.Test.YtomehdepjenilaaGreatH0
import Derived.Test.YtomehdepjenilaaGreatS4
import Derived.Test.YtomehdepjenilaaGreatV11b
namespace Go.Proofs.YtomehdepjenilaaGreat
open Go.ChangeShapes Go.WideShapes Go.ChangeAt Go.RowKit Go.Shelf
attribute [local go_sem] Oper.semAt_some
def foldM (L : List Nd) (depth : Int) (pre : List Nat) : Mt := pre.foldl (fun m i => passM (nth L i) m) ⟨.zero, 0, depth⟩
theorem foldM_snoc (L : List Nd) (depth : Int) (pre : List Nat) (x : Nat) : foldM L depth (pre ++ [x]) = passM (nth L x) (foldM L depth pre) := by simp [foldM]
theorem passM_depth (n : Nd) (m : Mt) : (passM n m).depth = m.depth := by
  unfold passM
  split <;> try rfl
  split <;> try rfl
  split <;> try rfl
  split <;> rfl
theorem foldM_depth (L : List Nd) (depth : Int) (pre : List Nat) : (foldM L depth pre).depth = depth := by
  unfold foldM
  suffices h : ∀ m : Mt, (pre.foldl (fun m i => passM (nth L i) m) m).depth = m.depth by exact h _
  induction pre with
  | nil => intro m; rfl
  | cons a r ih => intro m; rw [List.foldl_cons, ih, passM_depth]
theorem foldM_bound (L : List Nd) (depth : Int) : ∀ (pre : List Nat) (m : Mt) (K : Int), MtB K m → (∀ i ∈ pre, NdB (nth L i)) → MtB (K + pre.length * 4294967296) (pre.foldl (fun m i => passM (nth L i) m) m)
  | [], m, K, h, _ => by simpa using h
  | a :: r, m, K, h, hn => by
    have := foldM_bound L depth r (passM (nth L a) m) (K + 4294967296) (h.pass (hn a List.mem_cons_self)) (fun i hi => hn i (List.mem_cons_of_mem _ hi))
    rw [List.foldl_cons]
    have e : K + 4294967296 + (r.length : Int) * 4294967296 = K + ((a :: r).length : Int) * 4294967296 := by simp; omega
    rw [e] at this
    exact this
theorem mtB_zero (depth : Int) : MtB 0 ⟨.zero, 0, depth⟩ := ⟨by simp [Tt.zero], fun j => by match j with | 0 | 1 | 2 | _ + 3 => simp [Tt.st, Tt.zero], fun j => by match j with | 0 | 1 | 2 | _ + 3 => simp [Tt.sh, Tt.zero], by simp⟩
theorem foldM_ok {L : List Nd} {depth : Int} {pre : List Nat} (hn : ∀ i ∈ pre, NdB (nth L i)) (hl : pre.length ≤ 2001) : MtB 8800000000000 (foldM L depth pre) := by
  have this : MtB (0 + pre.length * 4294967296) (foldM L depth pre) := foldM_bound L depth pre _ 0 (mtB_zero depth) hn
  have hb : (0 : Int) + (pre.length : Int) * 4294967296 ≤ 8800000000000 := by omega
  exact ⟨⟨by have := this.nat; omega, by have := this.nat; omega⟩, fun j => ⟨by have := this.st j; omega, by have := this.st j; omega⟩, fun j => ⟨by have := this.sh j; omega, by have := this.sh j; omega⟩, this.d⟩
def aheadP (s : List Nat) (t : Nat) : List Nat := s.takeWhile (· != t)
def measP (L : List Nd) (s : List Nat) (t : Nat) (depth : Int) : Tt × Int := sizeM (foldM L depth (aheadP s t))
theorem ahead_none {s : List Nat} {t : Nat} (h : ∀ x ∈ s, x ≠ t) : aheadP s t = s := by
  unfold aheadP
  induction s with
  | nil => rfl
  | cons a r ih => rw [List.takeWhile_cons, if_pos (by simpa using h a List.mem_cons_self), ih (fun x hx => h x (List.mem_cons_of_mem _ hx))]
end Go.Proofs.YtomehdepjenilaaGreat
namespace Go.Proofs.YtomehdepjenilaaGreat
open Go.ChangeShapes Go.WideShapes Go.ChangeAt Go.RowKit Go.Shelf
attribute [local go_sem] Oper.semAt_some
def foundB (L : List Nd) (s : List Nat) (tk : Int) : Bool := (tk == (L.length : Int)) || s.any fun x => (x : Int) == tk
def sizeR (L : List Nd) (s : List Nat) (tk depth : Int) : Tt × Int × Int :=
  if colP L s = 0 then (if foundB L s tk then (if dimenB depth then ((measP L s tk.toNat depth).1, (measP L s tk.toNat depth).2, 0) else (.zero, 0, 11)) else (.zero, 0, 3)) else (.zero, 0, colP L s)
end Go.Proofs.YtomehdepjenilaaGreat
namespace Go.Proofs.YtomehdepjenilaaGreat
open Go.ChangeShapes Go.WideShapes Go.ChangeAt Go.RowKit
def alongN (n : Nd) : Int := if solidK n.kind then n.h + n.d else if n.kind == 8 then n.w else if n.kind == 7 then n.glue.nat else 0
def sumN (n : Nd) (T : Tt) : Tt := let T1 : Tt := { T with nat := T.nat + alongN n }; if n.kind == 7 then T1.glue n.glue else T1
def sumP (L : List Nd) (s : List Nat) : Tt := s.foldl (fun T i => sumN (nth L i) T) .zero
theorem glue_nat (T : Tt) (g : Gl) (a : Int) : ({ T with nat := a } : Tt).glue g = { T.glue g with nat := a } := by
  simp only [Tt.glue]
  generalize g.so.toNat = i
  generalize g.ho.toNat = j
  match i with
  | 0 | 1 | 2 | _ + 3 => match j with | 0 | 1 | 2 | _ + 3 => rfl
def Mt.all (m : Mt) : Tt := { m.t with nat := m.t.nat + m.d }
theorem light_not {k : Int} (h : lightK k = true) : solidK k = false ∧ (k == 8) = false ∧ (k == 7) = false := by
  simp [lightK] at h
  simp [solidK]
  omega
theorem all_pass (n : Nd) (m : Mt) : (passM n m).all = sumN n m.all := by
  unfold passM sumN alongN
  cases hl : lightK n.kind
  · cases hs : solidK n.kind
    · cases h8 : (n.kind == 8)
      · cases h7 : (n.kind == 7)
        · simp [Mt.all]
        · simp only [Mt.all, if_true, Bool.false_eq_true, if_false, glue_nat, Int.add_zero]
      · have h7 : (n.kind == 7) = false := by
          have h9 : n.kind = 8 := by simpa using h8
          rw [h9]; rfl
        simp [Mt.all, h7]
    · have h7 : (n.kind == 7) = false := by simp [solidK] at hs; simp; omega
      simp [Mt.all, h7]; omega
  · obtain ⟨h1, h2, h3⟩ := light_not hl
    simp [Mt.all, h1, h2, h3]
theorem sum_all (L : List Nd) (depth : Int) (s : List Nat) : sumP L s = (foldM L depth s).all := by
  unfold sumP foldM
  suffices h : ∀ m : Mt, s.foldl (fun T i => sumN (nth L i) T) m.all = (s.foldl (fun m i => passM (nth L i) m) m).all by
    exact h ⟨.zero, 0, depth⟩
  induction s with
  | nil => intro m; rfl
  | cons a r ih => intro m; rw [List.foldl_cons, List.foldl_cons, ← all_pass, ih]
theorem sumP_snoc (L : List Nd) (s : List Nat) (x : Nat) : sumP L (s ++ [x]) = sumN (nth L x) (sumP L s) := by simp [sumP]
def lastD (L : List Nd) : List Nat → Int
  | [] => 0
  | x :: r => if lightK (nth L x).kind then lastD L r else if solidK (nth L x).kind then (nth L x).d else 0
theorem fold_d (L : List Nd) (depth : Int) (s : List Nat) : (foldM L depth s).d = lastD L s.reverse := by
  suffices h : ∀ r : List Nat, (foldM L depth r.reverse).d = lastD L r by simpa using h s.reverse
  intro r
  induction r with
  | nil => rfl
  | cons x r ih =>
    rw [List.reverse_cons, foldM_snoc]
    unfold lastD passM
    split
    · exact ih
    · split
      · rfl
      · split
        · rfl
        · split <;> rfl
theorem behC_take : ∀ (l : List Nd) (n : Int) (m k : Nat), behC l n = some m → m ≤ k → behC (l.take k) n = some m
  | [], _, _, _, h, _ => by cases h
  | x :: l, n, m, k, h, hk => by
    have hm := behC_pos _ _ _ h
    obtain ⟨k', rfl⟩ : ∃ k', k = k' + 1 := ⟨k - 1, by omega⟩
    rw [List.take_succ_cons]
    unfold behC at h ⊢
    split
    · rename_i h0; rw [if_pos h0] at h; exact h
    · rename_i h0
      rw [if_neg h0] at h
      obtain ⟨q, hq, rfl⟩ := Option.map_eq_some_iff.1 h
      rw [behC_take l _ q k' hq (by omega)]
      rfl
theorem items_take {L : List Nd} {i t : Nat} {s : List Nat} (h : Items L i s) (ht : t ∈ s ∨ t = L.length) : Items (L.take t) i (aheadP s t) := by
  induction h with
  | done =>
    obtain rfl : t = L.length := by
      rcases ht with h | h
      · cases h
      · exact h
    rw [List.take_length]
    exact .done
  | step hi hm hs ih =>
    rename_i i m r
    have hp := behC_pos _ _ _ hm
    rw [List.length_drop] at hp
    unfold aheadP
    rw [List.takeWhile_cons]
    by_cases e : i = t
    · subst e
      rw [if_neg (by simp)]
      have := Items.done (L := L.take i)
      rw [List.length_take, Nat.min_eq_left (by omega)] at this
      exact this
    · rw [if_pos (by simpa using e)]
      have ht2 : t ∈ r ∨ t = L.length := by
        rcases ht with h | h
        · rcases List.mem_cons.1 h with h | h
          · exact absurd h.symm e
          · exact .inl h
        · exact .inr h
      have hit : i + m ≤ t := by
        rcases ht2 with h | h
        · exact (hs.lt t h).1
        · omega
      refine .step (by rw [List.length_take]; omega) ?_ (ih ht2)
      rw [List.drop_take]
      exact behC_take _ _ _ _ hm (by omega)
theorem nth_take {L : List Nd} {t i : Nat} (h : i < t) : nth (L.take t) i = nth L i := by unfold nth; simp [h]
theorem sumP_congr {L M : List Nd} {s : List Nat} (h : ∀ x ∈ s, nth L x = nth M x) : sumP L s = sumP M s := by
  unfold sumP
  generalize Tt.zero = T
  induction s generalizing T with
  | nil => rfl
  | cons a r ih => rw [List.foldl_cons, List.foldl_cons, h a List.mem_cons_self, ih (fun x hx => h x (List.mem_cons_of_mem _ hx))]
def capD (T : Tt) (d depth : Int) : Tt × Int := if depth < d then ({ T with nat := T.nat - d + (d - depth) }, depth) else ({ T with nat := T.nat - d }, d)
theorem meas_sized (L : List Nd) (s : List Nat) (t : Nat) (depth : Int) : measP L s t depth = capD (sumP L (aheadP s t)) (lastD L (aheadP s t).reverse) depth := by
  unfold measP capD sizeM
  rw [sum_all L depth, ← fold_d L depth, foldM_depth]
  simp only [Mt.all]
  have : ∀ a b : Int, a + b - b = a := by omega
  split
  · rw [this]
  · rw [this]
end Go.Proofs.YtomehdepjenilaaGreat
