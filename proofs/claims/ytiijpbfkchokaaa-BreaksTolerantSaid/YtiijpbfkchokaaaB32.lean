/-
  The best breaks: what the program's Choose tells; its rounds.
-/
import Derived.Test.YtiijpbfkchokaaaB24
import Derived.Test.YtiijpbfkchokaaaB31
import Derived.Test.YtiijpbfkchokaaaW9
import Derived.BigQuiet
namespace Go.Proofs.Ytiijpbfkchokaaa
open Go.ChangeShapes Go.WideShapes Go.ChangeAt Go.RowKit
attribute [local go_sem ↓] Go.wp_at_zero Go.wp_at_succ
def natsI (l : List Nat) : List Int := l.map fun x : Nat => (x : Int)
def chM (one : Option Nat → Nat × Int → Int → Int → Bk) (B : List (Nat × Int)) : Option (Wy × Int) → List Bk × Int × Int
  | none => ([], 0, 90)
  | some (z, l) => ((lnsW one B (natsI z.ats) none 1 2).getD [], l, 0)
/-- what is chosen -/
def chR (P : Pm) (S : List Sh2) (L : List Nd) (s : List Nat) (tol ext : Int) (last : Bool) : List Bk × Int × Int :=
  if tryE P S L s tol ext = 0 then chM (oneP L P S s tol ext) (brkP L P s) (chooseW (oneP L P S s tol ext) (brkP L P s) last P.loose) else ([], 0, tryE P S L s tol ext)
structure ChPost (w : World) (r : List Bk × Int × Int) (e : Ending) (w' : World) : Prop where
  out : ∃ v, e = .returned (.tuple #[v, .int .i64 r.2.1, .int .i64 r.2.2]) ∧ w'.ownsRow w.heap.size 37 6 v r.1.length (r.1.flatMap Bk.cells)
  below : Below w.heap.size w w'
theorem pen_last {L : List Nd} {P : Pm} {s : List Nat} : penA (brkP L P s) ((brkP L P s).length - 1) ≤ -10000 := by
  unfold penA brkP
  rw [List.length_append, List.length_singleton, Nat.add_sub_cancel, List.getD_eq_getElem?_getD, List.getElem?_append_right (Nat.le_refl _), Nat.sub_self]
  exact Int.le_refl _
theorem brk_ok {L : List Nd} {P : Pm} {s : List Nat} (h : Items L 0 s) : BOk (brkP L P s) :=
  ⟨by simp [brkP], by have := brkP_pair (P := P) h; rwa [List.pairwise_map] at this, pen_last⟩
theorem jud_over (T : Tt) (w : Int) : 10000 < (judP T w).1 → T.h0 < T.nat - w := by
  unfold judP
  split
  · intro h; simp at h
  · split
    · have h2 := badM_range (w - T.nat) T.s0 (by omega)
      split
      · intro h; simp at h
      · intro h; simp only at h; omega
    · split
      · intro _; omega
      · have h2 := badM_range (-(w - T.nat)) T.h0 (by omega)
        intro h; simp only at h; omega
theorem one_ok (L : List Nd) (P : Pm) (S : List Sh2) (s : List Nat) (tol ext : Int) : OneOk (oneP L P S s tol ext) := by
  refine ⟨fun f x line before h => ?_, fun f x line before => ?_, fun f x line before => ?_⟩
  · unfold oneP oneB at h ⊢
    generalize (lineT L P s f x.1).plus ⟨0, ext, 0, 0, 0, 0, 0, 0, 0⟩ = T at h ⊢
    simp only at h ⊢
    split at h
    · cases h
    · rename_i hc
      rw [if_neg hc]
      simp only
      rw [if_neg (by omega)]
  · unfold oneP oneB
    generalize (lineT L P s f x.1).plus ⟨0, ext, 0, 0, 0, 0, 0, 0, 0⟩ = T
    have h1 := jud_over T (widP P S line).1
    simp only
    split <;> (simp only; split <;> omega)
  · unfold oneP oneB
    generalize (lineT L P s f x.1).plus ⟨0, ext, 0, 0, 0, 0, 0, 0, 0⟩ = T
    simp only
    split <;> rfl
theorem PathW.len_le {one : Option Nat → Nat × Int → Int → Int → Bk} {all : Bool} {B : List (Nat × Int)} {o : Option Nat} {a : Wy} {ls : List Bk} (h : PathW one all B o a ls) : a.ats.length ≤ nextA o := by
  induction h with
  | nil => exact Nat.zero_le _
  | @cons o a ls i hi h ho hg ih =>
    have := preds_ge ho
    show (a.ats ++ [_]).length ≤ i + 1
    rw [List.length_append, List.length_singleton]
    omega
end Go.Proofs.Ytiijpbfkchokaaa
