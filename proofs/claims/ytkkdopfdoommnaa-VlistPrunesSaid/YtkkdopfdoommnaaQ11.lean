/-
  The document's side: what is left of a column at the top of a page (plain; Top).
-/
import Derived.Test.YtkkdopfdoommnaaQ10
import Derived.Test.YtkkdopfdoommnaaVBs
namespace Go.Proofs.Ytkkdopfdoommnaa
open Go.ChangeShapes Go.WideShapes Go.ChangeAt Go.RowKit
attribute [local go_sem ↓] Go.wp_at_zero Go.wp_at_succ

/-- an item's nodes -/
def itemN (L : List Nd) (i : Nat) : List Nd := (L.drop i).take ((behC (L.drop i) 0).getD 0)
/-- the top glue over a box of height h -/
def topNat (g : Gl) (h : Int) : Int := min 1073741823 (max 0 (g.nat - h))
def topN (g : Gl) (h : Int) : Nd := { Nd.zero with kind := 7, glue := { g with nat := topNat g h }, sub := 10 }
def prunF (L : List Nd) (g : Gl) : List Nat → List Nd → List Nd
  | [], out => out
  | i :: s, out => if solidK (nth L i).kind then out ++ topN g (nth L i).h :: L.drop i else prunF L g s (if fallsK (nth L i).kind then out else out ++ itemN L i)
def topB (g : Gl) : Bool := g.good && (g.ho == 0 || g.shr == 0)
theorem qtop (g : Gl) (w : World) : Calls Try.prog 65 #[.agg g.arr] w fun e w' => e = .returned (.bool (topB g)) ∧ Below w.heap.size w w' := by
  cases hg : g.good
  · have HC : Hid (∀ W, Calls Try.prog 87 #[.agg g.arr] W fun e w' => e = .returned (.int .i64 30) ∧ Below W.heap.size W w') := Lib.hid fun W => q2check_v _ _ (by rw [hg]; rfl) W
    have Hv := Lib.hid (show topB g = false by simp [topB, hg])
    clear hg
    go_enter Try.func65, Try.ntmps65
    go_wp2_with (go_at_call 87; refine (HC.out _).mono ?_; rintro e w2 ⟨rfl, hb2⟩)
    go_ret
    exact ⟨ret_bool Hv.out.symm, Below.trans ((Below.refl _ _).alloc (Nat.le_refl _) _) (hb2.mono (by simp))⟩
  · have HC : Hid (∀ W, Calls Try.prog 87 #[.agg g.arr] W fun e w' => e = .returned (.int .i64 0) ∧ Below W.heap.size W w') := Lib.hid fun W => q2check_v _ _ (by rw [hg]; rfl) W
    have d0 := heap_alloc_new w (.cells g.arr 23)
    cases h1 : (g.ho == 0) <;> cases h2 : (g.shr == 0)
    all_goals
      have Hv := Lib.hid (show topB g = _ by simp only [topB, hg, h1, h2]; rfl)
      have D0 := Lib.hid d0
      go_enter Try.func65, Try.ntmps65
      go_wp2_with (go_at_call 87; refine (HC.out _).mono ?_; rintro e w2 ⟨rfl, hb2⟩; (have d2 := (hb2.block w.heap.size (by simp)).trans D0.out); (have c2 : w2.cell? ⟨w.heap.size, 2, none⟩ = some (.int .i64 g.shr) := by rw [cell?_blk' d2]; rfl); (have c4 : w2.cell? ⟨w.heap.size, 4, none⟩ = some (.int .i64 g.ho) := by rw [cell?_blk' d2]; rfl))
      go_ret
      exact ⟨ret_bool (by rw [Hv.out]; rfl), Below.trans ((Below.refl _ _).alloc (Nat.le_refl _) _) (hb2.mono (by simp))⟩
end Go.Proofs.Ytkkdopfdoommnaa
