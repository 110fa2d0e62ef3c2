/-
  The document's Legal; the laws' own functions over lists of whole numbers: SameInts.
-/
import Derived.Test.YtaehkbbdmamfpaaGreatDoorL5
import Derived.Test.YtaehkbbdmamfpaaGreatDoorI51
namespace Go.Proofs.YtaehkbbdmamfpaaGreatDoor
open Go.ChangeShapes Go.WideShapes Go.ChangeAt Go.RowKit Go.Shelf
structure ZIn (w : World) (p : Option Addr) (g c : Nat) (l : List Int) : Prop where
 hp : l ≠ [] -> p = some ⟨g, 0, none⟩
 cap : l.length <= c
 at_ : ∀ i (hi : i < l.length), w.cell? ⟨g, i, none⟩ = some (.int .i64 l[i])
theorem zin_of {w : World} {B n : Nat} {v : Value} {l : List Int} (h : w.ownsRow B 3 1 v n (ints l)) : ∃ p g c, v = .slice p l.length c /\ n = l.length /\ ZIn w p g c l := by
 have hl : l.length = n := by have := h.1; rw [ints_len] at this; omega
 subst hl
 by_cases h0 : l = []
 ·
  subst h0
  obtain ⟨_, ⟨rfl, _⟩ | ⟨g, cap, cur, rfl, _, _, h1, _⟩⟩ := h
  · exact ⟨none, 0, 0, rfl, rfl, fun e => absurd rfl e, Nat.le_refl _, fun i hi => by simp at hi⟩
  · exact ⟨_, g, cap, rfl, rfl, fun e => absurd rfl e, h1, fun i hi => by simp at hi⟩
 ·
  obtain ⟨g, c, rfl, _, hg⟩ := h.form (List.length_pos_iff.2 h0)
  refine ⟨_, g, c, rfl, rfl, fun _ => rfl, owns_cap h, fun i hi => ?_⟩
  have := h.cells (g := g) rfl i (.int .i64 l[i]) (by rw [ints_idx, List.getElem?_eq_getElem hi]; rfl)
  rwa [show (⟨g, 0, none⟩ : Addr).add i = ⟨g, i, none⟩ by unfold Addr.add; split <;> simp_all] at this
end Go.Proofs.YtaehkbbdmamfpaaGreatDoor
