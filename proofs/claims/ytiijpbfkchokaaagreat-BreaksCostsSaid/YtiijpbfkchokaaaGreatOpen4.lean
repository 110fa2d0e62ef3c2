/-
  A law's arguments: a slice of ints, opened. No statement of the seat stands here.
-/
import Derived.Test.YtiijpbfkchokaaaGreatF18
import Derived.Test.YtiijpbfkchokaaaGreatOpen2
namespace Go.Proofs.YtiijpbfkchokaaaGreat
open Go.ChangeShapes Go.WideShapes Go.ChangeAt Go.RowKit Go.Deep
/-- a slice of ints: which ones stand there -/
theorem open_ints9 {H : Type} {enc : TypeId × Value → H} {w : World} {fuel : Nat} {a0 : Option Addr} {len cap : Nat} {x : DataW H × List MemPlace} (h : DataW.trod enc Tryz.prog w 0 (fun _ => true) true fuel 41 [.slice a0 len cap] = some x) :
    ∃ (b off : Nat) (l : List Int), l.length = len ∧ len ≤ 9223372036854775807 ∧ ZOn w a0 b off cap l := by
  rcases open_ints Tryz.underlying41 Tryz.underlying3 cellsO_int h with ⟨hcs, _⟩ | ⟨a, len', cap', B, hcs, _, hl, hmx, hlen, _, hi, _⟩
  · simp only [List.cons.injEq, Value.slice.injEq, and_true] at hcs
    obtain ⟨rfl, rfl, rfl⟩ := hcs
    exact ⟨0, 0, [], rfl, by omega, fun e => absurd rfl e, Nat.le_refl _, fun i hi => by simp at hi⟩
  · simp only [List.cons.injEq, Value.slice.injEq, and_true] at hcs
    obtain ⟨e1, e2, e3⟩ := hcs
    subst e1 e2 e3
    simp only [if_true] at hlen
    unfold maxLen at hmx
    obtain ⟨b, off, spot⟩ := a
    by_cases h0 : len = 0
    · subst h0
      exact ⟨0, 0, [], rfl, by omega, fun e => absurd rfl e, Nat.zero_le _, fun i hi => by simp at hi⟩
    · have h00 := hi 0 (by omega)
      have hspot : spot = none := by simpa [Addr.add] using World.cell?_spot h00
      subst hspot
      refine ⟨b, off, (List.range len).map fun i => B.getD i 0, by simp, by omega, fun _ => rfl, by simpa using hl, fun i hi' => ?_⟩
      have hi2 : i < len := by simpa using hi'
      have := hi i (by omega)
      rw [add_plainO] at this
      rw [this]
      simp
end Go.Proofs.YtiijpbfkchokaaaGreat
