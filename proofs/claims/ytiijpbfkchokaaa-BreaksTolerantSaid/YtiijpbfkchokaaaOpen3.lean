/-
  A law's arguments: a slice of bools, opened: which ones stand there. No statement of the seat stands here.
-/
import Derived.Test.YtiijpbfkchokaaaL6
import Derived.Test.YtiijpbfkchokaaaB14
import Derived.Test.YtiijpbfkchokaaaOpen2
import Derived.Deep.Grids
namespace Go.Proofs.Ytiijpbfkchokaaa
open Go.ChangeShapes Go.WideShapes Go.ChangeAt Go.RowKit Go.Deep
/-- bools in memory -/
structure BIn (w : World) (p : Option Addr) (b off cap : Nat) (l : List Bool) : Prop where
  hp : l ≠ [] → p = some ⟨b, off, none⟩
  hb : l ≠ [] → b < w.heap.size
  cap : l.length ≤ cap
  at_ : ∀ i (hi : i < l.length), w.cell? ⟨b, off + i, none⟩ = some (.bool l[i])
theorem BIn.below {w w' : World} {p : Option Addr} {b off cap : Nat} {l : List Bool} (h : BIn w p b off cap l) (hb : Below w.heap.size w w') : BIn w' p b off cap l :=
  ⟨h.hp, fun e => Nat.lt_of_lt_of_le (h.hb e) hb.size, h.cap, fun i hi => cell_below9 (h.at_ i hi) hb⟩
theorem cellsO_bool : Try.prog.cellsOf 4 = 1 := by kernel_rfl
/-- a slice of bools: which ones stand there -/
theorem open_flags {H : Type} {enc : TypeId × Value → H} {w : World} {fuel : Nat} {a0 : Option Addr} {len cap : Nat} {x : DataW H × List MemPlace} (h : DataW.trod enc Try.prog w 0 (fun _ => true) true fuel 39 [.slice a0 len cap] = some x) :
    ∃ (b off : Nat) (l : List Bool), l.length = len ∧ BIn w a0 b off cap l := by
  rcases open_bools Try.underlying39 Try.underlying4 cellsO_bool h with ⟨hcs, _⟩ | ⟨a, len', cap', B, hcs, _, hl, _, _, hi⟩
  · simp only [List.cons.injEq, Value.slice.injEq, and_true] at hcs
    obtain ⟨rfl, rfl, rfl⟩ := hcs
    exact ⟨0, 0, [], rfl, fun e => absurd rfl e, fun e => absurd rfl e, Nat.le_refl _, fun i hi => by simp at hi⟩
  · simp only [List.cons.injEq, Value.slice.injEq, and_true] at hcs
    obtain ⟨e1, e2, e3⟩ := hcs
    subst e1 e2 e3
    obtain ⟨b, off, spot⟩ := a
    by_cases h0 : len = 0
    · subst h0
      exact ⟨0, 0, [], rfl, fun e => absurd rfl e, fun e => absurd rfl e, Nat.zero_le _, fun i hi => by simp at hi⟩
    · have h00 := hi 0 (by omega)
      have hspot : spot = none := by simpa [Addr.add] using World.cell?_spot h00
      subst hspot
      have h01 : w.cell? ⟨b, off + 0, none⟩ = some (.bool (B 0)) := by rw [← add_plainO]; exact h00
      have hblt : b < w.heap.size := World.block_lt_of_cell? _ _ h01
      refine ⟨b, off, (List.range len).map B, by simp, fun _ => rfl, fun _ => hblt, by simpa using hl, fun i hi' => ?_⟩
      have hi2 : i < len := by simpa using hi'
      have := hi i (by omega)
      rw [add_plainO] at this
      rw [this]
      simp
end Go.Proofs.Ytiijpbfkchokaaa
