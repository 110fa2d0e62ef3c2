/-
  A law's argument: a slice of questions, opened. No statement of the seat stands here.
-/
import Derived.Test.YtomehdepjenilaaGreatH28
import Derived.Test.YtomehdepjenilaaGreatOpen
import Derived.Deep.SlicePairs
namespace Go.Proofs.YtomehdepjenilaaGreat
open Go.ChangeShapes Go.WideShapes Go.ChangeAt Go.RowKit Go.Deep
section
variable {H : Type} {enc : TypeId × Value → H}
theorem open_nodes9 {w : World} {fuel : Nat} {cs : List Value} {d : DataW H} {p : List MemPlace} (h : DataW.trod enc Tryz.prog w 0 (fun _ => true) true fuel 27 cs = some (d, p)) (hsz : ∀ n ∈ d.weights Tryz.prog 27, n ≤ reachBytes) :
    ∃ (a0 : Option Addr) (cap b off : Nat) (L : List Nd), cs = [.slice a0 L.length cap] ∧ NIn w a0 b off cap L := by
  have key : ∀ a0 len cap, cs = [.slice a0 len cap] → ∃ (a0 : Option Addr) (cap b off : Nat) (L : List Nd), cs = [.slice a0 L.length cap] ∧ NIn w a0 b off cap L := fun a0 len cap e => by
    subst e
    obtain ⟨b, off, L, rfl, hN⟩ := open_nodes (ts := [27]) (ds := [d]) h (by
      simp only [DataW.weightsEach, List.append_nil]
      exact List.all_eq_true.2 fun n hn => decide_eq_true (hsz n hn)) rfl rfl
    exact ⟨a0, cap, b, off, L, rfl, hN⟩
  rcases open_slice Tryz.underlying27 h with ⟨hcs, _⟩ | ⟨a, len', cap', m, n, D, Pl, hcs, _⟩
  · exact key none 0 0 hcs
  · exact key (some a) len' cap' hcs
end
end Go.Proofs.YtomehdepjenilaaGreat
