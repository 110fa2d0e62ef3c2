/-
  The breaks of a column lie in order, each place once (plain); what Cost tells.
-/
import Derived.Test.YtiijpbfkchokaaaGreatB6
import Derived.Test.YtiijpbfkchokaaaGreatL6
namespace Go.Proofs.YtiijpbfkchokaaaGreat
open Go.RowKit
theorem items_pairwise {L : List Nd} {i : Nat} {s : List Nat} (h : Items L i s) : s.Pairwise (· < ·) := by
  induction h with
  | done => exact List.Pairwise.nil
  | step hi hm hs ih =>
    have := behC_pos _ _ _ hm
    refine List.Pairwise.cons (fun x hx => ?_) ih
    have := (hs.lt x hx).1
    omega
end Go.Proofs.YtiijpbfkchokaaaGreat
