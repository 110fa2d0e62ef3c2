/-
  The last step of a law: true is handed back, all that was handed in reads as it did, for nothing that was there has turned.
-/
import Derived.Test.YtomehdepjenilaaGreatRows
import Derived.Below
import Derived.ProofKit
import Derived.OpenShut
import Derived.ChangeSame
namespace Go.Proofs.YtomehdepjenilaaGreat
open Go.RowKit Go.WideShapes Go.ChangeShapes
theorem law_post {H : Type} {enc : TypeId × Value → H} {P : Program} {f : Func} {s : ChangeSpec} {handsOn : Bool} {W W' : World} {args : Array Value} {v : Value} {ds : List (DataW H)} {p : List MemPlace}
    (hv : s.vars = []) (hW : DataW.Whole enc P f.params.toList s.vars false W args.toList ds [] p)
    (hres : ∀ (b : Nat) (sp : Nat → Bool) (hd : Bool), DataW.TrodAll enc P W' b sp hd f.resultTypes.toList (v.resultList f.resultTypes.size) (s.fn H (ds ++ [])).results [])
    (hargs : DataW.TrodAll enc P W' 0 (fun b => decide (b < W.heap.size)) true f.params.toList args.toList (s.fn H (ds ++ [])).args p)
    (hvars : ∀ sp : Nat → Bool, DataW.TrodVars enc P W' sp [] (s.fn H (ds ++ [])).vars [])
    (hb : Below W.heap.size W W') :
    s.post enc P f false true handsOn false W args v W' := by
  refine ⟨ds, [], p, [], p, [], hW, hres _ _ _, hargs, by rw [hv]; exact hvars _, World.keptBut_mono (fun q hq => ⟨hq, .inr (by simpa using hq)⟩) (hb.frame (· ∈ p)), fun h => by cases h⟩
end Go.Proofs.YtomehdepjenilaaGreat
