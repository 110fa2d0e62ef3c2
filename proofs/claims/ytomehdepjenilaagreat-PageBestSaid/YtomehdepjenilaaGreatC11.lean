/-
  The breaks of a column lie in order, each place once (plain); what Cost tells.
-/
import Derived.Test.YtomehdepjenilaaGreatV11b
import Derived.Test.YtomehdepjenilaaGreatC5
import Derived.Test.YtomehdepjenilaaGreatL6
import Derived.Sort.AtCall
import Derived.RegionIn



namespace Go.Proofs.YtomehdepjenilaaGreat
open Go.RowKit
def atB (L : List Nd) (s : List Nat) (height depth : Int) (x : Nat × Int) : Nat × Int × Int :=
  (x.1, (measP L s x.1 depth).1.nat + (measP L s x.1 depth).2, costP (measP L s x.1 depth).1 height x.2)
def stepB (L : List Nd) (s : List Nat) (height depth : Int) (o : Option (Nat × Int × Int)) (x : Nat × Int) : Option (Nat × Int × Int) :=
  match o with
  | none => some (atB L s height depth x)
  | some y => if (atB L s height depth x).2.2 ≤ y.2.2 then some (atB L s height depth x) else some y
def stopB (L : List Nd) (s : List Nat) (height depth : Int) (x : Nat × Int) : Bool := decide (x.2 ≤ -10000) || (atB L s height depth x).2.2 == 1073741823
def bestF (L : List Nd) (s : List Nat) (height depth : Int) : Option (Nat × Int × Int) → List (Nat × Int) → Option (Nat × Int × Int)
  | o, [] => o
  | o, x :: r => if stopB L s height depth x = true then stepB L s height depth o x else bestF L s height depth (stepB L s height depth o x) r
end Go.Proofs.YtomehdepjenilaaGreat
namespace Go.Proofs.YtomehdepjenilaaGreat
open Go.ChangeShapes Go.WideShapes Go.ChangeAt Go.RowKit Go.Shelf
attribute [local go_sem] Oper.semAt_some
def bA (o : Option (Nat × Int × Int)) : Int := match o with | none => 0 | some y => (y.1 : Int)
def bS (o : Option (Nat × Int × Int)) : Int := match o with | none => 0 | some y => y.2.1
def bestO (L : List Nd) (s : List Nat) (h d : Int) : Option (Nat × Int × Int) := bestF L s h d none (legalP L s)
def bestR (L : List Nd) (s : List Nat) (h d : Int) : Option (Nat × Int × Int) × Int :=
  if colP L s = 0 then (if (dimenB h && dimenB d) = true then (bestO L s h d, 0) else (none, 11)) else (none, colP L s)
end Go.Proofs.YtomehdepjenilaaGreat

