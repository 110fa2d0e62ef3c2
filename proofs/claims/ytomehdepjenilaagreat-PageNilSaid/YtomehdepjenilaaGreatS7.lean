/-
  vlist.measured: what stands ahead of a place of a good column.
-/
import Derived.Test.YtomehdepjenilaaGreatVBs
import Derived.Test.YtomehdepjenilaaGreatV11b
import Derived.Test.YtomehdepjenilaaGreatW3
namespace Go.Proofs.YtomehdepjenilaaGreat
open Go.ChangeShapes Go.WideShapes Go.ChangeAt Go.RowKit Go.Shelf
attribute [local go_sem] Oper.semAt_some
def foldM (L : List Nd) (depth : Int) (pre : List Nat) : Mt := pre.foldl (fun m i => passM (nth L i) m) ⟨.zero, 0, depth⟩
def aheadP (s : List Nat) (t : Nat) : List Nat := s.takeWhile (· != t)
def measP (L : List Nd) (s : List Nat) (t : Nat) (depth : Int) : Tt × Int := sizeM (foldM L depth (aheadP s t))
end Go.Proofs.YtomehdepjenilaaGreat
namespace Go.Proofs.YtomehdepjenilaaGreat
open Go.ChangeShapes Go.WideShapes Go.ChangeAt Go.RowKit Go.Shelf
attribute [local go_sem] Oper.semAt_some
def foundB (L : List Nd) (s : List Nat) (tk : Int) : Bool := (tk == (L.length : Int)) || s.any fun x => (x : Int) == tk
def sizeR (L : List Nd) (s : List Nat) (tk depth : Int) : Tt × Int × Int :=
  if colP L s = 0 then (if foundB L s tk then (if dimenB depth then ((measP L s tk.toNat depth).1, (measP L s tk.toNat depth).2, 0) else (.zero, 0, 11)) else (.zero, 0, 3)) else (.zero, 0, colP L s)
end Go.Proofs.YtomehdepjenilaaGreat

