/-
  Layer 20 in plain Lean: which signs are good, how a formula is read, as which classes its items count.
-/
import Derived.Test.YtkkdopfdoommnaaMBase
namespace Go.Proofs.Ytkkdopfdoommnaa
open Go.RowKit

def goodB (s : Sn) : Bool :=
  if (1 ≤ s.kind ∧ s.kind ≤ 8) ∨ s.kind = 13 ∨ s.kind = 14 then
    if s.n = 1 then eqSn s { Sn.zero with kind := s.kind, n := 1 }
    else eqSn s { Sn.zero with kind := s.kind, fam := s.fam, char := s.char } && decide (0 ≤ s.fam) && decide (s.fam < 16)
  else if s.kind = 9 then eqSn s { Sn.zero with kind := s.kind, n := s.n } && decide (-1 ≤ s.n) && decide (s.n ≤ 1073741823)
  else if s.kind = 10 then eqSn s { Sn.zero with kind := s.kind, fam := s.fam, char := s.char } && decide (0 ≤ s.fam) && decide (s.fam < 16)
  else if s.kind = 15 then eqSn s { Sn.zero with kind := s.kind, n := s.n } && decide (0 ≤ s.n) && decide (s.n ≤ 3)
  else if s.kind = 16 then eqSn s { Sn.zero with kind := s.kind, glue := s.glue } && s.glue.good
  else if s.kind = 17 then eqSn s { Sn.zero with kind := s.kind, n := s.n } && dimenB s.n
  else if s.kind = 18 then eqSn s { Sn.zero with kind := s.kind, n := s.n } && decide (-10000 ≤ s.n) && decide (s.n ≤ 10000)
  else if s.kind = 11 ∨ s.kind = 12 ∨ s.kind = 19 ∨ s.kind = 20 ∨ s.kind = 21 ∨ s.kind = 22 then eqSn s { Sn.zero with kind := s.kind }
  else false

def beginS : Sn := { Sn.zero with kind := 21 }
def endS : Sn := { Sn.zero with kind := 22 }
def partsI (s : Sn) : Int := if s.kind = 9 then 2 else if s.kind = 10 ∨ s.kind = 11 ∨ s.kind = 12 ∨ s.kind = 13 then 1 else if s.kind = 15 ∨ s.kind = 16 ∨ s.kind = 17 ∨ s.kind = 18 then 0 else s.n
def times (f : List Sn → Option (List Sn)) : Nat → List Sn → Option (List Sn)
  | 0, l => some l
  | n + 1, l => (f l).bind (times f n)
def scriptP (f : List Sn → Option (List Sn)) (k : Int) : List Sn → Option (List Sn)
  | s :: r => if s.kind = k then (if goodB s then f r else none) else some (s :: r)
  | [] => some []
def rightP : List Sn → Option (List Sn)
  | s :: r => if s.kind = 14 ∧ goodB s = true then some r else none
  | [] => none
def itemP (f : List Sn → Option (List Sn)) (s : Sn) (l : List Sn) : Option (List Sn) :=
  if goodB s = false ∨ s.kind = 14 ∨ 19 ≤ s.kind then none else
  (times f (partsI s).toNat l).bind fun l1 =>
  (if s.kind = 13 then rightP l1 else some l1).bind fun l2 =>
  if s.kind ≤ 13 then (scriptP f 19 l2).bind (scriptP f 20) else some l2
def fmlaP (f : List Sn → Option (List Sn)) : Nat → List Sn → Option (List Int × List Sn)
  | 0, l => some ([], l)
  | _ + 1, [] => some ([], [])
  | n + 1, s :: l => if s.kind = 22 then some ([], s :: l) else (itemP f s l).bind fun l3 => (fmlaP f n l3).map fun x => (s.kind :: x.1, x.2)
def closeP : List Sn → Option (List Sn)
  | e :: r => if eqSn e endS then some r else none
  | [] => none
def fieldP : Nat → List Sn → Option (List Sn)
  | 0, _ => none
  | _ + 1, [] => none
  | d + 1, s :: l => if eqSn s beginS then (fmlaP (fieldP d) l.length l).bind fun x => closeP x.2 else none
def readP (L : List Sn) : Option (List Int) :=
  match fmlaP (fieldP 20) L.length L with
  | some (ks, []) => some ks
  | _ => none

/-! ### What is read stands at the end of what stood there -/
def Ends (f : List Sn → Option (List Sn)) : Prop := ∀ l r, f l = some r → r <:+ l
theorem times_ends {f : List Sn → Option (List Sn)} (h : Ends f) : ∀ n, Ends (times f n)
  | 0, l, r, e => by cases e; exact List.suffix_refl _
  | n + 1, l, r, e => by
    obtain ⟨m, h1, h2⟩ := Option.bind_eq_some_iff.1 e
    exact (times_ends h n _ _ h2).trans (h _ _ h1)
theorem script_ends {f : List Sn → Option (List Sn)} (h : Ends f) (k : Int) : Ends (scriptP f k) := by
  intro l r e
  cases l with
  | nil => cases e; exact List.suffix_refl _
  | cons s l =>
    rw [scriptP] at e
    split at e
    · split at e
      · exact (h _ _ e).trans (List.suffix_cons _ _)
      · cases e
    · cases e; exact List.suffix_refl _
theorem right_ends : Ends rightP := by
  intro l r e
  cases l with
  | nil => cases e
  | cons s l =>
    rw [rightP] at e
    split at e
    · cases e; exact List.suffix_cons _ _
    · cases e
theorem item_ends {f : List Sn → Option (List Sn)} (h : Ends f) (s : Sn) : Ends (itemP f s) := by
  intro l r e
  unfold itemP at e
  split at e
  · cases e
  · obtain ⟨l1, h1, e⟩ := Option.bind_eq_some_iff.1 e
    obtain ⟨l2, h2, e⟩ := Option.bind_eq_some_iff.1 e
    refine List.IsSuffix.trans ?_ (times_ends h _ _ _ h1)
    refine List.IsSuffix.trans ?_ (show l2 <:+ l1 from ?_)
    · split at e
      · obtain ⟨l3, h3, e⟩ := Option.bind_eq_some_iff.1 e
        exact (script_ends h _ _ _ e).trans (script_ends h _ _ _ h3)
      · cases e; exact List.suffix_refl _
    · split at h2
      · exact right_ends _ _ h2
      · cases h2; exact List.suffix_refl _
theorem fmla_ends {f : List Sn → Option (List Sn)} (h : Ends f) : ∀ n l x, fmlaP f n l = some x → x.2 <:+ l
  | 0, l, x, e => by cases e; exact List.suffix_refl _
  | n + 1, [], x, e => by cases e; exact List.suffix_refl _
  | n + 1, s :: l, x, e => by
    unfold fmlaP at e
    split at e
    · cases e; exact List.suffix_refl _
    · obtain ⟨l3, h3, e⟩ := Option.bind_eq_some_iff.1 e
      obtain ⟨y, hy, rfl⟩ := Option.map_eq_some_iff.1 e
      exact ((fmla_ends h n _ _ hy).trans (item_ends h _ _ _ h3)).trans (List.suffix_cons _ _)
theorem field_ends : ∀ d, Ends (fieldP d)
  | 0, l, r, e => by cases e
  | d + 1, [], r, e => by cases e
  | d + 1, s :: l, r, e => by
    unfold fieldP at e
    split at e
    · obtain ⟨x, hx, e⟩ := Option.bind_eq_some_iff.1 e
      refine List.IsSuffix.trans ?_ (List.suffix_cons _ _)
      refine List.IsSuffix.trans ?_ (fmla_ends (field_ends d) _ _ _ hx)
      obtain ⟨ks, x2⟩ := x
      cases x2 with
      | nil => cases e
      | cons y t =>
        rw [closeP] at e
        split at e
        · cases e; exact List.suffix_cons _ _
        · cases e
    · cases e

/-! ### Classes -/
def classI (k : Int) : Int := if k = 11 ∨ k = 12 ∨ k = 10 then 1 else if k = 9 ∨ k = 13 then 8 else if k ≤ 8 then k else 0
/-- one class more: the counted ones, the last one first -/
def countStep (acc : List Int) (c : Int) : List Int :=
  if c = 0 then acc else
  let acc1 := match acc with
    | l :: r => if (c = 4 ∨ c = 6 ∨ c = 7) ∧ l = 3 then 1 :: r else l :: r
    | [] => []
  let c1 := if c = 3 then (match acc1 with
    | [] => 1
    | l :: _ => if l = 3 ∨ l = 2 ∨ l = 4 ∨ l = 5 ∨ l = 7 then 1 else 3) else c
  c1 :: acc1
def countEnd : List Int → List Int
  | l :: r => if l = 3 then 1 :: r else l :: r
  | [] => []
def classesP (ks : List Int) : List Int := (countEnd ((ks.map classI).foldl countStep [])).reverse
end Go.Proofs.Ytkkdopfdoommnaa
