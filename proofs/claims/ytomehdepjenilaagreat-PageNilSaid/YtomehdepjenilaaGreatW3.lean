/-
  What stands ahead of a place in a column, item by item (plain).
-/
import Derived.Test.YtomehdepjenilaaGreatC1
import Derived.Test.YtomehdepjenilaaGreatQ13
import Derived.RegionTactic
namespace Go.Proofs.YtomehdepjenilaaGreat
open Go.ChangeShapes Go.WideShapes Go.ChangeAt Go.RowKit
def Tt.st (t : Tt) : Nat → Int
  | 0 => t.s0 | 1 => t.s1 | 2 => t.s2 | _ => t.s3
def Tt.sh (t : Tt) : Nat → Int
  | 0 => t.h0 | 1 => t.h1 | 2 => t.h2 | _ => t.h3
def Tt.setS (t : Tt) (j : Nat) (x : Int) : Tt := match j with
  | 0 => { t with s0 := x } | 1 => { t with s1 := x } | 2 => { t with s2 := x } | _ => { t with s3 := x }
def Tt.setH (t : Tt) (j : Nat) (x : Int) : Tt := match j with
  | 0 => { t with h0 := x } | 1 => { t with h1 := x } | 2 => { t with h2 := x } | _ => { t with h3 := x }
def lightK (k : Int) : Bool := k == 12 || k == 14 || k == 13 || k == 9
def Tt.glue (t : Tt) (g : Gl) : Tt :=
  let t1 := t.setS g.so.toNat (t.st g.so.toNat + g.str)
  t1.setH g.ho.toNat (t1.sh g.ho.toNat + g.shr)
def passM (n : Nd) (m : Mt) : Mt :=
  if lightK n.kind then m else
    let m1 : Mt := ⟨{ m.t with nat := m.t.nat + m.d }, 0, m.depth⟩
    if solidK n.kind then ⟨{ m1.t with nat := m1.t.nat + n.h }, n.d, m.depth⟩
    else if n.kind == 8 then ⟨{ m1.t with nat := m1.t.nat + n.w }, 0, m.depth⟩
    else if n.kind == 7 then ⟨({ m1.t with nat := m1.t.nat + n.glue.nat } : Tt).glue n.glue, 0, m.depth⟩
    else m1
theorem sh_setS (t : Tt) (j i : Nat) (x : Int) : (t.setS j x).sh i = t.sh i := by
  match j with
  | 0 | 1 | 2 | _ + 3 => match i with | 0 | 1 | 2 | _ + 3 => rfl
def sizeM (m : Mt) : Tt × Int := if m.depth < m.d then ({ m.t with nat := m.t.nat + (m.d - m.depth) }, m.depth) else (m.t, m.d)
def itemsF (L : List Nd) : Nat → Nat → List Nat
  | 0, _ => []
  | n + 1, i => if i < L.length then (match behC (L.drop i) 0 with | none => [] | some m => i :: itemsF L n (i + m)) else []
theorem itemsF_eq {L : List Nd} {i : Nat} {s : List Nat} (h : Items L i s) : ∀ n, L.length - i ≤ n → itemsF L n i = s := by
  induction h with
  | done =>
    intro n _
    cases n with
    | zero => rfl
    | succ n => rw [itemsF, if_neg (by omega)]
  | step hi hm hs ih =>
    intro n hn
    have hp := behC_pos _ _ _ hm
    obtain ⟨n, rfl⟩ : ∃ k, n = k + 1 := ⟨n - 1, by omega⟩
    rw [itemsF, if_pos hi, hm]
    simp only
    rw [ih n (by omega)]
def itsP (L : List Nd) : List Nat := itemsF L L.length 0
theorem itsP_eq {L : List Nd} {s : List Nat} (h : Items L 0 s) : itsP L = s := itemsF_eq h _ (by omega)
end Go.Proofs.YtomehdepjenilaaGreat
