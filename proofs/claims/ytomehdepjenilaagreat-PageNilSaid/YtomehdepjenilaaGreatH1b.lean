/-
  The page builder: what the program does, item by item (plain). No statement of the seat stands here.
-/
import Derived.Test.YtomehdepjenilaaGreatS7
import Derived.Test.YtomehdepjenilaaGreatH17
import Derived.Test.YtomehdepjenilaaGreatW3
import Derived.Test.YtomehdepjenilaaGreatC11
import Derived.Test.YtomehdepjenilaaGreatQ13
namespace Go.Proofs.YtomehdepjenilaaGreat
open Go.ChangeShapes Go.WideShapes Go.ChangeAt Go.RowKit
abbrev It := List Nd
def hd (x : It) : Nd := x.headD Nd.zero
def endK : Nd := { Nd.zero with kind := 6 }
structure Sh where
  list : List (It × Int)
  body : Bool
  box : Bool
  goal : Int
  t : Tt
  depth : Int
  height : Int → Option Int
  closed : Int → Bool
  pens : Int
  bk : Nat
  bcost : Int
  bsome : Bool
structure St where
  s : Sh
  waits : List It
  bot : ByteArray
def flatI (l : List It) : List Nd := l.flatten
def flatS (s : Sh) : List Nd := (s.list.map (·.1)).flatten
def placeS (l : List (It × Int)) (k : Nat) : Nat := ((l.take k).map (·.1)).flatten.length
def freshS (g : Gr) : Sh := ⟨[], false, false, g.height, .zero, 0, fun _ => none, fun _ => false, 0, 0, 1073741823, false⟩
def growS (s : Sh) (x : Int) : Sh := { s with t := growT s.t (wrap64 (s.depth + x)), depth := 0 }
def deepS (s : Sh) (d most : Int) : Sh := if most < d then { s with t := growT s.t (wrap64 (d - most)), depth := most } else { s with depth := d }
def flexS (s : Sh) (g : Gl) : Sh := { s with t := flexT s.t g }
def putS (s : Sh) (x : It) (tag : Int) : Sh := { s with list := s.list ++ [(x, tag)] }
def lastN (s : Sh) : Nd := match s.list.getLast? with | none => Nd.zero | some x => hd x.1
def toppedS (g : Gr) (s : Sh) (h : Int) : Sh := if s.box then s else flexS (growS (putS s [topG g.top h] 0) (topG g.top h).glue.nat) (topG g.top h).glue
def solidS (g : Gr) (s : Sh) (x : It) : Sh :=
  { putS (deepS (growS (toppedS g s (hd x).h) (hd x).h) (hd x).d g.depth) x 0 with body := true, box := true }
/-! ### Breaks -/
def badI (s : Sh) : Int := badG s.goal s.t
def costI (s : Sh) (q : Int) : Int :=
  if badI s = 1073741823 ∨ 10000 ≤ s.pens then 1073741823
  else if q ≤ -10000 then q
  else if badI s < 10000 then wrap64 (wrap64 (badI s + q) + s.pens)
  else 100000
def triedS (s : Sh) (q : Int) : Sh :=
  let c := costI s q
  if c ≤ s.bcost ∧ (c < 1073741823 ∨ s.bsome = false) then { s with bk := s.list.length, bcost := c, bsome := true } else { s with bsome := true }
def firesB (s : Sh) (q : Int) : Bool := costI s q == 1073741823 || decide (q ≤ -10000)
def looseQ (s : Sh) (n : Nd) (r : List It) : Int :=
  if n.kind = 7 ∧ s.list ≠ [] ∧ fallsK (lastN s).kind = false ∨ n.kind = 8 ∧ r ≠ [] ∧ (hd (hd9 r)).kind = 7 then 0
  else if n.kind = 9 then n.pen else 10000
where hd9 (r : List It) : It := r.headD []
def addedS (s : Sh) (x : It) : Sh :=
  if (hd x).kind = 7 then flexS (growS (putS s x 0) (hd x).glue.nat) (hd x).glue
  else if (hd x).kind = 8 then growS (putS s x 0) (hd x).w
  else putS s x 0
/-! ### Inserts -/
def clsOf (g : Gr) (k : Int) : Cp := (g.cls.find? fun c => c.num == k).getD ⟨k, 1000, 1073741823, .zero⟩
def scalP (x : Int) (c : Cp) : Int := (wrap64 (x * c.count)).tdiv 1000
def updF {α : Type} (f : Int → α) (k : Int) (v : α) : Int → α := fun a => if a = k then v else f a
def metS (g : Gr) (s : Sh) (k : Int) : Sh :=
  if (s.height k).isSome then s else { s with height := updF s.height k (some 0), goal := wrap64 (s.goal - (clsOf g k).glue.nat), t := flexT s.t (clsOf g k).glue }
def highS (s : Sh) (k : Int) : Int := (s.height k).getD 0
def roomS (s : Sh) : Int := wrap64 (wrap64 (s.goal - s.t.nat) - s.depth)
def wideS (s : Sh) (c : Cp) (k room : Int) : Int :=
  max (-1073741823) (min (min (if c.count = 0 then 1073741823 else if c.count = 1000 then room else (wrap64 (room * 1000)).tdiv c.count) (wrap64 (c.most - highS s k))) 1073741823)
def inOf (x : It) : List Nd := (x.drop 1).take (x.length - 2)
structure Cut where
  at_ : Nat
  size : Int
def cutP (x : It) (w : Int) : Cut :=
  let o := bestR (inOf x) (itsP (inOf x)) w (hd x).d
  if o.2 = 0 then ⟨(bA o.1).toNat, bS o.1⟩ else ⟨(inOf x).length, (hd x).h⟩
def penC (x : It) (a : Nat) : Int := if a = (inOf x).length then -10000 else if (nth (inOf x) a).kind = 9 then (nth (inOf x) a).pen else 0
def splitS (s : Sh) (c : Cp) (x : It) (room : Int) : Sh :=
  let k := (hd x).sub
  let o := cutP x (wideS s c k room)
  putS { s with goal := wrap64 (s.goal - scalP o.size c), height := updF s.height k (some (wrap64 (highS s k + o.size))), closed := updF s.closed k true, pens := wrap64 (s.pens + penC x o.at_) } x o.at_
def insS (g : Gr) (s0 : Sh) (x : It) : Sh :=
  let n := hd x
  let c := clsOf g n.sub
  let s := metS g { s0 with body := true } n.sub
  if s.closed n.sub then putS { s with pens := wrap64 (s.pens + n.pen) } x (-2)
  else if wrap64 (highS s n.sub + n.h) ≤ c.most ∧ (scalP n.h c ≤ roomS s ∨ scalP n.h c ≤ 0) then
    putS { s with goal := wrap64 (s.goal - scalP n.h c), height := updF s.height n.sub (some (wrap64 (highS s n.sub + n.h))) } x (-1)
  else splitS s c x (roomS s)
/-! ### A page is fired -/
def restG (g : Gl) : Gl := if 0 < g.ho then { g with shr := 0, ho := 0 } else g
def restH (l : List Nd) : Int := max 0 (min (wrap64 ((sizeR l (itsP l) l.length 1073741823).1.nat + (sizeR l (itsP l) l.length 1073741823).2.1)) 1073741823)
def restP (n : Nd) (X : List Nd) : List Nd :=
  if prunC X (itsP X) (restG n.glue) = 0 then
    match prunF X (restG n.glue) (itsP X) [] with
    | [] => []
    | l => { n with h := restH l } :: l ++ [endK]
  else []
def boxP (l : List (It × Int)) : List Nd := l.flatMap fun x => if (hd x.1).kind = 13 then [] else x.1
def heldI1 (x : It × Int) : List It :=
  if (hd x.1).kind = 13 then
    (if x.2 = -2 then [x.1] else if x.2 = -1 then [] else match restP (hd x.1) ((inOf x.1).drop x.2.toNat) with | [] => [] | l => [l])
  else []
def heldP (l : List (It × Int)) : List It := l.flatMap heldI1
def behindP (l : List It) : List It × Int := match l with
  | [] => ([], 10000)
  | x :: r => if (hd x).kind = 9 then (({ hd x with pen := 10000 } :: x.drop 1) :: r, (hd x).pen) else (x :: r, 10000)
def fireP (g : Gr) (s : Sh) (n : Nd) (r : List It) (bot : ByteArray) : PgP × St :=
  let b := behindP (((s.list.drop s.bk).map (·.1)) ++ [[n]])
  let box := boxP (s.list.take s.bk)
  let held := heldP (s.list.take s.bk)
  let m := marksR box (itsP box)
  let last := if m.some then m.last else bot
  (⟨box, held.flatten, b.2, s.bcost, bot, if m.some then m.first else bot, last⟩, ⟨freshS g, held ++ b.1 ++ r, last⟩)
/-! ### Items come -/
def looseP (g : Gr) (s : Sh) (x : It) (r : List It) (bot : ByteArray) : Option PgP × St :=
  if s.body then
    let q := looseQ s (hd x) r
    if q < 10000 then
      if firesB s q then (some (fireP g (triedS s q) (hd x) r bot).1, (fireP g (triedS s q) (hd x) r bot).2)
      else (none, ⟨addedS (triedS s q) x, r, bot⟩)
    else (none, ⟨addedS s x, r, bot⟩)
  else (none, ⟨s, r, bot⟩)
def stepP (g : Gr) (s : Sh) (x : It) (r : List It) (bot : ByteArray) : Option PgP × St :=
  if solidK (hd x).kind then (none, ⟨solidS g s x, r, bot⟩)
  else if fallsK (hd x).kind then looseP g s x r bot
  else if (hd x).kind = 13 then (none, ⟨insS g s x, r, bot⟩)
  else (none, ⟨putS s x 0, r, bot⟩)
def stopsB (all : Bool) (s : Sh) (x : It) (r : List It) : Bool := (hd x).kind == 8 && s.body && r.isEmpty && !all
def comeF (g : Gr) (all : Bool) : Nat → St → List PgP → Option (St × List PgP)
  | 0, _, _ => none
  | n + 1, σ, out => match σ.waits with
    | [] => some (σ, out)
    | x :: r => if stopsB all σ.s x r then some (σ, out) else
      match stepP g σ.s x r σ.bot with
      | (none, τ) => comeF g all n τ out
      | (some p, τ) => if 2000 ≤ out.length then some (τ, out ++ [p]) else comeF g all n τ (out ++ [p])
def itemsOf (L : List Nd) : List It := (itsP L).map (itemN L)
def nodesN (σ : St) : Nat := (flatI σ.waits).length + (flatS σ.s).length
def putC (L : List Nd) (σ : St) : Int := if colP L (itsP L) = 0 then (if 2000 < L.length + nodesN σ then 6 else 0) else colP L (itsP L)
def putF (g : Gr) (n : Nat) (L : List Nd) (σ : St) : Option (St × List PgP × Int) :=
  if putC L σ = 0 then (comeF g false n { σ with waits := σ.waits ++ itemsOf L } []).map fun r => (r.1, r.2, 0) else some (σ, [], putC L σ)
def ejectN : Nd := { Nd.zero with kind := 9, pen := -10000 }
/-! ### What may be: a goal -/
def pkOK (c : Cp) : Bool := decide (0 ≤ c.num ∧ c.num ≤ 254) && decide (0 ≤ c.count ∧ c.count ≤ 10000) && decide (0 ≤ c.most ∧ c.most ≤ 1073741823)
def firmG (g : Gl) : Bool := g.good && (g.shr == 0 || g.ho == 0)
def goalC (g : Gr) : Int :=
  if dimenB g.height && dimenB g.depth && decide (0 < g.height) && decide (g.cls.length ≤ 255) && g.cls.all pkOK && decide (g.cls.map (·.num)).Nodup then
    (if firmG g.top && g.cls.all (fun c => firmG c.glue) then 0 else 30) else 1
/-! ### The laws' own trial: two pages -/
def kBox (n : Int) : List Nd := [{ Nd.zero with kind := 4, h := n * 65536 }, endK]
def kSkip : Nd := { Nd.zero with kind := 7, glue := ⟨327680, 3276800, 0, 0, 0⟩ }
def kList : List Nd := kBox 60 ++ [kSkip] ++ kBox 30 ++ [kSkip] ++ kBox 30 ++ [ejectN]
def kGoal : Gr := ⟨6553600, 131072, .zero, []⟩
theorem knows_run : ((putF kGoal 40 kList ⟨freshS kGoal, [], ⟨#[]⟩⟩).map fun r => (r.2.1.map fun p => (p.box.length, p.cost), r.2.2)) = some ([(6, 0), (3, -10000)], 0) := by decide +kernel
def insT : Nat → List (It × Int) → List Tk
  | _, [] => []
  | p, x :: r => if (hd x.1).kind = 13 then ⟨(p : Int), x.2⟩ :: insT (p + x.1.length) r else insT (p + x.1.length) r
def toRw (s : Sh) : Rw := ⟨flatS s, insT 0 s.list, s.body, s.box, s.goal, s.t, s.depth, s.height, s.closed, s.pens, (placeS s.list s.bk : Int), s.bcost, s.bsome, lastN s⟩
theorem insT_app (x : It) (t : Int) : ∀ (l : List (It × Int)) (p : Nat), insT p (l ++ [(x, t)]) = insT p l ++ (if (hd x).kind = 13 then [⟨((p + (l.map (·.1)).flatten.length : Nat) : Int), t⟩] else [])
  | [], p => by simp [insT]
  | y :: l, p => by
    rw [List.cons_append, insT, insT, insT_app x t l]
    simp only [List.map_cons, List.flatten_cons, List.length_append, Nat.add_assoc]
    split <;> rfl
theorem insT_none : ∀ (l : List (It × Int)) (p : Nat), (∀ x ∈ l, (hd x.1).kind ≠ 13) → insT p l = []
  | [], _, _ => rfl
  | y :: l, p, h => by
    rw [insT, if_neg (h y (by simp))]
    exact insT_none l _ fun x hx => h x (by simp [hx])
theorem toRw_grow (s : Sh) (x : Int) : growR (toRw s) x = toRw (growS s x) := rfl
theorem toRw_deep (s : Sh) (d m : Int) : deepR (toRw s) d m = toRw (deepS s d m) := by
  unfold deepR deepS
  split <;> rfl
theorem placeS_app {l : List (It × Int)} {k : Nat} (h : k ≤ l.length) (l2 : List (It × Int)) : placeS (l ++ l2) k = placeS l k := by
  unfold placeS
  rw [List.take_append_of_le_length h]
theorem toRw_put {s : Sh} {x : It} (t : Int) (hk : (hd x).kind ≠ 13) (hb : s.bk ≤ s.list.length) : putR (toRw s) x = toRw (putS s x t) := by
  have h1 : flatS s ++ x = flatS (putS s x t) := by simp [flatS, putS]
  have h2 : insT 0 s.list = insT 0 (putS s x t).list := by simp [putS, insT_app, hk]
  have h3 : (placeS s.list s.bk : Int) = (placeS (putS s x t).list s.bk : Int) := by rw [putS, placeS_app hb]
  have h4 : x.headD Nd.zero = lastN (putS s x t) := by simp [lastN, putS, hd]
  show Rw.mk (flatS s ++ x) (insT 0 s.list) s.body s.box s.goal s.t s.depth s.height s.closed s.pens (placeS s.list s.bk : Int) s.bcost s.bsome (x.headD Nd.zero) = _
  rw [h1, h2, h3, h4]
  rfl
theorem topG_kind (g : Gl) (h : Int) : (topG g h).kind = 7 := rfl
theorem toRw_topped {g : Gr} {s : Sh} {h : Int} (hb : s.bk ≤ s.list.length) : topR g (toRw s) h = toRw (toppedS g s h) := by
  unfold topR toppedS
  show (if s.box then _ else _) = _
  cases s.box
  · simp only [Bool.false_eq_true, if_false]
    rw [toRw_put 0 (by show (topG g.top h).kind ≠ 13; rw [topG_kind]; decide) hb]
    rfl
  · rfl
theorem topped_bk {g : Gr} {s : Sh} {h : Int} (hb : s.bk ≤ s.list.length) : (toppedS g s h).bk ≤ (toppedS g s h).list.length := by
  unfold toppedS
  split
  · exact hb
  · show s.bk ≤ (s.list ++ [_]).length
    simp; omega
theorem deep_sh (s : Sh) (d m : Int) : (deepS s d m).list = s.list ∧ (deepS s d m).bk = s.bk := by
  unfold deepS
  split <;> exact ⟨rfl, rfl⟩
theorem toRw_solid {g : Gr} {s : Sh} {x : It} (hk : (hd x).kind ≠ 13) (hb : s.bk ≤ s.list.length) : solidR g (toRw s) x = toRw (solidS g s x) := by
  unfold solidR solidS
  rw [toRw_topped hb, toRw_grow, toRw_deep]
  have h1 := topped_bk (g := g) (h := (hd x).h) hb
  rw [toRw_put 0 hk (by rw [(deep_sh _ _ _).1, (deep_sh _ _ _).2]; exact h1)]
  rfl
theorem toRw_added {s : Sh} {x : It} (hk : (hd x).kind ≠ 13) (hb : s.bk ≤ s.list.length) : addedR (toRw s) x = toRw (addedS s x) := by
  unfold addedR addedS
  rw [toRw_put 0 hk hb]
  show (if (hd x).kind = 7 then _ else if (hd x).kind = 8 then _ else _) = _
  split
  · rfl
  · split <;> rfl
theorem flatS_len (s : Sh) : (flatS s).length = placeS s.list s.list.length := by unfold flatS placeS; rw [List.take_length]
theorem cost_I (s : Sh) (q : Int) : costH (toRw s) q = costI s q := by
  unfold costH costI badI
  rfl
theorem toRw_tried (s : Sh) (q : Int) : triedR (toRw s) q = toRw (triedS s q) := by
  unfold triedR triedS
  rw [cost_I]
  dsimp only
  by_cases h : costI s q ≤ s.bcost ∧ (costI s q < 1073741823 ∨ s.bsome = false)
  · rw [if_pos (show costI s q ≤ (toRw s).bcost ∧ (costI s q < 1073741823 ∨ (toRw s).bsome = false) from h), if_pos h]
    show Rw.mk _ _ _ _ _ _ _ _ _ _ ((flatS s).length : Int) _ _ _ = _
    rw [flatS_len]
    rfl
  · rw [if_neg (show ¬ (costI s q ≤ (toRw s).bcost ∧ (costI s q < 1073741823 ∨ (toRw s).bsome = false)) from h), if_neg h]
    rfl
theorem fires_I (s : Sh) (q : Int) : firesR (toRw s) q = firesB s q := by
  unfold firesR firesB
  rw [cost_I]
def fullI (l : List It) : Prop := ∀ x ∈ l, x ≠ []
theorem flat_head {r : List It} (h : fullI r) : (flatI r).headD Nd.zero = hd (r.headD []) := by
  cases r with
  | nil => rfl
  | cons x l =>
    have := h x (by simp)
    cases x with
    | nil => exact absurd rfl this
    | cons n y => rfl
theorem flat_pos {r : List It} (h : fullI r) : 0 < (flatI r).length ↔ r ≠ [] := by
  cases r with
  | nil => simp [flatI]
  | cons x l =>
    have := h x (by simp)
    cases x with
    | nil => exact absurd rfl this
    | cons n y => simp [flatI]
theorem looseQ_I {s : Sh} {n : Nd} {r : List It} (hs : fullI (s.list.map (·.1))) (hr : fullI r) : looseQR (toRw s) n (flatI r) = looseQ s n r := by
  unfold looseQR looseQ
  have h1 : 0 < (toRw s).list.length ↔ s.list ≠ [] := by
    have := flat_pos hs
    simpa [toRw, flatS, flatI] using this
  have h2 : (toRw s).last = lastN s := rfl
  rw [flat_head hr, h2]
  simp only [h1, flat_pos hr, looseQ.hd9]
  first | done | rfl | (split <;> simp_all)
end Go.Proofs.YtomehdepjenilaaGreat
