/-
  The page builder: what the program does, item by item (plain). No statement of the seat stands here.
-/
import Derived.Test.YtomehdepjenilaaGreatS4
import Derived.Test.YtomehdepjenilaaGreatS7
import Derived.Test.YtomehdepjenilaaGreatH10
import Derived.Test.YtomehdepjenilaaGreatH17
import Derived.Test.YtomehdepjenilaaGreatC11
import Derived.Test.YtomehdepjenilaaGreatQ13
import Derived.Test.YtomehdepjenilaaGreatH19a
set_option maxRecDepth 100000
set_option maxHeartbeats 8000000
namespace Go.Proofs.YtomehdepjenilaaGreat
open Go.ChangeShapes Go.WideShapes Go.ChangeAt Go.RowKit
abbrev It := List Nd
def hd (x : It) : Nd := x.headD Nd.zero
def endK : Nd := { Nd.zero with kind := 6 }
structure Sh where
  list : List (It × Int)
  body : Bool
  box : Bool
  goal : Int
  t : Tt
  depth : Int
  height : Int → Option Int
  closed : Int → Bool
  pens : Int
  bk : Nat
  bcost : Int
  bsome : Bool
structure St where
  s : Sh
  waits : List It
  bot : ByteArray
def flatI (l : List It) : List Nd := l.flatten
def flatS (s : Sh) : List Nd := (s.list.map (·.1)).flatten
def placeS (l : List (It × Int)) (k : Nat) : Nat := ((l.take k).map (·.1)).flatten.length
def freshS (g : Gr) : Sh := ⟨[], false, false, g.height, .zero, 0, fun _ => none, fun _ => false, 0, 0, 1073741823, false⟩
def growS (s : Sh) (x : Int) : Sh := { s with t := growT s.t (wrap64 (s.depth + x)), depth := 0 }
def deepS (s : Sh) (d most : Int) : Sh := if most < d then { s with t := growT s.t (wrap64 (d - most)), depth := most } else { s with depth := d }
def flexS (s : Sh) (g : Gl) : Sh := { s with t := flexT s.t g }
def putS (s : Sh) (x : It) (tag : Int) : Sh := { s with list := s.list ++ [(x, tag)] }
def lastN (s : Sh) : Nd := match s.list.getLast? with | none => Nd.zero | some x => hd x.1
def toppedS (g : Gr) (s : Sh) (h : Int) : Sh := if s.box then s else flexS (growS (putS s [topG g.top h] 0) (topG g.top h).glue.nat) (topG g.top h).glue
def solidS (g : Gr) (s : Sh) (x : It) : Sh :=
  { putS (deepS (growS (toppedS g s (hd x).h) (hd x).h) (hd x).d g.depth) x 0 with body := true, box := true }
/-! ### Breaks -/
def badI (s : Sh) : Int := badG s.goal s.t
def costI (s : Sh) (q : Int) : Int :=
  if badI s = 1073741823 ∨ 10000 ≤ s.pens then 1073741823
  else if q ≤ -10000 then q
  else if badI s < 10000 then wrap64 (wrap64 (badI s + q) + s.pens)
  else 100000
def triedS (s : Sh) (q : Int) : Sh :=
  let c := costI s q
  if c ≤ s.bcost ∧ (c < 1073741823 ∨ s.bsome = false) then { s with bk := s.list.length, bcost := c, bsome := true } else { s with bsome := true }
def firesB (s : Sh) (q : Int) : Bool := costI s q == 1073741823 || decide (q ≤ -10000)
def looseQ (s : Sh) (n : Nd) (r : List It) : Int :=
  if n.kind = 7 ∧ s.list ≠ [] ∧ fallsK (lastN s).kind = false ∨ n.kind = 8 ∧ r ≠ [] ∧ (hd (hd9 r)).kind = 7 then 0
  else if n.kind = 9 then n.pen else 10000
where hd9 (r : List It) : It := r.headD []
def addedS (s : Sh) (x : It) : Sh :=
  if (hd x).kind = 7 then flexS (growS (putS s x 0) (hd x).glue.nat) (hd x).glue
  else if (hd x).kind = 8 then growS (putS s x 0) (hd x).w
  else putS s x 0
/-! ### Inserts -/
def clsOf (g : Gr) (k : Int) : Cp := (g.cls.find? fun c => c.num == k).getD ⟨k, 1000, 1073741823, .zero⟩
def scalP (x : Int) (c : Cp) : Int := (wrap64 (x * c.count)).tdiv 1000
def updF {α : Type} (f : Int → α) (k : Int) (v : α) : Int → α := fun a => if a = k then v else f a
def metS (g : Gr) (s : Sh) (k : Int) : Sh :=
  if (s.height k).isSome then s else { s with height := updF s.height k (some 0), goal := wrap64 (s.goal - (clsOf g k).glue.nat), t := flexT s.t (clsOf g k).glue }
def highS (s : Sh) (k : Int) : Int := (s.height k).getD 0
def roomS (s : Sh) : Int := wrap64 (wrap64 (s.goal - s.t.nat) - s.depth)
def wideS (s : Sh) (c : Cp) (k room : Int) : Int :=
  max (-1073741823) (min (min (if c.count = 0 then 1073741823 else if c.count = 1000 then room else (wrap64 (room * 1000)).tdiv c.count) (wrap64 (c.most - highS s k))) 1073741823)
def inOf (x : It) : List Nd := (x.drop 1).take (x.length - 2)
structure Cut where
  at_ : Nat
  size : Int
def cutP (x : It) (w : Int) : Cut :=
  let o := bestR (inOf x) (itsP (inOf x)) w (hd x).d
  if o.2 = 0 then ⟨(bA o.1).toNat, bS o.1⟩ else ⟨(inOf x).length, (hd x).h⟩
def penC (x : It) (a : Nat) : Int := if a = (inOf x).length then -10000 else if (nth (inOf x) a).kind = 9 then (nth (inOf x) a).pen else 0
def splitS (s : Sh) (c : Cp) (x : It) (room : Int) : Sh :=
  let k := (hd x).sub
  let o := cutP x (wideS s c k room)
  putS { s with goal := wrap64 (s.goal - scalP o.size c), height := updF s.height k (some (wrap64 (highS s k + o.size))), closed := updF s.closed k true, pens := wrap64 (s.pens + penC x o.at_) } x o.at_
def insS (g : Gr) (s0 : Sh) (x : It) : Sh :=
  let n := hd x
  let c := clsOf g n.sub
  let s := metS g { s0 with body := true } n.sub
  if s.closed n.sub then putS { s with pens := wrap64 (s.pens + n.pen) } x (-2)
  else if wrap64 (highS s n.sub + n.h) ≤ c.most ∧ (scalP n.h c ≤ roomS s ∨ scalP n.h c ≤ 0) then
    putS { s with goal := wrap64 (s.goal - scalP n.h c), height := updF s.height n.sub (some (wrap64 (highS s n.sub + n.h))) } x (-1)
  else splitS s c x (roomS s)
/-! ### A page is fired -/
def restG (g : Gl) : Gl := if 0 < g.ho then { g with shr := 0, ho := 0 } else g
def restH (l : List Nd) : Int := max 0 (min (wrap64 ((sizeR l (itsP l) l.length 1073741823).1.nat + (sizeR l (itsP l) l.length 1073741823).2.1)) 1073741823)
def restP (n : Nd) (X : List Nd) : List Nd :=
  if prunC X (itsP X) (restG n.glue) = 0 then
    match prunF X (restG n.glue) (itsP X) [] with
    | [] => []
    | l => { n with h := restH l } :: l ++ [endK]
  else []
def boxP (l : List (It × Int)) : List Nd := l.flatMap fun x => if (hd x.1).kind = 13 then [] else x.1
def heldI1 (x : It × Int) : List It :=
  if (hd x.1).kind = 13 then
    (if x.2 = -2 then [x.1] else if x.2 = -1 then [] else match restP (hd x.1) ((inOf x.1).drop x.2.toNat) with | [] => [] | l => [l])
  else []
def heldP (l : List (It × Int)) : List It := l.flatMap heldI1
def behindP (l : List It) : List It × Int := match l with
  | [] => ([], 10000)
  | x :: r => if (hd x).kind = 9 then (({ hd x with pen := 10000 } :: x.drop 1) :: r, (hd x).pen) else (x :: r, 10000)
def fireP (g : Gr) (s : Sh) (n : Nd) (r : List It) (bot : ByteArray) : PgP × St :=
  let b := behindP (((s.list.drop s.bk).map (·.1)) ++ [[n]])
  let box := boxP (s.list.take s.bk)
  let held := heldP (s.list.take s.bk)
  let m := marksR box (itsP box)
  let last := if m.some then m.last else bot
  (⟨box, held.flatten, b.2, s.bcost, bot, if m.some then m.first else bot, last⟩, ⟨freshS g, held ++ b.1 ++ r, last⟩)
/-! ### Items come -/
def looseP (g : Gr) (s : Sh) (x : It) (r : List It) (bot : ByteArray) : Option PgP × St :=
  if s.body then
    let q := looseQ s (hd x) r
    if q < 10000 then
      if firesB s q then (some (fireP g (triedS s q) (hd x) r bot).1, (fireP g (triedS s q) (hd x) r bot).2)
      else (none, ⟨addedS (triedS s q) x, r, bot⟩)
    else (none, ⟨addedS s x, r, bot⟩)
  else (none, ⟨s, r, bot⟩)
def stepP (g : Gr) (s : Sh) (x : It) (r : List It) (bot : ByteArray) : Option PgP × St :=
  if solidK (hd x).kind then (none, ⟨solidS g s x, r, bot⟩)
  else if fallsK (hd x).kind then looseP g s x r bot
  else if (hd x).kind = 13 then (none, ⟨insS g s x, r, bot⟩)
  else (none, ⟨putS s x 0, r, bot⟩)
def stopsB (all : Bool) (s : Sh) (x : It) (r : List It) : Bool := (hd x).kind == 8 && s.body && r.isEmpty && !all
def comeF (g : Gr) (all : Bool) : Nat → St → List PgP → Option (St × List PgP)
  | 0, _, _ => none
  | n + 1, σ, out => match σ.waits with
    | [] => some (σ, out)
    | x :: r => if stopsB all σ.s x r then some (σ, out) else
      match stepP g σ.s x r σ.bot with
      | (none, τ) => comeF g all n τ out
      | (some p, τ) => if 2000 ≤ out.length then some (τ, out ++ [p]) else comeF g all n τ (out ++ [p])
def itemsOf (L : List Nd) : List It := (itsP L).map (itemN L)
def nodesN (σ : St) : Nat := (flatI σ.waits).length + (flatS σ.s).length
def putC (L : List Nd) (σ : St) : Int := if colP L (itsP L) = 0 then (if 2000 < L.length + nodesN σ then 6 else 0) else colP L (itsP L)
def putF (g : Gr) (n : Nat) (L : List Nd) (σ : St) : Option (St × List PgP × Int) :=
  if putC L σ = 0 then (comeF g false n { σ with waits := σ.waits ++ itemsOf L } []).map fun r => (r.1, r.2, 0) else some (σ, [], putC L σ)
def ejectN : Nd := { Nd.zero with kind := 9, pen := -10000 }
/-! ### What may be: a goal -/
def pkOK (c : Cp) : Bool := decide (0 ≤ c.num ∧ c.num ≤ 254) && decide (0 ≤ c.count ∧ c.count ≤ 10000) && decide (0 ≤ c.most ∧ c.most ≤ 1073741823)
def firmG (g : Gl) : Bool := g.good && (g.shr == 0 || g.ho == 0)
def goalC (g : Gr) : Int :=
  if dimenB g.height && dimenB g.depth && decide (0 < g.height) && decide (g.cls.length ≤ 255) && g.cls.all pkOK && decide (g.cls.map (·.num)).Nodup then
    (if firmG g.top && g.cls.all (fun c => firmG c.glue) then 0 else 30) else 1
/-! ### The laws' own trial: two pages -/
def kBox (n : Int) : List Nd := [{ Nd.zero with kind := 4, h := n * 65536 }, endK]
def kSkip : Nd := { Nd.zero with kind := 7, glue := ⟨327680, 3276800, 0, 0, 0⟩ }
def kList : List Nd := kBox 60 ++ [kSkip] ++ kBox 30 ++ [kSkip] ++ kBox 30 ++ [ejectN]
def kGoal : Gr := ⟨6553600, 131072, .zero, []⟩
theorem knows_run : ((putF kGoal 40 kList ⟨freshS kGoal, [], ⟨#[]⟩⟩).map fun r => (r.2.1.map fun p => (p.box.length, p.cost), r.2.2)) = some ([(6, 0), (3, -10000)], 0) := by decide +kernel
def insT : Nat → List (It × Int) → List Tk
  | _, [] => []
  | p, x :: r => if (hd x.1).kind = 13 then ⟨(p : Int), x.2⟩ :: insT (p + x.1.length) r else insT (p + x.1.length) r
def toRw (s : Sh) : Rw := ⟨flatS s, insT 0 s.list, s.body, s.box, s.goal, s.t, s.depth, s.height, s.closed, s.pens, (placeS s.list s.bk : Int), s.bcost, s.bsome, lastN s⟩
theorem insT_app (x : It) (t : Int) : ∀ (l : List (It × Int)) (p : Nat), insT p (l ++ [(x, t)]) = insT p l ++ (if (hd x).kind = 13 then [⟨((p + (l.map (·.1)).flatten.length : Nat) : Int), t⟩] else [])
  | [], p => by simp [insT]
  | y :: l, p => by
    rw [List.cons_append, insT, insT, insT_app x t l]
    simp only [List.map_cons, List.flatten_cons, List.length_append, Nat.add_assoc]
    split <;> rfl
theorem insT_none : ∀ (l : List (It × Int)) (p : Nat), (∀ x ∈ l, (hd x.1).kind ≠ 13) → insT p l = []
  | [], _, _ => rfl
  | y :: l, p, h => by
    rw [insT, if_neg (h y (by simp))]
    exact insT_none l _ fun x hx => h x (by simp [hx])
theorem toRw_grow (s : Sh) (x : Int) : growR (toRw s) x = toRw (growS s x) := rfl
theorem toRw_deep (s : Sh) (d m : Int) : deepR (toRw s) d m = toRw (deepS s d m) := by
  unfold deepR deepS
  split <;> rfl
theorem placeS_app {l : List (It × Int)} {k : Nat} (h : k ≤ l.length) (l2 : List (It × Int)) : placeS (l ++ l2) k = placeS l k := by
  unfold placeS
  rw [List.take_append_of_le_length h]
theorem toRw_put {s : Sh} {x : It} (t : Int) (hk : (hd x).kind ≠ 13) (hb : s.bk ≤ s.list.length) : putR (toRw s) x = toRw (putS s x t) := by
  have h1 : flatS s ++ x = flatS (putS s x t) := by simp [flatS, putS]
  have h2 : insT 0 s.list = insT 0 (putS s x t).list := by simp [putS, insT_app, hk]
  have h3 : (placeS s.list s.bk : Int) = (placeS (putS s x t).list s.bk : Int) := by rw [putS, placeS_app hb]
  have h4 : x.headD Nd.zero = lastN (putS s x t) := by simp [lastN, putS, hd]
  show Rw.mk (flatS s ++ x) (insT 0 s.list) s.body s.box s.goal s.t s.depth s.height s.closed s.pens (placeS s.list s.bk : Int) s.bcost s.bsome (x.headD Nd.zero) = _
  rw [h1, h2, h3, h4]
  rfl
theorem topG_kind (g : Gl) (h : Int) : (topG g h).kind = 7 := rfl
theorem toRw_topped {g : Gr} {s : Sh} {h : Int} (hb : s.bk ≤ s.list.length) : topR g (toRw s) h = toRw (toppedS g s h) := by
  unfold topR toppedS
  show (if s.box then _ else _) = _
  cases s.box
  · simp only [Bool.false_eq_true, if_false]
    rw [toRw_put 0 (by show (topG g.top h).kind ≠ 13; rw [topG_kind]; decide) hb]
    rfl
  · rfl
theorem topped_bk {g : Gr} {s : Sh} {h : Int} (hb : s.bk ≤ s.list.length) : (toppedS g s h).bk ≤ (toppedS g s h).list.length := by
  unfold toppedS
  split
  · exact hb
  · show s.bk ≤ (s.list ++ [_]).length
    simp; omega
theorem deep_sh (s : Sh) (d m : Int) : (deepS s d m).list = s.list ∧ (deepS s d m).bk = s.bk := by
  unfold deepS
  split <;> exact ⟨rfl, rfl⟩
theorem toRw_solid {g : Gr} {s : Sh} {x : It} (hk : (hd x).kind ≠ 13) (hb : s.bk ≤ s.list.length) : solidR g (toRw s) x = toRw (solidS g s x) := by
  unfold solidR solidS
  rw [toRw_topped hb, toRw_grow, toRw_deep]
  have h1 := topped_bk (g := g) (h := (hd x).h) hb
  rw [toRw_put 0 hk (by rw [(deep_sh _ _ _).1, (deep_sh _ _ _).2]; exact h1)]
  rfl
theorem toRw_added {s : Sh} {x : It} (hk : (hd x).kind ≠ 13) (hb : s.bk ≤ s.list.length) : addedR (toRw s) x = toRw (addedS s x) := by
  unfold addedR addedS
  rw [toRw_put 0 hk hb]
  show (if (hd x).kind = 7 then _ else if (hd x).kind = 8 then _ else _) = _
  split
  · rfl
  · split <;> rfl
theorem flatS_len (s : Sh) : (flatS s).length = placeS s.list s.list.length := by unfold flatS placeS; rw [List.take_length]
theorem cost_I (s : Sh) (q : Int) : costH (toRw s) q = costI s q := by
  unfold costH costI badI
  rfl
theorem toRw_tried (s : Sh) (q : Int) : triedR (toRw s) q = toRw (triedS s q) := by
  unfold triedR triedS
  rw [cost_I]
  dsimp only
  by_cases h : costI s q ≤ s.bcost ∧ (costI s q < 1073741823 ∨ s.bsome = false)
  · rw [if_pos (show costI s q ≤ (toRw s).bcost ∧ (costI s q < 1073741823 ∨ (toRw s).bsome = false) from h), if_pos h]
    show Rw.mk _ _ _ _ _ _ _ _ _ _ ((flatS s).length : Int) _ _ _ = _
    rw [flatS_len]
    rfl
  · rw [if_neg (show ¬ (costI s q ≤ (toRw s).bcost ∧ (costI s q < 1073741823 ∨ (toRw s).bsome = false)) from h), if_neg h]
    rfl
theorem fires_I (s : Sh) (q : Int) : firesR (toRw s) q = firesB s q := by
  unfold firesR firesB
  rw [cost_I]
def fullI (l : List It) : Prop := ∀ x ∈ l, x ≠ []
theorem flat_head {r : List It} (h : fullI r) : (flatI r).headD Nd.zero = hd (r.headD []) := by
  cases r with
  | nil => rfl
  | cons x l =>
    have := h x (by simp)
    cases x with
    | nil => exact absurd rfl this
    | cons n y => rfl
theorem flat_pos {r : List It} (h : fullI r) : 0 < (flatI r).length ↔ r ≠ [] := by
  cases r with
  | nil => simp [flatI]
  | cons x l =>
    have := h x (by simp)
    cases x with
    | nil => exact absurd rfl this
    | cons n y => simp [flatI]
theorem looseQ_I {s : Sh} {n : Nd} {r : List It} (hs : fullI (s.list.map (·.1))) (hr : fullI r) : looseQR (toRw s) n (flatI r) = looseQ s n r := by
  unfold looseQR looseQ
  have h1 : 0 < (toRw s).list.length ↔ s.list ≠ [] := by
    have := flat_pos hs
    simpa [toRw, flatS, flatI] using this
  have h2 : (toRw s).last = lastN s := rfl
  rw [flat_head hr, h2]
  simp only [h1, flat_pos hr, looseQ.hd9]
  first | done | rfl | (split <;> simp_all)
def bsGl1 (parts : Array (Nat × Value)) : Sem Value := Instr.buildSlice 79 1 parts
@[go_sem ↓] theorem execOp_bsGl1 (ρ : Operand → Value) (dst : Option Tmp) (x : Array (Nat × Operand)) (ty : TypeId) (pos : String) (after : Array Edge) (guard : Option (Nat × Bool)) :
    execOp ρ { dst, op := .buildSlice 79 1 x, type := ty, pos, after, guard } = (do pure (.value (← bsGl1 (x.map fun (i, y) => (i, ρ y))))) := rfl
theorem fill_gl1 (g : Gl) : Instr.fill (fun i => some (i * 5, 5)) ((Array.range (1 * 5)).map ((Value.agg Gl.zero.arr).cells[· % (Value.agg Gl.zero.arr).cells.size]!)) [(0, .agg g.arr)] = some g.arr := by kernel_rfl
theorem info_gl0 : (Tryz.prog.info? 23).map (fun i => (i.zero, i.size)) = some (some (.agg Gl.zero.arr), 5) := by kernel_rfl
@[go_sem] theorem run_bsGl1 (g : Gl) (w : World) : (bsGl1 #[(0, .agg g.arr)]).run Tryz.prog w = .ok (.slice (some ⟨w.heap.size, 0, none⟩) 1 1) (w.alloc (.cells g.arr 23)) := by
  obtain ⟨i, hi, hzz⟩ := Option.map_eq_some_iff.1 info_gl0
  simp only [Prod.mk.injEq] at hzz
  obtain ⟨hz, hs⟩ := hzz
  refine run_buildSlice w _ 23 1 _ g.arr i (.agg Gl.zero.arr) Tryz.underlying79 hi hz (by rw [hs]; decide) (by rw [hs]; decide) ?_
  rw [hs]
  exact fill_gl1 g
def newA (p : Gp) : Array Value := (p.cells ++ ([.pointer none, .slice none 0 0, .string ⟨#[]⟩] : List Value)).toArray
def bdBd (parts : Array (Nat × Value)) : Sem Value := Instr.build 71 parts
@[go_sem ↓] theorem execOp_buildBd (ρ : Operand → Value) (dst : Option Tmp) (x : Array (Nat × Operand)) (ty : TypeId) (pos : String) (after : Array Edge) (guard : Option (Nat × Bool)) :
    execOp ρ { dst, op := .build 71 x, type := ty, pos, after, guard } = (do pure (.value (← bdBd (x.map fun (i, y) => (i, ρ y))))) := rfl
@[go_sem] theorem run_bdBd (p : Gp) (w : World) : (bdBd #[(0, .agg p.arr)]).run Tryz.prog w = .ok (.agg (newA p)) w := by kernel_rfl
theorem clone_clsnil (w : World) : Calls Tryz.prog 32 #[.slice none 0 0] w fun e w' => e = .returned (.slice none 0 0) ∧ w' = w := by
  have hq := eql_nilC
  go_enter Tryz.func32, Tryz.ntmps32
  go_wp2_with fail
  go_ret
  exact ⟨rfl, rfl⟩
def newRo (B S mh mc : Nat) (q : Option Nat) : Nat → Option Nat := fun i => if i = 0 then some B else if i = 1 then some S else if i = 4 then some mh else if i = 5 then some mc else if i = 7 then q else none
theorem newRo_cases {B S mh mc : Nat} {q : Option Nat} {i x : Nat} (h : newRo B S mh mc q i = some x) : (i = 0 ∧ x = B) ∨ (i = 1 ∧ x = S) ∨ (i = 4 ∧ x = mh) ∨ (i = 5 ∧ x = mc) ∨ (i = 7 ∧ q = some x) := by
  unfold newRo at h
  split at h
  · rename_i e; cases h; exact .inl ⟨e, rfl⟩
  split at h
  · rename_i e; cases h; exact .inr (.inl ⟨e, rfl⟩)
  split at h
  · rename_i e; cases h; exact .inr (.inr (.inl ⟨e, rfl⟩))
  split at h
  · rename_i e; cases h; exact .inr (.inr (.inr (.inl ⟨e, rfl⟩)))
  split at h
  · rename_i e; exact .inr (.inr (.inr (.inr ⟨e, h⟩)))
  · cases h
theorem BdR.new {w7 : World} {base B S mh mc n c : Nat} {A : Option Addr} {g : Gr} (hb : Cb w7 B (Bc.mk g.height g.depth g.top A n c S none 0 0 ⟨#[]⟩).arr 71) (hA : CpIn w7 A n c g.cls) (hq : ∀ q, blkA A = some q → base ≤ q ∧ q < B)
    (hB : base ≤ B) (h1 : B < mh) (h2 : mh < mc) (h3 : mc < S) (h4 : S < w7.heap.size) (m1 : MapF w7 mh (fun _ => none)) (m2 : MapF w7 mc (fun _ => none)) (hs : ScAt w7 S (freshC g.height mh mc)) :
    BdR w7 base B (newRo B S mh mc (blkA A)) (Bc.mk g.height g.depth g.top A n c S none 0 0 ⟨#[]⟩) (freshC g.height mh mc) g ⟨#[]⟩ [] (freshR g.height) := by
  refine ⟨⟨hs, ⟨rfl, rfl, rfl, rfl, rfl, rfl, rfl, rfl, rfl, rfl, World.ownsRow_nil _ _ _ _, World.ownsRow_nil _ _ _ _, m1, m2⟩, ⟨fun i x e => ?_, fun i j x hne e1 e2 => ?_⟩, ⟨rfl, rfl, rfl, rfl, rfl⟩, by omega⟩, hb, ⟨rfl, rfl, rfl, rfl, hA, rfl, 0, 0, ⟨fun e => absurd rfl e, fun e => absurd rfl e, fun j hj => by simp at hj, Nat.le_refl _, by simp⟩, fun a e => by cases e⟩, rfl, rfl, rfl⟩
  · rcases newRo_cases e with ⟨_, rfl⟩ | ⟨_, rfl⟩ | ⟨_, rfl⟩ | ⟨_, rfl⟩ | ⟨_, e⟩
    · omega
    · omega
    · omega
    · omega
    · have := hq x e; omega
  · rcases newRo_cases e1 with ⟨rfl, rfl⟩ | ⟨rfl, rfl⟩ | ⟨rfl, rfl⟩ | ⟨rfl, rfl⟩ | ⟨rfl, e1⟩ <;> rcases newRo_cases e2 with ⟨rfl, e⟩ | ⟨rfl, e⟩ | ⟨rfl, e⟩ | ⟨rfl, e⟩ | ⟨rfl, e⟩
    all_goals first
      | (exact absurd rfl hne)
      | omega
      | (have := hq _ e; omega)
      | (have := hq _ e1; omega)
structure NewPost (w : World) (g : Gr) (e : Ending) (w' : World) : Prop where
  below : Below w.heap.size w w'
  bad : goalC g ≠ 0 → e = .returned (.tuple #[.pointer none, .int .i64 (goalC g)])
  good : goalC g = 0 → ∃ B b c r, e = .returned (.tuple #[.pointer (some ⟨B, 0, none⟩), .int .i64 0]) ∧ BdR w' w.heap.size B r b c g ⟨#[]⟩ [] (freshR g.height)
theorem new_none (w : World) (h d : Int) (top : Gl) : Calls Tryz.prog 9 #[.agg (Gp.mk h d top none 0 0).arr] w (NewPost w ⟨h, d, top, []⟩) := by
  have HD := Lib.hid pdimen
  obtain ⟨G, hG⟩ : ∃ G, goalC ⟨h, d, top, []⟩ = G := ⟨_, rfl⟩
  have HG : Hid (G = if dimenB h && dimenB d && decide (0 < h) then (if top.good && (top.shr == 0 || top.ho == 0) then 0 else 30) else 1) := Lib.hid (by rw [← hG]; unfold goalC firmG; simp)
  have HGe := Lib.hid hG
  clear hG
  have hmm := @run_makeMap Tryz.prog
  have c0 : (w.alloc (.cells (Gp.mk h d top none 0 0).arr 34)).cell? ⟨w.heap.size, 0, none⟩ = some (.int .i64 h) := (Cb.new w _ _).cell 0 _ (Gp.get0 _)
  go_enter Tryz.func9, Tryz.ntmps9
  go_upto_region 1 with (fail)
  have hY := Cb.new w (Gp.mk h d top none 0 0).arr 34
  have hb1 : Below w.heap.size w (w.alloc (.cells (Gp.mk h d top none 0 0).arr 34)) := (Below.refl _ _).alloc (Nat.le_refl _) _
  have hs1 : (w.alloc (.cells (Gp.mk h d top none 0 0).arr 34)).heap.size = w.heap.size + 1 := by simp
  clear c0
  generalize w.alloc (.cells (Gp.mk h d top none 0 0).arr 34) = w1 at hY hb1 hs1 ⊢
  obtain ⟨Y, hYz⟩ : ∃ Y, w.heap.size = Y := ⟨_, rfl⟩
  rw [hYz] at hY hs1
  simp only [hYz]
  have HYz := Lib.hid hYz
  clear hYz
  have y0 := hY.cell 0 _ (Gp.get0 _)
  have y1 := hY.cell 1 _ (Gp.get1 _)
  have y7 := hY.cell 7 _ (Gp.get7 _)
  have yt : agg? w1 Y 2 5 = some top.arr := hY.agg 2 5 (by rw [Gp.size_arr]; decide)
  obtain ⟨ok, hok⟩ : ∃ ok, (dimenB h && dimenB d && decide (0 < h)) = ok := ⟨_, rfl⟩
  rw [hok] at HG
  have Hok := Lib.hid hok
  clear hok
  have HY := Lib.hid (And.intro hY (And.intro hb1 hs1))
  clear hY hb1 hs1
  go_cut [4] from 12 to 30 (fun s4 wx => s4 = .bool ok ∧ wx = w1)
  case first =>
    cases e1 : dimenB h
    · have hv : Hid (ok = false) := Lib.hid (by rw [← Hok.out, e1]; rfl)
      go_wp2_with (go_at_call 29; refine (HD.out _ _).mono ?_; rintro e w2 ⟨rfl, rfl⟩)
      go_meet
      exact ⟨by rw [hv.out], rfl⟩
    · cases e2 : dimenB d
      · have hv : Hid (ok = false) := Lib.hid (by rw [← Hok.out, e1, e2]; rfl)
        go_wp2_with (go_at_call 29; refine (HD.out _ _).mono ?_; rintro e w2 ⟨rfl, rfl⟩)
        go_meet
        exact ⟨by rw [hv.out], rfl⟩
      · by_cases e3 : 0 < h
        · have hv : Hid (ok = true) := Lib.hid (by rw [← Hok.out, e1, e2, decide_eq_true e3]; rfl)
          have e4 : decide (h > 0) = true := decide_eq_true e3
          go_wp2_with (go_at_call 29; refine (HD.out _ _).mono ?_; rintro e w2 ⟨rfl, rfl⟩)
          go_meet
          exact ⟨by rw [hv.out], rfl⟩
        · have hv : Hid (ok = false) := Lib.hid (by rw [← Hok.out, e1, e2, decide_eq_false e3]; rfl)
          have e4 : decide (h > 0) = false := decide_eq_false e3
          go_wp2_with (go_at_call 29; refine (HD.out _ _).mono ?_; rintro e w2 ⟨rfl, rfl⟩)
          go_meet
          exact ⟨by rw [hv.out], rfl⟩
  case rest =>
    obtain ⟨rfl, rfl⟩ := hcut
    go_upto_region 4 with (fail)
    have hb3 : Below wc.heap.size wc ((wc.alloc (.cells top.arr 23)).alloc (.map #[] 0)) := ((Below.refl _ _).alloc (Nat.le_refl _) _).alloc (by simp) _
    have ht3 : Cb ((wc.alloc (.cells top.arr 23)).alloc (.map #[] 0)) wc.heap.size top.arr 23 := (Cb.new wc top.arr 23).alloc _
    have hY3 := HY.out.1.below hb3
    clear hmm y0 y1 y7 yt HD
    generalize (wc.alloc (.cells top.arr 23)).alloc (.map #[] 0) = w3 at hb3 ht3 hY3 ⊢
    obtain ⟨T, hTz⟩ : ∃ T, wc.heap.size = T := ⟨_, rfl⟩
    rw [hTz] at ht3
    simp only [hTz]
    have HB3 := Lib.hid (HY.out.2.1.trans (hb3.mono HY.out.2.1.size))
    have HT3 := Lib.hid ht3
    have HY3 := Lib.hid hY3
    have y7 := hY3.cell 7 _ (Gp.get7 _)
    clear hTz hb3 ht3 hY3 HY
    go_wp2_with fail
    clear y7
    go_loopg [4, 5, 38] 1 (fun gg t4 t5 t38 wr => gg = 1 ∧ t4 = .bool ok ∧ t5 = .slice (some ⟨T, 0, none⟩) 1 1 ∧ t38 = .int .i64 0 ∧ wr = w3)
    case atStart => exact ⟨rfl, rfl, rfl, rfl, rfl⟩
    case round =>
      obtain ⟨rfl, rfl, rfl, rfl, rfl⟩ := hrel
      cases ok
      · have hG : Hid (goalC ⟨h, d, top, []⟩ = 1) := Lib.hid (HGe.out.trans (HG.out.trans (if_neg (by decide))))
        go_wp2_with fail
        go_ret2
        exact ⟨HB3.out, fun _ => by rw [hG.out]; rfl, fun e => by rw [hG.out] at e; cases e⟩
      · obtain ⟨fg, hfg⟩ : ∃ fg, (top.good && (top.shr == 0 || top.ho == 0)) = fg := ⟨_, rfl⟩
        rw [hfg, if_pos rfl] at HG
        have Hfg := Lib.hid hfg
        clear hfg
        go_wp2_with fail
        have HGC := Lib.hid (gcheck_any top)
        have HFC := Lib.hid (pfirm top)
        go_loopg [93] 2 (fun gg t93 wx => (gg = 2 ∧ t93 = .int .i64 0 ∧ wx = wr) ∨ (gg = 1 ∧ t93 = .int .i64 1 ∧ fg = true ∧ Below wr.heap.size wr wx))
        case atStart => exact .inl ⟨rfl, rfl, rfl⟩
        case round =>
          rcases hrel with ⟨rfl, rfl, rfl⟩ | ⟨rfl, rfl, rfl, hbx⟩
          · have at0 : agg? wr T 0 5 = some top.arr := HT3.out.agg 0 5 (by rw [Gl.size_arr]; decide)
            have hTl : T < wr.heap.size := HT3.out.lt
            cases e1 : top.good
            · have hv : Hid (fg = false) := Lib.hid (by rw [← Hfg.out, e1]; rfl)
              have hG : Hid (goalC ⟨h, d, top, []⟩ = 30) := Lib.hid (by rw [HGe.out, HG.out, hv.out]; rfl)
              rw [e1] at HGC
              go_wp2_with (first | (go_at_call 30; refine (HGC.out _).mono ?_; rintro e w4 ⟨rfl, hb4⟩))
              go_ret2
              exact ⟨HB3.out.trans ((((Below.refl _ _).alloc (Nat.le_refl _) _).trans (hb4.mono (by simp))).mono HB3.out.size), fun _ => by rw [hG.out]; rfl, fun e => by rw [hG.out] at e; cases e⟩
            · rw [e1] at HGC
              cases e2 : (top.shr == 0 || top.ho == 0)
              · have hv : Hid (fg = false) := Lib.hid (by rw [← Hfg.out, e1, e2]; rfl)
                have hG : Hid (goalC ⟨h, d, top, []⟩ = 30) := Lib.hid (by rw [HGe.out, HG.out, hv.out]; rfl)
                rw [e2] at HFC
                clear e2
                go_wp2_with (first | (go_at_call 30; refine (HGC.out _).mono ?_; rintro e w4 ⟨rfl, hb4⟩; have at4 : agg? w4 wr.heap.size 0 5 = some top.arr := (Cb.below (Cb.new wr top.arr 23) hb4).agg 0 5 (by rw [Gl.size_arr]; decide)) | (go_at_call 31; refine (HFC.out _).mono ?_; rintro e w5 ⟨rfl, hb5⟩))
                go_ret2
                exact ⟨HB3.out.trans ((((Below.refl _ _).alloc (Nat.le_refl _) _).trans ((hb4.trans (hb5.mono hb4.size)).mono (by simp))).mono HB3.out.size), fun _ => by rw [hG.out]; rfl, fun e => by rw [hG.out] at e; cases e⟩
              · have hv : Hid (fg = true) := Lib.hid (by rw [← Hfg.out, e1, e2]; rfl)
                rw [e2] at HFC
                clear e2
                go_wp2_with (first | (go_at_call 30; refine (HGC.out _).mono ?_; rintro e w4 ⟨rfl, hb4⟩; have at4 : agg? w4 wr.heap.size 0 5 = some top.arr := (Cb.below (Cb.new wr top.arr 23) hb4).agg 0 5 (by rw [Gl.size_arr]; decide)) | (go_at_call 31; refine (HFC.out _).mono ?_; rintro e w5 ⟨rfl, hb5⟩))
                go_roundg 1
                case measure => omega
                case rel => exact .inr ⟨rfl, by go_num, hv.out, (((Below.refl _ _).alloc (Nat.le_refl _) _).trans ((hb4.trans (hb5.mono hb4.size)).mono (by simp)))⟩
          · have hG : Hid (goalC ⟨h, d, top, []⟩ = 0) := Lib.hid (by rw [HGe.out, HG.out]; rfl)
            have hY4 := HY3.out.below hbx
            have y7 := hY4.cell 7 _ (Gp.get7 _)
            have f7 := hY4.frozen 7
            have HY4 := Lib.hid hY4
            have Hbx := Lib.hid hbx
            clear hbx hY4 HGC HFC
            go_upto_region 20 with (go_at_call 32; refine (clone_clsnil _).mono ?_; rintro e w5 ⟨rfl, rfl⟩)
            have hY5 : Cb (w5.setCell ⟨Y, 7, none⟩ (.slice none 0 0)) Y (Gp.mk h d top none 0 0).arr 34 := HY4.out.set 7 _ (Gp.set7 _ _ _ _)
            have hYw : w.heap.size ≤ Y := by rw [HYz.out]; exact Nat.le_refl _
            have hb5 : Below w.heap.size w (w5.setCell ⟨Y, 7, none⟩ (.slice none 0 0)) := (HB3.out.trans (Hbx.out.mono HB3.out.size)).setCell hYw _
            clear y7 f7 HY4 Hbx
            generalize w5.setCell ⟨Y, 7, none⟩ (.slice none 0 0) = w5b at hY5 hb5 ⊢
            have ya : agg? w5b Y 0 8 = some (Gp.mk h d top none 0 0).arr := hY5.agg 0 8 (by rw [Gp.size_arr]; decide)
            go_upto_region 21 with (fail)
            have hB6 := Cb.new w5b (newA (Gp.mk h d top none 0 0)) 71
            have hb6 : Below w.heap.size w (w5b.alloc (.cells (newA (Gp.mk h d top none 0 0)) 71)) := hb5.alloc hb5.size _
            have hz6 : (w5b.alloc (.cells (newA (Gp.mk h d top none 0 0)) 71)).heap.size = w5b.heap.size + 1 := by simp
            have hBw := hb5.size
            clear ya hY5 hb5
            generalize w5b.alloc (.cells (newA (Gp.mk h d top none 0 0)) 71) = w6 at hB6 hb6 hz6 ⊢
            generalize w5b.heap.size = B at hB6 hz6 hBw ⊢
            have HFr := Lib.hid (bfresh w6 B h _ hB6 rfl ⟨_, rfl⟩)
            have Hb6 := Lib.hid hb6
            clear hB6 hb6
            go_wp2_with (go_at_call 33; refine HFr.out.mono ?_; clear HFr; rintro e w7 ⟨rfl, S, mh, mc, h1, h2, h3, h4, m1, m2, hs, hb, hf7⟩)
            go_ret2
            refine ⟨Hb6.out.trans (hf7.below Hb6.out.size fun k e => by omega), fun e => absurd hG.out e, fun _ => ⟨B, _, _, _, rfl, BdR.new (g := ⟨h, d, top, []⟩) (A := none) (n := 0) (c := 0) hb ⟨rfl, Nat.le_refl _, fun e => absurd rfl e⟩ (fun q e => by cases e) hBw (by omega) h2 h3 h4 m1 m2 hs⟩⟩
end Go.Proofs.YtomehdepjenilaaGreat
