/-
  Inserts: what the program reckons, item by item (plain).
-/
import Derived.Test.YtaehkbbdmamfpaaGreatDoorI0
import Derived.Test.YtaehkbbdmamfpaaGreatDoorW3
import Derived.Test.YtaehkbbdmamfpaaGreatDoorC13
import Derived.Test.YtaehkbbdmamfpaaGreatDoorV11a
namespace Go.Proofs.YtaehkbbdmamfpaaGreatDoor
open Go.ChangeShapes Go.WideShapes Go.ChangeAt Go.RowKit
/-! ### Classes -/
def clsOK (k : Cl) : Bool := decide (0 ≤ k.scale ∧ k.scale ≤ 100000) && decide (0 ≤ k.most ∧ k.most ≤ 1073741823) && decide (0 ≤ k.have_ ∧ k.have_ ≤ 1073741823) && k.skip.good && (k.skip.ho == 0 || k.skip.shr == 0)
def clsC (C : List Cl) : Int := if 255 < C.length then 1 else if C.all clsOK then 0 else 1
def clsAt (C : List Cl) (k : Int) : Cl := (C[k.toNat]?).getD Cl.plain
/-! ### How much of the page a size takes -/
def holdI (x : Int) : Int := max (-70368744177664) (min x 70368744177664)
def hugeI (a b : Int) : Int := if decide (a < 0) = decide (b < 0) then 70368744177664 else -70368744177664
def scalI (size scale : Int) : Int :=
  if scale = 1000 then holdI size else
  if size.tdiv 1000 = 0 ∨ scale = 0 then 0 else
  if 70368744177664 < size.tdiv 1000 ∨ size.tdiv 1000 < -70368744177664 ∨ 70368744177664 < scale ∨ scale < -70368744177664 then hugeI (size.tdiv 1000) scale else
  if (70368744177664 : Int).tdiv (max scale (-scale)) < max (size.tdiv 1000) (-(size.tdiv 1000)) then hugeI (size.tdiv 1000) scale else holdI (size.tdiv 1000 * scale)
theorem hold_bound (x : Int) : -70368744177664 ≤ holdI x ∧ holdI x ≤ 70368744177664 := by unfold holdI; omega
theorem huge_bound (a b : Int) : -70368744177664 ≤ hugeI a b ∧ hugeI a b ≤ 70368744177664 := by unfold hugeI; split <;> omega
theorem scal_bound (a b : Int) : -70368744177664 ≤ scalI a b ∧ scalI a b ≤ 70368744177664 := by
  unfold scalI
  split
  · exact hold_bound _
  split
  · omega
  split
  · exact huge_bound _ _
  split
  · exact huge_bound _ _
  · exact hold_bound _
/-! ### What an account holds -/
def getI : List (Int × Ho) → Int → Option Ho
  | [], _ => none
  | (k, h) :: r, a => if a = k then some h else getI r a
def delI (M : List (Int × Ho)) (k : Int) : List (Int × Ho) := M.filter fun p => p.1 != k
def putI (M : List (Int × Ho)) (k : Int) (h : Ho) : List (Int × Ho) := delI M k ++ [(k, h)]
theorem getI_app : ∀ (M N : List (Int × Ho)) (a : Int), getI (M ++ N) a = (getI M a).or (getI N a)
  | [], N, a => by simp [getI]
  | (k, h) :: r, N, a => by
    rw [List.cons_append, getI, getI]
    split
    · rfl
    · exact getI_app r N a
theorem getI_del : ∀ (M : List (Int × Ho)) (k a : Int), getI (delI M k) a = if a = k then none else getI M a
  | [], k, a => by simp [delI, getI]
  | (j, h) :: r, k, a => by
    have ih := getI_del r k a
    unfold delI at ih ⊢
    rw [List.filter_cons]
    by_cases hj : j = k
    · subst hj
      rw [if_neg (by simp), ih]
      by_cases ha : a = j
      · rw [if_pos ha, if_pos ha]
      · rw [if_neg ha, if_neg ha, getI, if_neg ha]
    · rw [if_pos (by simpa using hj), getI, ih, getI]
      by_cases ha : a = j
      · subst ha
        rw [if_pos rfl, if_neg hj, if_pos rfl]
      · rw [if_neg ha]
        split
        · rfl
        · rfl
theorem getI_put (M : List (Int × Ho)) (k a : Int) (h : Ho) : getI (putI M k h) a = if a = k then some h else getI M a := by
  unfold putI
  rw [getI_app, getI_del]
  by_cases ha : a = k
  · rw [if_pos ha, if_pos ha]; simp [getI, ha]
  · rw [if_neg ha, if_neg ha]; simp [getI, ha]
theorem del_keys (M : List (Int × Ho)) (k : Int) (h : (M.map (·.1)).Nodup) : ((delI M k).map (·.1)).Nodup := by
  unfold delI
  exact h.sublist ((List.filter_sublist).map _)
theorem del_not (M : List (Int × Ho)) (k : Int) : ∀ p ∈ delI M k, p.1 ≠ k := by
  intro p hp
  unfold delI at hp
  simpa using (List.mem_filter.1 hp).2
theorem put_keys (M : List (Int × Ho)) (k : Int) (x : Ho) (h : (M.map (·.1)).Nodup) : ((putI M k x).map (·.1)).Nodup := by
  unfold putI
  rw [List.map_append, List.nodup_append]
  refine ⟨del_keys M k h, by simp, fun a ha b hb => ?_⟩
  obtain ⟨p, hp, rfl⟩ := List.mem_map.1 ha
  simp only [List.map_cons, List.map_nil, List.mem_singleton] at hb
  rw [hb]
  exact del_not M k p hp
/-! ### An account -/
structure As where
  goal : Int
  pens : Int
  met : List (Int × Ho)
  t : Tt
def insP (L : List Nd) (x : Nat) : List Nd := sl L (x + 1) ((behC (L.drop x) 0).getD 0 - 2)
def colQ (L : List Nd) : Int := colP L (itsP L)
def insE (L : List Nd) : List Nat → Int
  | [] => 0
  | x :: r => if (nth L x).kind = 13 then (if colQ (insP L x) = 0 then insE L r else colQ (insP L x)) else insE L r
def accE (L : List Nd) (C : List Cl) : Int := if clsC C = 0 then (if colQ L = 0 then insE L (itsP L) else colQ L) else clsC C
def firstI (st : As) (k : Cl) : As := { st with goal := st.goal - (scalI k.have_ k.scale + k.skip.nat), t := ({ st.t with nat := st.t.nat + k.skip.nat } : Tt).glue k.skip }
def wideI (k : Cl) (room : Int) (size : Int) : Int :=
  max (-1073741823) (min (min (if k.scale = 0 then 1073741823 else if k.scale = 1000 then room else wrap64 (room.tdiv k.scale * 1000)) (k.most - size)) 1073741823)
def bestI (X : List Nd) (w d : Int) : Option (Nat × Int × Int) := bestO X (itsP X) w d
def penI (X : List Nd) (a : Int) : Int := if a = X.length then -10000 else if (nth X a.toNat).kind = 9 then (nth X a.toNat).pen else 0
def metI (st : As) (C : List Cl) (k : Int) : As := if (getI st.met k).isSome then st else firstI st (clsAt C k)
def heldI (st : As) (k : Int) : Ho := (getI st.met k).getD ⟨0, 0⟩
def roomI (L : List Nd) (depth : Int) (st : As) (x : Nat) : Int := st.goal - (measP L (itsP L) x depth).1.nat - (measP L (itsP L) x depth).2
def fitI (L : List Nd) (depth : Int) (st : As) (x : Nat) (k : Cl) (size : Int) : Bool :=
  (decide (scalI (nth L x).h k.scale ≤ 0) || decide (scalI (nth L x).h k.scale ≤ roomI L depth st x + ((measP L (itsP L) x depth).1.h0 + st.t.h0))) && decide ((nth L x).h + size ≤ k.most)
def stepI (L : List Nd) (C : List Cl) (depth : Int) (st0 : As) (x : Nat) : As × Sp :=
  let n := nth L x
  let k := clsAt C n.sub
  let h := heldI st0 n.sub
  let st := metI st0 C n.sub
  if 0 < h.split then
    (⟨st.goal, st.pens + n.pen, putI st.met n.sub h, st.t⟩, ⟨x, n.sub, 3, 0, 0, st.goal, st.pens + n.pen⟩)
  else if fitI L depth st x k h.size then
    (⟨st.goal - scalI n.h k.scale, st.pens, putI st.met n.sub ⟨h.size + n.h, h.split⟩, st.t⟩, ⟨x, n.sub, 1, n.h, 0, st.goal - scalI n.h k.scale, st.pens⟩)
  else
    let o := bestI (insP L x) (wideI k (roomI L depth st x) h.size) n.d
    let p := st.pens + penI (insP L x) (bA o)
    (⟨st.goal - scalI (bS o) k.scale, p, putI st.met n.sub ⟨h.size + bS o, 1⟩, st.t⟩, ⟨x, n.sub, 2, bS o, bA o, st.goal - scalI (bS o) k.scale, p⟩)
def addI (L : List Nd) (C : List Cl) (depth : Int) (p : As × List Sp) (x : Nat) : As × List Sp :=
  if (nth L x).kind = 13 then ((stepI L C depth p.1 x).1, p.2 ++ [(stepI L C depth p.1 x).2]) else p
def accF (L : List Nd) (C : List Cl) (goal depth : Int) (s : List Nat) : As × List Sp := s.foldl (addI L C depth) (⟨goal, 0, [], .zero⟩, [])
theorem accF_snoc (L : List Nd) (C : List Cl) (goal depth : Int) (s : List Nat) (x : Nat) : accF L C goal depth (s ++ [x]) = addI L C depth (accF L C goal depth s) x := by simp [accF]
def accR (L : List Nd) (C : List Cl) (goal depth : Int) : List Sp × Tt × Int :=
  if accE L C = 0 then (if dimenB goal && dimenB depth then ((accF L C goal depth (itsP L)).2, (accF L C goal depth (itsP L)).1.t, 0) else ([], .zero, 11)) else ([], .zero, accE L C)
/-! ### A deal -/
def natV (L : List Nd) (s : List Nat) : Int := (sumP L s).nat
def endN : Nd := { Nd.zero with kind := 6 }
def leftP (n : Nd) (R : List Nd) : List Nd × Int :=
  if prunC R (itsP R) n.glue = 0 then
    let q := prunF R n.glue (itsP R) []
    if q.length = 0 then ([], 0) else
    if checkC q = 0 then (if dimenB (natV q (itsP q)) then (({ n with h := natV q (itsP q) } :: q) ++ [endN], 0) else ([], 20)) else ([], checkC q)
  else ([], prunC R (itsP R) n.glue)
def padI (B : List (List Nd)) (k : Nat) : List (List Nd) := B ++ List.replicate (k + 1 - B.length) []
def putB (B : List (List Nd)) (k : Nat) (x : List Nd) : List (List Nd) := B.set k ((B[k]?).getD [] ++ x)
structure Dl where
  boxes : List (List Nd)
  rest : List Nd
def dealS (L : List Nd) (d : Dl) (s : Sp) : Except Int Dl :=
  let B := padI d.boxes s.cls.toNat
  let x := s.at_.toNat
  if s.what = 1 then .ok ⟨putB B s.cls.toNat (insP L x), d.rest⟩
  else if s.what = 3 then .ok ⟨B, d.rest ++ itemN L x⟩
  else
    let q := leftP (nth L x) ((insP L x).drop s.split.toNat)
    if q.2 = 0 then .ok ⟨putB B s.cls.toNat ((insP L x).take s.split.toNat), d.rest ++ q.1⟩ else .error q.2
def dealF (L : List Nd) : List Sp → Dl → Except Int Dl
  | [], d => .ok d
  | s :: r, d => match dealS L d s with | .error e => .error e | .ok d => dealF L r d
def pageP (L : List Nd) (s : List Nat) : List Nd := s.flatMap fun x => if (nth L x).kind = 13 then [] else itemN L x
structure Dealt where
  page : List Nd
  boxes : List (List Nd)
  rest : List Nd
  e : Int
def Dealt.bad (e : Int) : Dealt := ⟨[], [], [], e⟩
def isPlace (L : List Nd) (tk : Int) : Bool := (tk == (L.length : Int)) || (itsP L).any fun x => (x : Int) == tk
def dealP (L : List Nd) (tk : Int) (C : List Cl) (goal depth : Int) : Dealt :=
  if accE L C = 0 then
    if isPlace L tk then
      let A := accR (L.take tk.toNat) C goal depth
      if A.2.2 = 0 then
        match dealF L A.1 ⟨[], []⟩ with
        | .error e => .bad e
        | .ok d => if 2000 < (d.rest ++ L.drop tk.toNat).length then .bad 6 else ⟨pageP L ((itsP L).takeWhile (fun x => decide ((x : Int) < tk))), d.boxes, d.rest ++ L.drop tk.toNat, 0⟩
      else .bad A.2.2
    else .bad 3
  else .bad (accE L C)
/-! ### The list of the laws' own trial -/
def boxN (h : Int) : List Nd := [{ Nd.zero with kind := 4, h := h }, endN]
def footN : List Nd := boxN 1966080 ++ [{ Nd.zero with kind := 13, h := 1310720 }] ++ boxN 655360 ++ [{ Nd.zero with kind := 7 }] ++ boxN 655360 ++ [endN]
theorem foot_acc : accR footN [] 2949120 131072 = ([⟨2, 0, 2, 655360, 2, 2293760, 0⟩], .zero, 0) := by decide +kernel
end Go.Proofs.YtaehkbbdmamfpaaGreatDoor
