/-
  Inserts: what the program reckons, item by item (plain).
-/
import Derived.Test.YtaehkbbdmamfpaaGreatDoorEq
import Derived.Test.YtaehkbbdmamfpaaGreatDoorI0
import Derived.Test.YtaehkbbdmamfpaaGreatDoorS4
import Derived.Test.YtaehkbbdmamfpaaGreatDoorQ13
import Derived.Test.YtaehkbbdmamfpaaGreatDoorB6
import Derived.Test.YtaehkbbdmamfpaaGreatDoorC13
import Derived.Laws.AppendOwnNone
set_option maxRecDepth 100000
set_option maxHeartbeats 2000000
namespace Go.Proofs.YtaehkbbdmamfpaaGreatDoor
open Go.ChangeShapes Go.WideShapes Go.ChangeAt Go.RowKit
section
/-! ### Classes -/
def zaR (k : Cl) : Bool := decide (0 <= k.scale /\ k.scale <= 100000) && decide (0 <= k.most /\ k.most <= 1073741823) && decide (0 <= k.have_ /\ k.have_ <= 1073741823) && k.skip.good && (k.skip.ho == 0 || k.skip.shr == 0)
def clsC (C : List Cl) : Int := if 255 < C.length then 1 else if C.all zaR then 0 else 1
def zcv (C : List Cl) (k : Int) : Cl := (C[k.toNat]?).getD Cl.plain
/-! ### How much of the page a size takes -/
def holdI (x : Int) : Int := max (-70368744177664) (min x 70368744177664)
def hugeI (a b : Int) : Int := if decide (a < 0) = decide (b < 0) then 70368744177664 else -70368744177664
def zaT (size scale : Int) : Int :=
 if scale = 1000 then holdI size else
 if size.tdiv 1000 = 0 \/ scale = 0 then 0 else
 if 70368744177664 < size.tdiv 1000 \/ size.tdiv 1000 < -70368744177664 \/ 70368744177664 < scale \/ scale < -70368744177664 then hugeI (size.tdiv 1000) scale else
 if (70368744177664 : Int).tdiv (max scale (-scale)) < max (size.tdiv 1000) (-(size.tdiv 1000)) then hugeI (size.tdiv 1000) scale else holdI (size.tdiv 1000 * scale)
theorem hold_bound (x : Int) : -70368744177664 <= holdI x /\ holdI x <= 70368744177664 := by unfold holdI; omega
theorem huge_bound (a b : Int) : -70368744177664 <= hugeI a b /\ hugeI a b <= 70368744177664 := by unfold hugeI; split <;> omega
theorem zbK (a b : Int) : -70368744177664 <= zaT a b /\ zaT a b <= 70368744177664 := by
 unfold zaT
 split
 · exact hold_bound _
 split
 · omega
 split
 · exact huge_bound _ _
 split
 · exact huge_bound _ _
 · exact hold_bound _
/-! ### What an account holds -/
def getI : List (Int × Ho) -> Int -> Option Ho
 | [], _ => none
 | (k, h) :: r, a => if a = k then some h else getI r a
def delI (M : List (Int × Ho)) (k : Int) : List (Int × Ho) := M.filter fun p => p.1 != k
def putI (M : List (Int × Ho)) (k : Int) (h : Ho) : List (Int × Ho) := delI M k ++ [(k, h)]
theorem getI_app : ∀ (M N : List (Int × Ho)) (a : Int), getI (M ++ N) a = (getI M a).or (getI N a)
 | [], N, a => by simp [getI]
 | (k, h) :: r, N, a => by
  rw [List.cons_append, getI, getI]
  split
  · rfl
  · exact getI_app r N a
theorem getI_del : ∀ (M : List (Int × Ho)) (k a : Int), getI (delI M k) a = if a = k then none else getI M a
 | [], k, a => by simp [delI, getI]
 | (j, h) :: r, k, a => by
  have ih := getI_del r k a
  unfold delI at ih ⊢
  rw [List.filter_cons]
  by_cases hj : j = k
  ·
   subst hj
   rw [if_neg (by simp), ih]
   by_cases ha : a = j
   · rw [if_pos ha, if_pos ha]
   · rw [if_neg ha, if_neg ha, getI, if_neg ha]
  ·
   rw [if_pos (by simpa using hj), getI, ih, getI]
   by_cases ha : a = j
   ·
    subst ha
    rw [if_pos rfl, if_neg hj, if_pos rfl]
   ·
    rw [if_neg ha]
    split
    · rfl
    · rfl
theorem getI_put (M : List (Int × Ho)) (k a : Int) (h : Ho) : getI (putI M k h) a = if a = k then some h else getI M a := by
 unfold putI
 rw [getI_app, getI_del]
 by_cases ha : a = k
 · rw [if_pos ha, if_pos ha]; simp [getI, ha]
 · rw [if_neg ha, if_neg ha]; simp [getI, ha]
theorem del_keys (M : List (Int × Ho)) (k : Int) (h : (M.map (·.1)).Nodup) : ((delI M k).map (·.1)).Nodup := by
 unfold delI
 exact h.sublist ((List.filter_sublist).map _)
theorem del_not (M : List (Int × Ho)) (k : Int) : ∀ p ∈ delI M k, p.1 ≠ k := by
 intro p hp
 unfold delI at hp
 simpa using (List.mem_filter.1 hp).2
theorem put_keys (M : List (Int × Ho)) (k : Int) (x : Ho) (h : (M.map (·.1)).Nodup) : ((putI M k x).map (·.1)).Nodup := by
 unfold putI
 rw [List.map_append, List.nodup_append]
 refine ⟨del_keys M k h, by simp, fun a ha b hb => ?_⟩
 obtain ⟨p, hp, rfl⟩ := List.mem_map.1 ha
 simp only [List.map_cons, List.map_nil, List.mem_singleton] at hb
 rw [hb]
 exact del_not M k p hp
/-! ### An account -/
structure As where
 goal : Int
 pens : Int
 met : List (Int × Ho)
 t : Tt
def insP (L : List Nd) (x : Nat) : List Nd := sl L (x + 1) ((behC (L.drop x) 0).getD 0 - 2)
def colQ (L : List Nd) : Int := colP L (itsP L)
def insE (L : List Nd) : List Nat -> Int
 | [] => 0
 | x :: r => if (nth L x).kind = 13 then (if colQ (insP L x) = 0 then insE L r else colQ (insP L x)) else insE L r
def accE (L : List Nd) (C : List Cl) : Int := if clsC C = 0 then (if colQ L = 0 then insE L (itsP L) else colQ L) else clsC C
def firstI (st : As) (k : Cl) : As := { st with goal := st.goal - (zaT k.have_ k.scale + k.skip.nat), t := ({ st.t with nat := st.t.nat + k.skip.nat } : Tt).glue k.skip }
def zbw (k : Cl) (room : Int) (size : Int) : Int :=
 max (-1073741823) (min (min (if k.scale = 0 then 1073741823 else if k.scale = 1000 then room else wrap64 (room.tdiv k.scale * 1000)) (k.most - size)) 1073741823)
def zbX (X : List Nd) (w d : Int) : Option (Nat × Int × Int) := bestO X (itsP X) w d
def penI (X : List Nd) (a : Int) : Int := if a = X.length then -10000 else if (nth X a.toNat).kind = 9 then (nth X a.toNat).pen else 0
def metI (st : As) (C : List Cl) (k : Int) : As := if (getI st.met k).isSome then st else firstI st (zcv C k)
def zcW (st : As) (k : Int) : Ho := (getI st.met k).getD ⟨0, 0⟩
def zbE (L : List Nd) (depth : Int) (st : As) (x : Nat) : Int := st.goal - (zap L (itsP L) x depth).1.nat - (zap L (itsP L) x depth).2
def fitI (L : List Nd) (depth : Int) (st : As) (x : Nat) (k : Cl) (size : Int) : Bool :=
 (decide (zaT (nth L x).h k.scale <= 0) || decide (zaT (nth L x).h k.scale <= zbE L depth st x + ((zap L (itsP L) x depth).1.h0 + st.t.h0))) && decide ((nth L x).h + size <= k.most)
def zbp (L : List Nd) (C : List Cl) (depth : Int) (st0 : As) (x : Nat) : As × Sp :=
 let n := nth L x
 let k := zcv C n.sub
 let h := zcW st0 n.sub
 let st := metI st0 C n.sub
 if 0 < h.split then
  (⟨st.goal, st.pens + n.pen, putI st.met n.sub h, st.t⟩, ⟨x, n.sub, 3, 0, 0, st.goal, st.pens + n.pen⟩)
 else if fitI L depth st x k h.size then
  (⟨st.goal - zaT n.h k.scale, st.pens, putI st.met n.sub ⟨h.size + n.h, h.split⟩, st.t⟩, ⟨x, n.sub, 1, n.h, 0, st.goal - zaT n.h k.scale, st.pens⟩)
 else
  let o := zbX (insP L x) (zbw k (zbE L depth st x) h.size) n.d
  let p := st.pens + penI (insP L x) (bA o)
  (⟨st.goal - zaT (bS o) k.scale, p, putI st.met n.sub ⟨h.size + bS o, 1⟩, st.t⟩, ⟨x, n.sub, 2, bS o, bA o, st.goal - zaT (bS o) k.scale, p⟩)
def addI (L : List Nd) (C : List Cl) (depth : Int) (p : As × List Sp) (x : Nat) : As × List Sp :=
 if (nth L x).kind = 13 then ((zbp L C depth p.1 x).1, p.2 ++ [(zbp L C depth p.1 x).2]) else p
def accF (L : List Nd) (C : List Cl) (goal depth : Int) (s : List Nat) : As × List Sp := s.foldl (addI L C depth) (⟨goal, 0, [], .zero⟩, [])
theorem accF_snoc (L : List Nd) (C : List Cl) (goal depth : Int) (s : List Nat) (x : Nat) : accF L C goal depth (s ++ [x]) = addI L C depth (accF L C goal depth s) x := by simp [accF]
def accR (L : List Nd) (C : List Cl) (goal depth : Int) : List Sp × Tt × Int :=
 if accE L C = 0 then (if zac goal && zac depth then ((accF L C goal depth (itsP L)).2, (accF L C goal depth (itsP L)).1.t, 0) else ([], .zero, 11)) else ([], .zero, accE L C)
/-! ### A deal -/
def natV (L : List Nd) (s : List Nat) : Int := (sumP L s).nat
def endN : Nd := { Nd.zero with kind := 6 }
def zdc (n : Nd) (R : List Nd) : List Nd × Int :=
 if zca R (itsP R) n.glue = 0 then
  let q := zbU R n.glue (itsP R) []
  if q.length = 0 then ([], 0) else
  if zao q = 0 then (if zac (natV q (itsP q)) then (({ n with h := natV q (itsP q) } :: q) ++ [endN], 0) else ([], 20)) else ([], zao q)
 else ([], zca R (itsP R) n.glue)
def padI (B : List (List Nd)) (k : Nat) : List (List Nd) := B ++ List.replicate (k + 1 - B.length) []
def putB (B : List (List Nd)) (k : Nat) (x : List Nd) : List (List Nd) := B.set k ((B[k]?).getD [] ++ x)
structure Dl where
 boxes : List (List Nd)
 rest : List Nd
def dealS (L : List Nd) (d : Dl) (s : Sp) : Except Int Dl :=
 let B := padI d.boxes s.cls.toNat
 let x := s.at_.toNat
 if s.what = 1 then .ok ⟨putB B s.cls.toNat (insP L x), d.rest⟩
 else if s.what = 3 then .ok ⟨B, d.rest ++ zby L x⟩
 else
  let q := zdc (nth L x) ((insP L x).drop s.split.toNat)
  if q.2 = 0 then .ok ⟨putB B s.cls.toNat ((insP L x).take s.split.toNat), d.rest ++ q.1⟩ else .error q.2
def zdf (L : List Nd) : List Sp -> Dl -> Except Int Dl
 | [], d => .ok d
 | s :: r, d => match dealS L d s with | .error e => .error e | .ok d => zdf L r d
def zaU (L : List Nd) (s : List Nat) : List Nd := s.flatMap fun x => if (nth L x).kind = 13 then [] else zby L x
structure Dealt where
 page : List Nd
 boxes : List (List Nd)
 rest : List Nd
 e : Int
def Dealt.bad (e : Int) : Dealt := ⟨[], [], [], e⟩
def zbm (L : List Nd) (tk : Int) : Bool := (tk == (L.length : Int)) || (itsP L).any fun x => (x : Int) == tk
def zbt (L : List Nd) (tk : Int) (C : List Cl) (goal depth : Int) : Dealt :=
 if accE L C = 0 then
  if zbm L tk then
   let A := accR (L.take tk.toNat) C goal depth
   if A.2.2 = 0 then
    match zdf L A.1 ⟨[], []⟩ with
    | .error e => .bad e
    | .ok d => if 2000 < (d.rest ++ L.drop tk.toNat).length then .bad 6 else ⟨zaU L ((itsP L).takeWhile (fun x => decide ((x : Int) < tk))), d.boxes, d.rest ++ L.drop tk.toNat, 0⟩
   else .bad A.2.2
  else .bad 3
 else .bad (accE L C)
/-! ### The list of the laws' own trial -/
def boxN (h : Int) : List Nd := [{ Nd.zero with kind := 4, h := h }, endN]
def footN : List Nd := boxN 1966080 ++ [{ Nd.zero with kind := 13, h := 1310720 }] ++ boxN 655360 ++ [{ Nd.zero with kind := 7 }] ++ boxN 655360 ++ [endN]
theorem foot_acc : accR footN [] 2949120 131072 = ([⟨2, 0, 2, 655360, 2, 2293760, 0⟩], .zero, 0) := by decide +kernel
attribute [local go_sem ↓] Go.wp_at_zero Go.wp_at_succ
theorem idimen_any (x : Int) (w : World) : Calls Tryz.prog 40 #[.int .i64 x] w fun e w' => e = .returned (.bool (zac x)) /\ w = w' := by
 go_enter Tryz.func40, Tryz.ntmps40
 go_wp2
 all_goals go_ret
 all_goals exact ⟨by simp [zac]; omega, rfl⟩
theorem iheld_any (x : Int) (w : World) : Calls Tryz.prog 42 #[.int .i64 x] w fun e w' => e = .returned (.int .i64 (holdI x)) /\ w = w' := by
 go_enter Tryz.func42, Tryz.ntmps42
 go_wp2
 all_goals go_ret
 all_goals exact ⟨zan (by unfold holdI; omega), rfl⟩
theorem ihuge_any (a b : Int) (w : World) : Calls Tryz.prog 43 #[.int .i64 a, .int .i64 b] w fun e w' => e = .returned (.int .i64 (hugeI a b)) /\ w = w' := by
 cases ha : decide (a < 0) <;> cases hb : decide (b < 0)
 all_goals
  have hv := hugeI a b
  have Hv : Hid (hugeI a b = if decide (a < 0) = decide (b < 0) then 70368744177664 else -70368744177664) := zzh rfl
  rw [ha, hb] at Hv
  go_enter Tryz.func43, Tryz.ntmps43
  go_wp2
  go_ret
  exact ⟨by rw [Hv.out]; rfl, rfl⟩
theorem zcx (x y : Int) (K : Int) (h1 : -K <= x) (h2 : x <= K) (hy : 1 <= y) : -K <= x.tdiv y /\ x.tdiv y <= K := by
 have hk : 0 <= K := by omega
 rcases Int.le_total 0 x with h | h
 ·
  have a1 : 0 <= x.tdiv y := Int.tdiv_nonneg h (by omega)
  have a2 : x.tdiv y <= x := Int.tdiv_le_self _ h
  omega
 ·
  have e : x.tdiv y = -((-x).tdiv y) := by rw [Int.neg_tdiv, Int.neg_neg]
  have a1 : 0 <= (-x).tdiv y := Int.tdiv_nonneg (by omega) (by omega)
  have a2 : (-x).tdiv y <= -x := Int.tdiv_le_self _ (by omega)
  omega
theorem mul_small (q k t v : Int) (hq : max q (-q) <= t) (ht : (70368744177664 : Int).tdiv v = t) (hv : max k (-k) = v) (h1 : 1 <= v) : wrap64 (q * k) = q * k := by
 rw [Int.tdiv_eq_ediv_of_nonneg (by omega)] at ht
 have h2 : t * v <= 70368744177664 := by rw [<- ht]; exact Int.ediv_mul_le _ (by omega)
 have key : ∀ u : Int, 0 <= u -> u <= t -> 0 <= u * v /\ u * v <= 70368744177664 := fun u h0 h3 =>
  ⟨Int.mul_nonneg h0 (by omega), Int.le_trans (Int.mul_le_mul_of_nonneg_right h3 (by omega)) h2⟩
 have hb : -70368744177664 <= q * k /\ q * k <= 70368744177664 := by
  rcases Int.le_total 0 q with hq0 | hq0 <;> rcases Int.le_total 0 k with hk0 | hk0
  ·
   have := key q hq0 (by omega)
   rw [show v = k by omega] at this
   omega
  ·
   have := key q hq0 (by omega)
   rw [show v = -k by omega, Int.mul_neg] at this
   omega
  ·
   have := key (-q) (by omega) (by omega)
   rw [show v = k by omega, Int.neg_mul] at this
   omega
  ·
   have := key (-q) (by omega) (by omega)
   rw [show v = -k by omega, Int.neg_mul_neg] at this
   omega
 unfold wrap64
 omega
theorem iscaled_any (x k : Int) (h1 : -4611686018427387904 <= x) (h2 : x <= 4611686018427387904) (k1 : -4611686018427387904 <= k) (k2 : k <= 4611686018427387904) (w : World) :
 Calls Tryz.prog 19 #[.int .i64 x, .int .i64 k] w fun e w' => e = .returned (.int .i64 (zaT x k)) /\ w = w' := by
 by_cases hk : k = 1000
 ·
  subst hk
  have hv := zzh (show zaT x 1000 = holdI x by unfold zaT; rw [if_pos rfl])
  go_enter Tryz.func19, Tryz.ntmps19
  go_wp2_with (go_at_call 42; refine (iheld_any _ _).mono ?_; rintro e w' ⟨rfl, rfl⟩)
  go_ret
  exact ⟨zan hv.out.symm, rfl⟩
 have hk' : (k == 1000) = false := by simpa using hk
 have hq := zcx x 1000 4611686018427387904 h1 h2 (by omega)
 have hv : zaT x k = (if x.tdiv 1000 = 0 \/ k = 0 then 0 else
  if 70368744177664 < x.tdiv 1000 \/ x.tdiv 1000 < -70368744177664 \/ 70368744177664 < k \/ k < -70368744177664 then hugeI (x.tdiv 1000) k else
  if (70368744177664 : Int).tdiv (max k (-k)) < max (x.tdiv 1000) (-(x.tdiv 1000)) then hugeI (x.tdiv 1000) k else holdI (x.tdiv 1000 * k)) := by
  unfold zaT; rw [if_neg hk]
 obtain ⟨q, hqq⟩ : ∃ q, x.tdiv 1000 = q := ⟨_, rfl⟩
 rw [hqq] at hq hv
 obtain ⟨q1, q2⟩ := hq
 have hw : wrap64 q = q := by unfold wrap64; omega
 have hqx : wrap64 (x.tdiv 1000) = q := by rw [hqq, hw]
 have Hv := zzh hv
 clear hv
 go_enter Tryz.func19, Tryz.ntmps19
 go_upto_region 4 with (fail)
 have hq0 : (q == 0) = decide (q = 0) := rfl
 by_cases e1 : q = 0
 ·
  have hv1 := zzh (show zaT x k = 0 by rw [Hv.out, if_pos (.inl e1)])
  have e1' : (q == 0) = true := by simpa using e1
  clear hqq hqx hw
  go_wp2_with fail
  go_ret
  exact ⟨zan hv1.out.symm, rfl⟩
 have e1' : (q == 0) = false := by simpa using e1
 by_cases e2 : k = 0
 ·
  have hv1 := zzh (show zaT x k = 0 by rw [Hv.out, if_pos (.inr e2)])
  have e2' : (k == 0) = true := by simpa using e2
  clear hqq hqx hw e2
  go_wp2_with fail
  all_goals
   go_ret
   exact ⟨zan hv1.out.symm, rfl⟩
 have e2' : (k == 0) = false := by simpa using e2
 rw [if_neg (by omega)] at Hv
 by_cases b : 70368744177664 < q \/ q < -70368744177664 \/ 70368744177664 < k \/ k < -70368744177664
 ·
  have hv1 := zzh (show zaT x k = hugeI q k by rw [Hv.out, if_pos b])
  have hways : 70368744177664 < q \/ (¬ 70368744177664 < q /\ q < -70368744177664) \/ (¬ 70368744177664 < q /\ ¬ q < -70368744177664 /\ 70368744177664 < k) \/ (¬ 70368744177664 < q /\ ¬ q < -70368744177664 /\ ¬ 70368744177664 < k /\ k < -70368744177664) := by omega
  clear hqq hqx hw b hq0
  rcases hways with b1 | ⟨b1, b2⟩ | ⟨b1, b2, b3⟩ | ⟨b1, b2, b3, b4⟩
  all_goals
   go_wp2_with (go_at_call 43; refine (ihuge_any _ _ _).mono ?_; rintro e w' ⟨rfl, rfl⟩)
   go_ret
   exact ⟨zan hv1.out.symm, rfl⟩
 rw [if_neg b] at Hv
 obtain ⟨u, hu⟩ : ∃ u, max q (-q) = u := ⟨_, rfl⟩
 obtain ⟨v, hv⟩ : ∃ v, max k (-k) = v := ⟨_, rfl⟩
 rw [hu, hv] at Hv
 have b1 : ¬ 70368744177664 < q := by omega
 have b2 : ¬ q < -70368744177664 := by omega
 have b3 : ¬ 70368744177664 < k := by omega
 have b4 : ¬ k < -70368744177664 := by omega
 clear b hq0
 go_upto_region 8 with (fail)
 have hu1 : 1 <= u /\ u <= 70368744177664 := by omega
 have hv1 : 1 <= v /\ v <= 70368744177664 := by omega
 go_cut [6, 7] from 37 to 44 (fun s6 s7 wx => s6 = .int .i64 u /\ s7 = .int .i64 v /\ w = wx)
 case first =>
  have hways : (q < 0 /\ k < 0) \/ (q < 0 /\ ¬ k < 0) \/ (¬ q < 0 /\ k < 0) \/ (¬ q < 0 /\ ¬ k < 0) := by omega
  clear hqq hqx hw Hv e1' e2' hk' hk
  go_wp2_with fail
  all_goals
   go_meet
   exact ⟨by congr 1; omega, by congr 1; omega, rfl⟩
 case rest =>
  obtain ⟨rfl, rfl, rfl⟩ := hcut
  have ht := zcx 70368744177664 v 70368744177664 (by omega) (by omega) (by omega)
  have htv : wrap64 ((70368744177664 : Int).tdiv v) = (70368744177664 : Int).tdiv v := by unfold wrap64; omega
  have hv0 : (v == 0) = false := by simp; omega
  obtain ⟨t, htt⟩ : ∃ t, (70368744177664 : Int).tdiv v = t := ⟨_, rfl⟩
  rw [htt] at Hv htv
  have Htt := zzh htt
  by_cases hlt : t < u
  ·
   have hvv := zzh (show zaT x k = hugeI q k by rw [Hv.out, if_pos hlt])
   clear Hv hu hv
   go_wp2_with (go_at_call 43; refine (ihuge_any _ _ _).mono ?_; rintro e w' ⟨rfl, rfl⟩)
   go_ret
   exact ⟨zan hvv.out.symm, rfl⟩
  ·
   have hvv := zzh (show zaT x k = holdI (q * k) by rw [Hv.out, if_neg hlt])
   have hm := zzh (mul_small q k t v (by omega) htt hv hv1.1)
   clear Hv hu hv
   go_wp2_with (go_at_call 42; refine (iheld_any _ _).mono ?_; rintro e w' ⟨rfl, rfl⟩)
   go_ret
   exact ⟨zan (by rw [hvv.out, hm.out]), rfl⟩
end
section
attribute [local go_sem ↓] Go.wp_at_zero Go.wp_at_succ
/-! ### Plain -/
theorem top_kinds {L : List Nd} {s : List Nat} (hc : zao L = 0) (hs : Items L 0 s) {x : Nat} (hx : x ∈ s) : (nth L x).kind ≠ 6 /\ (nth L x).kind ≠ 11 := by
 obtain ⟨_, d, _, hr⟩ := zaj hc
 obtain ⟨d1, h1⟩ := items_run2 hs (by rw [List.drop_zero]; exact hr) x hx
 have hlt := (hs.lt x hx).2
 rw [List.drop_eq_getElem_cons hlt] at h1
 unfold runC at h1
 split at h1
 ·
  obtain ⟨⟨X, d2⟩, h2, _⟩ := Option.bind_eq_some_iff.1 h1
  rw [zaV hlt]
  exact (zcS h2).2 rfl
 · cases h1
theorem opens_two {L : List Nd} {x m : Nat} (hlt : x < L.length) (ho : zaH (nth L x).kind = true) (hm : behC (L.drop x) 0 = some m) : 2 <= m := by
 rw [List.drop_eq_getElem_cons hlt, behC, <- zaV hlt] at hm
 have hb : behN (nth L x).kind 0 = 1 := by unfold behN; rw [if_pos ho]; rfl
 rw [hb, if_neg (by decide)] at hm
 obtain ⟨k, hk, rfl⟩ := Option.map_eq_some_iff.1 hm
 have := zaw _ _ _ hk
 omega
theorem zcc {L : List Nd} {x m : Nat} (hm : behC (L.drop x) 0 = some m) : insP L x = sl L (x + 1) (m - 2) := by unfold insP; rw [hm]; rfl
theorem insP_len {L : List Nd} {x m : Nat} (hm : behC (L.drop x) 0 = some m) (h2 : 2 <= m) : (insP L x).length = m - 2 := by
 have hp := zaw _ _ _ hm
 rw [List.length_drop] at hp
 rw [zcc hm, sl_len (by omega)]
theorem zaO {L : List Nd} (h : zao L = 0) : Items L 0 (itsP L) := by
 obtain ⟨s, hs⟩ := items_of_check h
 rw [itsP_eq hs]
 exact hs
theorem zam {L : List Nd} (h : colQ L = 0) : zao L = 0 := zav h
theorem insP_le {L : List Nd} (x : Nat) : (insP L x).length <= L.length := by unfold insP sl; simp; omega
theorem owns_sl {w : World} {base : Nat} {e : TypeId} {size : Nat} {v : Value} {n : Nat} {xs : List Value} (h : w.ownsRow base e size v n xs) : ∃ p k c, v = .slice p k c := by
 obtain ⟨p, c, e⟩ := zaf h
 exact ⟨p, _, c, e⟩
/-! ### The program's -/
theorem item9 (p0 : Option Addr) (b off cap : Nat) (L : List Nd) (s : List Nat) (hc : zao L = 0) (hs : Items L 0 s) (x m : Nat) (hx : x ∈ s) (hm : behC (L.drop x) 0 = some m) (w : World) (hN : NIn w p0 b off cap L) :
 Calls Tryz.prog 30 #[.slice p0 L.length cap, .int .i64 x] w fun e w' => e = .returned (.tuple #[.int .i64 ((x + m : Nat) : Int), .int .i64 0]) /\ Below w.heap.size w w' := by
 have hlt := (hs.lt x hx).2
 obtain ⟨k6, k11⟩ := top_kinds hc hs hx
 have HC := zzh (check_any p0 b off cap L w hN)
 rw [hc] at HC
 have HB : Hid (∀ W, Below w.heap.size w W -> Calls Tryz.prog 57 #[.slice p0 L.length cap, .int .i64 x] W fun e w' => e = .returned (.bool true) /\ W = w') := zzh fun W hb => begins_any p0 b off cap L x hlt k6 k11 W (hN.below hb)
 have HE : Hid (∀ W, Below w.heap.size w W -> Calls Tryz.prog 58 #[.slice p0 L.length cap, .int .i64 x] W fun e w' => e = .returned (.int .i64 ((x + m : Nat) : Int)) /\ Below W.heap.size W w') := zzh fun W hb => end9 p0 b off cap L x m W (hN.below hb) hm
 clear hc hs hx hm hN hlt k6 k11
 go_enter Tryz.func30, Tryz.ntmps30
 go_wp2_with fail
 refine HC.out.mono ?_
 clear HC
 rintro e w2 ⟨rfl, hb2⟩
 have HB2 := zzh (HB.out _ hb2)
 have HE2 := zzh (HE.out _ hb2)
 clear HB HE
 go_wp2_with (first | (go_at_call 57; refine HB2.out.mono ?_; rintro e w3 ⟨rfl, rfl⟩) | (go_at_call 58; refine HE2.out.mono ?_; rintro e w4 ⟨rfl, hb4⟩))
 go_ret2
 exact ⟨rfl, hb2.trans (hb4.mono hb2.size)⟩
theorem copied9 (b off cap : Nat) (X : List Nd) (hX : X.length <= 2000) (w : World) (hN : NIn w (some ⟨b, off, none⟩) b off cap X) :
 Calls Tryz.prog 106 #[.slice (some ⟨b, off, none⟩) X.length cap] w fun e w' => (∃ v, e = .returned v /\ NRow w v X w') /\ Below w.heap.size w w' := by
 obtain ⟨i0, hi0', hz0, hz1, hz2⟩ := info_parts zbq
 have hnil : w.ownsRow w.heap.size 53 19 (.slice none 0 0) 0 [] := World.ownsRow_nil _ _ _ _
 have Hn := zzh (And.intro hN.news (zax X))
 clear hN
 go_enter Tryz.func106, Tryz.ntmps106
 go_wp2_with (at_builtin; refine wpList_append_own _ rfl _ _ _ rfl w.heap.size 53 i0 (.agg Nd.zero.arr) 19 160 Tryz.underlying22 hi0' hz0 hz1 hz2 rfl (by decide) (.slice none 0 0) 0 [] rfl hnil ⟨b, off, none⟩ X.length cap (X.flatMap Nd.cells) rfl (zaA X) Hn.out.1 Hn.out.2 (by unfold maxLen; omega) (by omega) (Nat.le_refl _) ?_; intro v7 w7 hown7 hgrow7 _)
 go_ret
 refine ⟨⟨v7, rfl, ?_⟩, (Below.refl _ _).grown hgrow7 (Nat.le_refl _) (fun q hq => by cases hq)⟩
 unfold NRow
 simpa using hown7
theorem inside9 (p0 : Option Addr) (b off cap : Nat) (L : List Nd) (s : List Nat) (hc : zao L = 0) (hs : Items L 0 s) (x : Nat) (hx : x ∈ s) (hk : (nth L x).kind = 13) (w : World) (hN : NIn w p0 b off cap L) :
 Calls Tryz.prog 56 #[.slice p0 L.length cap, .int .i64 x] w fun e w' => (∃ v, e = .returned (.tuple #[v, .int .i64 0]) /\ NRow w v (insP L x) w') /\ Below w.heap.size w w' := by
 have hlt := (hs.lt x hx).2
 have hll := (zaj hc).1
 obtain ⟨k6, k11⟩ := top_kinds hc hs hx
 obtain ⟨m, hm⟩ := hs.at_ x hx
 have ho : zaH (nth L x).kind = true := by rw [hk]; decide
 have h2 := opens_two hlt ho hm
 have hp := zaw _ _ _ hm
 rw [List.length_drop] at hp
 have hil := insP_len hm h2
 have HC := zzh (check_any p0 b off cap L w hN)
 rw [hc] at HC
 have HB : Hid (∀ W, Below w.heap.size w W -> Calls Tryz.prog 57 #[.slice p0 L.length cap, .int .i64 x] W fun e w' => e = .returned (.bool true) /\ W = w') := zzh fun W hb => begins_any p0 b off cap L x hlt k6 k11 W (hN.below hb)
 have HE : Hid (∀ W, Below w.heap.size w W -> Calls Tryz.prog 58 #[.slice p0 L.length cap, .int .i64 x] W fun e w' => e = .returned (.int .i64 ((x + m : Nat) : Int)) /\ Below W.heap.size W w') := zzh fun W hb => end9 p0 b off cap L x m W (hN.below hb) hm
 have HO : Hid (∀ W, Calls Tryz.prog 47 #[.agg (nth L x).arr] W fun e w' => e = .returned (.bool true) /\ Below W.heap.size W w') := zzh fun W => by have := opens_any (nth L x) W; rwa [ho] at this
 have HA : Hid (∀ W, Below w.heap.size w W -> agg? W b (off + x * 19) 19 = some (nth L x).arr) := zzh fun W hb => (hN.below hb).nth hlt
 have HY : Hid (∀ W, Below w.heap.size w W -> NIn W (some ⟨b, off + (x + 1) * 19, none⟩) b (off + (x + 1) * 19) (cap - (x + 1)) (insP L x)) := zzh fun W hb => by
  have h1 := ((hN.below hb).drop (x + 1) (by omega)).take (m - 2)
  rw [hN.at_ hlt] at h1
  rw [zcc hm]
  exact h1
 have hx1 : (0 : Int) <= (x : Int) := by omega
 have hx2 : (x : Int) < (L.length : Int) := by omega
 have hx3 : (x : Int) <= 2000 := by omega
 have hcp := hN.cap'
 obtain rfl := hN.at_ hlt
 obtain ⟨X, hX⟩ : ∃ X, insP L x = X := ⟨_, rfl⟩
 rw [hX] at HY hil
 have HXX := zzh hX
 generalize nth L x = n at HO HA
 clear hc hs hx hm hN hlt k6 k11 hk ho hX
 go_enter Tryz.func56, Tryz.ntmps56
 go_wp2_with fail
 refine HC.out.mono ?_
 clear HC
 rintro e w2 ⟨rfl, hb2⟩
 have HB2 := zzh (HB.out _ hb2)
 have a2 := HA.out _ hb2
 have HE2 := zzh (fun (W : World) (h : Below w2.heap.size w2 W) => HE.out W (hb2.trans (h.mono hb2.size)))
 have HO2 := zzh (HO.out w2)
 clear HB HE HO
 have hm2 : (2 : Int) <= (m : Int) := by omega
 have hxm : (x : Int) + (m : Int) <= (L.length : Int) := by omega
 go_wp2_with (first | (go_at_call 57; refine HB2.out.mono ?_; rintro e w3 ⟨rfl, rfl⟩) | (go_at_call 47; refine HO2.out.mono ?_; rintro e w4 ⟨rfl, hb4⟩) | (go_at_call 58; refine (HE2.out _ hb4).mono ?_; rintro e w5 ⟨rfl, hb5⟩))
 have hz : x + m - 1 - (x + 1) = X.length := by rw [hil]; omega
 rw [hz]
 have hb35 := hb2.trans ((hb4.trans (hb5.mono hb4.size)).mono hb2.size)
 refine (copied9 b _ _ X (by omega) w5 (HY.out w5 hb35)).mono ?_
 rintro e w6 ⟨⟨v, rfl, hv⟩, hb6⟩
 go_wp2_with fail
 go_ret2
 rw [HXX.out]
 exact ⟨⟨v, rfl, nrow_base hv hb35.size⟩, hb35.trans (hb6.mono hb35.size)⟩
end
section
open Go.MapKept
def hoM (M : List (Int × Ho)) : List (Int × Value) := M.map fun p => (p.1, .agg p.2.arr)
theorem hoM_keys (M : List (Int × Ho)) : (hoM M).map (·.1) = M.map (·.1) := by simp [hoM]
theorem getI_mem {M : List (Int × Ho)} (hnd : (M.map (·.1)).Nodup) {a : Int} {h : Ho} (hm : (a, h) ∈ M) : getI M a = some h := by
 induction M with
 | nil => cases hm
 | cons p r ih =>
  obtain ⟨k, x⟩ := p
  rw [List.map_cons, List.nodup_cons] at hnd
  unfold getI
  rcases List.mem_cons.1 hm with e | e
  · cases e; rw [if_pos rfl]
  ·
   rw [if_neg, ih hnd.2 e]
   intro e2
   subst e2
   exact hnd.1 (List.mem_map.2 ⟨_, e, rfl⟩)
theorem getI_not {M : List (Int × Ho)} {a : Int} (h : ∀ p ∈ M, p.1 ≠ a) : getI M a = none := by
 induction M with
 | nil => rfl
 | cons p r ih =>
  obtain ⟨k, x⟩ := p
  unfold getI
  rw [if_neg (fun e => h (k, x) List.mem_cons_self e.symm)]
  exact ih fun p hp => h p (List.mem_cons_of_mem _ hp)
theorem run_lookHo {W : World} {mb : Nat} {M : List (Int × Ho)} (h : MapV W mb (intM (hoM M))) (hnd : (M.map (·.1)).Nodup) (a : Int) :
 (Instr.lookup 91 (.map (some mb)) (.int .i64 a) true).run Tryz.prog W = .ok (.tuple #[.agg ((getI M a).getD ⟨0, 0⟩).arr, .bool (getI M a).isSome]) W := by
 obtain ⟨es, clock, hb, hes⟩ := h
 have hks := intM_keys hes
 have hik : IsKey (.int .i64) (.int .i64 a) := rfl
 rcases findNow_spec hik es.toList 0 hks with ⟨h1, h2⟩ | ⟨j, e, h1, h2, h3⟩
 ·
  have hg : getI M a = none := getI_not fun p hp e => by
   have : (Value.int .i64 p.1, Value.agg p.2.arr) ∈ intM (hoM M) := List.mem_map.2 ⟨(p.1, .agg p.2.arr), List.mem_map.2 ⟨p, hp, rfl⟩, rfl⟩
   rw [<- hes] at this
   obtain ⟨x, hx, ex⟩ := List.mem_map.1 this
   exact h2 x hx ((congrArg Prod.fst ex).trans (by rw [e]))
  rw [hg]
  simp [Instr.lookup, run_underlying Tryz.underlying91, MapKept.run_getObj_map hb, run_checkKey Tryz.underlying3 hik, run_findKey Tryz.underlying3 h1, Result.andThen]
  rfl
 ·
  have hmem : (e.key, e.val) ∈ intM (hoM M) := by rw [<- hes]; exact List.mem_map.2 ⟨e, List.mem_of_getElem? h2, rfl⟩
  obtain ⟨p, hp, ep⟩ := List.mem_map.1 hmem
  obtain ⟨q, hq, eq⟩ := List.mem_map.1 hp
  have e1 : p.1 = a := by
   have := congrArg Prod.fst ep
   simp only [h3, Value.int.injEq, true_and] at this
   exact this
  have e2 : p.2 = e.val := congrArg Prod.snd ep
  have hg : getI M a = some q.2 := getI_mem hnd (by rw [<- e1, <- eq]; exact hq)
  have hev : e.val = .agg q.2.arr := by rw [<- e2, <- eq]
  rw [hg]
  simp [Instr.lookup, run_underlying Tryz.underlying91, MapKept.run_getObj_map hb, run_checkKey Tryz.underlying3 hik, run_findKey Tryz.underlying3 h1, Result.andThen, hev]
theorem map_erase {α β : Type} (f : α -> β) : ∀ (l : List α) (i : Nat), (l.eraseIdx i).map f = (l.map f).eraseIdx i
 | [], _ => rfl
 | _ :: _, 0 => rfl
 | a :: l, i + 1 => by rw [List.eraseIdx_cons_succ, List.map_cons, map_erase f l i, List.map_cons, List.eraseIdx_cons_succ]
theorem erase_filter {M : List (Int × Value)} {a : Int} : ∀ (j : Nat) (v : Value), (M.map (·.1)).Nodup -> M[j]? = some (a, v) -> M.eraseIdx j = M.filter fun p => p.1 != a := by
 induction M with
 | nil => intro j v _ h; cases h
 | cons p r ih =>
  intro j v hnd h
  rw [List.map_cons, List.nodup_cons] at hnd
  cases j with
  | zero =>
   simp only [List.getElem?_cons_zero, Option.some.injEq] at h
   subst h
   rw [List.eraseIdx_cons_zero, List.filter_cons, if_neg (by simp)]
   symm
   rw [List.filter_eq_self]
   intro q hq
   have : q.1 ≠ a := fun e => hnd.1 (List.mem_map.2 ⟨q, hq, e⟩)
   simpa using this
  | succ j =>
   simp only [List.getElem?_cons_succ] at h
   have hne : p.1 ≠ a := fun e => hnd.1 (List.mem_map.2 ⟨_, List.mem_of_getElem? h, e.symm⟩)
   rw [List.eraseIdx_cons_succ, List.filter_cons, if_pos (by simpa using hne), ih j v hnd.2 h]
theorem hoM_del (M : List (Int × Ho)) (a : Int) : (hoM M).filter (fun p => p.1 != a) = hoM (delI M a) := by
 unfold hoM delI
 rw [List.filter_map]
 rfl
theorem run_delHo {W : World} {mb : Nat} {M : List (Int × Ho)} (h : MapV W mb (intM (hoM M))) (hnd : (M.map (·.1)).Nodup) (a : Int) (T : TypeId) :
 ∃ W', (Builtin.delete_ #[91, 3] T #[.map (some mb), .int .i64 a]).run Tryz.prog W = .ok (.tuple #[]) W' /\ MapV W' mb (intM (hoM (delI M a))) /\ W.grownBy W' (some mb) := by
 obtain ⟨es, clock, hb, hes⟩ := h
 have hks := intM_keys hes
 have hik : IsKey (.int .i64) (.int .i64 a) := rfl
 rcases findNow_spec hik es.toList 0 hks with ⟨h1, h2⟩ | ⟨j, e, h1, h2, h3⟩
 ·
  refine ⟨{ W with heap := W.heap.setIfInBounds mb (.map es clock) }, ?_, ⟨_, _, (heap_set hb).1, ?_⟩, ⟨rfl, rfl, rfl, by simp, fun q hq hne => (heap_set hb).2 q fun e => hne (by rw [e])⟩⟩
  · simp [Builtin.delete_, run_underlying Tryz.underlying91, MapKept.run_getObj_map hb, run_checkKey Tryz.underlying3 hik, run_findKey Tryz.underlying3 h1, MapKept.run_setObj_map _ hb, Result.andThen]
  ·
   rw [hes, <- hoM_del]
   congr 1
   symm
   rw [List.filter_eq_self]
   intro p hp
   have : p.1 ≠ a := fun e => by
    have h4 : (Value.int .i64 p.1, p.2) ∈ intM (hoM M) := List.mem_map.2 ⟨p, hp, rfl⟩
    rw [<- hes] at h4
    obtain ⟨x, hx, ex⟩ := List.mem_map.1 h4
    exact h2 x hx ((congrArg Prod.fst ex).trans (by rw [e]))
   simpa using this
 ·
  refine ⟨{ W with heap := W.heap.setIfInBounds mb (.map (es.eraseIdxIfInBounds j) clock) }, ?_, ⟨_, _, (heap_set hb).1, ?_⟩, ⟨rfl, rfl, rfl, by simp, fun q hq hne => (heap_set hb).2 q fun e => hne (by rw [e])⟩⟩
  · simp [Builtin.delete_, run_underlying Tryz.underlying91, MapKept.run_getObj_map hb, run_checkKey Tryz.underlying3 hik, run_findKey Tryz.underlying3 h1, MapKept.run_setObj_map _ hb, Result.andThen]
  ·
   have h4 : (intM (hoM M))[j]? = some (e.key, e.val) := by rw [<- hes, List.getElem?_map, h2]; rfl
   have h5 : ∃ v, (hoM M)[j]? = some (a, v) := by
    unfold intM at h4
    rw [List.getElem?_map] at h4
    cases hj : (hoM M)[j]? with
    | none => rw [hj] at h4; cases h4
    | some p =>
     rw [hj] at h4
     simp only [Option.map_some, Option.some.injEq, Prod.mk.injEq] at h4
     refine ⟨p.2, ?_⟩
     have : p.1 = a := by have := h4.1.trans h3; simpa using this
     rw [<- this]
   obtain ⟨v, h5⟩ := h5
   have hjl : j < es.size := by have := (List.getElem?_eq_some_iff.1 h2).1; simpa using this
   rw [Array.eraseIdxIfInBounds, dif_pos hjl, Array.toList_eraseIdx, map_erase, hes]
   unfold intM
   rw [<- map_erase, erase_filter j v (by rw [hoM_keys]; exact hnd) h5, hoM_del]
theorem wpList_delHo (w : World) {ops : Array Oper} {rest : List Oper} {o : Oper} {a : Act} {Q : Exit -> Act -> World -> Prop} (hg : o.guard = none) (m x : Operand) (hop : o.op = .call { callee := .builtin .delete, args := #[m, x], argTypes := #[91, 3] })
 (mb : Nat) (M : List (Int × Ho)) (hm : a.eval m = .map (some mb)) (h : MapV w mb (intM (hoM M))) (hnd : (M.map (·.1)).Nodup) (k : Int) (hx : a.eval x = .int .i64 k)
 (hK : ∀ w', MapV w' mb (intM (hoM (delI M k))) -> w.grownBy w' (some mb) -> ∀ u, wpList Tryz.prog ops Q rest (a.put o.dst u) w') : wpList Tryz.prog ops Q (o :: rest) a w := by
 refine wpList_plain hg fun K' hK' => ?_
 obtain ⟨w', hrun, r1, r2⟩ := run_delHo h hnd k o.type
 unfold Oper.wp
 simp [execOp, hop, resolve, invoke, builtin, hm, hx, hrun, Result.andThen]
 exact hK' _ _ (hK w' r1 r2 _)
end
end Go.Proofs.YtaehkbbdmamfpaaGreatDoor
