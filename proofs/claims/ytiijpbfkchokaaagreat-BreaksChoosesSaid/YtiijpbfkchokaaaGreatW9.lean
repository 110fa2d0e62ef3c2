/-
  What a break costs: of totals, a height and a penalty: the program's and the document's.
-/
import Derived.Test.YtiijpbfkchokaaaGreatW3
import Derived.Test.YtiijpbfkchokaaaGreatC1
import Derived.Test.YtiijpbfkchokaaaGreatS10
import Derived.Test.YtiijpbfkchokaaaGreatW0
import Derived.Test.YtiijpbfkchokaaaGreatL6
set_option maxHeartbeats 1000000
namespace Go.Proofs.YtiijpbfkchokaaaGreat
open Go.ChangeShapes Go.WideShapes Go.ChangeAt Go.RowKit
def badM (x s : Int) : Int := badP (min x 2147483647) (max (-2147483647) (min s 2147483647))
theorem badP_neg (t s u : Int) (hs : s < 1) (hu : u < 1) : badP t s = badP t u := by
  unfold badP
  simp only [if_pos hs, if_pos hu]
theorem badM_eq (x s : Int) : badP (min x 2147483647) (max (-1) (min s 2147483647)) = badM x s := by
  unfold badM
  by_cases h : -1 ≤ min s 2147483647
  · rw [show max (-1) (min s 2147483647) = max (-2147483647) (min s 2147483647) by omega]
  · exact badP_neg _ _ _ (by omega) (by omega)
theorem badM_v {x s a b : Int} (ha : a = min x 2147483647) (hb : b = max (-2147483647) (min s 2147483647)) : badP a b = badM x s := by rw [ha, hb]; rfl
theorem badM_q {x s a b : Int} (ha : a = min x 2147483647) (hb : b = max (-1) (min s 2147483647)) : badP a b = badM x s := by rw [ha, hb, badM_eq]
theorem ret_i1 {a b : Int} (h : a = b) : Ending.returned (.int .i64 a) = .returned (.int .i64 b) := by rw [h]
theorem qbad_any (x s : Int) (w : World) (hx : 0 ≤ x) : Calls Tryz.prog 95 #[.int .i64 x, .int .i64 s] w fun e w' => e = .returned (.int .i64 (badM x s)) ∧ Below w.heap.size w w' := by
  go_enter Tryz.func95, Tryz.ntmps95
  go_wp2_with (go_at_call 126; refine (qbadness _ _ _ (by omega) (by omega) (by omega) (by omega)).mono ?_; rintro e w1 ⟨rfl, hb⟩)
  all_goals go_ret
  all_goals exact ⟨ret_i1 (badM_q (by omega) (by omega)), hb⟩
theorem badP_range (t s : Int) : 0 ≤ badP t s ∧ badP t s ≤ 10000 ∨ t < 0 := by
  by_cases h : t < 0
  · exact .inr h
  · left
    unfold badP
    split
    · omega
    split
    · omega
    split
    · omega
    have h0 : 0 ≤ badR t s := by
      unfold badR
      split
      · exact Int.ediv_nonneg (by omega) (by omega)
      split
      · exact Int.ediv_nonneg (by omega) (by omega)
      · omega
    obtain ⟨a, b, c, d⟩ := cube_le (badR t s) h0 (by omega)
    omega
theorem badM_range (x s : Int) (h : 0 ≤ x) : 0 ≤ badM x s ∧ badM x s ≤ 10000 := by
  rcases badP_range (min x 2147483647) (max (-2147483647) (min s 2147483647)) with h | h
  · exact h
  · omega
theorem vbad9 (x s : Int) (w : World) (hx : 0 ≤ x) : Calls Tryz.prog 94 #[.int .i64 x, .int .i64 s] w fun e w' => e = .returned (.int .i64 (badM x s)) ∧ Below w.heap.size w w' := by
  go_enter Tryz.func94, Tryz.ntmps94
  go_wp2_with (go_at_call 125; refine (vbadness _ _ _ (by omega) (by omega) (by omega) (by omega)).mono ?_; rintro e w1 ⟨rfl, hb⟩)
  all_goals go_ret
  all_goals exact ⟨ret_i1 (badM_v (by omega) (by omega)), hb⟩
end Go.Proofs.YtiijpbfkchokaaaGreat
namespace Go.Proofs.YtiijpbfkchokaaaGreat
open Go.RowKit
theorem items_pairwise {L : List Nd} {i : Nat} {s : List Nat} (h : Items L i s) : s.Pairwise (· < ·) := by
  induction h with
  | done => exact List.Pairwise.nil
  | step hi hm hs ih =>
    have := behC_pos _ _ _ hm
    refine List.Pairwise.cons (fun x hx => ?_) ih
    have := (hs.lt x hx).1
    omega
end Go.Proofs.YtiijpbfkchokaaaGreat
namespace Go.Proofs.YtiijpbfkchokaaaGreat
open Go.ChangeShapes Go.WideShapes Go.ChangeAt Go.RowKit
def numB (x : Int) : Bool := withinB x (-2147483647) 2147483647
def firmG (g : Gl) : Bool := g.good && (g.ho == 0 || g.shr == 0)
def pmC (P : Pm) (S : List Sh2) : Int :=
  if (numB P.pret && numB P.tol && numB P.linep && numB P.hyp && numB P.exhyp && numB P.adj && numB P.dbl && numB P.fin && numB P.loose && numB P.hanga && dimenB P.hsize && dimenB P.hangi && dimenB P.emerg && decide (S.length ≤ 2000) && S.all fun x => dimenB x.a && dimenB x.b) = true then
    (if (firmG P.left && firmG P.right) = true then 0 else 30) else 1
def fallsR (k : Int) : Bool := k == 7 || k == 8 || k == 9 || k == 15 || k == 16
def paC (L : List Nd) (s : List Nat) : Int := if checkC L = 0 then (if s.all (fun i => firmN (nth L i)) then 0 else 30) else checkC L
def priceN (L : List Nd) (P : Pm) (pr : Option Nat) (x : Nat) (nx : Option Nat) : Option Int :=
  let k := (nth L x).kind
  let skip := match nx with | none => false | some y => (nth L y).kind == 7
  if k = 7 then (match pr with | none => none | some y => if fallsR (nth L y).kind then none else some 0)
  else if k = 8 then (if (nth L x).sub = 1 ∧ skip = true then some 0 else none)
  else if k = 16 then (if skip = true then some 0 else none)
  else if k = 9 then some (nth L x).pen
  else if k = 10 then some (if (threeP L x).1 = [] then P.exhyp else P.hyp)
  else none
def brkF (L : List Nd) (P : Pm) : Option Nat → List Nat → List (Nat × Int)
  | _, [] => []
  | pr, x :: r => match priceN L P pr x r.head? with
    | some q => if q < 10000 then (x, q) :: brkF L P (some x) r else brkF L P (some x) r
    | none => brkF L P (some x) r
def brkP (L : List Nd) (P : Pm) (s : List Nat) : List (Nat × Int) := brkF L P none s ++ [(L.length, -10000)]
def dropTo (L : List Nd) (q : Nat) : List Nat → List Nat
  | [] => []
  | x :: r => if x < q ∧ fallsR (nth L x).kind = true then dropTo L q r else x :: r
def discB (L : List Nd) (x : Nat) : Bool := decide (x < L.length) && (nth L x).kind == 10
def discO (L : List Nd) : Option Nat → Bool
  | none => false
  | some x => discB L x
def fromP (L : List Nd) (s : List Nat) (f : Option Nat) (q : Nat) : List Nat :=
  match f with
  | none => s
  | some x => if discB L x then (if (threeP L x).2.1 = [] then dropTo L q (s.dropWhile (· < x)).tail else (s.dropWhile (· < x)).tail) else dropTo L q (s.dropWhile (· < x))
def preN (L : List Nd) : Option Nat → Int
  | none => 0
  | some x => if discB L x then rowN (threeP L x).2.1 else 0
def sufN (L : List Nd) (q : Nat) : Int := if discB L q then rowN (threeP L q).1 else 0
def lineT (L : List Nd) (P : Pm) (s : List Nat) (f : Option Nat) (q : Nat) : Tt :=
  ((((Tt.wide (preN L f)).plus (sumA L ((fromP L s f q).takeWhile (· < q)))).plus (.wide (sufN L q))).plus (glueT P.left)).plus (glueT P.right)
def widP (P : Pm) (S : List Sh2) (line : Int) : Int × Int :=
  if S = [] then (if P.hangi = 0 ∨ (0 ≤ P.hanga ∧ line ≤ P.hanga) ∨ (P.hanga < 0 ∧ -P.hanga < line) then (P.hsize, 0) else if P.hangi < 0 then (P.hsize + P.hangi, 0) else (P.hsize - P.hangi, P.hangi))
  else ((S.getD ((min line S.length).toNat - 1) ⟨0, 0⟩).b, (S.getD ((min line S.length).toNat - 1) ⟨0, 0⟩).a)
def judP (T : Tt) (w : Int) : Int × Int :=
  if w - T.nat = 0 then (0, 2)
  else if 0 < w - T.nat then
    (if T.s1 ≠ 0 ∨ T.s2 ≠ 0 ∨ T.s3 ≠ 0 then (0, 2) else
      (badM (w - T.nat) T.s0, if 99 < badM (w - T.nat) T.s0 then 0 else if 12 < badM (w - T.nat) T.s0 then 1 else 2))
  else if T.h0 < -(w - T.nat) then (10001, 3)
  else (badM (-(w - T.nat)) T.h0, if 12 < badM (-(w - T.nat)) T.h0 then 3 else 2)
def demP (P : Pm) (b c q : Int) (df dt de : Bool) (before : Int) : Int :=
  (((if -9999 ≤ P.linep + b ∧ P.linep + b ≤ 9999 then (P.linep + b) * (P.linep + b) else 100000000)
    + (if 0 < q then q * q else if -10000 < q then -(q * q) else 0))
    + (if (df && dt) = true then P.dbl else 0))
    + (if (df && de) = true then P.fin else 0)
    + (if 1 < c - before ∨ 1 < before - c then P.adj else 0)
def oneB (P : Pm) (tol : Int) (T : Tt) (w q : Int) (df dt de : Bool) (to_ before : Int) : Bk :=
  let j := judP T w
  let over := if 10000 < j.1 then T.nat - w - T.h0 else 0
  if tol < j.1 ∨ 10000 < j.1 then ⟨to_, j.1, j.2, 0, over, true⟩ else ⟨to_, j.1, j.2, demP P j.1 j.2 q df dt de before, over, false⟩
def oneP (L : List Nd) (P : Pm) (S : List Sh2) (s : List Nat) (tol extra : Int) (f : Option Nat) (x : Nat × Int) (line before : Int) : Bk :=
  oneB P tol ((lineT L P s f x.1).plus ⟨0, extra, 0, 0, 0, 0, 0, 0, 0⟩) (widP P S line).1 x.2 (discO L f) (discB L x.1) (x.1 == L.length) x.1 before
structure Wy where
  ats : List Nat
  cls : Int
  over : Int
  bad : Int
  total : Int
deriving DecidableEq, Inhabited
def Wy.start : Wy := ⟨[], 2, 0, 0, 0⟩
def Wy.ext (a : Wy) (x : Nat) (b : Bk) : Wy := ⟨a.ats ++ [x], b.cls, a.over + b.over, a.bad + (if b.isBad then 1 else 0), a.total + b.dem⟩
def lexB : List Nat → List Nat → Bool
  | [], [] => false
  | [], _ :: _ => true
  | _ :: _, [] => false
  | x :: r, y :: t => if x = y then lexB r t else decide (x < y)
def betB (a b : Wy) : Bool :=
  if a.over = b.over then (if a.bad = b.bad then (if a.total = b.total then lexB a.ats.reverse b.ats.reverse else decide (a.total < b.total)) else decide (a.bad < b.bad)) else decide (a.over < b.over)
def addW : List Wy → Wy → List Wy
  | [], w => [w]
  | y :: r, w => if y.ats.length = w.ats.length ∧ y.cls = w.cls then (if betB w y then w else y) :: r else y :: addW r w
def preds (pen : Nat → Int) : Nat → List (Option Nat)
  | 0 => [none]
  | j + 1 => some j :: (if pen j ≤ -10000 then [] else preds pen j)
def penA (B : List (Nat × Int)) (j : Nat) : Int := (B.getD j (0, 0)).2
def atA (B : List (Nat × Int)) : Option Nat → Option Nat
  | none => none
  | some j => some (B.getD j (0, 0)).1
def aheadW (E : List (List Wy)) : Option Nat → List Wy
  | none => [Wy.start]
  | some j => E.getD j []
def extW (one : Option Nat → Nat × Int → Int → Int → Bk) (all : Bool) (f : Option Nat) (x : Nat × Int) (acc : List Wy) (a : Wy) : List Wy :=
  if ((one f x (a.ats.length + 1) a.cls).isBad && !all) = true then acc else addW acc (a.ext x.1 (one f x (a.ats.length + 1) a.cls))
def endW (one : Option Nat → Nat × Int → Int → Int → Bk) (all : Bool) (B : List (Nat × Int)) (E : List (List Wy)) (i : Nat) : List Wy :=
  (preds (penA B) i).foldl (fun acc j => (aheadW E j).foldl (extW one all (atA B j) (B.getD i (0, 0))) acc) []
def endsW (one : Option Nat → Nat × Int → Int → Int → Bk) (all : Bool) (B : List (Nat × Int)) : Nat → List (List Wy)
  | 0 => []
  | n + 1 => endsW one all B n ++ [endW one all B (endsW one all B n) n]
def waysW (one : Option Nat → Nat × Int → Int → Int → Bk) (all : Bool) (B : List (Nat × Int)) : List Wy := (endsW one all B B.length).getD (B.length - 1) []
def pickW (n : Int) : List Wy → Option Wy → Option Wy
  | [], o => o
  | w :: r, o => pickW n r (if (n = 0 ∨ (w.ats.length : Int) = n) ∧ (match o with | none => true | some y => betB w y) = true then some w else o)
def looseW (P : Int) (y : Wy) : List Wy → Int → Int
  | [], l => l
  | w :: r, l =>
    let d : Int := (w.ats.length : Int) - y.ats.length
    looseW P y r (if w.over = y.over ∧ w.bad = y.bad ∧ ((l < d ∧ d ≤ P) ∨ (d < l ∧ P ≤ d)) then d else l)
def linesW (one : Option Nat → Nat × Int → Int → Int → Bk) : List (Nat × Int) → List Int → Option Nat → Int → Int → List Bk
  | [], _, _, _, _ => []
  | x :: r, c, f, line, before =>
    if c.contains (x.1 : Int) then (one f x line before) :: linesW one r c (some x.1) (line + 1) (one f x line before).cls else linesW one r c f line before
def lnsW (one : Option Nat → Nat × Int → Int → Int → Bk) : List (Nat × Int) → List Int → Option Nat → Int → Int → Option (List Bk)
  | [], c, _, _, _ => if c.isEmpty then some [] else none
  | x :: r, [], f, line, before => if x.2 ≤ -10000 then none else lnsW one r [] f line before
  | x :: r, y :: t, f, line, before =>
    if y = (x.1 : Int) then (lnsW one r t (some x.1) (line + 1) (one f x line before).cls).map (one f x line before :: ·)
    else if x.2 ≤ -10000 then none else lnsW one r (y :: t) f line before
def takesW : List (Nat × Int) → List Int → Bool
  | [], c => c.isEmpty
  | x :: r, [] => if x.2 ≤ -10000 then false else takesW r []
  | x :: r, y :: t => if y = (x.1 : Int) then takesW r t else if x.2 ≤ -10000 then false else takesW r (y :: t)
def sumsP (L : List Nd) (s : List Nat) : List Tt := (List.range (s.length + 1)).map fun j => sumA L (s.take j)
theorem sumsP_len (L : List Nd) (s : List Nat) : (sumsP L s).length = s.length + 1 := by simp [sumsP]
theorem sumsP_get (L : List Nd) (s : List Nat) {j : Nat} (h : j < (sumsP L s).length) : (sumsP L s)[j] = sumA L (s.take j) := by simp [sumsP]
theorem sum_pre {L : List Nd} {s : List Nat} (hc : checkC L = 0) (hs : Items L 0 s) (hr : ∀ n ∈ L, rightB n = true) (hl : L.length ≤ 2000) : ∀ (d t : List Nat) (i : Nat), s = d ++ t → Items L i t → TtB 4400000000000 (sumA L d) := by
  intro d t i e ht
  have h1 := sum_items hc hs hr hs (fun x hx => hx)
  have h2 := sum_items hc hs hr ht (fun x hx => by rw [e]; exact List.mem_append_right _ hx)
  rw [e, sumA_app] at h1
  have h3 := h1.minus h2
  have h4 : ((sumA L d).plus (sumA L t)).minus (sumA L t) = sumA L d := by apply Tt.ext_all <;> simp [Tt.plus, Tt.minus] <;> omega
  rw [h4] at h3
  exact h3.mono (by omega)
theorem items_tail {L : List Nd} {i : Nat} {s : List Nat} (h : Items L i s) : ∀ j, j ≤ s.length → ∃ k, Items L k (s.drop j) := by
  induction h with
  | done => intro j hj; exact ⟨L.length, by rw [show j = 0 by simpa using hj]; exact .done⟩
  | step hi hm hs ih =>
    intro j hj
    cases j with
    | zero => exact ⟨_, .step hi hm hs⟩
    | succ j => exact ih j (by simpa using hj)
theorem sum_take {L : List Nd} {s : List Nat} (hc : checkC L = 0) (hs : Items L 0 s) (hr : ∀ n ∈ L, rightB n = true) (hl : L.length ≤ 2000) (j : Nat) (hj : j ≤ s.length) : TtB 4400000000000 (sumA L (s.take j)) := by
  obtain ⟨k, hk⟩ := items_tail hs j hj
  exact sum_pre hc hs hr hl _ _ k (List.take_append_drop j s).symm hk
structure PosAt (s : List Nat) (q m : Nat) : Prop where
  le : m ≤ s.length
  lt : ∀ j (h : j < s.length), s[j] < q ↔ j < m
theorem pos_at {L : List Nd} {s : List Nat} (hs : Items L 0 s) {m q : Nat} (h : (s ++ [L.length])[m]? = some q) : PosAt s q m := by
  have hp := items_pairwise hs
  have hm : m < (s ++ [L.length]).length := (List.getElem?_eq_some_iff.1 h).1
  rw [List.length_append, List.length_singleton] at hm
  refine ⟨by omega, fun j hj => ?_⟩
  by_cases e : m = s.length
  · have hq : q = L.length := by
      rw [e] at h
      simpa using h.symm
    have := (hs.lt _ (List.getElem_mem hj)).2
    rw [hq]
    omega
  · have hms : m < s.length := by omega
    rw [List.getElem?_append_left hms, List.getElem?_eq_getElem hms] at h
    have hq := Option.some.inj h
    rw [← hq]
    rw [List.pairwise_iff_getElem] at hp
    rcases Nat.lt_trichotomy j m with h1 | h1 | h1
    · have := hp j m hj hms h1; omega
    · subst h1; omega
    · have := hp m j hms hj h1; omega
theorem drop_while_at {L : List Nd} {s : List Nat} (hs : Items L 0 s) {i x : Nat} (h : s[i]? = some x) : s.dropWhile (· < x) = s.drop i := by
  have hp := items_pairwise hs
  have hi : i < s.length := (List.getElem?_eq_some_iff.1 h).1
  rw [List.getElem?_eq_getElem hi] at h
  have hx := Option.some.inj h
  rw [List.pairwise_iff_getElem] at hp
  have h1 : s = s.take i ++ s.drop i := (List.take_append_drop i s).symm
  have h2 : ∀ y ∈ s.take i, y < x := fun y hy => by
    obtain ⟨j, hj, rfl⟩ := List.getElem_of_mem hy
    rw [List.length_take] at hj
    rw [List.getElem_take, ← hx]
    exact hp j i (by omega) hi (by omega)
  have h3 : (s.drop i).dropWhile (· < x) = s.drop i := by
    rw [List.drop_eq_getElem_cons hi, List.dropWhile_cons_of_neg]
    simp [hx]
  conv => lhs; rw [h1]
  rw [List.dropWhile_append_of_pos (by simpa using h2)]
  exact h3
theorem drop_go {L : List Nd} {s : List Nat} {q m i : Nat} (h : PosAt s q m) (hi : i < m) (hf : fallsR (nth L (s.getD i 0)).kind = true) : dropTo L q (s.drop i) = dropTo L q (s.drop (i + 1)) := by
  have hl := h.le
  have hi2 : i < s.length := by omega
  have e : s.getD i 0 = s[i] := by simp [List.getElem?_eq_getElem hi2]
  rw [e] at hf
  rw [List.drop_eq_getElem_cons hi2, dropTo, if_pos ⟨(h.lt i hi2).2 hi, hf⟩]
theorem drop_stop {L : List Nd} {s : List Nat} {q m i : Nat} (h : PosAt s q m) (hn : ¬ (i < m ∧ fallsR (nth L (s.getD i 0)).kind = true)) : dropTo L q (s.drop i) = s.drop i := by
  rcases Nat.lt_or_ge i s.length with hi | hi
  · have e : s.getD i 0 = s[i] := by simp [List.getElem?_eq_getElem hi]
    rw [e] at hn
    rw [List.drop_eq_getElem_cons hi, dropTo, if_neg]
    intro ⟨h1, h2⟩
    exact hn ⟨(h.lt i hi).1 h1, h2⟩
  · rw [List.drop_eq_nil_of_le hi]; rfl
theorem take_while_at {s : List Nat} {q m i : Nat} (h : PosAt s q m) : (s.drop i).takeWhile (· < q) = (s.take m).drop i := by
  have hl := h.le
  have h1 : (s.drop i) = (s.take m).drop i ++ (s.drop m).drop (i - m) := by
    conv => lhs; rw [← List.take_append_drop m s]
    rw [List.drop_append, List.length_take, Nat.min_eq_left hl]
  rw [h1, List.takeWhile_append_of_pos]
  · have : ((s.drop m).drop (i - m)).takeWhile (fun x => decide (x < q)) = [] := by
      rw [List.drop_drop]
      rcases Nat.lt_or_ge (m + (i - m)) s.length with h2 | h2
      · rw [List.drop_eq_getElem_cons h2, List.takeWhile_cons_of_neg]
        have := h.lt _ h2
        simp only [decide_eq_true_eq]
        omega
      · rw [List.drop_eq_nil_of_le h2]; rfl
    rw [this, List.append_nil]
  · intro y hy
    obtain ⟨j, hj, rfl⟩ := List.getElem_of_mem hy
    rw [List.length_drop, List.length_take] at hj
    rw [List.getElem_drop, List.getElem_take]
    have := (h.lt (i + j) (by omega)).2 (by omega)
    simpa using this
def startI (L : List Nd) (s : List Nat) : Option Nat → Nat × Bool
  | none => (0, false)
  | some x => if discB L x then (s.idxOf x + 1, (threeP L x).2.1.isEmpty) else (s.idxOf x, true)
theorem fromP_start {L : List Nd} {s : List Nat} (hs : Items L 0 s) {f : Option Nat} (hf : ∀ x, f = some x → x ∈ s) (q : Nat) : fromP L s f q = if (startI L s f).2 then dropTo L q (s.drop (startI L s f).1) else s.drop (startI L s f).1 := by
  cases f with
  | none => rfl
  | some x =>
    have hx := hf x rfl
    have hi : s[s.idxOf x]? = some x := by
      have h1 : s.idxOf x < s.length := List.idxOf_lt_length_of_mem hx
      rw [List.getElem?_eq_getElem h1, List.getElem_idxOf h1]
    have hd := drop_while_at hs hi
    unfold fromP startI
    simp only
    rw [hd]
    split
    · rw [List.tail_drop]
      cases (threeP L x).2.1 <;> simp
    · rfl
def midT (L : List Nd) (s : List Nat) (i m : Nat) : Tt := if i < m then (sumA L (s.take m)).minus (sumA L (s.take i)) else .zero
theorem mid_eq {L : List Nd} {s : List Nat} {i m : Nat} : sumA L ((s.take m).drop i) = midT L s i m := by
  unfold midT
  split
  · rename_i h
    have h1 : s.take m = s.take i ++ (s.take m).drop i := by
      have := List.take_append_drop i (s.take m)
      rw [List.take_take, Nat.min_eq_left (Nat.le_of_lt h)] at this
      exact this.symm
    conv => rhs; arg 1; rw [h1, sumA_app]
    rw [plus_minus]
  · rw [List.drop_eq_nil_of_le (by rw [List.length_take]; omega)]; rfl
theorem lineT_eq {L : List Nd} {P : Pm} {s : List Nat} {f : Option Nat} {q m i : Nat} (h : PosAt s q m) (hi : fromP L s f q = s.drop i) :
    lineT L P s f q = ((((Tt.wide (preN L f)).plus (midT L s i m)).plus (.wide (sufN L q))).plus ((glueT P.left).plus (glueT P.right))) := by
  unfold lineT
  rw [hi, take_while_at h, mid_eq]
  simp only [plus_assoc]
/-! weights -/
theorem addW_mem {w z : Wy} : ∀ {l : List Wy}, z ∈ addW l w → z = w ∨ z ∈ l
  | [], h => .inl (by simpa [addW] using h)
  | y :: r, h => by
    unfold addW at h
    split at h
    · rcases List.mem_cons.1 h with h1 | h1
      · split at h1
        · exact .inl h1
        · exact .inr (by rw [h1]; exact List.mem_cons_self)
      · exact .inr (List.mem_cons_of_mem _ h1)
    · rcases List.mem_cons.1 h with h1 | h1
      · exact .inr (by rw [h1]; exact List.mem_cons_self)
      · rcases addW_mem h1 with h2 | h2
        · exact .inl h2
        · exact .inr (List.mem_cons_of_mem _ h2)
section
variable (one : Option Nat → Nat × Int → Int → Int → Bk) (all : Bool) (B : List (Nat × Int))
abbrev lineW (o : Option Nat) (i : Nat) (a : Wy) : Bk := one (atA B o) (B.getD i (0, 0)) (a.ats.length + 1) a.cls
inductive PathW : Option Nat → Wy → List Bk → Prop
  | nil : PathW none Wy.start []
  | cons {o : Option Nat} {a : Wy} {ls : List Bk} (i : Nat) (hi : i < B.length) (h : PathW o a ls) (ho : o ∈ preds (penA B) i) (hg : ((lineW one B o i a).isBad && !all) = false) :
    PathW (some i) (a.ext (B.getD i (0, 0)).1 (lineW one B o i a)) (ls ++ [lineW one B o i a])
variable {one all B}
theorem preds_succ (pen : Nat → Int) (o : Option Nat) (m : Nat) : o ∈ preds pen (m + 1) ↔ (o = some m ∨ (-10000 < pen m ∧ o ∈ preds pen m)) := by
  rw [preds]
  by_cases h : pen m ≤ -10000
  · rw [if_pos h]
    constructor
    · intro h1; left; simpa using h1
    · rintro (h1 | ⟨h1, _⟩)
      · simp [h1]
      · omega
  · rw [if_neg h, List.mem_cons]
    constructor
    · rintro (h1 | h1)
      · exact .inl h1
      · exact .inr ⟨by omega, h1⟩
    · rintro (h1 | ⟨_, h1⟩)
      · exact .inl h1
      · exact .inr h1
theorem preds_lt {pen : Nat → Int} {j : Nat} : ∀ {m : Nat}, some j ∈ preds pen m → j < m
  | 0, h => by simp [preds] at h
  | m + 1, h => by
    rcases (preds_succ _ _ _).1 h with h1 | ⟨_, h1⟩
    · cases h1; omega
    · have := preds_lt h1; omega
theorem endsW_len (one : Option Nat → Nat × Int → Int → Int → Bk) (all : Bool) (B : List (Nat × Int)) : ∀ n, (endsW one all B n).length = n
  | 0 => rfl
  | n + 1 => by rw [endsW, List.length_append, endsW_len one all B n]; rfl
theorem endsW_get (one : Option Nat → Nat × Int → Int → Int → Bk) (all : Bool) (B : List (Nat × Int)) : ∀ {n i : Nat}, i < n → (endsW one all B n).getD i [] = endW one all B (endsW one all B i) i
  | 0, i, h => by omega
  | n + 1, i, h => by
    rw [endsW]
    by_cases e : i = n
    · subst e
      rw [List.getD_eq_getElem?_getD, List.getElem?_append_right (by rw [endsW_len]; exact Nat.le_refl _), endsW_len, Nat.sub_self]
      rfl
    · rw [List.getD_eq_getElem?_getD, List.getElem?_append_left (by rw [endsW_len]; omega), ← List.getD_eq_getElem?_getD]
      exact endsW_get one all B (by omega)
theorem extW_mem {o : Option Nat} {i : Nat} {a z : Wy} {acc : List Wy} (h : z ∈ extW one all (atA B o) (B.getD i (0, 0)) acc a) : z ∈ acc ∨ (((lineW one B o i a).isBad && !all) = false ∧ z = a.ext (B.getD i (0, 0)).1 (lineW one B o i a)) := by
  unfold extW at h
  split at h
  · exact .inl h
  · rename_i hb
    rcases addW_mem h with h1 | h1
    · exact .inr ⟨by cases hq : ((lineW one B o i a).isBad && !all) with
        | false => rfl
        | true => exact absurd hq hb, h1⟩
    · exact .inl h1
theorem foldl_mem {α : Type} {f : List Wy → α → List Wy} {P : Wy → Prop} : ∀ (l : List α) (acc : List Wy), (∀ acc x z, x ∈ l → z ∈ f acc x → z ∈ acc ∨ P z) → (∀ z ∈ acc, P z) → ∀ z ∈ l.foldl f acc, P z
  | [], _, _, h, z, hz => h z hz
  | y :: r, acc, hf, h, z, hz => by
    rw [List.foldl_cons] at hz
    refine foldl_mem r (f acc y) (fun acc x z hx => hf acc x z (List.mem_cons_of_mem _ hx)) (fun u hu => ?_) z hz
    rcases hf acc y u List.mem_cons_self hu with h1 | h1
    · exact h u h1
    · exact h1
theorem endW_sound (one : Option Nat → Nat × Int → Int → Int → Bk) (all : Bool) (B : List (Nat × Int)) : ∀ (i : Nat), i < B.length → ∀ a ∈ endW one all B (endsW one all B i) i, ∃ ls, PathW one all B (some i) a ls := by
  intro i
  induction i using Nat.strongRecOn with
  | ind i ih =>
    intro hi a ha
    unfold endW at ha
    refine foldl_mem (P := fun a => ∃ ls, PathW one all B (some i) a ls) _ _ ?_ (fun z hz => by cases hz) a ha
    intro acc o z ho hz
    by_cases hacc : z ∈ acc
    · exact .inl hacc
    refine .inr ?_
    have hpre : ∀ b ∈ aheadW (endsW one all B i) o, ∃ ls, PathW one all B o b ls := by
      intro b hb
      cases o with
      | none =>
        simp only [aheadW, List.mem_singleton] at hb
        subst hb
        exact ⟨[], .nil⟩
      | some j =>
        have hj := preds_lt ho
        simp only [aheadW] at hb
        rw [endsW_get one all B hj] at hb
        exact ih j hj (by omega) b hb
    have : ∀ (l : List Wy), (∀ b ∈ l, ∃ ls, PathW one all B o b ls) → ∀ acc, (∀ u ∈ acc, u ∈ acc) → z ∈ l.foldl (extW one all (atA B o) (B.getD i (0, 0))) acc → z ∉ acc → ∃ ls, PathW one all B (some i) z ls := by
      intro l
      induction l with
      | nil => intro _ acc _ h1 h2; exact absurd h1 h2
      | cons b r ihl =>
        intro hl acc _ h1 h2
        rw [List.foldl_cons] at h1
        by_cases hb : z ∈ extW one all (atA B o) (B.getD i (0, 0)) acc b
        · rcases extW_mem hb with h3 | ⟨h3, h4⟩
          · exact absurd h3 h2
          · obtain ⟨ls, h5⟩ := hl b List.mem_cons_self
            rw [h4]
            exact ⟨_, PathW.cons i hi h5 ho h3⟩
        · exact ihl (fun u hu => hl u (List.mem_cons_of_mem _ hu)) _ (fun _ h => h) h1 hb
    exact this _ hpre acc (fun _ h => h) hz hacc
theorem waysW_sound (one : Option Nat → Nat × Int → Int → Int → Bk) (all : Bool) (B : List (Nat × Int)) (hB : B ≠ []) {a : Wy} (ha : a ∈ waysW one all B) : ∃ ls, PathW one all B (some (B.length - 1)) a ls := by
  have hn : 0 < B.length := List.length_pos_iff.2 hB
  unfold waysW at ha
  rw [endsW_get one all B (by omega)] at ha
  exact endW_sound one all B _ (by omega) a ha
theorem PathW.weak {o : Option Nat} {a : Wy} {ls : List Bk} (h : PathW one all B o a ls) : PathW one true B o a ls := by
  induction h with
  | nil => exact .nil
  | @cons o a ls i hi h ho hg ih => exact .cons i hi ih ho (by simp)
def Rises (B : List (Nat × Int)) : Prop := B.Pairwise fun x y => x.1 < y.1
theorem Rises.lt {B : List (Nat × Int)} (h : Rises B) {i j : Nat} (hij : i < j) (hj : j < B.length) : (B.getD i (0, 0)).1 < (B.getD j (0, 0)).1 := by
  have hi : i < B.length := by omega
  simp only [List.getD_eq_getElem?_getD, List.getElem?_eq_getElem hi, List.getElem?_eq_getElem hj, Option.getD_some]
  exact List.pairwise_iff_getElem.1 h i j hi hj hij
theorem drop_cons {B : List (Nat × Int)} {m : Nat} (hm : m < B.length) : B.drop m = B.getD m (0, 0) :: B.drop (m + 1) := by
  rw [List.drop_eq_getElem_cons hm]
  congr 1
  simp [List.getD_eq_getElem?_getD, List.getElem?_eq_getElem hm]
theorem lnsW_cons (x : Nat × Int) (r : List (Nat × Int)) (y : Int) (t : List Int) (f : Option Nat) (line before : Int) : lnsW one (x :: r) (y :: t) f line before = if y = (x.1 : Int) then (lnsW one r t (some x.1) (line + 1) (one f x line before).cls).map (one f x line before :: ·) else if x.2 ≤ -10000 then none else lnsW one r (y :: t) f line before := rfl
theorem lnsW_skip (hr : Rises B) {i : Nat} (hi : i < B.length) (c : List Int) (f : Option Nat) (line before : Int) {o : Option Nat} (hat : atA B o = f) : ∀ (m : Nat), m ≤ i → o ∈ preds (penA B) m → ∀ m', (m' ≤ m ∧ o ∈ preds (penA B) m') →
    lnsW one (B.drop m') (((B.getD i (0, 0)).1 : Int) :: c) f line before = lnsW one (B.drop m) (((B.getD i (0, 0)).1 : Int) :: c) f line before := by
  intro m
  induction m with
  | zero => intro _ _ m' h; rw [show m' = 0 by omega]
  | succ m ih =>
    intro hm ho m' h
    rcases Nat.lt_or_ge m m' with h1 | h1
    · rw [show m' = m + 1 by omega]
    · rcases (preds_succ _ _ _).1 ho with h2 | ⟨h2, h3⟩
      · subst h2
        have := preds_lt h.2
        omega
      · rw [ih (by omega) h3 m' ⟨h1, h.2⟩, drop_cons (by omega : m < B.length), lnsW_cons, if_neg, if_neg (by show ¬ penA B m ≤ _; omega)]
        have := hr.lt (show m < i by omega) hi
        omega
def nextA : Option Nat → Nat
  | none => 0
  | some j => j + 1
theorem preds_next {pen : Nat → Int} {o : Option Nat} : o ∈ preds pen (nextA o) := by
  cases o with
  | none => simp [nextA, preds]
  | some j => exact (preds_succ _ _ _).2 (.inl rfl)
theorem preds_ge {pen : Nat → Int} {o : Option Nat} {m : Nat} (h : o ∈ preds pen m) : nextA o ≤ m := by
  cases o with
  | none => exact Nat.zero_le _
  | some j => exact preds_lt h
theorem PathW.lines (hr : Rises B) {o : Option Nat} {a : Wy} {ls : List Bk} (h : PathW one all B o a ls) : ∀ c : List Int, lnsW one B (a.ats.map (fun x : Nat => (x : Int)) ++ c) none 1 2 = (lnsW one (B.drop (nextA o)) c (atA B o) (a.ats.length + 1) a.cls).map (ls ++ ·) := by
  induction h with
  | nil =>
    intro c
    show lnsW one B ([] ++ c) none 1 2 = (lnsW one (B.drop 0) c none ((0 : Nat) + 1) 2).map ([] ++ ·)
    simp
  | @cons o a ls i hi h ho hg ih =>
    intro c
    have e1 : (a.ext (B.getD i (0, 0)).1 (lineW one B o i a)).ats.map (fun x : Nat => (x : Int)) ++ c = a.ats.map (fun x : Nat => (x : Int)) ++ (((B.getD i (0, 0)).1 : Int) :: c) := by
      show (a.ats ++ [_]).map _ ++ c = _
      rw [List.map_append, List.append_assoc]; rfl
    rw [e1, ih, lnsW_skip hr hi c (atA B o) _ _ rfl i (Nat.le_refl _) ho (nextA o) ⟨preds_ge ho, preds_next⟩, drop_cons hi, lnsW_cons, if_pos rfl, Option.map_map]
    have e2 : ((a.ats.length : Int) + 1 + 1) = ((a.ext (B.getD i (0, 0)).1 (lineW one B o i a)).ats.length : Int) + 1 := by
      show _ = ((a.ats ++ [_]).length : Int) + 1
      rw [List.length_append]; simp
    have e3 : atA B (some i) = some (B.getD i (0, 0)).1 := rfl
    show Option.map _ (lnsW one (B.drop (i + 1)) c (some (B.getD i (0, 0)).1) ((a.ats.length : Int) + 1 + 1) (lineW one B o i a).cls) = _
    rw [e2, ← e3]
    refine congrFun (congrArg Option.map (funext fun x => ?_)) _
    show ls ++ (lineW one B o i a :: x) = (ls ++ [lineW one B o i a]) ++ x
    rw [List.append_assoc]; rfl
theorem PathW.lines_end (hr : Rises B) {a : Wy} {ls : List Bk} (h : PathW one all B (some (B.length - 1)) a ls) (hB : B ≠ []) : lnsW one B (a.ats.map fun x : Nat => (x : Int)) none 1 2 = some ls := by
  have h1 := h.lines hr []
  have hn : 0 < B.length := List.length_pos_iff.2 hB
  rw [List.append_nil, show nextA (some (B.length - 1)) = B.length by simp only [nextA]; omega, List.drop_length] at h1
  rw [h1]
  simp [lnsW]
end
/-! picking -/
def asOk (w : Wy) : Option Wy → Bool
  | none => true
  | some y => betB w y
theorem pickW_cons (n : Int) (w : Wy) (r : List Wy) (o : Option Wy) : pickW n (w :: r) o = pickW n r (if (n = 0 ∨ (w.ats.length : Int) = n) ∧ asOk w o = true then some w else o) := by cases o <;> rfl
theorem pickW_mem {n : Int} : ∀ {l : List Wy} {o : Option Wy} {y : Wy}, pickW n l o = some y → (y ∈ l ∧ (n = 0 ∨ (y.ats.length : Int) = n)) ∨ o = some y
  | [], o, y, h => .inr h
  | w :: r, o, y, h => by
    rw [pickW_cons] at h
    rcases pickW_mem h with ⟨h1, h2⟩ | h1
    · exact .inl ⟨List.mem_cons_of_mem _ h1, h2⟩
    · by_cases hc : (n = 0 ∨ (w.ats.length : Int) = n) ∧ asOk w o = true
      · rw [if_pos hc] at h1
        cases h1
        exact .inl ⟨List.mem_cons_self, hc.1⟩
      · rw [if_neg hc] at h1
        exact .inr h1
theorem pickW_some {n : Int} : ∀ {l : List Wy} {o : Option Wy}, (o.isSome = true ∨ ∃ w ∈ l, n = 0 ∨ (w.ats.length : Int) = n) → (pickW n l o).isSome = true
  | [], o, h => by
    rcases h with h | ⟨w, hw, _⟩
    · exact h
    · cases hw
  | w :: r, o, h => by
    rw [pickW_cons]
    refine pickW_some ?_
    cases o with
    | some z => left; split <;> rfl
    | none =>
      rcases h with h | ⟨u, hu, hn⟩
      · cases h
      · rcases List.mem_cons.1 hu with rfl | hu
        · left; rw [if_pos ⟨hn, rfl⟩]; rfl
        · exact .inr ⟨u, hu, hn⟩
def fieldW (one : Option Nat → Nat × Int → Int → Int → Bk) (B : List (Nat × Int)) (last : Bool) : List Wy :=
  if (waysW one false B).isEmpty && last then waysW one true B else waysW one false B
def chooseW (one : Option Nat → Nat × Int → Int → Int → Bk) (B : List (Nat × Int)) (last : Bool) (P : Int) : Option (Wy × Int) :=
  match pickW 0 (fieldW one B last) none with
  | none => none
  | some y => if looseW P y (fieldW one B last) 0 = 0 then some (y, 0) else some ((pickW ((y.ats.length : Int) + looseW P y (fieldW one B last) 0) (fieldW one B last) none).getD y, looseW P y (fieldW one B last) 0)
structure BOk (B : List (Nat × Int)) : Prop where
  ne : B ≠ []
  rises : Rises B
  last : penA B (B.length - 1) ≤ -10000
section
variable {one : Option Nat → Nat × Int → Int → Int → Bk} {all : Bool} {B : List (Nat × Int)}
theorem fieldW_sound (hB : BOk B) {last : Bool} {a : Wy} (h : a ∈ fieldW one B last) : ∃ ls, PathW one true B (some (B.length - 1)) a ls := by
  unfold fieldW at h
  split at h
  · exact waysW_sound one true B hB.ne h
  · obtain ⟨ls, h1⟩ := waysW_sound one false B hB.ne h
    exact ⟨ls, h1.weak⟩
theorem looseW_spec (P : Int) (y : Wy) : ∀ (l : List Wy) (l0 : Int), min 0 P ≤ l0 → l0 ≤ max 0 P →
    min 0 P ≤ looseW P y l l0 ∧ looseW P y l l0 ≤ max 0 P ∧ (0 ≤ P → l0 ≤ looseW P y l l0) ∧ (P ≤ 0 → looseW P y l l0 ≤ l0) ∧ (looseW P y l l0 = l0 ∨ ∃ w ∈ l, w.over = y.over ∧ w.bad = y.bad ∧ (w.ats.length : Int) - y.ats.length = looseW P y l l0) ∧
    (∀ w ∈ l, w.over = y.over → w.bad = y.bad → (0 ≤ P → (w.ats.length : Int) - y.ats.length ≤ P → (w.ats.length : Int) - y.ats.length ≤ looseW P y l l0) ∧ (P ≤ 0 → P ≤ (w.ats.length : Int) - y.ats.length → looseW P y l l0 ≤ (w.ats.length : Int) - y.ats.length))
  | [], l0, h1, h2 => ⟨h1, h2, fun _ => Int.le_refl _, fun _ => Int.le_refl _, .inl rfl, fun w hw => (by cases hw)⟩
  | w :: r, l0, h1, h2 => by
    rw [looseW]
    by_cases hc : w.over = y.over ∧ w.bad = y.bad ∧ ((l0 < (w.ats.length : Int) - y.ats.length ∧ (w.ats.length : Int) - y.ats.length ≤ P) ∨ ((w.ats.length : Int) - y.ats.length < l0 ∧ P ≤ (w.ats.length : Int) - y.ats.length))
    · simp only [if_pos hc]
      obtain ⟨c1, c2, c3⟩ := hc
      obtain ⟨i1, i2, i3, i4, i5, i6⟩ := looseW_spec P y r ((w.ats.length : Int) - y.ats.length) (by omega) (by omega)
      refine ⟨i1, i2, fun h => by have := i3 h; omega, fun h => by have := i4 h; omega, .inr ?_, fun u hu e1 e2 => ?_⟩
      · rcases i5 with i5 | ⟨u, hu, i7⟩
        · exact ⟨w, List.mem_cons_self, c1, c2, i5.symm⟩
        · exact ⟨u, List.mem_cons_of_mem _ hu, i7⟩
      · rcases List.mem_cons.1 hu with rfl | hu
        · exact ⟨fun h _ => i3 h, fun h _ => i4 h⟩
        · exact i6 u hu e1 e2
    · simp only [if_neg hc]
      obtain ⟨i1, i2, i3, i4, i5, i6⟩ := looseW_spec P y r l0 h1 h2
      refine ⟨i1, i2, i3, i4, ?_, fun u hu e1 e2 => ?_⟩
      · rcases i5 with i5 | ⟨u, hu, i7⟩
        · exact .inl i5
        · exact .inr ⟨u, List.mem_cons_of_mem _ hu, i7⟩
      · rcases List.mem_cons.1 hu with rfl | hu
        · refine ⟨fun h3 h4 => ?_, fun h3 h4 => ?_⟩
          · have := i3 h3
            by_cases h5 : l0 < (u.ats.length : Int) - y.ats.length
            · exact absurd ⟨e1, e2, .inl ⟨h5, h4⟩⟩ hc
            · omega
          · have := i4 h3
            by_cases h5 : (u.ats.length : Int) - y.ats.length < l0
            · exact absurd ⟨e1, e2, .inr ⟨h5, h4⟩⟩ hc
            · omega
        · exact i6 u hu e1 e2
end
section
variable {one two : Option Nat → Nat × Int → Int → Int → Bk} {B : List (Nat × Int)} {t : Int}
end
end Go.Proofs.YtiijpbfkchokaaaGreat
