/-
  What a break costs: of totals, a height and a penalty: the program's and the document's.
  What a break costs: the program's cost.
  What a break costs: the document's Bad, Priced, price.
  What a break costs: the document's price; bounds of what is measured.
  Badness of great numbers: the program's, in package breaks.
  How a paragraph is broken (plain): what both sides compute.
  Chosen breaks and ways (plain).
  The place behind an item; does an item begin there? The program's, in package nodes.
  An item of a good list is a good list (plain); its Disc's lists.
-/
import Derived.Test.YtiijpbfkchokaaaGreatW2
import Derived.Test.YtiijpbfkchokaaaGreatW3
import Derived.Test.YtiijpbfkchokaaaGreatC1
import Derived.Test.YtiijpbfkchokaaaGreatW0
import Derived.WalkMore
namespace Go.Proofs.YtiijpbfkchokaaaGreat
open Go.ChangeShapes Go.WideShapes Go.ChangeAt Go.RowKit
def badM (x s : Int) : Int := badP (min x 2147483647) (max (-2147483647) (min s 2147483647))
theorem badP_neg (t s u : Int) (hs : s < 1) (hu : u < 1) : badP t s = badP t u := by
  unfold badP
  simp only [if_pos hs, if_pos hu]
theorem badM_eq (x s : Int) : badP (min x 2147483647) (max (-1) (min s 2147483647)) = badM x s := by
  unfold badM
  by_cases h : -1 ≤ min s 2147483647
  · rw [show max (-1) (min s 2147483647) = max (-2147483647) (min s 2147483647) by omega]
  · exact badP_neg _ _ _ (by omega) (by omega)
theorem badM_v {x s a b : Int} (ha : a = min x 2147483647) (hb : b = max (-2147483647) (min s 2147483647)) : badP a b = badM x s := by rw [ha, hb]; rfl
theorem badM_q {x s a b : Int} (ha : a = min x 2147483647) (hb : b = max (-1) (min s 2147483647)) : badP a b = badM x s := by rw [ha, hb, badM_eq]
theorem ret_i1 {a b : Int} (h : a = b) : Ending.returned (.int .i64 a) = .returned (.int .i64 b) := by rw [h]
set_option maxHeartbeats 1000000 in
theorem qbad_any (x s : Int) (w : World) (hx : 0 ≤ x) : Calls Tryz.prog 95 #[.int .i64 x, .int .i64 s] w fun e w' => e = .returned (.int .i64 (badM x s)) ∧ Below w.heap.size w w' := by
  go_enter Tryz.func95, Tryz.ntmps95
  go_wp2_with (go_at_call 126; refine (qbadness _ _ _ (by omega) (by omega) (by omega) (by omega)).mono ?_; rintro e w1 ⟨rfl, hb⟩)
  all_goals go_ret
  all_goals exact ⟨ret_i1 (badM_q (by omega) (by omega)), hb⟩
theorem badP_range (t s : Int) : 0 ≤ badP t s ∧ badP t s ≤ 10000 ∨ t < 0 := by
  by_cases h : t < 0
  · exact .inr h
  · left
    unfold badP
    split
    · omega
    split
    · omega
    split
    · omega
    have h0 : 0 ≤ badR t s := by
      unfold badR
      split
      · exact Int.ediv_nonneg (by omega) (by omega)
      split
      · exact Int.ediv_nonneg (by omega) (by omega)
      · omega
    obtain ⟨a, b, c, d⟩ := cube_le (badR t s) h0 (by omega)
    omega
theorem badM_range (x s : Int) (h : 0 ≤ x) : 0 ≤ badM x s ∧ badM x s ≤ 10000 := by
  rcases badP_range (min x 2147483647) (max (-2147483647) (min s 2147483647)) with h | h
  · exact h
  · omega
end Go.Proofs.YtiijpbfkchokaaaGreat



namespace Go.Proofs.YtiijpbfkchokaaaGreat
open Go.ChangeShapes Go.WideShapes Go.ChangeAt Go.RowKit
set_option maxHeartbeats 1000000 in
theorem vbad9 (x s : Int) (w : World) (hx : 0 ≤ x) : Calls Tryz.prog 94 #[.int .i64 x, .int .i64 s] w fun e w' => e = .returned (.int .i64 (badM x s)) ∧ Below w.heap.size w w' := by
  go_enter Tryz.func94, Tryz.ntmps94
  go_wp2_with (go_at_call 125; refine (vbadness _ _ _ (by omega) (by omega) (by omega) (by omega)).mono ?_; rintro e w1 ⟨rfl, hb⟩)
  all_goals go_ret
  all_goals exact ⟨ret_i1 (badM_v (by omega) (by omega)), hb⟩
end Go.Proofs.YtiijpbfkchokaaaGreat
namespace Go.Proofs.YtiijpbfkchokaaaGreat
open Go.ChangeShapes Go.WideShapes Go.ChangeAt Go.RowKit
def numB (x : Int) : Bool := withinB x (-2147483647) 2147483647
def firmG (g : Gl) : Bool := g.good && (g.ho == 0 || g.shr == 0)
/-- what Check tells of parameters -/
def pmC (P : Pm) (S : List Sh2) : Int :=
  if (numB P.pret && numB P.tol && numB P.linep && numB P.hyp && numB P.exhyp && numB P.adj && numB P.dbl && numB P.fin && numB P.loose && numB P.hanga && dimenB P.hsize && dimenB P.hangi && dimenB P.emerg && decide (S.length ≤ 2000) && S.all fun x => dimenB x.a && dimenB x.b) = true then
    (if (firmG P.left && firmG P.right) = true then 0 else 30) else 1
/-- what falls away at a line's beginning -/
def fallsR (k : Int) : Bool := k == 7 || k == 8 || k == 9 || k == 15 || k == 16
/-- a paragraph's error -/
def paC (L : List Nd) (s : List Nat) : Int := if checkC L = 0 then (if s.all (fun i => firmN (nth L i)) then 0 else 30) else checkC L
/-- the penalty of a break at an item: pr: the item ahead of it, nx: the one behind it -/
def priceN (L : List Nd) (P : Pm) (pr : Option Nat) (x : Nat) (nx : Option Nat) : Option Int :=
  let k := (nth L x).kind
  let skip := match nx with | none => false | some y => (nth L y).kind == 7
  if k = 7 then (match pr with | none => none | some y => if fallsR (nth L y).kind then none else some 0)
  else if k = 8 then (if (nth L x).sub = 1 ∧ skip = true then some 0 else none)
  else if k = 16 then (if skip = true then some 0 else none)
  else if k = 9 then some (nth L x).pen
  else if k = 10 then some (if (threeP L x).1 = [] then P.exhyp else P.hyp)
  else none
/-- legal breaks within a paragraph -/
def brkF (L : List Nd) (P : Pm) : Option Nat → List Nat → List (Nat × Int)
  | _, [] => []
  | pr, x :: r => match priceN L P pr x r.head? with
    | some q => if q < 10000 then (x, q) :: brkF L P (some x) r else brkF L P (some x) r
    | none => brkF L P (some x) r
/-- all legal breaks -/
def brkP (L : List Nd) (P : Pm) (s : List Nat) : List (Nat × Int) := brkF L P none s ++ [(L.length, -10000)]
/-- items but for those that fall away ahead of a place -/
def dropTo (L : List Nd) (q : Nat) : List Nat → List Nat
  | [] => []
  | x :: r => if x < q ∧ fallsR (nth L x).kind = true then dropTo L q r else x :: r
def discB (L : List Nd) (x : Nat) : Bool := decide (x < L.length) && (nth L x).kind == 10
def discO (L : List Nd) : Option Nat → Bool
  | none => false
  | some x => discB L x
/-- the items of a line that begins behind a break -/
def fromP (L : List Nd) (s : List Nat) (f : Option Nat) (q : Nat) : List Nat :=
  match f with
  | none => s
  | some x => if discB L x then (if (threeP L x).2.1 = [] then dropTo L q (s.dropWhile (· < x)).tail else (s.dropWhile (· < x)).tail) else dropTo L q (s.dropWhile (· < x))
def preN (L : List Nd) : Option Nat → Int
  | none => 0
  | some x => if discB L x then rowN (threeP L x).2.1 else 0
def sufN (L : List Nd) (q : Nat) : Int := if discB L q then rowN (threeP L q).1 else 0
/-- a line's totals -/
def lineT (L : List Nd) (P : Pm) (s : List Nat) (f : Option Nat) (q : Nat) : Tt :=
  ((((Tt.wide (preN L f)).plus (sumA L ((fromP L s f q).takeWhile (· < q)))).plus (.wide (sufN L q))).plus (glueT P.left)).plus (glueT P.right)
/-- a line's width and indent -/
def widP (P : Pm) (S : List Sh2) (line : Int) : Int × Int :=
  if S = [] then (if P.hangi = 0 ∨ (0 ≤ P.hanga ∧ line ≤ P.hanga) ∨ (P.hanga < 0 ∧ -P.hanga < line) then (P.hsize, 0) else if P.hangi < 0 then (P.hsize + P.hangi, 0) else (P.hsize - P.hangi, P.hangi))
  else ((S.getD ((min line S.length).toNat - 1) ⟨0, 0⟩).b, (S.getD ((min line S.length).toNat - 1) ⟨0, 0⟩).a)
/-- badness and class -/
def judP (T : Tt) (w : Int) : Int × Int :=
  if w - T.nat = 0 then (0, 2)
  else if 0 < w - T.nat then
    (if T.s1 ≠ 0 ∨ T.s2 ≠ 0 ∨ T.s3 ≠ 0 then (0, 2) else
      (badM (w - T.nat) T.s0, if 99 < badM (w - T.nat) T.s0 then 0 else if 12 < badM (w - T.nat) T.s0 then 1 else 2))
  else if T.h0 < -(w - T.nat) then (10001, 3)
  else (badM (-(w - T.nat)) T.h0, if 12 < badM (-(w - T.nat)) T.h0 then 3 else 2)
def demP (P : Pm) (b c q : Int) (df dt de : Bool) (before : Int) : Int :=
  (((if -9999 ≤ P.linep + b ∧ P.linep + b ≤ 9999 then (P.linep + b) * (P.linep + b) else 100000000)
    + (if 0 < q then q * q else if -10000 < q then -(q * q) else 0))
    + (if (df && dt) = true then P.dbl else 0))
    + (if (df && de) = true then P.fin else 0)
    + (if 1 < c - before ∨ 1 < before - c then P.adj else 0)
def oneB (P : Pm) (tol : Int) (T : Tt) (w q : Int) (df dt de : Bool) (to_ before : Int) : Bk :=
  let j := judP T w
  let over := if 10000 < j.1 then T.nat - w - T.h0 else 0
  if tol < j.1 ∨ 10000 < j.1 then ⟨to_, j.1, j.2, 0, over, true⟩ else ⟨to_, j.1, j.2, demP P j.1 j.2 q df dt de before, over, false⟩
def oneP (L : List Nd) (P : Pm) (S : List Sh2) (s : List Nat) (tol extra : Int) (f : Option Nat) (x : Nat × Int) (line before : Int) : Bk :=
  oneB P tol ((lineT L P s f x.1).plus ⟨0, extra, 0, 0, 0, 0, 0, 0, 0⟩) (widP P S line).1 x.2 (discO L f) (discB L x.1) (x.1 == L.length) x.1 before
/-- a way: its breaks, the class of its last line, how much too wide, how many bad lines, all demerits -/
structure Wy where
  ats : List Nat
  cls : Int
  over : Int
  bad : Int
  total : Int
deriving DecidableEq, Inhabited
def Wy.start : Wy := ⟨[], 2, 0, 0, 0⟩
def Wy.ext (a : Wy) (x : Nat) (b : Bk) : Wy := ⟨a.ats ++ [x], b.cls, a.over + b.over, a.bad + (if b.isBad then 1 else 0), a.total + b.dem⟩
def lexB : List Nat → List Nat → Bool
  | [], [] => false
  | [], _ :: _ => true
  | _ :: _, [] => false
  | x :: r, y :: t => if x = y then lexB r t else decide (x < y)
def betB (a b : Wy) : Bool :=
  if a.over = b.over then (if a.bad = b.bad then (if a.total = b.total then lexB a.ats.reverse b.ats.reverse else decide (a.total < b.total)) else decide (a.bad < b.bad)) else decide (a.over < b.over)
/-- a way to those that end at one break -/
def addW : List Wy → Wy → List Wy
  | [], w => [w]
  | y :: r, w => if y.ats.length = w.ats.length ∧ y.cls = w.cls then (if betB w y then w else y) :: r else y :: addW r w
/-- the breaks from which a line may come -/
def preds (pen : Nat → Int) : Nat → List (Option Nat)
  | 0 => [none]
  | j + 1 => some j :: (if pen j ≤ -10000 then [] else preds pen j)
def penA (B : List (Nat × Int)) (j : Nat) : Int := (B.getD j (0, 0)).2
def atA (B : List (Nat × Int)) : Option Nat → Option Nat
  | none => none
  | some j => some (B.getD j (0, 0)).1
def aheadW (E : List (List Wy)) : Option Nat → List Wy
  | none => [Wy.start]
  | some j => E.getD j []
def extW (one : Option Nat → Nat × Int → Int → Int → Bk) (all : Bool) (f : Option Nat) (x : Nat × Int) (acc : List Wy) (a : Wy) : List Wy :=
  if ((one f x (a.ats.length + 1) a.cls).isBad && !all) = true then acc else addW acc (a.ext x.1 (one f x (a.ats.length + 1) a.cls))
def endW (one : Option Nat → Nat × Int → Int → Int → Bk) (all : Bool) (B : List (Nat × Int)) (E : List (List Wy)) (i : Nat) : List Wy :=
  (preds (penA B) i).foldl (fun acc j => (aheadW E j).foldl (extW one all (atA B j) (B.getD i (0, 0))) acc) []
def endsW (one : Option Nat → Nat × Int → Int → Int → Bk) (all : Bool) (B : List (Nat × Int)) : Nat → List (List Wy)
  | 0 => []
  | n + 1 => endsW one all B n ++ [endW one all B (endsW one all B n) n]
/-- the best ways to the end -/
def waysW (one : Option Nat → Nat × Int → Int → Int → Bk) (all : Bool) (B : List (Nat × Int)) : List Wy := (endsW one all B B.length).getD (B.length - 1) []
/-- the best way of so many lines -/
def pickW (n : Int) : List Wy → Option Wy → Option Wy
  | [], o => o
  | w :: r, o => pickW n r (if (n = 0 ∨ (w.ats.length : Int) = n) ∧ (match o with | none => true | some y => betB w y) = true then some w else o)
def looseW (P : Int) (y : Wy) : List Wy → Int → Int
  | [], l => l
  | w :: r, l =>
    let d : Int := (w.ats.length : Int) - y.ats.length
    looseW P y r (if w.over = y.over ∧ w.bad = y.bad ∧ ((l < d ∧ d ≤ P) ∨ (d < l ∧ P ≤ d)) then d else l)
/-- the lines of chosen breaks, as the document has them -/
def linesW (one : Option Nat → Nat × Int → Int → Int → Bk) : List (Nat × Int) → List Int → Option Nat → Int → Int → List Bk
  | [], _, _, _, _ => []
  | x :: r, c, f, line, before =>
    if c.contains (x.1 : Int) then (one f x line before) :: linesW one r c (some x.1) (line + 1) (one f x line before).cls else linesW one r c f line before
/-- the lines of chosen breaks, as the program has them -/
def lnsW (one : Option Nat → Nat × Int → Int → Int → Bk) : List (Nat × Int) → List Int → Option Nat → Int → Int → Option (List Bk)
  | [], c, _, _, _ => if c.isEmpty then some [] else none
  | x :: r, [], f, line, before => if x.2 ≤ -10000 then none else lnsW one r [] f line before
  | x :: r, y :: t, f, line, before =>
    if y = (x.1 : Int) then (lnsW one r t (some x.1) (line + 1) (one f x line before).cls).map (one f x line before :: ·)
    else if x.2 ≤ -10000 then none else lnsW one r (y :: t) f line before
/-- may a list of places be all breaks? -/
def takesW : List (Nat × Int) → List Int → Bool
  | [], c => c.isEmpty
  | x :: r, [] => if x.2 ≤ -10000 then false else takesW r []
  | x :: r, y :: t => if y = (x.1 : Int) then takesW r t else if x.2 ≤ -10000 then false else takesW r (y :: t)
end Go.Proofs.YtiijpbfkchokaaaGreat
namespace Go.Proofs.YtiijpbfkchokaaaGreat
open Go.ChangeShapes Go.WideShapes Go.ChangeAt Go.RowKit
theorem takesW_sub : ∀ (B : List (Nat × Int)) (c : List Int), takesW B c = true → c.Sublist (B.map fun x => (x.1 : Int))
  | [], c, h => by
    cases c with
    | nil => exact .slnil
    | cons y t => simp [takesW] at h
  | x :: r, [], _ => List.nil_sublist _
  | x :: r, y :: t, h => by
    unfold takesW at h
    split at h
    · rename_i e
      rw [List.map_cons, e]
      exact (takesW_sub r t h).cons_cons _
    · split at h
      · cases h
      · exact (takesW_sub r (y :: t) h).cons _
theorem lns_eq (one : Option Nat → Nat × Int → Int → Int → Bk) : ∀ (B : List (Nat × Int)) (pre c : List Int) (f : Option Nat) (line before : Int), (B.map (·.1)).Pairwise (· < ·) → (∀ z ∈ pre, ∀ x ∈ B, z < (x.1 : Int)) →
    lnsW one B c f line before = if takesW B c = true then some (linesW one B (pre ++ c) f line before) else none
  | [], pre, c, f, line, before, _, _ => by
    cases c <;> simp [lnsW, takesW, linesW]
  | x :: r, pre, [], f, line, before, hp, hz => by
    rw [List.map_cons, List.pairwise_cons] at hp
    unfold lnsW takesW
    by_cases hf : x.2 ≤ -10000
    · simp [hf]
    · rw [if_neg hf, if_neg hf, lns_eq one r pre [] f line before hp.2 (fun z hz1 y hy => hz z hz1 y (List.mem_cons_of_mem _ hy))]
      have hnc : (pre ++ []).contains (x.1 : Int) = false := by
        rw [List.append_nil, List.contains_eq_mem, decide_eq_false_iff_not]
        intro h
        have := hz _ h x List.mem_cons_self
        omega
      rw [linesW, hnc]
      rfl
  | x :: r, pre, y :: t, f, line, before, hp, hz => by
    rw [List.map_cons, List.pairwise_cons] at hp
    unfold lnsW takesW
    by_cases hy : y = (x.1 : Int)
    · rw [if_pos hy, if_pos hy, lns_eq one r (pre ++ [y]) t (some x.1) (line + 1) _ hp.2 (fun z hz1 q hq => by
        rcases List.mem_append.1 hz1 with h | h
        · exact hz z h q (List.mem_cons_of_mem _ hq)
        · rw [List.mem_singleton] at h
          subst h
          have := hp.1 q.1 (List.mem_map_of_mem hq)
          omega)]
      have hc : (pre ++ y :: t).contains (x.1 : Int) = true := by rw [List.contains_eq_mem]; simp [hy]
      rw [linesW, hc, List.append_assoc, List.singleton_append]
      by_cases ht : takesW r t = true
      · simp [ht]
      · simp [ht]
    · rw [if_neg hy, if_neg hy]
      by_cases hf : x.2 ≤ -10000
      · simp [hf]
      · rw [if_neg hf, if_neg hf, lns_eq one r pre (y :: t) f line before hp.2 (fun z hz1 q hq => hz z hz1 q (List.mem_cons_of_mem _ hq))]
        by_cases ht : takesW r (y :: t) = true
        · rw [if_pos ht, if_pos ht]
          have hsub := takesW_sub r (y :: t) ht
          have hnc : (pre ++ y :: t).contains (x.1 : Int) = false := by
            rw [List.contains_eq_mem, decide_eq_false_iff_not]
            intro h
            rcases List.mem_append.1 h with h | h
            · have := hz _ h x List.mem_cons_self; omega
            · obtain ⟨q, hq, e⟩ := List.mem_map.1 (hsub.subset h)
              have := hp.1 q.1 (List.mem_map_of_mem hq)
              omega
          rw [linesW, hnc]
          rfl
        · rw [if_neg ht, if_neg ht]
end Go.Proofs.YtiijpbfkchokaaaGreat
namespace Go.Proofs.YtiijpbfkchokaaaGreat
open Go.ChangeShapes Go.WideShapes Go.ChangeAt Go.RowKit
attribute [local go_sem ↓] Go.wp_at_zero Go.wp_at_succ
set_option maxRecDepth 100000 in
set_option maxHeartbeats 4000000 in
theorem end9 (p0 : Option Addr) (b off cap : Nat) (L : List Nd) (at_ m : Nat) (w : World) (h : NIn w p0 b off cap L) (hm : behC (L.drop at_) 0 = some m) :
    Calls Tryz.prog 124 #[.slice p0 L.length cap, .int .i64 at_] w fun e w' => e = .returned (.int .i64 ((at_ + m : Nat) : Int)) ∧ Below w.heap.size w w' := by
  have H := Lib.hid h
  have hl := h.len
  have Hm := Lib.hid hm
  clear h hm
  go_enter Tryz.func124, Tryz.ntmps124
  go_wp2
  apply wp_scope_straight
  go_wp2
  apply wp_label
  go_wp2
  go_loopg [1, 5] (L.length + 1 - at_) (fun g t1 t5 wr => ∃ (j k : Nat) (n : Int), g = L.length + 1 - j ∧ t1 = .int .i64 j ∧ t5 = .int .i64 n ∧ behC (L.drop j) n = some k ∧ j + k = at_ + m ∧ (-(j : Int) ≤ n ∧ n ≤ j) ∧ Below w.heap.size w wr)
  case atStart => exact ⟨at_, m, 0, rfl, rfl, rfl, Hm.out, rfl, by omega, .refl _ _⟩
  case round =>
    clear Hm
    obtain ⟨j, k, n, rfl, rfl, rfl, hk, hjk, hn, hbl⟩ := hrel
    have hlt : j < L.length := by have := behC_pos _ _ _ hk; simp at this; omega
    have hN := H.out.below hbl
    have xa := hN.nd j hlt
    obtain rfl := hN.at_ hlt
    have hj1 : (0 : Int) ≤ (j : Int) := by omega
    have hj2 : (j : Int) < (L.length : Int) := by omega
    obtain ⟨hn1, hn2⟩ := hn
    have HB := Lib.hid (behC_at hlt hk)
    have Hjk := Lib.hid hjk
    have Hl := Lib.hid hlt
    have HO : Hid (Calls Tryz.prog 83 #[.agg L[j].arr] wr fun e w' => e = .returned (.bool (opensK L[j].kind)) ∧ Below wr.heap.size wr w') := Lib.hid (opens_any L[j] wr)
    have HX : Hid (∀ w', Below wr.heap.size wr w' → w'.cell? ⟨b, off + j * 19, none⟩ = some (.int .i64 L[j].kind)) := Lib.hid fun w' hb => agg_cell ((hN.below hb).nd j hlt) 0 _ rfl
    generalize L[j] = x at xa HO HX HB
    clear hk hjk hlt hN
    cases ho : opensK x.kind
    · rw [ho] at HO
      have Ho := Lib.hid ho
      clear ho
      cases h6 : (x.kind == 6)
      · have hb : behN x.kind n = n := by unfold behN; rw [Ho.out, if_neg (by simp), if_neg (by simpa using h6)]
        have HB := HB.out
        rw [hb] at HB
        clear hb Ho
        rcases HB with ⟨hz, hk1⟩ | ⟨hz, k1, hk1, hk2⟩
        · subst hz
          go_wp2_with (go_at_call 83; refine HO.out.mono ?_; rintro e w2 ⟨rfl, hb2⟩; (have x2 := HX.out _ hb2))
          rw [Exit.noGoto_ret]
          go_ret
          exact ⟨ret_int (by have := Hjk.out; omega), hbl.trans (hb2.mono hbl.size)⟩
        · have Hk2 := Lib.hid hk2
          have hz' : (n == 0) = false := by simpa using hz
          clear hk2 hz
          go_wp2_with (go_at_call 83; refine HO.out.mono ?_; rintro e w2 ⟨rfl, hb2⟩; (have x2 := HX.out _ hb2))
          go_roundg (L.length + 1 - (j + 1))
          case measure => have := Hl.out; omega
          case rel => exact ⟨j + 1, k1, n, rfl, by go_num, rfl, Hk2.out, by have := Hjk.out; omega, by omega, hbl.trans (hb2.mono hbl.size)⟩
      · have hb : behN x.kind n = n - 1 := by unfold behN; rw [Ho.out, if_neg (by simp), if_pos (by simpa using h6)]
        have HB := HB.out
        rw [hb] at HB
        clear hb Ho
        rcases HB with ⟨hz, hk1⟩ | ⟨hz, k1, hk1, hk2⟩
        · have hz' : ((n - 1 : Int) == 0) = true := by simpa using hz
          clear hz
          go_wp2_with (go_at_call 83; refine HO.out.mono ?_; rintro e w2 ⟨rfl, hb2⟩; (have x2 := HX.out _ hb2))
          rw [Exit.noGoto_ret]
          go_ret
          exact ⟨ret_int (by have := Hjk.out; omega), hbl.trans (hb2.mono hbl.size)⟩
        · have Hk2 := Lib.hid hk2
          have hz' : ((n - 1 : Int) == 0) = false := by simpa using hz
          clear hk2 hz
          go_wp2_with (go_at_call 83; refine HO.out.mono ?_; rintro e w2 ⟨rfl, hb2⟩; (have x2 := HX.out _ hb2))
          go_roundg (L.length + 1 - (j + 1))
          case measure => have := Hl.out; omega
          case rel => exact ⟨j + 1, k1, n - 1, rfl, by go_num, rfl, Hk2.out, by have := Hjk.out; omega, by omega, hbl.trans (hb2.mono hbl.size)⟩
    · rw [ho] at HO
      have hb : behN x.kind n = n + 1 := by unfold behN; rw [ho, if_pos rfl]
      have HB := HB.out
      rw [hb] at HB
      clear hb ho
      rcases HB with ⟨hz, hk1⟩ | ⟨hz, k1, hk1, hk2⟩
      · have hz' : ((n + 1 : Int) == 0) = true := by simpa using hz
        clear hz
        go_wp2_with (go_at_call 83; refine HO.out.mono ?_; rintro e w2 ⟨rfl, hb2⟩)
        rw [Exit.noGoto_ret]
        go_ret
        exact ⟨ret_int (by have := Hjk.out; omega), hbl.trans (hb2.mono hbl.size)⟩
      · have Hk2 := Lib.hid hk2
        have hz' : ((n + 1 : Int) == 0) = false := by simpa using hz
        clear hk2 hz
        go_wp2_with (go_at_call 83; refine HO.out.mono ?_; rintro e w2 ⟨rfl, hb2⟩)
        go_roundg (L.length + 1 - (j + 1))
        case measure => have := Hl.out; omega
        case rel => exact ⟨j + 1, k1, n + 1, rfl, by go_num, rfl, Hk2.out, by have := Hjk.out; omega, by omega, hbl.trans (hb2.mono hbl.size)⟩
set_option maxRecDepth 100000 in
set_option maxHeartbeats 1000000 in
theorem begins_any (p0 : Option Addr) (b off cap : Nat) (L : List Nd) (x : Nat) (hx : x < L.length) (h6 : (nth L x).kind ≠ 6) (h11 : (nth L x).kind ≠ 11) (w : World) (h : NIn w p0 b off cap L) :
    Calls Tryz.prog 90 #[.slice p0 L.length cap, .int .i64 x] w fun e w' => e = .returned (.bool true) ∧ w = w' := by
  have c0 : w.cell? ⟨b, off + x * 19, none⟩ = some (.int .i64 (nth L x).kind) := agg_cell (h.nth hx) 0 _ rfl
  obtain rfl := h.at_ hx
  have hx1 : (0 : Int) ≤ (x : Int) := by omega
  have hx2 : (x : Int) < (L.length : Int) := by omega
  have k6 : ((nth L x).kind != 6) = true := by simpa using h6
  have k11 : ((nth L x).kind != 11) = true := by simpa using h11
  clear h6 h11 h
  go_enter Tryz.func90, Tryz.ntmps90
  go_wp2_with fail
  go_ret
  exact ⟨rfl, rfl⟩
end Go.Proofs.YtiijpbfkchokaaaGreat
namespace Go.Proofs.YtiijpbfkchokaaaGreat
open Go.RowKit
theorem runC_app : ∀ (A B : List Nd) (st : List Int) (d : Int), runC (A ++ B) st d = (runC A st d).bind fun s => runC B s.1 s.2
  | [], B, st, d => rfl
  | x :: A, B, st, d => by
    rw [List.cons_append]
    simp only [runC]
    split
    · cases stepC x.kind st d with
      | none => rfl
      | some s => exact runC_app A B s.1 s.2
    · rfl
theorem runC_len : ∀ (A B : List Nd) (st st2 : List Int) (d d2 : Int), runC A st d = some (st2, d2) → behC (A ++ B) st.length = some A.length → st2 = []
  | [], B, st, st2, d, d2, _, hb => by
    have := behC_pos _ _ _ hb
    simp at this
  | x :: A, B, st, st2, d, d2, h, hb => by
    unfold runC at h
    split at h
    · obtain ⟨⟨st', d1⟩, h1, h2⟩ := Option.bind_eq_some_iff.1 h
      obtain ⟨hl, _⟩ := stepC_len h1
      simp only at h2
      rw [List.cons_append] at hb
      unfold behC at hb
      rw [← hl] at hb
      split at hb
      · rename_i h0
        have hA : A = [] := by
          simp only [List.length_cons, Option.some.injEq] at hb
          exact List.length_eq_zero_iff.1 (by omega)
        subst hA
        simp only [runC, Option.some.injEq, Prod.mk.injEq] at h2
        rw [← h2.1]
        exact List.length_eq_zero_iff.1 (by omega)
      · obtain ⟨k, hk, e⟩ := Option.map_eq_some_iff.1 hb
        have : k = A.length := by simp only [List.length_cons] at e; omega
        subst this
        exact runC_len A B st' st2 d1 d2 h2 hk
    · cases h
theorem stepC_dd {k : Int} {st st' : List Int} {d d' : Int} (d0 : Int) (h : stepC k st d = some (st', d')) : d ≤ d' ∧ ∃ e, e ≤ max d' d0 ∧ stepC k st d0 = some (st', e) := by
  unfold stepC at h ⊢
  split at h
  · rename_i h1
    rw [if_pos h1]
    split at h
    · cases h
    · split at h
      · cases h
      · rename_i h2
        cases h
        exact ⟨Int.le_refl _, d0, by omega, by simp only [if_neg h2]⟩
  · rename_i h1
    rw [if_neg h1]
    split at h
    · rename_i h3
      rw [if_pos h3]
      split at h
      · cases h
      · split at h
        · cases h
        · rename_i h2
          cases h
          exact ⟨Int.le_refl _, d0, by omega, by simp only [if_neg h2]⟩
    · rename_i h3
      rw [if_neg h3]
      cases hgl : st.getLast? with
      | none =>
        simp only [hgl, Bool.false_eq_true, if_false] at h ⊢
        cases h
        exact ⟨by omega, max d0 (st.length + 1), by omega, rfl⟩
      | some x =>
        simp only [hgl] at h ⊢
        by_cases hb : (decide (0 ≤ x) && !smallK k) = true
        · rw [if_pos hb] at h; cases h
        · rw [if_neg hb] at h ⊢
          cases h
          exact ⟨by omega, max d0 (st.length + 1), by omega, rfl⟩
theorem runC_dd : ∀ (l : List Nd) (st st' : List Int) (d d' d0 : Int), runC l st d = some (st', d') → d ≤ d' ∧ ∃ e, e ≤ max d' d0 ∧ runC l st d0 = some (st', e)
  | [], st, st', d, d', d0, h => by
    unfold runC at h ⊢
    cases h
    exact ⟨Int.le_refl _, d0, by omega, rfl⟩
  | n :: l, st, st', d, d', d0, h => by
    unfold runC at h ⊢
    split at h
    · rename_i hr
      rw [if_pos hr]
      obtain ⟨⟨s1, d1⟩, h1, h2⟩ := Option.bind_eq_some_iff.1 h
      obtain ⟨h3, e1, he1, hs1⟩ := stepC_dd d0 h1
      obtain ⟨h4, e2, he2, hs2⟩ := runC_dd l s1 st' d1 d' e1 h2
      exact ⟨by omega, e2, by omega, by rw [hs1]; exact hs2⟩
    · cases h
/-- an item of a good list is a good list -/
theorem item_check {L : List Nd} {s : List Nat} (hc : checkC L = 0) (hs : Items L 0 s) {x m : Nat} (hx : x ∈ s) (hm : behC (L.drop x) 0 = some m) : checkC (sl L x m) = 0 := by
  obtain ⟨hl, d, hd, hr⟩ := checkC_zero hc
  obtain ⟨d1, h1⟩ := items_run2 hs (by rw [List.drop_zero]; exact hr) x hx
  have hp := behC_pos _ _ _ hm
  rw [List.length_drop] at hp
  have hml := sl_len (L := L) (i := x) (m := m) (by omega)
  have e : L.drop x = sl L x m ++ (L.drop x).drop m := (List.take_append_drop m (L.drop x)).symm
  rw [e, runC_app] at h1
  obtain ⟨⟨st, d2⟩, h2, h3⟩ := Option.bind_eq_some_iff.1 h1
  have hst : st = [] := runC_len (sl L x m) ((L.drop x).drop m) [] st d1 d2 h2 (by rw [← e, hml]; exact hm)
  subst hst
  obtain ⟨h4, _⟩ := runC_dd _ _ _ _ _ 0 h3
  obtain ⟨_, q, hq, h5⟩ := runC_dd _ _ _ _ _ 0 h2
  unfold checkC
  rw [if_neg (by omega), h5]
  simp only [codeC]
  rw [if_neg (by simp), if_neg (by omega)]
theorem els_sl {L : List Nd} {e i x m : Nat} {u : List (Nat × Nat)} (h : Els L e i u) (hx : x ≤ i) (he : e ≤ x + m) : Els (sl L x m) (e - x) (i - x) (u.map fun p => (p.1 - x, p.2)) := by
  induction h with
  | done => exact .done
  | sep hi hk hs ih =>
    rename_i i u
    refine .sep (by omega) (by rw [nth_sl (by omega), show x + (i - x) = i by omega]; exact hk) ?_
    have := ih (by omega)
    rwa [show i + 1 - x = i - x + 1 by omega] at this
  | item hi hk hm hs ih =>
    rename_i i m' u
    have hle := hs.le
    have hp := behC_pos _ _ _ hm
    refine .item (by omega) (by rw [nth_sl (by omega), show x + (i - x) = i by omega]; exact hk) (m := m') ?_ ?_
    · have e1 : (sl L x m).drop (i - x) = (L.drop i).take (m - (i - x)) := by
        unfold sl
        rw [List.drop_take, List.drop_drop, show x + (i - x) = i by omega]
      rw [e1]
      have h1 := behC_take0 _ _ _ hm
      have e2 : (L.drop i).take (m - (i - x)) = (L.drop i).take m' ++ ((L.drop i).drop m').take (m - (i - x) - m') := by
        rw [← List.take_add]; congr 1; omega
      rw [e2]
      exact behC_app _ _ _ _ h1
    · have := ih (by omega)
      rwa [show i + m' - x = i - x + m' by omega] at this
theorem thrF_sl {L : List Nd} {e i x m : Nat} {u : List (Nat × Nat)} (h : Els L e i u) (hx : x ≤ i) (he : e ≤ x + m) : ∀ (k : Nat) (t : Three), thrF (sl L x m) (u.map fun p => (p.1 - x, p.2)) k t = thrF L u k t := by
  induction h with
  | done => intro k t; rfl
  | sep hi hk hs ih =>
    rename_i i u
    intro k t
    rw [List.map_cons, thrF, thrF, if_pos hk]
    have hk2 : (nth (sl L x m) (i - x)).kind = 11 := by rw [nth_sl (by omega), show x + (i - x) = i by omega]; exact hk
    simp only [hk2, if_true]
    exact ih (by omega) (k + 1) t
  | item hi hk hm hs ih =>
    rename_i i m' u
    intro k t
    have hle := hs.le
    rw [List.map_cons, thrF, thrF, if_neg (small_not hk).1]
    have hk2 : (nth (sl L x m) (i - x)).kind ≠ 11 := by rw [nth_sl (by omega), show x + (i - x) = i by omega]; exact (small_not hk).1
    simp only [hk2, if_false]
    have e1 : sl (sl L x m) (i - x) m' = sl L i m' := by
      unfold sl
      rw [List.drop_take, List.drop_drop, show x + (i - x) = i by omega, List.take_take, Nat.min_eq_left (by omega)]
    rw [e1]
    exact ih (by omega) k _
/-- a Disc's lists, from its own nodes -/
theorem three_sl {L : List Nd} {x m : Nat} {u : List (Nat × Nat)} (h : DiscAt L x m u) : threeP (sl L x m) 0 = threeP L x := by
  have h2 := h.two
  have hl := h.lt
  have hml := sl_len (L := L) (i := x) (m := m) hl
  have h1 := els_sl (x := x) (m := m) h.els (by omega) (by omega)
  have he : (nth (sl L x m) (x + m - 1 - x)).kind = 6 := by rw [nth_sl (by omega), show x + (x + m - 1 - x) = x + m - 1 by omega]; exact h.end_
  rw [h.eq]
  unfold threeP
  rw [show x + 1 - x = 0 + 1 by omega] at h1
  rw [elsF_eq h1 he _ (by omega), thrF_sl h.els (by omega) (by omega)]
theorem itT_sl {L : List Nd} {s : List Nat} (hc : checkC L = 0) (hs : Items L 0 s) {x m : Nat} (hx : x ∈ s) (hm : behC (L.drop x) 0 = some m) : itT (sl L x m) 0 = itT L x := by
  have hp := behC_pos _ _ _ hm
  have e : nth (sl L x m) 0 = nth L x := by rw [nth_sl (by omega), Nat.add_zero]
  unfold itT itN
  rw [e]
  split
  · rfl
  · split
    · rename_i hk
      obtain ⟨m', u, hd⟩ := disc_at hc hs hx (by simpa using hk)
      have := hd.beh
      rw [hm] at this
      cases this
      rw [three_sl hd]
    · rfl
end Go.Proofs.YtiijpbfkchokaaaGreat
