/-
  What stands ahead of a place in a column, item by item (plain).
-/
import Derived.Test.YtiijpbfkchokaaaGreatW2
import Derived.Test.YtiijpbfkchokaaaGreatVBs
import Derived.Test.YtiijpbfkchokaaaGreatW0
import Derived.Test.YtiijpbfkchokaaaGreatL5
import Derived.RegionTactic
namespace Go.Proofs.YtiijpbfkchokaaaGreat
open Go.ChangeShapes Go.WideShapes Go.ChangeAt Go.RowKit
def Tt.st (t : Tt) : Nat → Int
  | 0 => t.s0 | 1 => t.s1 | 2 => t.s2 | _ => t.s3
def Tt.sh (t : Tt) : Nat → Int
  | 0 => t.h0 | 1 => t.h1 | 2 => t.h2 | _ => t.h3
def Tt.setS (t : Tt) (j : Nat) (x : Int) : Tt := match j with
  | 0 => { t with s0 := x } | 1 => { t with s1 := x } | 2 => { t with s2 := x } | _ => { t with s3 := x }
def Tt.setH (t : Tt) (j : Nat) (x : Int) : Tt := match j with
  | 0 => { t with h0 := x } | 1 => { t with h1 := x } | 2 => { t with h2 := x } | _ => { t with h3 := x }
def Tt.glue (t : Tt) (g : Gl) : Tt :=
  let t1 := t.setS g.so.toNat (t.st g.so.toNat + g.str)
  t1.setH g.ho.toNat (t1.sh g.ho.toNat + g.shr)
structure NdB (n : Nd) : Prop where
  solid : solidK n.kind = true → (-1073741823 ≤ n.h ∧ n.h ≤ 1073741823) ∧ -1073741823 ≤ n.d ∧ n.d ≤ 1073741823
  kern : n.kind = 8 → -1073741823 ≤ n.w ∧ n.w ≤ 1073741823
  nat : n.kind = 7 → -1073741823 ≤ n.glue.nat ∧ n.glue.nat ≤ 1073741823
  str : n.kind = 7 → -1073741823 ≤ n.glue.str ∧ n.glue.str ≤ 1073741823
  shr : n.kind = 7 → -1073741823 ≤ n.glue.shr ∧ n.glue.shr ≤ 1073741823
  so : n.kind = 7 → 0 ≤ n.glue.so ∧ n.glue.so ≤ 3
  ho : n.kind = 7 → 0 ≤ n.glue.ho ∧ n.glue.ho ≤ 3
theorem good_at {n : Nd} {k : Nat} (h : rightB n = true) (hk : n.kind = (k : Int)) : goodN k n = true := by
  unfold rightB at h
  simp only [Bool.and_eq_true] at h
  have := h.1.2
  rwa [hk, Int.toNat_natCast] at this
theorem nb_of {n : Nd} (h : rightB n = true) : NdB n := by
  have g7 : n.kind = 7 → n.glue.good = true := fun hk => by
    have := good_at (k := 7) h hk
    simp [goodN, skipB] at this
    exact this.1
  refine ⟨fun hk => ?_, fun hk => ?_, fun hk => ?_, fun hk => ?_, fun hk => ?_, fun hk => ?_, fun hk => ?_⟩
  · have hk' : n.kind = 4 ∨ n.kind = 5 ∨ n.kind = 3 := by simp [solidK] at hk; omega
    rcases hk' with e | e | e
    · have := good_at (k := 4) h e
      simp [goodN, boxB, dims4, dimenB] at this; omega
    · have := good_at (k := 5) h e
      simp [goodN, boxB, dims4, dimenB] at this; omega
    · have := good_at (k := 3) h e
      simp [goodN, ruleB, dims3, dimenB] at this; omega
  · have := good_at (k := 8) h hk
    simp [goodN, kernB, dims1, dimenB] at this; omega
  all_goals
    have := g7 hk
    simp [Gl.good, dimenB, withinB] at this
    omega
theorem st_setS (t : Tt) (j i : Nat) (x : Int) : (t.setS j x).st i = if min i 3 = min j 3 then x else t.st i := by
  match j, i with
  | 0, 0 | 0, 1 | 0, 2 | 1, 0 | 1, 1 | 1, 2 | 2, 0 | 2, 1 | 2, 2 => rfl
  | 0, i + 3 | 1, i + 3 | 2, i + 3 => rw [if_neg (by omega)]; rfl
  | j + 3, 0 | j + 3, 1 | j + 3, 2 => rw [if_neg (by omega)]; rfl
  | j + 3, i + 3 => rw [if_pos (by omega)]; rfl
theorem sh_setH (t : Tt) (j i : Nat) (x : Int) : (t.setH j x).sh i = if min i 3 = min j 3 then x else t.sh i := by
  match j, i with
  | 0, 0 | 0, 1 | 0, 2 | 1, 0 | 1, 1 | 1, 2 | 2, 0 | 2, 1 | 2, 2 => rfl
  | 0, i + 3 | 1, i + 3 | 2, i + 3 => rw [if_neg (by omega)]; rfl
  | j + 3, 0 | j + 3, 1 | j + 3, 2 => rw [if_neg (by omega)]; rfl
  | j + 3, i + 3 => rw [if_pos (by omega)]; rfl
theorem sh_setS (t : Tt) (j i : Nat) (x : Int) : (t.setS j x).sh i = t.sh i := by
  match j with
  | 0 | 1 | 2 | _ + 3 => match i with | 0 | 1 | 2 | _ + 3 => rfl
theorem st_setH (t : Tt) (j i : Nat) (x : Int) : (t.setH j x).st i = t.st i := by
  match j with
  | 0 | 1 | 2 | _ + 3 => match i with | 0 | 1 | 2 | _ + 3 => rfl
theorem nat_setS (t : Tt) (j : Nat) (x : Int) : (t.setS j x).nat = t.nat := by
  match j with
  | 0 | 1 | 2 | _ + 3 => rfl
theorem nat_setH (t : Tt) (j : Nat) (x : Int) : (t.setH j x).nat = t.nat := by
  match j with
  | 0 | 1 | 2 | _ + 3 => rfl
def TAt (W : World) (b : Nat) (T : Tt) : Prop := W.heap[b]? = some (.cells T.arr 62 (0, 0))
theorem TAt.lt {W : World} {b : Nat} {T : Tt} (h : TAt W b T) : b < W.heap.size := (Array.getElem?_eq_some_iff.1 h).1
theorem TAt.agg {W : World} {b : Nat} {T : Tt} (h : TAt W b T) : agg? W b 0 9 = some T.arr := by rw [agg?_blk' h 0 9 (by simp [Tt.size_arr])]; simp [Tt.arr, Tt.cells]
theorem TAt.there {W : World} {b : Nat} {T : Tt} (h : TAt W b T) : there? W b 0 9 = true := there_blk h 0 9 (by simp [Tt.size_arr])
theorem TAt.store {W : World} {b : Nat} {T U : Tt} (h : TAt W b T) : TAt (setAgg W b 0 U.arr) b U := by
  have := heap_setCells_same b _ (0, 0) U.arr.toList 0 T.arr W h
  rw [show U.arr.toList = U.cells from rfl, setMany_Tt] at this
  exact this
theorem TAt.other {W : World} {b c : Nat} {T U : Tt} (h : TAt W b T) (hne : b ≠ c) : TAt (setAgg W c 0 U.arr) b T := (heap_setCells_other c b hne _ _ _).trans h
def itemsF (L : List Nd) : Nat → Nat → List Nat
  | 0, _ => []
  | n + 1, i => if i < L.length then (match behC (L.drop i) 0 with | none => [] | some m => i :: itemsF L n (i + m)) else []
theorem itemsF_eq {L : List Nd} {i : Nat} {s : List Nat} (h : Items L i s) : ∀ n, L.length - i ≤ n → itemsF L n i = s := by
  induction h with
  | done =>
    intro n _
    cases n with
    | zero => rfl
    | succ n => rw [itemsF, if_neg (by omega)]
  | step hi hm hs ih =>
    intro n hn
    have hp := behC_pos _ _ _ hm
    obtain ⟨n, rfl⟩ : ∃ k, n = k + 1 := ⟨n - 1, by omega⟩
    rw [itemsF, if_pos hi, hm]
    simp only
    rw [ih n (by omega)]
def itsP (L : List Nd) : List Nat := itemsF L L.length 0
theorem itsP_eq {L : List Nd} {s : List Nat} (h : Items L 0 s) : itsP L = s := itemsF_eq h _ (by omega)
theorem PartOK.its {L X : List Nd} (h : PartOK L X) : Items X 0 (itsP X) ∧ ∀ x ∈ itsP X, smallK (nth X x).kind = true := by
  obtain ⟨s, hs, hk⟩ := h.items
  rw [itsP_eq hs]
  exact ⟨hs, hk⟩
def acrossK (k : Int) : Bool := k == 1 || k == 2 || k == 3 || k == 4 || k == 5 || k == 8 || k == 15 || k == 16
def acN (n : Nd) : Int := if acrossK n.kind then n.w else if n.kind == 7 then n.glue.nat else 0
theorem small_across {k : Int} (h : smallK k = true) : acrossK k = true := by
  unfold smallK at h
  unfold acrossK
  simp only [Bool.or_eq_true, beq_iff_eq] at h ⊢
  omega
theorem ac_bound {n : Nd} (h : rightB n = true) : -1073741823 ≤ acN n ∧ acN n ≤ 1073741823 := by
  unfold acN
  split
  · rename_i hk
    unfold acrossK at hk
    simp only [Bool.or_eq_true, beq_iff_eq] at hk
    rcases hk with ((((((e | e) | e) | e) | e) | e) | e) | e
    · have := good_at (k := 1) h e
      simp [goodN, glyphB, dims3, dimenB] at this; omega
    · have := good_at (k := 2) h e
      simp [goodN, ligB, glyphB, dims3, dimenB] at this; omega
    · have := good_at (k := 3) h e
      simp [goodN, ruleB, dims3, dimenB] at this; omega
    · have := good_at (k := 4) h e
      simp [goodN, boxB, dims4, dimenB] at this; omega
    · have := good_at (k := 5) h e
      simp [goodN, boxB, dims4, dimenB] at this; omega
    · have := good_at (k := 8) h e
      simp [goodN, kernB, dims1, dimenB] at this; omega
    · have := good_at (k := 15) h e
      simp [goodN, dims1, dimenB] at this; omega
    · have := good_at (k := 16) h e
      simp [goodN, dims1, dimenB] at this; omega
  · split
    · rename_i hk
      exact (nb_of h).nat (by simpa using hk)
    · omega
def rowN (X : List Nd) : Int := ((itsP X).map fun x => acN (nth X x)).foldl (· + ·) 0
theorem foldl_add (l : List Int) : ∀ a : Int, l.foldl (· + ·) a = a + l.foldl (· + ·) 0 := by
  induction l with
  | nil => intro a; simp
  | cons x r ih => intro a; rw [List.foldl_cons, List.foldl_cons, ih (a + x), ih (0 + x)]; omega
theorem foldl_bound {l : List Int} {K : Int} (h : ∀ x ∈ l, -K ≤ x ∧ x ≤ K) : -(K * l.length) ≤ l.foldl (· + ·) 0 ∧ l.foldl (· + ·) 0 ≤ K * l.length := by
  induction l with
  | nil => simp
  | cons x r ih =>
    have h1 := ih fun y hy => h y (List.mem_cons_of_mem _ hy)
    have h2 := h x List.mem_cons_self
    rw [List.foldl_cons, foldl_add, List.length_cons]
    have e : K * ((r.length + 1 : Nat) : Int) = K * r.length + K := by rw [Int.natCast_add, Int.mul_add]; simp
    rw [e]
    omega
theorem row_bound {L X : List Nd} (h : PartOK L X) (hr : ∀ n ∈ L, rightB n = true) : -(1073741823 * (X.length : Int)) ≤ rowN X ∧ rowN X ≤ 1073741823 * X.length := by
  obtain ⟨hi, _⟩ := h.its
  have hl := hi.len
  have := foldl_bound (l := (itsP X).map fun x => acN (nth X x)) (K := 1073741823) (fun y hy => by
    obtain ⟨x, hx, rfl⟩ := List.mem_map.1 hy
    have hlt := (hi.lt x hx).2
    rw [nth_get hlt]
    exact ac_bound (hr _ (h.sub _ (List.getElem_mem hlt))))
  rw [List.length_map] at this
  unfold rowN
  have e : (1073741823 : Int) * ((itsP X).length : Int) ≤ 1073741823 * (X.length : Int) := by omega
  omega
def itN (L : List Nd) (x : Nat) : Int := if (nth L x).kind == 10 then rowN (threeP L x).2.2 else acN (nth L x)
def Tt.plus (a b : Tt) : Tt := ⟨a.nat + b.nat, a.s0 + b.s0, a.s1 + b.s1, a.s2 + b.s2, a.s3 + b.s3, a.h0 + b.h0, a.h1 + b.h1, a.h2 + b.h2, a.h3 + b.h3⟩
def Tt.minus (a b : Tt) : Tt := ⟨a.nat - b.nat, a.s0 - b.s0, a.s1 - b.s1, a.s2 - b.s2, a.s3 - b.s3, a.h0 - b.h0, a.h1 - b.h1, a.h2 - b.h2, a.h3 - b.h3⟩
def Tt.wide (x : Int) : Tt := ⟨x, 0, 0, 0, 0, 0, 0, 0, 0⟩
theorem Tt.ext_all {a b : Tt} (h0 : a.nat = b.nat) (h1 : a.s0 = b.s0) (h2 : a.s1 = b.s1) (h3 : a.s2 = b.s2) (h4 : a.s3 = b.s3) (h5 : a.h0 = b.h0) (h6 : a.h1 = b.h1) (h7 : a.h2 = b.h2) (h8 : a.h3 = b.h3) : a = b := by
  cases a; cases b; simp_all
theorem plus_assoc (a b c : Tt) : (a.plus b).plus c = a.plus (b.plus c) := by
  apply Tt.ext_all <;> simp [Tt.plus, Int.add_assoc]
theorem plus_zero (a : Tt) : a.plus .zero = a := by apply Tt.ext_all <;> simp [Tt.plus, Tt.zero]
theorem zero_plus (a : Tt) : Tt.plus .zero a = a := by apply Tt.ext_all <;> simp [Tt.plus, Tt.zero]
theorem plus_minus (a b : Tt) : (a.plus b).minus a = b := by apply Tt.ext_all <;> simp [Tt.plus, Tt.minus] <;> omega
theorem wide_plus (x y : Int) : (Tt.wide x).plus (.wide y) = .wide (x + y) := by apply Tt.ext_all <;> simp [Tt.plus, Tt.wide]
def glueT (g : Gl) : Tt := ({ Tt.zero with nat := g.nat } : Tt).glue g
theorem glue_plus (T : Tt) (g : Gl) : ({ T with nat := T.nat + g.nat } : Tt).glue g = T.plus (glueT g) := by
  have key : ∀ (j k : Nat), (({ T with nat := T.nat + g.nat } : Tt).setS j (({ T with nat := T.nat + g.nat } : Tt).st j + g.str)).setH k ((({ T with nat := T.nat + g.nat } : Tt).setS j (({ T with nat := T.nat + g.nat } : Tt).st j + g.str)).sh k + g.shr) =
      T.plus ((({ Tt.zero with nat := g.nat } : Tt).setS j (({ Tt.zero with nat := g.nat } : Tt).st j + g.str)).setH k ((({ Tt.zero with nat := g.nat } : Tt).setS j (({ Tt.zero with nat := g.nat } : Tt).st j + g.str)).sh k + g.shr)) := by
    intro j k
    rcases j with _ | _ | _ | j <;> rcases k with _ | _ | _ | k <;> apply Tt.ext_all <;> simp [Tt.plus, Tt.zero, Tt.setS, Tt.setH, Tt.st, Tt.sh]
  exact key g.so.toNat g.ho.toNat
def itT (L : List Nd) (x : Nat) : Tt := if (nth L x).kind == 7 then glueT (nth L x).glue else .wide (itN L x)
def sumA (L : List Nd) (s : List Nat) : Tt := s.foldl (fun T x => T.plus (itT L x)) .zero
theorem sumA_snoc (L : List Nd) (s : List Nat) (x : Nat) : sumA L (s ++ [x]) = (sumA L s).plus (itT L x) := by simp [sumA]
theorem sumA_acc (L : List Nd) : ∀ (s : List Nat) (T : Tt), s.foldl (fun T x => T.plus (itT L x)) T = T.plus (sumA L s)
  | [], T => (plus_zero T).symm
  | x :: r, T => by
    unfold sumA
    rw [List.foldl_cons, List.foldl_cons, sumA_acc L r, sumA_acc L r (Tt.plus .zero _), zero_plus, plus_assoc]
theorem sumA_cons (L : List Nd) (x : Nat) (r : List Nat) : sumA L (x :: r) = (itT L x).plus (sumA L r) := by
  show (x :: r).foldl _ _ = _
  rw [List.foldl_cons, sumA_acc, zero_plus]
theorem sumA_app (L : List Nd) (s t : List Nat) : sumA L (s ++ t) = (sumA L s).plus (sumA L t) := by
  unfold sumA
  rw [List.foldl_append, sumA_acc]
  rfl
structure TtB (K : Int) (T : Tt) : Prop where
  nat : -K ≤ T.nat ∧ T.nat ≤ K
  s0 : -K ≤ T.s0 ∧ T.s0 ≤ K
  s1 : -K ≤ T.s1 ∧ T.s1 ≤ K
  s2 : -K ≤ T.s2 ∧ T.s2 ≤ K
  s3 : -K ≤ T.s3 ∧ T.s3 ≤ K
  h0 : -K ≤ T.h0 ∧ T.h0 ≤ K
  h1 : -K ≤ T.h1 ∧ T.h1 ≤ K
  h2 : -K ≤ T.h2 ∧ T.h2 ≤ K
  h3 : -K ≤ T.h3 ∧ T.h3 ≤ K
theorem TtB.plus {K J : Int} {a b : Tt} (x : TtB K a) (y : TtB J b) : TtB (K + J) (a.plus b) := by
  obtain ⟨x0, x1, x2, x3, x4, x5, x6, x7, x8⟩ := x
  obtain ⟨y0, y1, y2, y3, y4, y5, y6, y7, y8⟩ := y
  constructor <;> simp only [Tt.plus] <;> omega
theorem TtB.minus {K J : Int} {a b : Tt} (x : TtB K a) (y : TtB J b) : TtB (K + J) (a.minus b) := by
  obtain ⟨x0, x1, x2, x3, x4, x5, x6, x7, x8⟩ := x
  obtain ⟨y0, y1, y2, y3, y4, y5, y6, y7, y8⟩ := y
  constructor <;> simp only [Tt.minus] <;> omega
theorem TtB.mono {K J : Int} {a : Tt} (x : TtB K a) (h : K ≤ J) : TtB J a := by
  obtain ⟨x0, x1, x2, x3, x4, x5, x6, x7, x8⟩ := x
  constructor <;> omega
theorem TtB.zero : TtB 0 .zero := by constructor <;> simp [Tt.zero]
theorem TtB.wide {K x : Int} (h : -K ≤ x ∧ x ≤ K) (hk : 0 ≤ K) : TtB K (.wide x) := by constructor <;> simp only [Tt.wide] <;> omega
theorem glue_bound {g : Gl} {K : Int} (h1 : -K ≤ g.nat ∧ g.nat ≤ K) (h2 : -K ≤ g.str ∧ g.str ≤ K) (h3 : -K ≤ g.shr ∧ g.shr ≤ K) (hk : 0 ≤ K) : TtB K (glueT g) := by
  unfold glueT Tt.glue
  generalize g.so.toNat = j
  generalize g.ho.toNat = k
  rcases j with _ | _ | _ | j <;> rcases k with _ | _ | _ | k <;> constructor <;> simp [Tt.zero, Tt.setS, Tt.setH, Tt.st, Tt.sh] <;> omega
theorem it_bound {L : List Nd} {s : List Nat} (hc : checkC L = 0) (hs : Items L 0 s) (hr : ∀ n ∈ L, rightB n = true) {x m : Nat} (hx : x ∈ s) (hm : behC (L.drop x) 0 = some m) : TtB (1073741823 * m) (itT L x) := by
  have hp := behC_pos _ _ _ hm
  have hlt := (hs.lt x hx).2
  have hrn : rightB (nth L x) = true := by rw [nth_get hlt]; exact hr _ (List.getElem_mem _)
  have hpm : (1073741823 : Int) ≤ 1073741823 * (m : Int) := by omega
  unfold itT
  split
  · rename_i h7
    have h7' : (nth L x).kind = 7 := by simpa using h7
    have nb := nb_of hrn
    exact (glue_bound (nb.nat h7') (nb.str h7') (nb.shr h7') (by omega)).mono hpm
  · unfold itN
    split
    · rename_i h10
      obtain ⟨m', u, hd⟩ := disc_at hc hs hx (by simpa using h10)
      have := hd.beh
      rw [hm] at this
      cases this
      obtain ⟨hok, hlen⟩ := disc_ok hd
      have hb := row_bound hok.c hr
      have hle : (1073741823 : Int) * ((threeP L x).2.2.length : Int) ≤ 1073741823 * (m : Int) := by omega
      exact .wide (by omega) (by omega)
    · have := ac_bound hrn
      exact .wide (by omega) (by omega)
theorem sum_items {L : List Nd} {s : List Nat} (hc : checkC L = 0) (hs : Items L 0 s) (hr : ∀ n ∈ L, rightB n = true) : ∀ {i : Nat} {t : List Nat}, Items L i t → (∀ x ∈ t, x ∈ s) → TtB (1073741823 * ((L.length - i : Nat) : Int)) (sumA L t) := by
  intro i t h
  induction h with
  | done => intro _; rw [Nat.sub_self]; exact TtB.zero.mono (by omega)
  | step hi hm hs2 ih =>
    rename_i i m t
    intro hsub
    have hp := behC_pos _ _ _ hm
    rw [List.length_drop] at hp
    rw [sumA_cons]
    refine ((it_bound hc hs hr (hsub i List.mem_cons_self) hm).plus (ih fun x hx => hsub x (List.mem_cons_of_mem _ hx))).mono ?_
    omega
end Go.Proofs.YtiijpbfkchokaaaGreat
