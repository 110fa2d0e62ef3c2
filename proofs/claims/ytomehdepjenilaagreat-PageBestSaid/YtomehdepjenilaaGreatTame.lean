/-
  A region that draws its order, whose operations hand back the same whatever stands in the memory that the others turn: one walk, in the order of the text.
-/
import Derived.Test.YtomehdepjenilaaGreatEq
import Derived.Orders
namespace Go.Proofs.YtomehdepjenilaaGreat
theorem lsA {α : Type} (l : List α) (i : Nat) (a : α) : l.toArray.setIfInBounds i a = (l.set i a).toArray := List.setIfInBounds_toArray ..
theorem lsB {α : Type} (x : α) (l : List α) (a : α) : (x :: l).set 0 a = a :: l := rfl
theorem lsC {α : Type} (x : α) (l : List α) (n : Nat) (a : α) : (x :: l).set (n + 1) a = x :: l.set n a := rfl
open Go.RowKit

def QNo : Exit → Act → World → Prop := fun _ _ _ => False

def tw (P : Program) (ops : Array Oper) (S : World → Prop) (Qn : Act → World → Prop) : List Oper → Act → Prop
  | [], a => ∀ w, S w → Qn a w
  | o :: rest, a => if Region.wanted o (yielded ops a.tmps) then ∃ v, (∀ w, S w → ∀ K : Act → World → Prop, (∀ w', S w' → K (a.put o.dst v) w') → o.wp P a w K QNo) ∧ tw P ops S Qn rest (a.put o.dst v)
      else tw P ops S Qn rest (a.put o.dst undef)

section
variable {P : Program} {ops : Array Oper} {S : World → Prop} {Qn : Act → World → Prop}

theorem tw_nil {a : Act} (h : ∀ w, S w → Qn a w) : tw P ops S Qn [] a := h
theorem tw_cons {o : Oper} {rest : List Oper} {a : Act} (v : Value) (hw : Region.wanted o (yielded ops a.tmps) = true) (h : ∀ w, S w → ∀ K : Act → World → Prop, (∀ w', S w' → K (a.put o.dst v) w') → o.wp P a w K QNo)
    (hr : tw P ops S Qn rest (a.put o.dst v)) : tw P ops S Qn (o :: rest) a := by
  unfold tw; rw [if_pos hw]; exact ⟨v, h, hr⟩
theorem tw_skip {o : Oper} {rest : List Oper} {a : Act} (hw : Region.wanted o (yielded ops a.tmps) = false) (hr : tw P ops S Qn rest (a.put o.dst undef)) : tw P ops S Qn (o :: rest) a := by
  unfold tw; rw [if_neg (by rw [hw]; simp)]; exact hr

def putSel (a : Act) : List (Oper × Value × Bool) → Act
  | [] => a
  | (o, v, b) :: r => putSel (if b then a.put o.dst v else a) r

def opOK (P : Program) (ops : Array Oper) (S : World → Prop) (o : Oper) (v : Value) (a : Act) : Prop :=
  (Region.wanted o (yielded ops a.tmps) = true ∧ ∀ w, S w → ∀ K : Act → World → Prop, (∀ w', S w' → K (a.put o.dst v) w') → o.wp P a w K QNo) ∨ (Region.wanted o (yielded ops a.tmps) = false ∧ v = undef)

theorem tw_vals : ∀ (l : List Oper) (a : Act), tw P ops S Qn l a → ∃ vs : List Value, vs.length = l.length ∧
    (∀ i o v, l[i]? = some o → vs[i]? = some v → opOK P ops S o v (putSel a ((l.zip vs).take i |>.map fun x => (x.1, x.2, true)))) ∧
    (∀ w, S w → Qn (putSel a ((l.zip vs).map fun x => (x.1, x.2, true))) w)
  | [], a, h => ⟨[], rfl, fun i o v ho => by simp at ho, h⟩
  | o :: rest, a, h => by
    unfold tw at h
    split at h
    · rename_i hw
      obtain ⟨v, h1, h2⟩ := h
      obtain ⟨vs, hl, hv, hq⟩ := tw_vals rest _ h2
      refine ⟨v :: vs, by simp [hl], fun i o' v' ho hv' => ?_, fun w hS => ?_⟩
      · cases i with
        | zero => simp at ho hv'; subst ho; subst hv'; exact .inl ⟨hw, h1⟩
        | succ i => simp at ho hv'; simpa [putSel] using hv i o' v' ho hv'
      · simpa [putSel] using hq w hS
    · rename_i hw
      obtain ⟨vs, hl, hv, hq⟩ := tw_vals rest _ h
      refine ⟨undef :: vs, by simp [hl], fun i o' v' ho hv' => ?_, fun w hS => ?_⟩
      · cases i with
        | zero => simp at ho hv'; subst ho; subst hv'; exact .inr ⟨by simpa [putSel] using hw, rfl⟩
        | succ i => simp at ho hv'; simpa [putSel] using hv i o' v' ho hv'
      · simpa [putSel] using hq w hS

/-! ### Frames -/
theorem act_ext {a b : Act} (h : ∀ t : Nat, a.tmps[t]? = b.tmps[t]?) (hd : a.defers = b.defers) : a = b := by
  cases a; cases b; simp only at h hd; subst hd; congr 1; exact Array.ext_getElem? h
theorem put_size (a : Act) (d : Option Tmp) (v : Value) : (a.put d v).tmps.size = a.tmps.size := by cases d <;> simp [Act.put]
theorem put_defers' (a : Act) (d : Option Tmp) (v : Value) : (a.put d v).defers = a.defers := by cases d <;> rfl
theorem put_get (a : Act) (d : Option Tmp) (v : Value) (t : Nat) : (a.put d v).tmps[t]? = if d = some t ∧ t < a.tmps.size then some v else a.tmps[t]? := by
  cases d with
  | none => simp [Act.put]
  | some d =>
    simp only [Act.put, Option.some.injEq]
    by_cases h : d = t
    · subst h
      by_cases hs : d < a.tmps.size
      · simp [hs]
      · simp [hs]
    · rw [if_neg (fun c => h c.1), Array.getElem?_setIfInBounds_ne h]
theorem put_inj {a b : Act} {d : Option Tmp} {u v : Value} (h : a.put d u = a.put d v) (hs : b.tmps.size = a.tmps.size) : b.put d u = b.put d v := by
  cases d with
  | none => rfl
  | some d =>
    by_cases hd : d < a.tmps.size
    · have h1 := congrArg (fun x : Act => x.tmps[d]?) h
      simp only [put_get] at h1
      simp only [hd, and_self, if_true] at h1
      cases h1; rfl
    · refine act_ext (fun t => ?_) (by simp [put_defers'])
      rw [put_get, put_get]
      by_cases ht : d = t
      · subst ht; rw [if_neg (fun c => hd (hs ▸ c.2)), if_neg (fun c => hd (hs ▸ c.2))]
      · rw [if_neg (fun c => ht (by simpa using c.1)), if_neg (fun c => ht (by simpa using c.1))]
theorem putSel_size : ∀ (l : List (Oper × Value × Bool)) (a : Act), (putSel a l).tmps.size = a.tmps.size
  | [], _ => rfl
  | (o, v, b) :: r, a => by rw [putSel, putSel_size r]; split <;> simp [put_size]
theorem putSel_defers : ∀ (l : List (Oper × Value × Bool)) (a : Act), (putSel a l).defers = a.defers
  | [], _ => rfl
  | (o, v, b) :: r, a => by rw [putSel, putSel_defers r]; split <;> simp [put_defers']

def writes (l : List Oper) (t : Nat) (j : Nat) : Prop := ∃ o, l[j]? = some o ∧ o.dst = some t
def dstApart (l : List Oper) : Prop := ∀ i j t, writes l t i → writes l t j → i = j

def frm (a : Act) (l : List Oper) (vs : List Value) (m : Nat → Bool) : Act := putSel a ((l.zip vs).zipIdx.map fun x => (x.1.1, x.1.2, m x.2))
theorem frm_size (a : Act) (l : List Oper) (vs : List Value) (m : Nat → Bool) : (frm a l vs m).tmps.size = a.tmps.size := putSel_size _ _
theorem frm_defers (a : Act) (l : List Oper) (vs : List Value) (m : Nat → Bool) : (frm a l vs m).defers = a.defers := putSel_defers _ _

theorem putSel_append : ∀ (l r : List (Oper × Value × Bool)) (a : Act), putSel a (l ++ r) = putSel (putSel a l) r
  | [], _, _ => rfl
  | (o, v, b) :: l, r, a => by simp only [List.cons_append, putSel]; exact putSel_append l r _

theorem putSel_get (t : Nat) : ∀ (l : List (Oper × Value × Bool)) (a : Act),
    (∀ (i j : Nat) (x y : Oper × Value × Bool), l[i]? = some x → l[j]? = some y → x.1.dst = some t → y.1.dst = some t → i = j) →
    ((∃ x ∈ l, x.1.dst = some t ∧ x.2.2 = true ∧ (putSel a l).tmps[t]? = if t < a.tmps.size then some x.2.1 else a.tmps[t]?) ∨
     ((∀ x ∈ l, x.1.dst = some t → x.2.2 = false) ∧ (putSel a l).tmps[t]? = a.tmps[t]?))
  | [], a, _ => .inr ⟨by simp, rfl⟩
  | (o, v, b) :: r, a, h => by
    have hr : ∀ (i j : Nat) (x y : Oper × Value × Bool), r[i]? = some x → r[j]? = some y → x.1.dst = some t → y.1.dst = some t → i = j := fun i j x y hi hj hx hy => by
      have := h (i + 1) (j + 1) x y (by simpa using hi) (by simpa using hj) hx hy
      omega
    have hs : (if b then a.put o.dst v else a).tmps.size = a.tmps.size := by split <;> simp [put_size]
    rcases putSel_get t r (if b then a.put o.dst v else a) hr with ⟨x, hx, hd, hb, he⟩ | ⟨hn, he⟩
    · refine .inl ⟨x, List.mem_cons_of_mem _ hx, hd, hb, ?_⟩
      rw [putSel, he, hs]
      by_cases ht : t < a.tmps.size
      · simp [ht]
      · have h1 : a.tmps[t]? = none := by simp; omega
        have h2 : (if b then a.put o.dst v else a).tmps[t]? = none := by rw [Array.getElem?_eq_none]; omega
        rw [if_neg ht, if_neg ht, h1, h2]
    · by_cases hc : o.dst = some t ∧ b = true
      · obtain ⟨hd, hb⟩ := hc
        refine .inl ⟨(o, v, b), List.mem_cons_self, hd, hb, ?_⟩
        rw [putSel, he, if_pos hb, put_get]
        by_cases ht : t < a.tmps.size
        · rw [if_pos ⟨hd, ht⟩, if_pos ht]
        · rw [if_neg (fun c => ht c.2), if_neg ht]
      · refine .inr ⟨fun x hx hd => ?_, ?_⟩
        · rcases List.mem_cons.1 hx with rfl | hx
          · simp only at hd ⊢
            cases b with
            | false => rfl
            | true => exact absurd ⟨hd, rfl⟩ hc
          · exact hn x hx hd
        · rw [putSel, he]
          split
          · rename_i hb
            rw [put_get, if_neg (fun c => hc ⟨c.1, hb⟩)]
          · rfl

theorem frm_list (l : List Oper) (vs : List Value) (m : Nat → Bool) (i : Nat) :
    ((l.zip vs).zipIdx.map fun x => (x.1.1, x.1.2, m x.2))[i]? = match l[i]?, vs[i]? with | some o, some v => some (o, v, m i) | _, _ => none := by
  simp only [List.getElem?_map, List.getElem?_zipIdx, Nat.zero_add, List.zip, List.getElem?_zipWith]
  cases l[i]? <;> cases vs[i]? <;> rfl

variable {l : List Oper} {vs : List Value} (hlen : vs.length = l.length) (hda : dstApart l)
include hlen hda

theorem frm_get (a : Act) (m : Nat → Bool) (t : Nat) :
    (∃ (j : Nat) (o : Oper) (v : Value), l[j]? = some o ∧ vs[j]? = some v ∧ o.dst = some t ∧ m j = true ∧ (frm a l vs m).tmps[t]? = if t < a.tmps.size then some v else a.tmps[t]?) ∨
    ((∀ (j : Nat) (o : Oper), l[j]? = some o → o.dst = some t → m j = false) ∧ (frm a l vs m).tmps[t]? = a.tmps[t]?) := by
  have key : ∀ (i : Nat) (x : Oper × Value × Bool), ((l.zip vs).zipIdx.map fun x => (x.1.1, x.1.2, m x.2))[i]? = some x → l[i]? = some x.1 ∧ vs[i]? = some x.2.1 ∧ x.2.2 = m i := fun i x hx => by
    rw [frm_list] at hx
    split at hx
    · rename_i o v ho hv
      cases hx; exact ⟨ho, hv, rfl⟩
    · cases hx
  rcases putSel_get t ((l.zip vs).zipIdx.map fun x => (x.1.1, x.1.2, m x.2)) a (fun i j x y hi hj hx hy =>
      hda i j t ⟨x.1, (key i x hi).1, hx⟩ ⟨y.1, (key j y hj).1, hy⟩) with ⟨x, hx, hd, hb, he⟩ | ⟨hn, he⟩
  · obtain ⟨i, hi⟩ := List.mem_iff_getElem?.1 hx
    obtain ⟨h1, h2, h3⟩ := key i x hi
    exact .inl ⟨i, x.1, x.2.1, h1, h2, hd, by rw [← h3]; exact hb, he⟩
  · refine .inr ⟨fun j o ho hd => ?_, he⟩
    have hj : j < l.length := (List.getElem?_eq_some_iff.1 ho).1
    have hv : vs[j]? = some vs[j] := List.getElem?_eq_getElem (by omega)
    have := hn (o, vs[j], m j) (List.mem_iff_getElem?.2 ⟨j, by rw [frm_list, ho, hv]⟩) hd
    exact this

theorem frm_agree (a : Act) (m m' : Nat → Bool) (t : Nat) (h : ∀ (j : Nat) (o : Oper), l[j]? = some o → o.dst = some t → m j = m' j) :
    (frm a l vs m).tmps[t]? = (frm a l vs m').tmps[t]? := by
  rcases frm_get hlen hda a m t with ⟨j, o, v, ho, hv, hd, hm, he⟩ | ⟨hn, he⟩ <;> rcases frm_get hlen hda a m' t with ⟨j', o', v', ho', hv', hd', hm', he'⟩ | ⟨hn', he'⟩
  · have := hda j j' t ⟨o, ho, hd⟩ ⟨o', ho', hd'⟩
    subst this
    rw [hv] at hv'; cases hv'
    rw [he, he']
  · have := hn' j o ho hd
    rw [← h j o ho hd, hm] at this; cases this
  · have := hn j' o' ho' hd'
    rw [h j' o' ho' hd', hm'] at this; cases this
  · rw [he, he']

theorem frm_put (a : Act) (m : Nat → Bool) (i : Nat) (o : Oper) (v : Value) (ho : l[i]? = some o) (hv : vs[i]? = some v) :
    (frm a l vs m).put o.dst v = frm a l vs (fun j => m j || j == i) := by
  refine act_ext (fun t => ?_) (by rw [put_defers', frm_defers, frm_defers])
  rw [put_get, frm_size]
  by_cases hd : o.dst = some t
  · by_cases ht : t < a.tmps.size
    · rw [if_pos ⟨hd, ht⟩]
      rcases frm_get hlen hda a (fun j => m j || j == i) t with ⟨j, o', v', ho', hv', hd', _, he⟩ | ⟨hn, _⟩
      · have := hda j i t ⟨o', ho', hd'⟩ ⟨o, ho, hd⟩
        subst this
        rw [hv] at hv'; cases hv'
        rw [he, if_pos ht]
      · have := hn i o ho hd
        simp at this
    · rw [if_neg (fun c => ht c.2)]
      have h1 : ∀ m', (frm a l vs m').tmps[t]? = none := fun m' => by rw [Array.getElem?_eq_none]; rw [frm_size]; omega
      rw [h1, h1]
  · rw [if_neg (fun c => hd c.1)]
    refine frm_agree hlen hda a _ _ t (fun j o' ho' hd' => ?_)
    have hne : j ≠ i := by
      rintro rfl
      rw [ho] at ho'; cases ho'
      exact hd hd'
    simp [hne]
omit hlen hda
theorem putSel_false : ∀ (l : List (Oper × Value × Bool)) (a : Act), (∀ x ∈ l, x.2.2 = false) → putSel a l = a
  | [], _, _ => rfl
  | (o, v, b) :: r, a, h => by
    have hb : b = false := h (o, v, b) List.mem_cons_self
    subst hb
    simp only [putSel]
    exact putSel_false r a (fun x hx => h x (List.mem_cons_of_mem _ hx))
theorem frm_all (a : Act) : putSel a ((l.zip vs).map fun x => (x.1, x.2, true)) = frm a l vs (fun _ => true) := by
  unfold frm
  congr 1
  apply List.ext_getElem?
  intro i
  simp only [List.getElem?_map, List.getElem?_zipIdx, Nat.zero_add]
  cases (l.zip vs)[i]? <;> rfl
theorem frm_pre (a : Act) (i : Nat) : putSel a (((l.zip vs).take i).map fun x => (x.1, x.2, true)) = frm a l vs (fun j => decide (j < i)) := by
  unfold frm
  have e : ((l.zip vs).zipIdx.map fun x => (x.1.1, x.1.2, decide (x.2 < i))) = (((l.zip vs).take i).map fun x => (x.1, x.2, true)) ++ (((l.zip vs).drop i).map fun x => (x.1, x.2, false)) := by
    apply List.ext_getElem?
    intro k
    simp only [List.getElem?_map, List.getElem?_zipIdx, Nat.zero_add, List.getElem?_append, List.length_map, List.length_take, List.getElem?_take, List.getElem?_drop]
    by_cases hk : k < i
    · by_cases hk2 : k < (l.zip vs).length
      · rw [if_pos (by omega), if_pos hk]
        simp [List.getElem?_eq_getElem hk2, hk]
      · rw [if_neg (by omega)]
        rw [List.getElem?_eq_none (by omega), List.getElem?_eq_none (by omega)]; rfl
    · rw [if_neg (by omega)]
      by_cases hi : i ≤ (l.zip vs).length
      · rw [show min i (l.zip vs).length = i by omega, show i + (k - i) = k by omega]
        cases (l.zip vs)[k]? <;> simp [hk]
      · rw [List.getElem?_eq_none (by omega), List.getElem?_eq_none (by omega)]; rfl
  rw [e, putSel_append]
  exact (putSel_false _ _ (by intro x hx; obtain ⟨y, _, rfl⟩ := List.mem_map.1 hx; rfl)).symm

/-! ### What is asked of the region's text: decided by evaluation -/
def edge (o : Oper) (j : Nat) : Bool := o.after.any fun e => Region.binds .any e && e.on == j
def tameOK (l : List Oper) : Bool :=
  (List.range l.length).all fun i => match l[i]? with
    | none => true
    | some oi => oi.after.all (fun e => !Region.binds .any e || decide (e.on < i)) &&
      (match oi.dst with | some t => !(oi.looksAt l.toArray).contains t | none => true) &&
      (match oi.op with | .select .. => false | _ => true) &&
      (List.range l.length).all fun j => j == i || match l[j]? with
        | none => true
        | some oj => match oj.dst with
          | none => true
          | some t => oi.dst != some t && (!(oi.looksAt l.toArray).contains t || (edge oi j && decide (j < i)) || (edge oj i && decide (i < j)))

structure Tame (l : List Oper) : Prop where
  back : ∀ i o, l[i]? = some o → ∀ e ∈ o.after, Region.binds .any e = true → e.on < i
  own : ∀ (i : Nat) (o : Oper) t, l[i]? = some o → o.dst = some t → t ∉ o.looksAt l.toArray
  sel : ∀ (i : Nat) (o : Oper) cs b, l[i]? = some o → o.op ≠ .select cs b
  apart : dstApart l
  looks : ∀ (i j : Nat) (oi oj : Oper) (t : Nat), l[i]? = some oi → l[j]? = some oj → i ≠ j → oj.dst = some t → t ∈ oi.looksAt l.toArray → (edge oi j = true ∧ j < i) ∨ (edge oj i = true ∧ i < j)

theorem tame_of {l : List Oper} (h : tameOK l = true) : Tame l := by
  have key : ∀ (i : Nat) (oi : Oper), l[i]? = some oi → oi.after.all (fun e => !Region.binds .any e || decide (e.on < i)) = true ∧
      (match oi.dst with | some t => !(oi.looksAt l.toArray).contains t | none => true) = true ∧
      (match oi.op with | .select .. => false | _ => true) = true ∧
      ∀ (j : Nat) (oj : Oper), l[j]? = some oj → j ≠ i → ∀ t, oj.dst = some t → oi.dst ≠ some t ∧ ((oi.looksAt l.toArray).contains t = true → (edge oi j = true ∧ j < i) ∨ (edge oj i = true ∧ i < j)) := by
    intro i oi hi
    have hlt : i < l.length := (List.getElem?_eq_some_iff.1 hi).1
    have h1 := List.all_eq_true.1 h i (List.mem_range.2 hlt)
    simp only [hi, Bool.and_eq_true] at h1
    obtain ⟨⟨⟨ha, hb⟩, hc⟩, hd⟩ := h1
    refine ⟨ha, hb, hc, fun j oj hj hne t ht => ?_⟩
    have h2 := List.all_eq_true.1 hd j (List.mem_range.2 (List.getElem?_eq_some_iff.1 hj).1)
    simp only [hj, ht, Bool.or_eq_true, Bool.and_eq_true, beq_iff_eq, hne, false_or, bne_iff_ne, Bool.not_eq_true', decide_eq_true_eq] at h2
    refine ⟨h2.1, fun hc' => ?_⟩
    rcases h2.2 with (h3 | h3) | h3
    · rw [hc'] at h3; cases h3
    · exact .inl h3
    · exact .inr h3
  refine ⟨fun i o ho e he hb => ?_, fun i o t ho hd => ?_, fun i o cs b ho hop => ?_, fun i j t ⟨oi, hi, hdi⟩ ⟨oj, hj, hdj⟩ => ?_, fun i j oi oj t hi hj hne hd hl => ?_⟩
  · have := Array.all_eq_true_iff_forall_mem.1 (key i o ho).1 e he
    simpa [hb] using this
  · have := (key i o ho).2.1
    simp only [hd, Bool.not_eq_true'] at this
    intro hm
    rw [List.contains_iff_mem.2 hm] at this; cases this
  · have := (key i o ho).2.2.1
    simp [hop] at this
  · apply Decidable.byContradiction
    intro hne
    exact ((key i oi hi).2.2.2 j oj hj (fun c => hne c.symm) t hdj).1 hdi
  · exact ((key i oi hi).2.2.2 j oj hj (fun c => hne c.symm) t hd).2 (List.contains_iff_mem.2 hl)

/-! ### The walk serves for every order -/
section
variable {P : Program} {S : World → Prop} {l : List Oper} {vs : List Value}

theorem reads_same (hlen : vs.length = l.length) (ht : Tame l) (a : Act) (m m' : Nat → Bool) (i : Nat) (o : Oper) (hi : l[i]? = some o)
    (h : ∀ (j : Nat) (oj : Oper) (t : Nat), l[j]? = some oj → j ≠ i → oj.dst = some t → t ∈ o.looksAt l.toArray → m j = m' j) :
    (∀ x ∈ o.op.operands, (frm a l vs m).eval x = (frm a l vs m').eval x) ∧ Region.wanted o (yielded l.toArray (frm a l vs m).tmps) = Region.wanted o (yielded l.toArray (frm a l vs m').tmps) := by
  have hs : ∀ t, t ∈ o.looksAt l.toArray → (frm a l vs m).tmps[t]? = (frm a l vs m').tmps[t]? := fun t htl =>
    frm_agree hlen ht.apart a m m' t (fun j oj hj hd => h j oj t hj (by
      rintro rfl
      rw [hi] at hj; cases hj
      exact ht.own j o t hi hd htl) hd htl)
  constructor
  · intro x hx
    cases x with
    | tmp t =>
      have : t ∈ o.looksAt l.toArray := by
        unfold Oper.looksAt
        exact List.mem_append_left _ (List.mem_filterMap.2 ⟨.tmp t, by simpa using hx, rfl⟩)
      simp only [Act.eval, Array.getD_eq_getD_getElem?, hs t this]
    | const v => rfl
    | global g => rfl
    | func f => rfl
  · unfold Region.wanted
    cases hg : o.guard with
    | none => rfl
    | some g =>
      obtain ⟨g, b⟩ := g
      simp only
      unfold yielded
      cases hd : (l.toArray[g]?).bind (·.dst) with
      | none => rfl
      | some t =>
        have : t ∈ o.looksAt l.toArray := by
          unfold Oper.looksAt
          refine List.mem_append_right _ ?_
          rw [hg]
          simp only [hd]
          simp
        simp only [Option.bind_some, hs t this]

theorem wp_frame {o : Oper} {a b : Act} {w : World} {v : Value} {Q : Exit → Act → World → Prop} {next : Act → World → Prop} (he : execOp b.eval o = execOp a.eval o) (hsz : b.tmps.size = a.tmps.size)
    (h : o.wp P a w (fun a' w' => a' = a.put o.dst v ∧ S w') QNo) (hn : ∀ w', S w' → next (b.put o.dst v) w') : o.wp P b w next Q := by
  unfold Oper.wp at *
  rw [he]
  generalize (execOp a.eval o).run P w = r at *
  cases r with
  | ok n w' =>
    cases n with
    | value u => simp only [Oper.upon] at h ⊢; rw [put_inj h.1 hsz]; exact hn _ h.2
    | skip => simp only [Oper.upon] at h ⊢; rw [put_inj h.1 hsz]; exact hn _ h.2
    | defer d =>
      simp only [Oper.upon] at h
      have := congrArg (fun x : Act => x.defers.length) h.1
      simp [put_defers'] at this
    | enter f args =>
      simp only [Oper.upon] at h ⊢
      refine Calls.mono h (fun e w'' hx => ?_)
      cases e with
      | returned u => simp only at hx ⊢; rw [put_inj hx.1 hsz]; exact hn _ hx.2
      | panicked c => exact (hx : False).elim
      | outgrown => obtain ⟨_, _, hx⟩ := hx; exact (hx : False).elim
    | row row args =>
      simp only [Oper.upon] at h ⊢
      refine Rows.mono h (fun u w'' hx => ?_)
      rw [put_inj hx.1 hsz]; exact hn _ hx.2
    | _ => exact (h : False).elim
  | halt x w' => cases x <;> simp only [Oper.upon] at h <;> exact (h : False).elim

theorem countP_lt {α : Type} {p q : α → Bool} {x : α} : ∀ (l : List α), x ∈ l → p x = true → q x = false → (∀ y, q y = true → p y = true) → l.countP q < l.countP p
  | [], h, _, _, _ => by cases h
  | y :: r, h, hp, hq, hqp => by
    have hle : r.countP q ≤ r.countP p := List.countP_mono_left (fun y _ => hqp y)
    rcases List.mem_cons.1 h with rfl | h
    · rw [List.countP_cons_of_pos hp, List.countP_cons_of_neg (by simp [hq])]; omega
    · have ih := countP_lt r h hp hq hqp
      by_cases hy : q y = true
      · rw [List.countP_cons_of_pos hy, List.countP_cons_of_pos (hqp y hy)]; omega
      · rw [List.countP_cons_of_neg (by simpa using hy)]
        have := List.countP_cons (p := p) (a := y) (l := r)
        omega

theorem all_listed (ht : Tame l) {listed : Array Bool} (hsz : listed.size = l.length) (hr : Region.ready .any l.toArray listed = []) : ∀ j, j < l.length → listed.getD j false = true := by
  intro j
  induction j using Nat.strongRecOn with
  | _ j ih =>
    intro hj
    apply Decidable.byContradiction
    intro hn
    have hmem : j ∈ Region.ready .any l.toArray listed := by
      rw [mem_ready]
      refine ⟨?_, l[j], by simp [hj], fun e he hb => ih e.on (ht.back j l[j] (List.getElem?_eq_getElem hj) e he hb) (Nat.lt_trans (ht.back j l[j] (List.getElem?_eq_getElem hj) e he hb) hj)⟩
      have : j < listed.size := by omega
      simp only [Array.getD_eq_getD_getElem?, Array.getElem?_eq_getElem this, Option.getD_some] at hn ⊢
      simpa using hn
    rw [hr] at hmem; cases hmem

theorem getD_set (listed : Array Bool) (i j : Nat) (hi : i < listed.size) : (listed.setIfInBounds i true).getD j false = (listed.getD j false || j == i) := by
  by_cases h : j = i
  · subst h; simp [hi]
  · simp only [Array.getD_eq_getD_getElem?, Array.getElem?_setIfInBounds_ne (fun c => h c.symm)]
    simp [h]

theorem wpAny_tame (hlen : vs.length = l.length) (ht : Tame l) {Q : Exit → Act → World → Prop} (a : Act)
    (hops : ∀ (i : Nat) (o : Oper) (v : Value), l[i]? = some o → vs[i]? = some v → opOK P l.toArray S o v (frm a l vs (fun j => decide (j < i))))
    (hq : ∀ w, S w → Q .normal (frm a l vs (fun _ => true)) w) :
    ∀ (fuel : Nat) (listed : Array Bool) (w : World), S w → listed.size = l.length → (List.range l.length).countP (fun j => !listed.getD j false) ≤ fuel →
      (∀ (j : Nat) (o : Oper), l[j]? = some o → listed.getD j false = true → ∀ e ∈ o.after, Region.binds .any e = true → listed.getD e.on false = true) →
      wpAny P .any l.toArray Q fuel listed (frm a l vs (fun j => listed.getD j false)) w := by
  have fin : ∀ (listed : Array Bool) (w : World), S w → (∀ j, j < l.length → listed.getD j false = true) → Q .normal (frm a l vs (fun j => listed.getD j false)) w := fun listed w hS hall => by
    have : frm a l vs (fun j => listed.getD j false) = frm a l vs (fun _ => true) :=
      act_ext (fun t => frm_agree hlen ht.apart a _ _ t (fun j o ho _ => hall j (List.getElem?_eq_some_iff.1 ho).1)) (by rw [frm_defers, frm_defers])
    rw [this]; exact hq w hS
  intro fuel
  induction fuel with
  | zero =>
    intro listed w hS hsz hc hcl
    have hall : ∀ j, j < l.length → listed.getD j false = true := fun j hj => by
      have h0 : (List.range l.length).countP (fun j => !listed.getD j false) = 0 := by omega
      have := List.countP_eq_zero.1 h0 j (List.mem_range.2 hj)
      simpa using this
    refine ⟨?_, fin listed w hS hall⟩
    apply List.eq_nil_iff_forall_not_mem.2
    intro j hj
    rw [mem_ready] at hj
    obtain ⟨h1, o, ho, _⟩ := hj
    have hjl : j < l.length := by
      have := (Array.getElem?_eq_some_iff.1 ho).1
      simpa using this
    have h2 := hall j hjl
    have : j < listed.size := by omega
    simp only [Array.getD_eq_getD_getElem?, Array.getElem?_eq_getElem this, Option.getD_some] at h1 h2
    rw [h1] at h2; cases h2
  | succ fuel ih =>
    intro listed w hS hsz hc hcl
    refine ⟨fun hr => fin listed w hS (all_listed ht hsz hr), fun i hi => ?_⟩
    rw [mem_ready] at hi
    obtain ⟨h1, o, ho, hdep⟩ := hi
    have ho' : l[i]? = some o := by simpa using ho
    have hil : i < l.length := (List.getElem?_eq_some_iff.1 ho').1
    have hib : i < listed.size := by omega
    have hif : listed.getD i false = false := by
      simp only [Array.getD_eq_getD_getElem?, Array.getElem?_eq_getElem hib, Option.getD_some] at h1 ⊢
      exact h1
    have hv : vs[i]? = some vs[i] := List.getElem?_eq_getElem (by omega)
    -- what stands behind
    have next : ∀ w', S w' → wpAny P .any l.toArray Q fuel (listed.setIfInBounds i true) ((frm a l vs (fun j => listed.getD j false)).put o.dst vs[i]) w' := fun w' hS' => by
      rw [frm_put hlen ht.apart a _ i o vs[i] ho' hv]
      have e : (fun j => listed.getD j false || j == i) = (fun j => (listed.setIfInBounds i true).getD j false) := funext fun j => (getD_set listed i j hib).symm
      rw [e]
      refine ih _ w' hS' (by simpa using hsz) ?_ (fun j oj hj hjt e' he hb => ?_)
      · have := countP_lt (p := fun j => !listed.getD j false) (q := fun j => !(listed.setIfInBounds i true).getD j false) (x := i) (List.range l.length) (List.mem_range.2 hil) (by simpa using hif)
          (by simp only [getD_set listed i _ hib]; simp) (fun y hy => by simp only [getD_set listed i _ hib] at hy; simp at hy ⊢; exact hy.1)
        omega
      · rw [getD_set _ _ _ hib] at hjt ⊢
        by_cases hji : j = i
        · subst hji
          rw [ho'] at hj; cases hj
          rw [hdep e' he hb]; rfl
        · have : listed.getD j false = true := by simpa [hji] using hjt
          rw [hcl j oj hj this e' he hb]; rfl
    -- the operation reads what it reads in the text's order
    have hread := reads_same (vs := vs) hlen ht a (fun j => listed.getD j false) (fun j => decide (j < i)) i o ho' (fun j oj t hj hne hd hlk => by
      rcases ht.looks i j o oj t ho' hj (fun c => hne c.symm) hd hlk with ⟨h2, h3⟩ | ⟨h2, h3⟩
      · obtain ⟨e, he, hb⟩ := Array.any_eq_true'.1 h2
        simp only [Bool.and_eq_true, beq_iff_eq] at hb
        have := hdep e he hb.1
        rw [hb.2] at this
        simp only [this, h3, decide_true]
      · have hjf : listed.getD j false = false := by
          cases hjt : listed.getD j false with
          | false => rfl
          | true =>
            obtain ⟨e, he, hb⟩ := Array.any_eq_true'.1 h2
            simp only [Bool.and_eq_true, beq_iff_eq] at hb
            have := hcl j oj hj hjt e he hb.1
            rw [hb.2, hif] at this; cases this
        simp only [hjf, show ¬ j < i by omega, decide_false])
    have hexec : execOp (frm a l vs (fun j => listed.getD j false)).eval o = execOp (frm a l vs (fun j => decide (j < i))).eval o := execOp_congr o (fun cs b => ht.sel i o cs b ho') hread.1
    unfold wpOp
    rw [ho]
    simp only
    rcases hops i o vs[i] ho' hv with ⟨hw, hwp⟩ | ⟨hw, hu⟩
    · rw [if_pos (by rw [hread.2]; exact hw)]
      left
      refine wp_frame (a := frm a l vs (fun j => decide (j < i))) (S := S) (v := vs[i]) hexec (by rw [frm_size, frm_size]) (hwp w hS _ (fun w' hS' => ⟨rfl, hS'⟩)) next
    · rw [if_neg (by rw [hread.2, hw]; simp), ← hu]
      exact next w hS

theorem wp_region_tame {id : Nat} {Q : Exit → Act → World → Prop} {a : Act} {w : World} (S : World → Prop) (hm : P.follows .mixedOrders = true) (hchk : tameOK l = true) (hS : S w.drew)
    (h : tw P l.toArray S (Q .normal) l a) : (Code.region id l.toArray true).wp P Q a w := by
  have ht := tame_of hchk
  obtain ⟨vs, hlen, hops, hq⟩ := tw_vals l a h
  refine wp_region_any hm ?_
  have e0 : frm a l vs (fun j => (Array.replicate l.toArray.size false).getD j false) = a := by
    unfold frm
    refine putSel_false _ _ (fun x hx => ?_)
    obtain ⟨y, _, rfl⟩ := List.mem_map.1 hx
    simp only [Array.getD_eq_getD_getElem?, Array.getElem?_replicate]
    split <;> rfl
  have := wpAny_tame (P := P) (S := S) hlen ht (Q := Q) a (fun i o v ho hv => by rw [← frm_pre]; exact hops i o v ho hv) (fun w' hS' => by rw [← frm_all]; exact hq w' hS')
    l.toArray.size (Array.replicate l.toArray.size false) w.drew hS (by simp) (by
      refine Nat.le_trans (List.countP_le_length) (by simp)) (fun j o _ hjt => by
      simp only [Array.getD_eq_getD_getElem?, Array.getElem?_replicate] at hjt
      split at hjt <;> simp at hjt)
  rw [e0] at this
  exact this

/-! ### The steps, as the walk takes them: the guard is looked up in the lists -/
section
variable {P : Program} {L : List Oper} {S : World → Prop} {Qn : Act → World → Prop} {o : Oper} {rest : List Oper} {T : List Value} {df : List Deferred}
theorem yielded_list (j t : Nat) (ht : (L[j]?).bind (·.dst) = some t) : yielded L.toArray T.toArray j = match T[t]? with | some (.bool b) => some b | _ => none := by
  unfold yielded
  simp only [List.getElem?_toArray, ht, Option.bind_some]
  rfl
theorem tw_skip_g (j t : Nat) (b : Bool) (hg : o.guard = some (j, b)) (ht : (L[j]?).bind (·.dst) = some t) (hv : T[t]? = some (.bool (!b)))
    (hr : tw P L.toArray S Qn rest ((⟨T.toArray, df⟩ : Act).put o.dst undef)) : tw P L.toArray S Qn (o :: rest) ⟨T.toArray, df⟩ := by
  refine tw_skip ?_ hr
  simp only [Region.wanted, hg, yielded_list j t ht, hv]
  cases b <;> rfl
theorem tw_cons_n (hg : o.guard = none) (v : Value) (h : ∀ w, S w → ∀ R : Value → World → Prop, (∀ w', S w' → R v w') → ∀ K : Act → World → Prop, (∀ u w', R u w' → K ((⟨T.toArray, df⟩ : Act).put o.dst u) w') → o.wp P ⟨T.toArray, df⟩ w K QNo)
    (hr : tw P L.toArray S Qn rest ((⟨T.toArray, df⟩ : Act).put o.dst v)) : tw P L.toArray S Qn (o :: rest) ⟨T.toArray, df⟩ :=
  tw_cons v (by simp only [Region.wanted, hg]) (fun w hS K hK => h w hS (fun u w' => K ((⟨T.toArray, df⟩ : Act).put o.dst u) w') hK K (fun _ _ hu => hu)) hr
structure TW (P : Program) (ops : Array Oper) (S : World → Prop) (Qn : Act → World → Prop) (rest : List Oper) (a : Act) : Prop where
  out : tw P ops S Qn rest a
theorem TW.skip_g (j t : Nat) (b : Bool) (hg : o.guard = some (j, b)) (ht : (L[j]?).bind (·.dst) = some t) (hv : T[t]? = some (.bool (!b)))
    (hr : TW P L.toArray S Qn rest ((⟨T.toArray, df⟩ : Act).put o.dst undef)) : TW P L.toArray S Qn (o :: rest) ⟨T.toArray, df⟩ := ⟨tw_skip_g j t b hg ht hv hr.out⟩
theorem TW.cons_n (hg : o.guard = none) (v : Value) (h : ∀ w, S w → ∀ R : Value → World → Prop, (∀ w', S w' → R v w') → ∀ K : Act → World → Prop, (∀ u w', R u w' → K ((⟨T.toArray, df⟩ : Act).put o.dst u) w') → o.wp P ⟨T.toArray, df⟩ w K QNo)
    (hr : TW P L.toArray S Qn rest ((⟨T.toArray, df⟩ : Act).put o.dst v)) : TW P L.toArray S Qn (o :: rest) ⟨T.toArray, df⟩ := ⟨tw_cons_n hg v h hr.out⟩
theorem TW.nil {a : Act} (h : ∀ w, S w → Qn a w) : TW P L.toArray S Qn [] a := ⟨tw_nil h⟩
theorem TW.region {id : Nat} {Q : Exit → Act → World → Prop} {a : Act} {w : World} {l : List Oper} (S : World → Prop) (hm : P.follows .mixedOrders = true) (hchk : tameOK l = true) (hS : S w.drew)
    (h : TW P l.toArray S (Q .normal) l a) : (Code.region id l.toArray true).wp P Q a w := wp_region_tame S hm hchk hS h.out
end
end
end
theorem follows : Tryz.prog.follows .mixedOrders = true := by kernel_rfl
end Go.Proofs.YtomehdepjenilaaGreat
