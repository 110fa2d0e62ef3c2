/-
  A region that draws its order: operations whose order has no part in what they hand back, then some that wait for all of them. No statement of the seat stands here.
-/
import Derived.Test.YtomehdepjenilaaGreatTame
import Derived.StillTail
namespace Go.Proofs.YtomehdepjenilaaGreat
open Go.RowKit
section
variable {P : Program} {S : World → Prop} {l : List Oper} {vs : List Value}
def headAll (n m : Nat) : Array Bool := Array.replicate n true ++ Array.replicate (m - n) false
theorem headAll_size {n m : Nat} (h : n ≤ m) : (headAll n m).size = m := by simp [headAll]; omega
theorem headAll_get (n m j : Nat) : (headAll n m).getD j false = decide (j < n) := by
  unfold headAll
  rw [Array.getD_eq_getD_getElem?, Array.getElem?_append]
  by_cases h : j < n
  · simp [h]
  · simp only [Array.size_replicate, h, if_false, decide_false, Array.getElem?_replicate]
    split <;> rfl
end
section
variable {P : Program} {S : World → Prop} {l : List Oper} {vs : List Value}
def chain2B (ops : Array Oper) (n : Nat) : Bool := (List.range ops.size).all fun t => decide (t ≤ n) || (List.range t).any fun j => decide (n ≤ j) && Region.waitsFor .any ops t j
theorem bar_waits {ops : Array Oper} {n : Nat} {listed : Array Bool} (hs : Region.sinkB .any ops n = true) (hc : chain2B ops n = true) (hn : n < ops.size) (inv : HeadInv .any ops n listed) :
    ∀ (d i : Nat), n - i = d → i < n → listed.getD i true = false → ∀ t, n ≤ t → t ∉ Region.ready .any ops listed := by
  intro d
  induction d using Nat.strongRecOn with
  | _ d ih =>
    intro i hd hi hun t ht hr
    obtain ⟨_, ot, hot, hall⟩ := mem_ready.1 hr
    have htlt : t < ops.size := (Array.getElem?_eq_some_iff.1 hot).1
    by_cases htn : t = n
    · subst htn
      have h1 := List.all_eq_true.1 hs i (List.mem_range.2 hi)
      obtain ⟨j, hj, hj2⟩ := List.any_eq_true.1 h1
      simp only [Bool.and_eq_true, decide_eq_true_eq] at hj2
      obtain ⟨oj, hoj, e, he, hb, hon⟩ := Region.waitsFor_spec hj2.2
      have hjle : j ≤ t := by have := List.mem_range.1 hj; omega
      by_cases hjt : j = t
      · subst hjt
        have : oj = ot := Option.some.inj (hoj.symm.trans hot)
        subst this
        have h2 := hall e he hb
        rw [hon, getD_both hun] at h2
        cases h2
      · cases hl : listed.getD j false with
        | true =>
          have h2 := inv.closed j oj hoj hl e he hb
          rw [hon, getD_both hun] at h2
          cases h2
        | false =>
          have hjs : j < listed.size := by rw [inv.size]; omega
          exact ih (t - j) (by omega) j rfl (by omega) (getD_in hjs hl) t (Nat.le_refl _) hr
    · have h1 := List.all_eq_true.1 hc t (List.mem_range.2 htlt)
      simp only [Bool.or_eq_true, decide_eq_true_eq] at h1
      rcases h1 with h1 | h1
      · omega
      · obtain ⟨j, hj, hj2⟩ := List.any_eq_true.1 h1
        simp only [Bool.and_eq_true, decide_eq_true_eq] at hj2
        obtain ⟨o', ho', e, he, hb, hon⟩ := Region.waitsFor_spec hj2.2
        have : o' = ot := Option.some.inj (ho'.symm.trans hot)
        subst this
        have h2 := hall e he hb
        have hjl := List.mem_range.1 hj
        rw [hon, getD_both (inv.tail j hj2.1 (by omega))] at h2
        cases h2
theorem wpAny_piece (hlen : vs.length = l.length) (ht : Tame l) {n1 n2 : Nat} (hn : n2 ≤ l.length) (hb : n2 < l.length → Region.sinkB .any l.toArray n2 = true ∧ chain2B l.toArray n2 = true) {Q : Exit → Act → World → Prop} (a : Act)
    (hops : ∀ (i : Nat) (o : Oper) (v : Value), n1 ≤ i → i < n2 → l[i]? = some o → vs[i]? = some v → opOK P l.toArray S o v (frm a l vs (fun j => decide (n1 ≤ j) && decide (j < i))))
    (hq : ∀ w, S w → wpAny P .any l.toArray Q (l.length - n2) (headAll n2 l.length) (frm a l vs (fun j => decide (n1 ≤ j) && decide (j < n2))) w) :
    ∀ (fuel : Nat) (listed : Array Bool) (w : World), S w → HeadInv .any l.toArray n2 listed → (∀ j, j < n1 → listed.getD j false = true) → (List.range n2).countP (fun j => !listed.getD j false) = fuel →
      wpAny P .any l.toArray Q (fuel + (l.length - n2)) listed (frm a l vs (fun j => decide (n1 ≤ j) && listed.getD j false)) w := by
  intro fuel
  induction fuel with
  | zero =>
    intro listed w hS inv _ hc0
    have hall : ∀ j, j < n2 → listed.getD j false = true := fun j hj => by
      have := List.countP_eq_zero.1 hc0 j (List.mem_range.2 hj)
      simpa using this
    have htl : ∀ j, n2 ≤ j → listed.getD j false = false := fun j hj => by
      rcases Nat.lt_or_ge j l.length with h | h
      · exact getD_both (inv.tail j hj (by simpa using h))
      · have : listed.size ≤ j := by rw [inv.size]; simpa using h
        simp [Array.getElem?_eq_none this]
    have he : listed = headAll n2 l.length := by
      apply Array.ext
      · rw [inv.size, headAll_size hn]; simp
      · intro j h1 h2
        have e1 : listed.getD j false = listed[j] := by simp [h1]
        have e2 : (headAll n2 l.length).getD j false = (headAll n2 l.length)[j] := by simp [h2]
        rw [← e1, ← e2, headAll_get]
        by_cases hj : j < n2
        · rw [hall j hj]; simp [hj]
        · rw [htl j (by omega)]; simp [hj]
    have hf : frm a l vs (fun j => decide (n1 ≤ j) && listed.getD j false) = frm a l vs (fun j => decide (n1 ≤ j) && decide (j < n2)) := by
      refine congrArg (frm a l vs) (funext fun j => ?_)
      rw [he, headAll_get]
    rw [hf, Nat.zero_add, he]
    exact hq w hS
  | succ fuel ih =>
    intro listed w hS inv hpre hc1
    have hex : ∃ i, i < n2 ∧ listed.getD i false = false := by
      have h0 : 0 < (List.range n2).countP (fun j => !listed.getD j false) := by omega
      obtain ⟨i, hi, hp⟩ := List.countP_pos_iff.1 h0
      exact ⟨i, List.mem_range.1 hi, by simpa using hp⟩
    obtain ⟨i0, hi0, hf0⟩ := hex
    have hsz : listed.size = l.length := by rw [inv.size]; simp
    rw [show fuel + 1 + (l.length - n2) = (fuel + (l.length - n2)) + 1 by omega]
    refine ⟨fun hr => ?_, fun i hi => ?_⟩
    · have := all_listed ht hsz hr i0 (by omega)
      rw [hf0] at this; cases this
    · have hin : i < n2 := by
        rcases Nat.lt_or_ge i n2 with h | h
        · exact h
        · have hil : i < l.length := by
            obtain ⟨_, o, ho, _⟩ := mem_ready.1 hi
            have := (Array.getElem?_eq_some_iff.1 ho).1
            simpa using this
          have hb2 := hb (by omega)
          exact absurd hi (bar_waits hb2.1 hb2.2 (by simp; omega) inv _ i0 rfl hi0 (getD_in (by omega) hf0) i h)
      have hinv := inv.set hi hin
      rw [mem_ready] at hi
      obtain ⟨h1, o, ho, hdep⟩ := hi
      have ho' : l[i]? = some o := by simpa using ho
      have hib : i < listed.size := by omega
      have hif : listed.getD i false = false := by
        simp only [Array.getD_eq_getD_getElem?, Array.getElem?_eq_getElem hib, Option.getD_some] at h1 ⊢
        exact h1
      have hin1 : n1 ≤ i := by
        rcases Nat.lt_or_ge i n1 with h | h
        · rw [hpre i h] at hif; cases hif
        · exact h
      have hv : vs[i]? = some vs[i] := List.getElem?_eq_getElem (by omega)
      have next : ∀ w', S w' → wpAny P .any l.toArray Q (fuel + (l.length - n2)) (listed.setIfInBounds i true) ((frm a l vs (fun j => decide (n1 ≤ j) && listed.getD j false)).put o.dst vs[i]) w' := fun w' hS' => by
        rw [frm_put hlen ht.apart a _ i o vs[i] ho' hv]
        have e : (fun j => (decide (n1 ≤ j) && listed.getD j false) || j == i) = (fun j => decide (n1 ≤ j) && (listed.setIfInBounds i true).getD j false) := funext fun j => by
          rw [getD_set listed i j hib]
          by_cases hji : j = i
          · subst hji; simp [hin1]
          · rw [beq_eq_false_iff_ne.2 hji, Bool.or_false, Bool.or_false]
        rw [e]
        refine ih _ w' hS' hinv (fun j hj => by rw [getD_set listed i j hib, hpre j hj]; rfl) ?_
        have h2 : ∀ m, i < m → (List.range m).countP (fun j => !listed.getD j false) = (List.range m).countP (fun j => !(listed.setIfInBounds i true).getD j false) + 1 := by
          intro m
          induction m with
          | zero => intro h; omega
          | succ m ihm =>
            intro hm
            rw [List.range_succ, List.countP_append, List.countP_append, List.countP_singleton, List.countP_singleton]
            by_cases hmi : m = i
            · subst hmi
              have h3 : (List.range m).countP (fun j => !listed.getD j false) = (List.range m).countP (fun j => !(listed.setIfInBounds m true).getD j false) := by
                refine List.countP_congr fun j hj => ?_
                have : j ≠ m := by have := List.mem_range.1 hj; omega
                rw [getD_set listed m j hib]
                simp [this]
              rw [h3, getD_set listed m m hib, hif]
              simp
            · rw [ihm (by omega), getD_set listed i m hib]
              have : (m == i) = false := by simpa using hmi
              rw [this, Bool.or_false]
              omega
        have := h2 n2 hin
        omega
      have hread := reads_same (vs := vs) hlen ht a (fun j => decide (n1 ≤ j) && listed.getD j false) (fun j => decide (n1 ≤ j) && decide (j < i)) i o ho' (fun j oj t hj hne hd hlk => by
        rcases ht.looks i j o oj t ho' hj (fun c => hne c.symm) hd hlk with ⟨h2, h3⟩ | ⟨h2, h3⟩
        · obtain ⟨e, he, hb⟩ := Array.any_eq_true'.1 h2
          simp only [Bool.and_eq_true, beq_iff_eq] at hb
          have := hdep e he hb.1
          rw [hb.2] at this
          simp only [this, h3, decide_true]
        · have hjf : listed.getD j false = false := by
            cases hjt : listed.getD j false with
            | false => rfl
            | true =>
              obtain ⟨e, he, hb⟩ := Array.any_eq_true'.1 h2
              simp only [Bool.and_eq_true, beq_iff_eq] at hb
              have := inv.closed j oj (by simpa using hj) hjt e he hb.1
              rw [hb.2, hif] at this; cases this
          simp only [hjf, show ¬ j < i by omega, decide_false])
      have hexec : execOp (frm a l vs (fun j => decide (n1 ≤ j) && listed.getD j false)).eval o = execOp (frm a l vs (fun j => decide (n1 ≤ j) && decide (j < i))).eval o := execOp_congr o (fun cs b => ht.sel i o cs b ho') hread.1
      unfold wpOp
      rw [ho]
      simp only
      rcases hops i o vs[i] hin1 hin ho' hv with ⟨hw, hwp⟩ | ⟨hw, hu⟩
      · rw [if_pos (by rw [hread.2]; exact hw)]
        left
        refine wp_frame (a := frm a l vs (fun j => decide (n1 ≤ j) && decide (j < i))) (S := S) (v := vs[i]) hexec (by rw [frm_size, frm_size]) (hwp w hS _ (fun w' hS' => ⟨rfl, hS'⟩)) next
      · rw [if_neg (by rw [hread.2, hw]; simp), ← hu]
        exact next w hS
structure Rest (P : Program) (l : List Oper) (Q : Exit → Act → World → Prop) (n : Nat) (a : Act) (w : World) : Prop where
  out : wpAny P .any l.toArray Q (l.length - n) (headAll n l.length) a w
theorem Rest.region {id : Nat} {Q : Exit → Act → World → Prop} {a : Act} {w : World} (hm : P.follows .mixedOrders = true) (h : Rest P l Q 0 a w.drew) : (Code.region id l.toArray true).wp P Q a w := by
  refine wp_region_any hm ?_
  have := h.out
  rw [Nat.sub_zero] at this
  have e : headAll 0 l.length = Array.replicate l.toArray.size false := by simp [headAll]
  rw [e] at this
  simpa using this
theorem Rest.done {Q : Exit → Act → World → Prop} {a : Act} {w : World} (h : Q .normal a w) : Rest P l Q l.length a w := by
  refine ⟨?_⟩
  rw [Nat.sub_self]
  refine ⟨?_, h⟩
  apply List.eq_nil_iff_forall_not_mem.2
  intro j hj
  obtain ⟨h1, o, ho, _⟩ := mem_ready.1 hj
  have hjl : j < l.length := by
    have := (Array.getElem?_eq_some_iff.1 ho).1
    simpa using this
  have h2 : (headAll l.length l.length).getD j false = true := by rw [headAll_get]; simp [hjl]
  rw [getD_both h1] at h2
  cases h2
theorem Rest.seq {Q : Exit → Act → World → Prop} {a : Act} {w : World} {n : Nat} (hsq : Region.seqB .any l.toArray (l.length - n) n (headAll n l.length) = true) (h : wpList P l.toArray Q (l.drop n) a w) : Rest P l Q n a w := by
  refine ⟨?_⟩
  have h1 := wpAny_of_seq (P := P) (md := .any) (ops := l.toArray) (Q' := Q) (l.drop n) n (headAll n l.length) a w (fun j => by simp [List.getElem?_drop]) (by rw [List.length_drop]; exact hsq) h
  rwa [List.length_drop] at h1
def pieceB (l : List Oper) (n1 n2 : Nat) : Bool := tameOK l && decide (n1 ≤ n2) && decide (n2 ≤ l.length) && (decide (n2 = l.length) || (Region.sinkB .any l.toArray n2 && chain2B l.toArray n2))
theorem frm_mid (a : Act) {n1 : Nat} {vs0 : List Value} (k : Nat) (m : Nat) (hvs : vs = List.replicate n1 undef ++ (vs0 ++ List.replicate m undef)) (hn : n1 + vs0.length + m = l.length) (hk : k ≤ vs0.length) :
    putSel a ((((l.drop n1).take vs0.length).zip vs0).take k |>.map fun x => (x.1, x.2, true)) = frm a l vs (fun j => decide (n1 ≤ j) && decide (j < n1 + k)) := by
  unfold frm
  have e : ((l.zip vs).zipIdx.map fun x => (x.1.1, x.1.2, decide (n1 ≤ x.2) && decide (x.2 < n1 + k))) =
      ((l.zip vs).take n1 |>.map fun x => (x.1, x.2, false)) ++ (((((l.drop n1).take vs0.length).zip vs0).take k |>.map fun x => (x.1, x.2, true)) ++ ((l.zip vs).drop (n1 + k) |>.map fun x => (x.1, x.2, false))) := by
    have hlen : vs.length = l.length := by rw [hvs]; simp; omega
    apply List.ext_getElem?
    intro i
    have hz : (l.zip vs).length = l.length := by simp [hlen]
    rcases Nat.lt_or_ge i l.length with hi | hi
    · have hl : (List.map (fun x => (x.1.1, x.1.2, decide (n1 ≤ x.2) && decide (x.2 < n1 + k))) (l.zip vs).zipIdx)[i]? = some (l[i], vs[i]'(by omega), decide (n1 ≤ i) && decide (i < n1 + k)) := by
        rw [List.getElem?_map, List.getElem?_zipIdx, List.getElem?_eq_getElem (by omega)]
        simp
      rw [hl]
      have hl1 : ((l.zip vs).take n1 |>.map fun x => (x.1, x.2, false)).length = n1 := by simp; omega
      have hl2 : ((((l.drop n1).take vs0.length).zip vs0).take k |>.map fun x => (x.1, x.2, true)).length = k := by simp; omega
      by_cases h1 : i < n1
      · rw [List.getElem?_append_left (by omega), List.getElem?_map, List.getElem?_take, if_pos h1, List.getElem?_eq_getElem (by omega)]
        simp; omega
      · rw [List.getElem?_append_right (by omega), hl1]
        by_cases h2 : i < n1 + k
        · rw [List.getElem?_append_left (by omega), List.getElem?_map, List.getElem?_take, if_pos (by omega)]
          have h3 : i - n1 < ((List.take vs0.length (List.drop n1 l)).zip vs0).length := by simp; omega
          have h4 : vs[i]'(by omega) = vs0[i - n1]'(by omega) := by
            simp only [hvs]
            rw [List.getElem_append_right (by simp; omega), List.getElem_append_left (by simp; omega)]
            simp
          rw [List.getElem?_eq_getElem h3, h4]
          simp [show n1 + (i - n1) = i by omega]
          omega
        · rw [List.getElem?_append_right (by omega), hl2, List.getElem?_map, List.getElem?_drop, show n1 + k + (i - n1 - k) = i by omega, List.getElem?_eq_getElem (by omega)]
          simp; omega
    · rw [List.getElem?_eq_none (by simp; omega), List.getElem?_eq_none (by simp; omega)]
  rw [e, putSel_append, putSel_append, putSel_false ((l.zip vs).take n1 |>.map fun x => (x.1, x.2, false)) a (by intro x hx; obtain ⟨y, _, rfl⟩ := List.mem_map.1 hx; rfl)]
  exact (putSel_false _ _ (by intro x hx; obtain ⟨y, _, rfl⟩ := List.mem_map.1 hx; rfl)).symm
theorem Rest.tame {Q : Exit → Act → World → Prop} {a : Act} {w : World} {n1 : Nat} (n2 : Nat) (S : World → Prop) (hchk : pieceB l n1 n2 = true) (hS : S w) (h : TW P l.toArray S (fun a' w' => Rest P l Q n2 a' w') ((l.drop n1).take (n2 - n1)) a) : Rest P l Q n1 a w := by
  simp only [pieceB, Bool.and_eq_true, decide_eq_true_eq, Bool.or_eq_true] at hchk
  obtain ⟨⟨⟨ht, h12⟩, hn⟩, hb⟩ := hchk
  have ht := tame_of ht
  obtain ⟨vs0, hlen0, hops, hq⟩ := tw_vals ((l.drop n1).take (n2 - n1)) a h.out
  have hl0 : vs0.length = n2 - n1 := by rw [hlen0, List.length_take, List.length_drop]; omega
  obtain ⟨vs, hvs⟩ : ∃ vs, vs = List.replicate n1 undef ++ (vs0 ++ List.replicate (l.length - n2) undef) := ⟨_, rfl⟩
  have hlen : vs.length = l.length := by rw [hvs]; simp; omega
  have hmid := fun k (hk : k ≤ vs0.length) => frm_mid (l := l) a (n1 := n1) (vs0 := vs0) k (l.length - n2) hvs (by omega) hk
  rw [hl0] at hmid
  refine ⟨?_⟩
  have := wpAny_piece (P := P) (S := S) (n1 := n1) hlen ht hn (fun h2 => by rcases hb with hb | hb; omega; exact hb) (Q := Q) a (fun i o v hi1 hi2 ho hv => by
      have h1 := hops (i - n1) o v (by rw [List.getElem?_take, if_pos (by omega), List.getElem?_drop, show n1 + (i - n1) = i by omega]; exact ho) (by
        have e3 : i = (List.replicate n1 undef).length + (i - n1) := by rw [List.length_replicate]; omega
        rw [hvs, e3, List.getElem?_append_right (Nat.le_add_right _ _), Nat.add_sub_cancel_left, List.getElem?_append_left (by omega)] at hv
        exact hv)
      rw [hmid (i - n1) (by omega), show n1 + (i - n1) = i by omega] at h1
      exact h1) (fun w' hS' => by
      have h1 := (hq w' hS').out
      have h2 : ((l.drop n1).take (n2 - n1)).zip vs0 = (((l.drop n1).take (n2 - n1)).zip vs0).take (n2 - n1) := (List.take_of_length_le (by rw [List.length_zip, hl0]; omega)).symm
      rw [h2, hmid (n2 - n1) (by omega), show n1 + (n2 - n1) = n2 by omega] at h1
      exact h1)
    (n2 - n1) (headAll n1 l.length) w hS ⟨by rw [headAll_size (by omega)]; simp, fun j oj hj hl e he hbd => by
      rw [headAll_get] at hl ⊢
      have h1 := ht.back j oj (by simpa using hj) e he hbd
      simp only [decide_eq_true_eq] at hl ⊢
      omega, fun t ht1 ht2 => getD_in (by rw [headAll_size (by omega)]; simpa using ht2) (by rw [headAll_get]; exact decide_eq_false (by omega))⟩ (fun j hj => by rw [headAll_get]; simpa using hj) (by
      have h3 : ∀ m, n1 ≤ m → (List.range m).countP (fun j => !(headAll n1 l.length).getD j false) = m - n1 := by
        intro m
        induction m with
        | zero => intro h; simp
        | succ m ihm =>
          intro hm
          rw [List.range_succ, List.countP_append, List.countP_singleton, headAll_get]
          by_cases h4 : m < n1
          · have : n1 = m + 1 := by omega
            subst this
            have h5 : (List.range m).countP (fun j => !(headAll (m + 1) l.length).getD j false) = 0 := by
              refine List.countP_eq_zero.2 fun j hj => ?_
              have := List.mem_range.1 hj
              rw [headAll_get]; simp; omega
            rw [h5]; simp
          · rw [ihm (by omega)]
            simp [h4]
            omega
      exact h3 n2 h12)
  have e1 : n2 - n1 + (l.length - n2) = l.length - n1 := by omega
  have e2 : frm a l vs (fun j => decide (n1 ≤ j) && (headAll n1 l.length).getD j false) = a := by
    unfold frm
    refine putSel_false _ _ (fun x hx => ?_)
    obtain ⟨y, _, rfl⟩ := List.mem_map.1 hx
    simp only [headAll_get]
    by_cases h5 : n1 ≤ y.2 <;> simp [h5]
  rw [e1, e2] at this
  exact this
end
section
variable {P : Program} {S : World → Prop} {l : List Oper} {vs : List Value}
def tl (P : Program) (ops : Array Oper) (S : World → Prop) (Qn : Act → Prop) : List Oper → Act → Prop
  | [], a => Qn a
  | o :: rest, a => if Region.wanted o (yielded ops a.tmps) then ∃ v, (∀ w, S w → ∀ K : Act → World → Prop, K (a.put o.dst v) w → o.wp P a w K QNo) ∧ tl P ops S Qn rest (a.put o.dst v)
      else tl P ops S Qn rest (a.put o.dst undef)
theorem putSel_congr : ∀ (L1 L2 : List (Oper × Value × Bool)) (a : Act), L1.length = L2.length → (∀ (i : Nat) (x y : Oper × Value × Bool), L1[i]? = some x → L2[i]? = some y → x.1 = y.1 ∧ x.2.2 = y.2.2 ∧ (x.2.2 = true → x.2.1 = y.2.1)) → putSel a L1 = putSel a L2
  | [], [], _, _, _ => rfl
  | [], _ :: _, _, h, _ => by simp at h
  | _ :: _, [], _, h, _ => by simp at h
  | (o, v, b) :: r, (o', v', b') :: r', a, h, hc => by
    obtain ⟨h1, h2, h3⟩ := hc 0 _ _ rfl rfl
    simp only at h1 h2 h3
    subst h1
    subst h2
    have ih := putSel_congr r r' (if b then a.put o.dst v else a) (by simpa using h) (fun i x y hx hy => hc (i + 1) x y (by simpa using hx) (by simpa using hy))
    rw [putSel, putSel, ih]
    cases b with
    | false => rfl
    | true => rw [h3 rfl]
theorem frm_vs {vs' : List Value} (a : Act) (m : Nat → Bool) (h1 : vs.length = l.length) (h2 : vs'.length = l.length) (h : ∀ j, m j = true → vs[j]? = vs'[j]?) : frm a l vs m = frm a l vs' m := by
  unfold frm
  refine putSel_congr _ _ _ (by simp [h1, h2]) fun i x y hx hy => ?_
  rw [frm_list] at hx hy
  split at hx
  · rename_i o v ho hv
    cases hx
    rw [ho] at hy
    split at hy
    · rename_i o' v' ho' hv'
      cases ho'
      cases hy
      refine ⟨rfl, rfl, fun hm => ?_⟩
      have := h i hm
      rw [hv, hv'] at this
      exact Option.some.inj this
    · cases hy
  · cases hx
theorem wp_frameB {o : Oper} {a b : Act} {w : World} {T : Value → World → Prop} {Q : Exit → Act → World → Prop} {next : Act → World → Prop} (he : execOp b.eval o = execOp a.eval o) (hsz : b.tmps.size = a.tmps.size)
    (h : o.wp P a w (fun a' w' => ∃ u, a' = a.put o.dst u ∧ T u w') QNo) (hn : ∀ u w', T u w' → next (b.put o.dst u) w') : o.wp P b w next Q := by
  unfold Oper.wp at *
  rw [he]
  generalize (execOp a.eval o).run P w = r at *
  cases r with
  | ok n w' =>
    cases n with
    | value u =>
      simp only [Oper.upon] at h ⊢
      obtain ⟨u', h1, h2⟩ := h
      rw [put_inj h1 hsz]; exact hn _ _ h2
    | skip =>
      simp only [Oper.upon] at h ⊢
      obtain ⟨u', h1, h2⟩ := h
      rw [put_inj h1 hsz]; exact hn _ _ h2
    | defer d =>
      simp only [Oper.upon] at h
      obtain ⟨u', h1, _⟩ := h
      have := congrArg (fun x : Act => x.defers.length) h1
      simp [put_defers'] at this
    | enter f args =>
      simp only [Oper.upon] at h ⊢
      refine Calls.mono h (fun e w'' hx => ?_)
      cases e with
      | returned u =>
        simp only at hx ⊢
        obtain ⟨u', h1, h2⟩ := hx
        rw [put_inj h1 hsz]; exact hn _ _ h2
      | panicked c => exact (hx : False).elim
      | outgrown => obtain ⟨_, _, hx⟩ := hx; exact (hx : False).elim
    | row row args =>
      simp only [Oper.upon] at h ⊢
      refine Rows.mono h (fun u w'' hx => ?_)
      obtain ⟨u', h1, h2⟩ := hx
      rw [put_inj h1 hsz]; exact hn _ _ h2
    | _ => exact (h : False).elim
  | halt x w' => cases x <;> simp only [Oper.upon] at h <;> exact (h : False).elim
theorem frm_put' (ht : Tame l) (a : Act) (m : Nat → Bool) (i : Nat) (o : Oper) (u : Value) (hlen : vs.length = l.length) (ho : l[i]? = some o) (hm : m i = false) :
    (frm a l vs m).put o.dst u = frm a l (vs.set i u) (fun j => m j || j == i) := by
  have hl2 : (vs.set i u).length = l.length := by simp [hlen]
  have hi : i < l.length := (List.getElem?_eq_some_iff.1 ho).1
  rw [frm_vs (vs' := vs.set i u) a m hlen hl2 (fun j hj => by
    rw [List.getElem?_set]
    split
    · rename_i h; subst h; rw [hm] at hj; cases hj
    · rfl)]
  exact frm_put hl2 ht.apart a m i o u ho (by rw [List.getElem?_set]; simp [hlen, hi])
theorem count_set {listed : Array Bool} {i : Nat} (hib : i < listed.size) (hif : listed.getD i false = false) : ∀ m, i < m → (List.range m).countP (fun j => !listed.getD j false) = (List.range m).countP (fun j => !(listed.setIfInBounds i true).getD j false) + 1 := by
  intro m
  induction m with
  | zero => intro h; omega
  | succ m ihm =>
    intro hm
    rw [List.range_succ, List.countP_append, List.countP_append, List.countP_singleton, List.countP_singleton]
    by_cases hmi : m = i
    · subst hmi
      have h3 : (List.range m).countP (fun j => !listed.getD j false) = (List.range m).countP (fun j => !(listed.setIfInBounds m true).getD j false) := by
        refine List.countP_congr fun j hj => ?_
        have : j ≠ m := by have := List.mem_range.1 hj; omega
        rw [getD_set listed m j hib]
        simp [this]
      rw [h3, getD_set listed m m hib, hif]
      simp
    · rw [ihm (by omega), getD_set listed i m hib]
      have : (m == i) = false := by simpa using hmi
      rw [this, Bool.or_false]
      omega
end
end Go.Proofs.YtomehdepjenilaaGreat
