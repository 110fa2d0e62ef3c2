/-
  A region that draws its order: operations whose order has no part in what they hand back, then some that wait for all of them. No statement of the seat stands here.
-/
import Derived.Test.YtaehkbbdmamfpaaGreatDoorTame
import Derived.StillTail
namespace Go.Proofs.YtaehkbbdmamfpaaGreatDoor
open Go.RowKit
section
variable {P : Program} {S : World -> Prop} {l : List Oper} {vs : List Value}
def zaS (n m : Nat) : Array Bool := Array.replicate n true ++ Array.replicate (m - n) false
theorem zbM {n m : Nat} (h : n <= m) : (zaS n m).size = m := by simp [zaS]; omega
theorem zba (n m j : Nat) : (zaS n m).getD j false = decide (j < n) := by
 unfold zaS
 rw [Array.getD_eq_getD_getElem?, Array.getElem?_append]
 by_cases h : j < n
 · simp [h]
 ·
  simp only [Array.size_replicate, h, if_false, decide_false, Array.getElem?_replicate]
  split <;> rfl
end
section
variable {P : Program} {S : World -> Prop} {l : List Oper} {vs : List Value}
def chain2B (ops : Array Oper) (n : Nat) : Bool := (List.range ops.size).all fun t => decide (t <= n) || (List.range t).any fun j => decide (n <= j) && Region.waitsFor .any ops t j
theorem bar_waits {ops : Array Oper} {n : Nat} {listed : Array Bool} (hs : Region.sinkB .any ops n = true) (hc : chain2B ops n = true) (hn : n < ops.size) (inv : HeadInv .any ops n listed) :
 ∀ (d i : Nat), n - i = d -> i < n -> listed.getD i true = false -> ∀ t, n <= t -> t ∉ Region.ready .any ops listed := by
 intro d
 induction d using Nat.strongRecOn with
 | _ d ih =>
  intro i hd hi hun t ht hr
  obtain ⟨_, ot, hot, hall⟩ := mem_ready.1 hr
  have htlt : t < ops.size := (Array.getElem?_eq_some_iff.1 hot).1
  by_cases htn : t = n
  ·
   subst htn
   have h1 := List.all_eq_true.1 hs i (List.mem_range.2 hi)
   obtain ⟨j, hj, hj2⟩ := List.any_eq_true.1 h1
   simp only [Bool.and_eq_true, decide_eq_true_eq] at hj2
   obtain ⟨oj, hoj, e, he, hb, hon⟩ := Region.waitsFor_spec hj2.2
   have hjle : j <= t := by have := List.mem_range.1 hj; omega
   by_cases hjt : j = t
   ·
    subst hjt
    have : oj = ot := Option.some.inj (hoj.symm.trans hot)
    subst this
    have h2 := hall e he hb
    rw [hon, getD_both hun] at h2
    cases h2
   ·
    cases hl : listed.getD j false with
    | true =>
     have h2 := inv.closed j oj hoj hl e he hb
     rw [hon, getD_both hun] at h2
     cases h2
    | false =>
     have hjs : j < listed.size := by rw [inv.size]; omega
     exact ih (t - j) (by omega) j rfl (by omega) (getD_in hjs hl) t (Nat.le_refl _) hr
  ·
   have h1 := List.all_eq_true.1 hc t (List.mem_range.2 htlt)
   simp only [Bool.or_eq_true, decide_eq_true_eq] at h1
   rcases h1 with h1 | h1
   · omega
   ·
    obtain ⟨j, hj, hj2⟩ := List.any_eq_true.1 h1
    simp only [Bool.and_eq_true, decide_eq_true_eq] at hj2
    obtain ⟨o', ho', e, he, hb, hon⟩ := Region.waitsFor_spec hj2.2
    have : o' = ot := Option.some.inj (ho'.symm.trans hot)
    subst this
    have h2 := hall e he hb
    have hjl := List.mem_range.1 hj
    rw [hon, getD_both (inv.tail j hj2.1 (by omega))] at h2
    cases h2
theorem wpAny_piece (hlen : vs.length = l.length) (ht : Tame l) {n1 n2 : Nat} (hn : n2 <= l.length) (hb : n2 < l.length -> Region.sinkB .any l.toArray n2 = true /\ chain2B l.toArray n2 = true) {Q : Exit -> Act -> World -> Prop} (a : Act)
 (hops : ∀ (i : Nat) (o : Oper) (v : Value), n1 <= i -> i < n2 -> l[i]? = some o -> vs[i]? = some v -> opOK P l.toArray S o v (frm a l vs (fun j => decide (n1 <= j) && decide (j < i))))
 (hq : ∀ w, S w -> wpAny P .any l.toArray Q (l.length - n2) (zaS n2 l.length) (frm a l vs (fun j => decide (n1 <= j) && decide (j < n2))) w) :
 ∀ (fuel : Nat) (listed : Array Bool) (w : World), S w -> HeadInv .any l.toArray n2 listed -> (∀ j, j < n1 -> listed.getD j false = true) -> (List.range n2).countP (fun j => !listed.getD j false) = fuel ->
   wpAny P .any l.toArray Q (fuel + (l.length - n2)) listed (frm a l vs (fun j => decide (n1 <= j) && listed.getD j false)) w := by
 intro fuel
 induction fuel with
 | zero =>
  intro listed w hS inv _ hc0
  have hall : ∀ j, j < n2 -> listed.getD j false = true := fun j hj => by
   have := List.countP_eq_zero.1 hc0 j (List.mem_range.2 hj)
   simpa using this
  have htl : ∀ j, n2 <= j -> listed.getD j false = false := fun j hj => by
   rcases Nat.lt_or_ge j l.length with h | h
   · exact getD_both (inv.tail j hj (by simpa using h))
   ·
    have : listed.size <= j := by rw [inv.size]; simpa using h
    simp [Array.getElem?_eq_none this]
  have he : listed = zaS n2 l.length := by
   apply Array.ext
   · rw [inv.size, zbM hn]; simp
   ·
    intro j h1 h2
    have e1 : listed.getD j false = listed[j] := by simp [h1]
    have e2 : (zaS n2 l.length).getD j false = (zaS n2 l.length)[j] := by simp [h2]
    rw [<- e1, <- e2, zba]
    by_cases hj : j < n2
    · rw [hall j hj]; simp [hj]
    · rw [htl j (by omega)]; simp [hj]
  have hf : frm a l vs (fun j => decide (n1 <= j) && listed.getD j false) = frm a l vs (fun j => decide (n1 <= j) && decide (j < n2)) := by
   refine congrArg (frm a l vs) (funext fun j => ?_)
   rw [he, zba]
  rw [hf, Nat.zero_add, he]
  exact hq w hS
 | succ fuel ih =>
  intro listed w hS inv hpre hc1
  have hex : ∃ i, i < n2 /\ listed.getD i false = false := by
   have h0 : 0 < (List.range n2).countP (fun j => !listed.getD j false) := by omega
   obtain ⟨i, hi, hp⟩ := List.countP_pos_iff.1 h0
   exact ⟨i, List.mem_range.1 hi, by simpa using hp⟩
  obtain ⟨i0, hi0, hf0⟩ := hex
  have hsz : listed.size = l.length := by rw [inv.size]; simp
  rw [show fuel + 1 + (l.length - n2) = (fuel + (l.length - n2)) + 1 by omega]
  refine ⟨fun hr => ?_, fun i hi => ?_⟩
  ·
   have := all_listed ht hsz hr i0 (by omega)
   rw [hf0] at this; cases this
  ·
   have hin : i < n2 := by
    rcases Nat.lt_or_ge i n2 with h | h
    · exact h
    ·
     have hil : i < l.length := by
      obtain ⟨_, o, ho, _⟩ := mem_ready.1 hi
      have := (Array.getElem?_eq_some_iff.1 ho).1
      simpa using this
     have hb2 := hb (by omega)
     exact absurd hi (bar_waits hb2.1 hb2.2 (by simp; omega) inv _ i0 rfl hi0 (getD_in (by omega) hf0) i h)
   have hinv := inv.set hi hin
   rw [mem_ready] at hi
   obtain ⟨h1, o, ho, hdep⟩ := hi
   have ho' : l[i]? = some o := by simpa using ho
   have hib : i < listed.size := by omega
   have hif : listed.getD i false = false := by
    simp only [Array.getD_eq_getD_getElem?, Array.getElem?_eq_getElem hib, Option.getD_some] at h1 ⊢
    exact h1
   have hin1 : n1 <= i := by
    rcases Nat.lt_or_ge i n1 with h | h
    · rw [hpre i h] at hif; cases hif
    · exact h
   have hv : vs[i]? = some vs[i] := List.getElem?_eq_getElem (by omega)
   have next : ∀ w', S w' -> wpAny P .any l.toArray Q (fuel + (l.length - n2)) (listed.setIfInBounds i true) ((frm a l vs (fun j => decide (n1 <= j) && listed.getD j false)).put o.dst vs[i]) w' := fun w' hS' => by
    rw [frm_put hlen ht.apart a _ i o vs[i] ho' hv]
    have e : (fun j => (decide (n1 <= j) && listed.getD j false) || j == i) = (fun j => decide (n1 <= j) && (listed.setIfInBounds i true).getD j false) := funext fun j => by
     rw [zbj listed i j hib]
     by_cases hji : j = i
     · subst hji; simp [hin1]
     · rw [beq_eq_false_iff_ne.2 hji, Bool.or_false, Bool.or_false]
    rw [e]
    refine ih _ w' hS' hinv (fun j hj => by rw [zbj listed i j hib, hpre j hj]; rfl) ?_
    have h2 : ∀ m, i < m -> (List.range m).countP (fun j => !listed.getD j false) = (List.range m).countP (fun j => !(listed.setIfInBounds i true).getD j false) + 1 := by
     intro m
     induction m with
     | zero => intro h; omega
     | succ m ihm =>
      intro hm
      rw [List.range_succ, List.countP_append, List.countP_append, List.countP_singleton, List.countP_singleton]
      by_cases hmi : m = i
      ·
       subst hmi
       have h3 : (List.range m).countP (fun j => !listed.getD j false) = (List.range m).countP (fun j => !(listed.setIfInBounds m true).getD j false) := by
        refine List.countP_congr fun j hj => ?_
        have : j ≠ m := by have := List.mem_range.1 hj; omega
        rw [zbj listed m j hib]
        simp [this]
       rw [h3, zbj listed m m hib, hif]
       simp
      ·
       rw [ihm (by omega), zbj listed i m hib]
       have : (m == i) = false := by simpa using hmi
       rw [this, Bool.or_false]
       omega
    have := h2 n2 hin
    omega
   have hread := reads_same (vs := vs) hlen ht a (fun j => decide (n1 <= j) && listed.getD j false) (fun j => decide (n1 <= j) && decide (j < i)) i o ho' (fun j oj t hj hne hd hlk => by
    rcases ht.looks i j o oj t ho' hj (fun c => hne c.symm) hd hlk with ⟨h2, h3⟩ | ⟨h2, h3⟩
    ·
     obtain ⟨e, he, hb⟩ := Array.any_eq_true'.1 h2
     simp only [Bool.and_eq_true, beq_iff_eq] at hb
     have := hdep e he hb.1
     rw [hb.2] at this
     simp only [this, h3, decide_true]
    ·
     have hjf : listed.getD j false = false := by
      cases hjt : listed.getD j false with
      | false => rfl
      | true =>
       obtain ⟨e, he, hb⟩ := Array.any_eq_true'.1 h2
       simp only [Bool.and_eq_true, beq_iff_eq] at hb
       have := inv.closed j oj (by simpa using hj) hjt e he hb.1
       rw [hb.2, hif] at this; cases this
     simp only [hjf, show ¬ j < i by omega, decide_false])
   have hexec : execOp (frm a l vs (fun j => decide (n1 <= j) && listed.getD j false)).eval o = execOp (frm a l vs (fun j => decide (n1 <= j) && decide (j < i))).eval o := execOp_congr o (fun cs b => ht.sel i o cs b ho') hread.1
   unfold wpOp
   rw [ho]
   simp only
   rcases hops i o vs[i] hin1 hin ho' hv with ⟨hw, hwp⟩ | ⟨hw, hu⟩
   ·
    rw [if_pos (by rw [hread.2]; exact hw)]
    left
    refine wp_frame (a := frm a l vs (fun j => decide (n1 <= j) && decide (j < i))) (S := S) (v := vs[i]) hexec (by rw [zcf, zcf]) (hwp w hS _ (fun w' hS' => ⟨rfl, hS'⟩)) next
   ·
    rw [if_neg (by rw [hread.2, hw]; simp), <- hu]
    exact next w hS
structure Rest (P : Program) (l : List Oper) (Q : Exit -> Act -> World -> Prop) (n : Nat) (a : Act) (w : World) : Prop where
 out : wpAny P .any l.toArray Q (l.length - n) (zaS n l.length) a w
theorem Rest.region {id : Nat} {Q : Exit -> Act -> World -> Prop} {a : Act} {w : World} (hm : P.follows .mixedOrders = true) (h : Rest P l Q 0 a w.drew) : (Code.region id l.toArray true).wp P Q a w := by
 refine wp_region_any hm ?_
 have := h.out
 rw [Nat.sub_zero] at this
 have e : zaS 0 l.length = Array.replicate l.toArray.size false := by simp [zaS]
 rw [e] at this
 simpa using this
theorem Rest.done {Q : Exit -> Act -> World -> Prop} {a : Act} {w : World} (h : Q .normal a w) : Rest P l Q l.length a w := by
 refine ⟨?_⟩
 rw [Nat.sub_self]
 refine ⟨?_, h⟩
 apply List.eq_nil_iff_forall_not_mem.2
 intro j hj
 obtain ⟨h1, o, ho, _⟩ := mem_ready.1 hj
 have hjl : j < l.length := by
  have := (Array.getElem?_eq_some_iff.1 ho).1
  simpa using this
 have h2 : (zaS l.length l.length).getD j false = true := by rw [zba]; simp [hjl]
 rw [getD_both h1] at h2
 cases h2
theorem headAll_set {n m : Nat} (h : n < m) : (zaS n m).setIfInBounds n true = zaS (n + 1) m := by
 apply Array.ext
 · rw [Array.size_setIfInBounds, zbM (by omega), zbM (by omega)]
 ·
  intro j h1 h2
  have hs : n < (zaS n m).size := by rw [zbM (by omega)]; exact h
  have e1 : ((zaS n m).setIfInBounds n true).getD j false = ((zaS n m).setIfInBounds n true)[j] := by
   rw [Array.getD_eq_getD_getElem?, Array.getElem?_eq_getElem h1]; rfl
  have e2 : (zaS (n + 1) m).getD j false = (zaS (n + 1) m)[j] := by
   rw [Array.getD_eq_getD_getElem?, Array.getElem?_eq_getElem h2]; rfl
  rw [<- e1, <- e2, zbj _ _ _ hs, zba, zba]
  by_cases hj : j = n
  · subst hj; simp
  ·
   simp only [beq_eq_false_iff_ne.2 hj, Bool.or_false]
   congr 1
   simp only [eq_iff_iff]
   omega
theorem Rest.step {Q : Exit -> Act -> World -> Prop} {a : Act} {w : World} {n : Nat} {o : Oper} (ho : l[n]? = some o) (hr : Region.ready .any l.toArray (zaS n l.length) = [n]) (hw : Region.wanted o (yielded l.toArray a.tmps) = true) (h : o.wp P a w (fun a' w' => Rest P l Q (n + 1) a' w') Q) : Rest P l Q n a w := by
 have hn : n < l.length := (List.getElem?_eq_some_iff.1 ho).1
 refine ⟨?_⟩
 rw [show l.length - n = (l.length - (n + 1)) + 1 by omega]
 refine ⟨fun e => (by rw [hr] at e; cases e), fun i hi => ?_⟩
 rw [hr] at hi
 obtain rfl : i = n := by simpa using hi
 unfold wpOp
 rw [show l.toArray[i]? = some o by simpa using ho]
 simp only
 rw [if_pos hw]
 left
 refine Oper.wp_mono (fun a' w' hk => ?_) h
 rw [headAll_set hn]
 exact hk.out
theorem Rest.seq {Q : Exit -> Act -> World -> Prop} {a : Act} {w : World} {n : Nat} (hsq : Region.seqB .any l.toArray (l.length - n) n (zaS n l.length) = true) (h : wpList P l.toArray Q (l.drop n) a w) : Rest P l Q n a w := by
 refine ⟨?_⟩
 have h1 := wpAny_of_seq (P := P) (md := .any) (ops := l.toArray) (Q' := Q) (l.drop n) n (zaS n l.length) a w (fun j => by simp [List.getElem?_drop]) (by rw [List.length_drop]; exact hsq) h
 rwa [List.length_drop] at h1
def pieceB (l : List Oper) (n1 n2 : Nat) : Bool := tameOK l && decide (n1 <= n2) && decide (n2 <= l.length) && (decide (n2 = l.length) || (Region.sinkB .any l.toArray n2 && chain2B l.toArray n2))
theorem frm_mid (a : Act) {n1 : Nat} {vs0 : List Value} (k : Nat) (m : Nat) (hvs : vs = List.replicate n1 undef ++ (vs0 ++ List.replicate m undef)) (hn : n1 + vs0.length + m = l.length) (hk : k <= vs0.length) :
 zaZ a ((((l.drop n1).take vs0.length).zip vs0).take k |>.map fun x => (x.1, x.2, true)) = frm a l vs (fun j => decide (n1 <= j) && decide (j < n1 + k)) := by
 unfold frm
 have e : ((l.zip vs).zipIdx.map fun x => (x.1.1, x.1.2, decide (n1 <= x.2) && decide (x.2 < n1 + k))) =
  ((l.zip vs).take n1 |>.map fun x => (x.1, x.2, false)) ++ (((((l.drop n1).take vs0.length).zip vs0).take k |>.map fun x => (x.1, x.2, true)) ++ ((l.zip vs).drop (n1 + k) |>.map fun x => (x.1, x.2, false))) := by
  have hlen : vs.length = l.length := by rw [hvs]; simp; omega
  apply List.ext_getElem?
  intro i
  have hz : (l.zip vs).length = l.length := by simp [hlen]
  rcases Nat.lt_or_ge i l.length with hi | hi
  ·
   have hl : (List.map (fun x => (x.1.1, x.1.2, decide (n1 <= x.2) && decide (x.2 < n1 + k))) (l.zip vs).zipIdx)[i]? = some (l[i], vs[i]'(by omega), decide (n1 <= i) && decide (i < n1 + k)) := by
    rw [List.getElem?_map, List.getElem?_zipIdx, List.getElem?_eq_getElem (by omega)]
    simp
   rw [hl]
   have hl1 : ((l.zip vs).take n1 |>.map fun x => (x.1, x.2, false)).length = n1 := by simp; omega
   have hl2 : ((((l.drop n1).take vs0.length).zip vs0).take k |>.map fun x => (x.1, x.2, true)).length = k := by simp; omega
   by_cases h1 : i < n1
   ·
    rw [List.getElem?_append_left (by omega), List.getElem?_map, List.getElem?_take, if_pos h1, List.getElem?_eq_getElem (by omega)]
    simp; omega
   ·
    rw [List.getElem?_append_right (by omega), hl1]
    by_cases h2 : i < n1 + k
    ·
     rw [List.getElem?_append_left (by omega), List.getElem?_map, List.getElem?_take, if_pos (by omega)]
     have h3 : i - n1 < ((List.take vs0.length (List.drop n1 l)).zip vs0).length := by simp; omega
     have h4 : vs[i]'(by omega) = vs0[i - n1]'(by omega) := by
      simp only [hvs]
      rw [List.getElem_append_right (by simp; omega), List.getElem_append_left (by simp; omega)]
      simp
     rw [List.getElem?_eq_getElem h3, h4]
     simp [show n1 + (i - n1) = i by omega]
     omega
    ·
     rw [List.getElem?_append_right (by omega), hl2, List.getElem?_map, List.getElem?_drop, show n1 + k + (i - n1 - k) = i by omega, List.getElem?_eq_getElem (by omega)]
     simp; omega
  · rw [List.getElem?_eq_none (by simp; omega), List.getElem?_eq_none (by simp; omega)]
 rw [e, zct, zct, zbo ((l.zip vs).take n1 |>.map fun x => (x.1, x.2, false)) a (by intro x hx; obtain ⟨y, _, rfl⟩ := List.mem_map.1 hx; rfl)]
 exact (zbo _ _ (by intro x hx; obtain ⟨y, _, rfl⟩ := List.mem_map.1 hx; rfl)).symm
theorem Rest.tame {Q : Exit -> Act -> World -> Prop} {a : Act} {w : World} {n1 : Nat} (n2 : Nat) (S : World -> Prop) (hchk : pieceB l n1 n2 = true) (hS : S w) (h : TW P l.toArray S (fun a' w' => Rest P l Q n2 a' w') ((l.drop n1).take (n2 - n1)) a) : Rest P l Q n1 a w := by
 simp only [pieceB, Bool.and_eq_true, decide_eq_true_eq, Bool.or_eq_true] at hchk
 obtain ⟨⟨⟨ht, h12⟩, hn⟩, hb⟩ := hchk
 have ht := tame_of ht
 obtain ⟨vs0, hlen0, hops, hq⟩ := tw_vals ((l.drop n1).take (n2 - n1)) a h.out
 have hl0 : vs0.length = n2 - n1 := by rw [hlen0, List.length_take, List.length_drop]; omega
 obtain ⟨vs, hvs⟩ : ∃ vs, vs = List.replicate n1 undef ++ (vs0 ++ List.replicate (l.length - n2) undef) := ⟨_, rfl⟩
 have hlen : vs.length = l.length := by rw [hvs]; simp; omega
 have hmid := fun k (hk : k <= vs0.length) => frm_mid (l := l) a (n1 := n1) (vs0 := vs0) k (l.length - n2) hvs (by omega) hk
 rw [hl0] at hmid
 refine ⟨?_⟩
 have := wpAny_piece (P := P) (S := S) (n1 := n1) hlen ht hn (fun h2 => by rcases hb with hb | hb; omega; exact hb) (Q := Q) a (fun i o v hi1 hi2 ho hv => by
  have h1 := hops (i - n1) o v (by rw [List.getElem?_take, if_pos (by omega), List.getElem?_drop, show n1 + (i - n1) = i by omega]; exact ho) (by
   have e3 : i = (List.replicate n1 undef).length + (i - n1) := by rw [List.length_replicate]; omega
   rw [hvs, e3, List.getElem?_append_right (Nat.le_add_right _ _), Nat.add_sub_cancel_left, List.getElem?_append_left (by omega)] at hv
   exact hv)
  rw [hmid (i - n1) (by omega), show n1 + (i - n1) = i by omega] at h1
  exact h1) (fun w' hS' => by
  have h1 := (hq w' hS').out
  have h2 : ((l.drop n1).take (n2 - n1)).zip vs0 = (((l.drop n1).take (n2 - n1)).zip vs0).take (n2 - n1) := (List.take_of_length_le (by rw [List.length_zip, hl0]; omega)).symm
  rw [h2, hmid (n2 - n1) (by omega), show n1 + (n2 - n1) = n2 by omega] at h1
  exact h1)
  (n2 - n1) (zaS n1 l.length) w hS ⟨by rw [zbM (by omega)]; simp, fun j oj hj hl e he hbd => by
   rw [zba] at hl ⊢
   have h1 := ht.back j oj (by simpa using hj) e he hbd
   simp only [decide_eq_true_eq] at hl ⊢
   omega, fun t ht1 ht2 => getD_in (by rw [zbM (by omega)]; simpa using ht2) (by rw [zba]; exact decide_eq_false (by omega))⟩ (fun j hj => by rw [zba]; simpa using hj) (by
   have h3 : ∀ m, n1 <= m -> (List.range m).countP (fun j => !(zaS n1 l.length).getD j false) = m - n1 := by
    intro m
    induction m with
    | zero => intro h; simp
    | succ m ihm =>
     intro hm
     rw [List.range_succ, List.countP_append, List.countP_singleton, zba]
     by_cases h4 : m < n1
     ·
      have : n1 = m + 1 := by omega
      subst this
      have h5 : (List.range m).countP (fun j => !(zaS (m + 1) l.length).getD j false) = 0 := by
       refine List.countP_eq_zero.2 fun j hj => ?_
       have := List.mem_range.1 hj
       rw [zba]; simp; omega
      rw [h5]; simp
     ·
      rw [ihm (by omega)]
      simp [h4]
      omega
   exact h3 n2 h12)
 have e1 : n2 - n1 + (l.length - n2) = l.length - n1 := by omega
 have e2 : frm a l vs (fun j => decide (n1 <= j) && (zaS n1 l.length).getD j false) = a := by
  unfold frm
  refine zbo _ _ (fun x hx => ?_)
  obtain ⟨y, _, rfl⟩ := List.mem_map.1 hx
  simp only [zba]
  by_cases h5 : n1 <= y.2 <;> simp [h5]
 rw [e1, e2] at this
 exact this
end
section
variable {P : Program} {S : World -> Prop} {l : List Oper} {vs : List Value}
theorem putSel_congr : ∀ (L1 L2 : List (Oper × Value × Bool)) (a : Act), L1.length = L2.length -> (∀ (i : Nat) (x y : Oper × Value × Bool), L1[i]? = some x -> L2[i]? = some y -> x.1 = y.1 /\ x.2.2 = y.2.2 /\ (x.2.2 = true -> x.2.1 = y.2.1)) -> zaZ a L1 = zaZ a L2
 | [], [], _, _, _ => rfl
 | [], _ :: _, _, h, _ => by simp at h
 | _ :: _, [], _, h, _ => by simp at h
 | (o, v, b) :: r, (o', v', b') :: r', a, h, hc => by
  obtain ⟨h1, h2, h3⟩ := hc 0 _ _ rfl rfl
  simp only at h1 h2 h3
  subst h1
  subst h2
  have ih := putSel_congr r r' (if b then a.put o.dst v else a) (by simpa using h) (fun i x y hx hy => hc (i + 1) x y (by simpa using hx) (by simpa using hy))
  rw [zaZ, zaZ, ih]
  cases b with
  | false => rfl
  | true => rw [h3 rfl]
theorem frm_vs {vs' : List Value} (a : Act) (m : Nat -> Bool) (h1 : vs.length = l.length) (h2 : vs'.length = l.length) (h : ∀ j, m j = true -> vs[j]? = vs'[j]?) : frm a l vs m = frm a l vs' m := by
 unfold frm
 refine putSel_congr _ _ _ (by simp [h1, h2]) fun i x y hx hy => ?_
 rw [frm_list] at hx hy
 split at hx
 ·
  rename_i o v ho hv
  cases hx
  rw [ho] at hy
  split at hy
  ·
   rename_i o' v' ho' hv'
   cases ho'
   cases hy
   refine ⟨rfl, rfl, fun hm => ?_⟩
   have := h i hm
   rw [hv, hv'] at this
   exact Option.some.inj this
  · cases hy
 · cases hx
theorem wp_frameB {o : Oper} {a b : Act} {w : World} {T : Value -> World -> Prop} {Q : Exit -> Act -> World -> Prop} {next : Act -> World -> Prop} (he : execOp b.eval o = execOp a.eval o) (hsz : b.tmps.size = a.tmps.size)
 (h : o.wp P a w (fun a' w' => ∃ u, a' = a.put o.dst u /\ T u w') QNo) (hn : ∀ u w', T u w' -> next (b.put o.dst u) w') : o.wp P b w next Q := by
 unfold Oper.wp at *
 rw [he]
 generalize (execOp a.eval o).run P w = r at *
 cases r with
 | ok n w' =>
  cases n with
  | value u =>
   simp only [Oper.upon] at h ⊢
   obtain ⟨u', h1, h2⟩ := h
   rw [put_inj h1 hsz]; exact hn _ _ h2
  | skip =>
   simp only [Oper.upon] at h ⊢
   obtain ⟨u', h1, h2⟩ := h
   rw [put_inj h1 hsz]; exact hn _ _ h2
  | defer d =>
   simp only [Oper.upon] at h
   obtain ⟨u', h1, _⟩ := h
   have := congrArg (fun x : Act => x.defers.length) h1
   simp [zcD] at this
  | enter f args =>
   simp only [Oper.upon] at h ⊢
   refine Calls.mono h (fun e w'' hx => ?_)
   cases e with
   | returned u =>
    simp only at hx ⊢
    obtain ⟨u', h1, h2⟩ := hx
    rw [put_inj h1 hsz]; exact hn _ _ h2
   | panicked c => exact (hx : False).elim
   | outgrown => obtain ⟨_, _, hx⟩ := hx; exact (hx : False).elim
  | row row args =>
   simp only [Oper.upon] at h ⊢
   refine Rows.mono h (fun u w'' hx => ?_)
   obtain ⟨u', h1, h2⟩ := hx
   rw [put_inj h1 hsz]; exact hn _ _ h2
  | _ => exact (h : False).elim
 | halt x w' => cases x <;> simp only [Oper.upon] at h <;> exact (h : False).elim
def bw (P : Program) (l : List Oper) (S : World -> Prop) (Qn : Act -> World -> Prop) : List Oper -> Act -> World -> Prop
 | [], a, w => Qn a w
 | o :: r, a, w => Region.wanted o (yielded l.toArray a.tmps) = true /\ o.wp P a w (fun a' w' => ∃ u, a' = a.put o.dst u /\ S w' /\ bw P l S Qn r a' w') QNo
theorem frm_put' (ht : Tame l) (a : Act) (m : Nat -> Bool) (i : Nat) (o : Oper) (u : Value) (hlen : vs.length = l.length) (ho : l[i]? = some o) (hm : m i = false) :
 (frm a l vs m).put o.dst u = frm a l (vs.set i u) (fun j => m j || j == i) := by
 have hl2 : (vs.set i u).length = l.length := by simp [hlen]
 have hi : i < l.length := (List.getElem?_eq_some_iff.1 ho).1
 rw [frm_vs (vs' := vs.set i u) a m hlen hl2 (fun j hj => by
  rw [List.getElem?_set]
  split
  · rename_i h; subst h; rw [hm] at hj; cases hj
  · rfl)]
 exact frm_put hl2 ht.apart a m i o u ho (by rw [List.getElem?_set]; simp [hlen, hi])
theorem count_set {listed : Array Bool} {i : Nat} (hib : i < listed.size) (hif : listed.getD i false = false) : ∀ m, i < m -> (List.range m).countP (fun j => !listed.getD j false) = (List.range m).countP (fun j => !(listed.setIfInBounds i true).getD j false) + 1 := by
 intro m
 induction m with
 | zero => intro h; omega
 | succ m ihm =>
  intro hm
  rw [List.range_succ, List.countP_append, List.countP_append, List.countP_singleton, List.countP_singleton]
  by_cases hmi : m = i
  ·
   subst hmi
   have h3 : (List.range m).countP (fun j => !listed.getD j false) = (List.range m).countP (fun j => !(listed.setIfInBounds m true).getD j false) := by
    refine List.countP_congr fun j hj => ?_
    have : j ≠ m := by have := List.mem_range.1 hj; omega
    rw [zbj listed m j hib]
    simp [this]
   rw [h3, zbj listed m m hib, hif]
   simp
  ·
   rw [ihm (by omega), zbj listed i m hib]
   have : (m == i) = false := by simpa using hmi
   rw [this, Bool.or_false]
   omega
end
section
variable {P : Program} {l : List Oper}
def ssaB (l : List Oper) (mk : List Nat) : Bool := (List.range l.length).all fun i => match l[i]? with
 | none => true
 | some oi => oi.guard.isNone && (List.range l.length).all fun j => j == i || match l[j]? with
  | none => true
  | some oj => match oj.dst with
   | none => true
   | some t => !(oi.looksAt l.toArray).contains t || (edge oi j && decide (j < i) && (mk.contains i || !mk.contains j))
theorem ssa_guard {mk : List Nat} (h : ssaB l mk = true) {i : Nat} {o : Oper} (hi : l[i]? = some o) : o.guard = none := by
 have hlt : i < l.length := (List.getElem?_eq_some_iff.1 hi).1
 have h1 := List.all_eq_true.1 h i (List.mem_range.2 hlt)
 rw [hi] at h1
 simp only [Bool.and_eq_true, Option.isNone_iff_eq_none] at h1
 exact h1.1
theorem ssa_reads {mk : List Nat} (h : ssaB l mk = true) {i j : Nat} {o oj : Oper} {t : Nat} (hi : l[i]? = some o) (hj : l[j]? = some oj) (hne : j ≠ i) (hd : oj.dst = some t) (hl : t ∈ o.looksAt l.toArray) :
 edge o j = true /\ j < i /\ (mk.contains i = true \/ mk.contains j = false) := by
 have hlt : i < l.length := (List.getElem?_eq_some_iff.1 hi).1
 have hlj : j < l.length := (List.getElem?_eq_some_iff.1 hj).1
 have h1 := List.all_eq_true.1 h i (List.mem_range.2 hlt)
 rw [hi] at h1
 simp only [Bool.and_eq_true] at h1
 have h2 := List.all_eq_true.1 h1.2 j (List.mem_range.2 hlj)
 rw [hj] at h2
 simp only [hd, Bool.or_eq_true, beq_iff_eq, hne, false_or] at h2
 rcases h2 with h2 | h2
 · rw [List.contains_iff_mem.2 hl] at h2; cases h2
 ·
  simp only [Bool.and_eq_true, decide_eq_true_eq, Bool.or_eq_true, Bool.not_eq_true'] at h2
  exact ⟨h2.1.1, h2.1.2, h2.2⟩
theorem reads_same2 {vs vs' : List Value} (h1 : vs.length = l.length) (h2 : vs'.length = l.length) (ht : Tame l) (a : Act) (m m' : Nat -> Bool) (i : Nat) (o : Oper) (hi : l[i]? = some o)
 (h : ∀ (j : Nat) (oj : Oper) (t : Nat), l[j]? = some oj -> j ≠ i -> oj.dst = some t -> t ∈ o.looksAt l.toArray -> m j = m' j /\ (m j = true -> vs[j]? = vs'[j]?)) :
 ∀ x ∈ o.op.operands, (frm a l vs m).eval x = (frm a l vs' m').eval x := by
 classical
 obtain ⟨m1, hm1⟩ : ∃ m1 : Nat -> Bool, m1 = fun j => m j && decide (∃ (oj : Oper) (t : Nat), l[j]? = some oj /\ j ≠ i /\ oj.dst = some t /\ t ∈ o.looksAt l.toArray) := ⟨_, rfl⟩
 have hm : ∀ (j : Nat) (oj : Oper) (t : Nat), l[j]? = some oj -> j ≠ i -> oj.dst = some t -> t ∈ o.looksAt l.toArray -> m1 j = m j := fun j oj t hj hne hd hl => by
  rw [hm1]
  show (m j && decide _) = m j
  rw [decide_eq_true ⟨oj, t, hj, hne, hd, hl⟩, Bool.and_true]
 have e1 := (reads_same h1 ht a m m1 i o hi fun j oj t hj hne hd hl => (hm j oj t hj hne hd hl).symm).1
 have e2 : frm a l vs m1 = frm a l vs' m1 := frm_vs a m1 h1 h2 fun j hj => by
  rw [hm1] at hj
  simp only [Bool.and_eq_true, decide_eq_true_eq] at hj
  obtain ⟨h3, oj, t, h4, h5, h6, h7⟩ := hj
  exact (h j oj t h4 h5 h6 h7).2 h3
 have e3 := (reads_same h2 ht a m1 m' i o hi fun j oj t hj hne hd hl => (hm j oj t hj hne hd hl).trans (h j oj t hj hne hd hl).1).1
 intro x hx
 rw [e1 x hx, e2, e3 x hx]
def tk (P : Program) (mk : List Nat) (S : World -> Prop) (Qn : Act -> Prop) : Nat -> List Oper -> Act -> Prop
 | _, [], a => Qn a
 | i, o :: rest, a => if mk.contains i then tk P mk S Qn (i + 1) rest a else ∃ v, (∀ w, S w -> ∀ K : Act -> World -> Prop, K (a.put o.dst v) w -> o.wp P a w K QNo) /\ tk P mk S Qn (i + 1) rest (a.put o.dst v)
structure TK (P : Program) (mk : List Nat) (S : World -> Prop) (Qn : Act -> Prop) (i : Nat) (rest : List Oper) (a : Act) : Prop where
 out : tk P mk S Qn i rest a
theorem TK.nil {mk : List Nat} {S : World -> Prop} {Qn : Act -> Prop} {i : Nat} {a : Act} (h : Qn a) : TK P mk S Qn i [] a := ⟨h⟩
theorem TK.pass {mk : List Nat} {S : World -> Prop} {Qn : Act -> Prop} {i : Nat} {o : Oper} {rest : List Oper} {a : Act} (hk : mk.contains i = true) (h : TK P mk S Qn (i + 1) rest a) : TK P mk S Qn i (o :: rest) a := by
 refine ⟨?_⟩
 unfold tk
 rw [if_pos hk]
 exact h.out
theorem TK.read {mk : List Nat} {S : World -> Prop} {Qn : Act -> Prop} {i : Nat} {o : Oper} {rest : List Oper} {T : List Value} {df : List Deferred} (hk : mk.contains i = false) (v : Value) (h : ∀ w, S w -> ∀ K : Act -> World -> Prop, (∀ u, u = v -> K ((⟨T.toArray, df⟩ : Act).put o.dst u) w) -> o.wp P ⟨T.toArray, df⟩ w K QNo)
 (hr : TK P mk S Qn (i + 1) rest ((⟨T.toArray, df⟩ : Act).put o.dst v)) : TK P mk S Qn i (o :: rest) ⟨T.toArray, df⟩ := by
 refine ⟨?_⟩
 unfold tk
 rw [if_neg (by rw [hk]; decide)]
 exact ⟨v, fun w hS K hK => h w hS K (fun u hu => by rw [hu]; exact hK), hr.out⟩
def msk (mk : List Nat) (i : Nat) : Nat -> Bool := fun j => !mk.contains j && decide (j < i)
theorem tk_vals (ht : Tame l) {mk : List Nat} {S : World -> Prop} {Qn : Act -> Prop} (a : Act) : ∀ (rest : List Oper) (i : Nat) (vs : List Value), l.drop i = rest -> vs.length = l.length -> tk P mk S Qn i rest (frm a l vs (msk mk i)) -> i <= l.length ->
 ∃ vs0 : List Value, vs0.length = l.length /\ (∀ j, j < i -> vs0[j]? = vs[j]?) /\
   (∀ j o v, i <= j -> l[j]? = some o -> mk.contains j = false -> vs0[j]? = some v -> ∀ w, S w -> ∀ K : Act -> World -> Prop, K ((frm a l vs0 (msk mk j)).put o.dst v) w -> o.wp P (frm a l vs0 (msk mk j)) w K QNo) /\
   Qn (frm a l vs0 (msk mk l.length))
 | [], i, vs, hd, hl, h, hi => by
  have : l.length <= i := by
   have := congrArg List.length hd
   rw [List.length_drop, List.length_nil] at this
   omega
  obtain rfl : i = l.length := by omega
  exact ⟨vs, hl, fun _ _ => rfl, fun j o v hj ho => by have := (List.getElem?_eq_some_iff.1 ho).1; omega, h⟩
 | o :: rest, i, vs, hd, hl, h, hi => by
  have hlt : i < l.length := by
   have := congrArg List.length hd
   rw [List.length_drop, List.length_cons] at this
   omega
  have ho : l[i]? = some o := by
   have := congrArg (fun x : List Oper => x[0]?) hd
   simpa [List.getElem?_drop] using this
  have hd' : l.drop (i + 1) = rest := by
   rw [<- List.tail_drop, hd]; rfl
  unfold tk at h
  split at h
  ·
   rename_i hk
   have em : msk mk (i + 1) = msk mk i := funext fun j => by
    unfold msk
    by_cases hj : j = i
    · subst hj; rw [hk]; rfl
    ·
     congr 1
     simp only [decide_eq_decide]; omega
   rw [<- em] at h
   obtain ⟨vs0, h1, h2, h3, h4⟩ := tk_vals ht a rest (i + 1) vs hd' hl h hlt
   refine ⟨vs0, h1, fun j hj => h2 j (by omega), fun j o' v hj ho' hk' hv => ?_, h4⟩
   by_cases hji : j = i
   · subst hji; rw [hk] at hk'; cases hk'
   · exact h3 j o' v (by omega) ho' hk' hv
  ·
   rename_i hk
   have hk : mk.contains i = false := by simpa using hk
   obtain ⟨v, h1, h2⟩ := h
   have hmi : msk mk i i = false := by unfold msk; simp
   have em : (fun j => msk mk i j || j == i) = msk mk (i + 1) := funext fun j => by
    unfold msk
    by_cases hj : j = i
    · subst hj; rw [hk]; simp
    ·
     rw [beq_eq_false_iff_ne.2 hj, Bool.or_false]
     congr 1
     simp only [decide_eq_decide]; omega
   rw [frm_put' ht a _ i o v hl ho hmi, em] at h2
   obtain ⟨vs0, g1, g2, g3, g4⟩ := tk_vals ht a rest (i + 1) (vs.set i v) hd' (by simp [hl]) h2 hlt
   have hlow : ∀ j, j < i -> vs0[j]? = vs[j]? := fun j hj => by
    rw [g2 j (by omega), List.getElem?_set_ne (by omega)]
   refine ⟨vs0, g1, hlow, fun j o' v' hj ho' hk' hv => ?_, g4⟩
   by_cases hji : j = i
   ·
    subst hji
    rw [ho] at ho'; cases ho'
    have e9 : vs0[j]? = some v := by
     rw [g2 j (by omega), List.getElem?_set]
     simp [hl, hlt]
    rw [hv] at e9; cases e9
    have ef : frm a l vs0 (msk mk j) = frm a l vs (msk mk j) := frm_vs a _ g1 hl fun k hk9 => by
     unfold msk at hk9
     simp only [Bool.and_eq_true, decide_eq_true_eq] at hk9
     exact hlow k hk9.2
    rw [ef]
    exact h1
   · exact g3 j o' v' (by omega) ho' hk' hv
def kw (P : Program) (l : List Oper) (mk : List Nat) (J : (Nat -> Bool) -> (Nat -> Value) -> World -> Prop) (Qn : Act -> World -> Prop) (us : Nat -> Value) : List Nat -> Act -> Prop
 | [], a => ∀ w, J (fun j => mk.contains j) us w -> Qn a w
 | i :: r, a => ∃ o, l[i]? = some o /\ (∀ m w, J m us w -> m i = false -> (∀ j, mk.contains j = true -> edge o j = true -> m j = true) -> o.wp P a w (fun a' w' => ∃ u, a' = a.put o.dst u /\ J (fun j => m j || j == i) (fun j => if j = i then u else us j) w') QNo) /\ kw P l mk J Qn us r (a.put o.dst (us i))
structure KW (P : Program) (l : List Oper) (mk : List Nat) (J : (Nat -> Bool) -> (Nat -> Value) -> World -> Prop) (Qn : Act -> World -> Prop) (us : Nat -> Value) (r : List Nat) (a : Act) : Prop where
 out : kw P l mk J Qn us r a
theorem KW.nil {mk : List Nat} {J : (Nat -> Bool) -> (Nat -> Value) -> World -> Prop} {Qn : Act -> World -> Prop} {us : Nat -> Value} {a : Act} (h : ∀ w, J (fun j => mk.contains j) us w -> Qn a w) : KW P l mk J Qn us [] a := ⟨h⟩
theorem KW.step {mk : List Nat} {J : (Nat -> Bool) -> (Nat -> Value) -> World -> Prop} {Qn : Act -> World -> Prop} {us : Nat -> Value} {i : Nat} {r : List Nat} {T : List Value} {df : List Deferred} (o : Oper) (ho : l[i]? = some o)
 (h : ∀ m w, J m us w -> m i = false -> (∀ j, mk.contains j = true -> edge o j = true -> m j = true) -> ∀ R : Act -> World -> Prop, (∀ u w', J (fun j => m j || j == i) (fun j => if j = i then u else us j) w' -> R ((⟨T.toArray, df⟩ : Act).put o.dst u) w') -> o.wp P ⟨T.toArray, df⟩ w R QNo)
 (hr : KW P l mk J Qn us r ((⟨T.toArray, df⟩ : Act).put o.dst (us i))) : KW P l mk J Qn us (i :: r) ⟨T.toArray, df⟩ :=
 ⟨o, ho, fun m w h1 h2 h3 => h m w h1 h2 h3 _ fun u _ hJ => ⟨u, rfl, hJ⟩, hr.out⟩
def mskK (mk done : List Nat) : Nat -> Bool := fun j => !mk.contains j || done.contains j
theorem kw_step (ht : Tame l) {mk : List Nat} {J : (Nat -> Bool) -> (Nat -> Value) -> World -> Prop} {Qn : Act -> World -> Prop} {us : Nat -> Value} (a : Act) (vs0 : List Value) (hl0 : vs0.length = l.length) : ∀ (r done : List Nat) (ws : List Value), mk = done ++ r -> mk.Pairwise (· < ·) -> ws.length = l.length -> (∀ j, mk.contains j = false -> ws[j]? = vs0[j]?) -> (∀ j ∈ done, ws[j]? = some (us j)) ->
 kw P l mk J Qn us r (frm a l ws (mskK mk done)) ->
 (∀ i ∈ r, ∃ (xs : List Value) (o : Oper) (d : List Nat), xs.length = l.length /\ l[i]? = some o /\ (∀ j, mk.contains j = false -> xs[j]? = vs0[j]?) /\ (∀ j ∈ d, xs[j]? = some (us j)) /\ (∀ j, mk.contains j = true -> (d.contains j = true ↔ j < i)) /\
  ∀ m w, J m us w -> m i = false -> (∀ j, mk.contains j = true -> edge o j = true -> m j = true) -> o.wp P (frm a l xs (mskK mk d)) w (fun a' w' => ∃ u, a' = (frm a l xs (mskK mk d)).put o.dst u /\ J (fun j => m j || j == i) (fun j => if j = i then u else us j) w') QNo) /\
 ∃ xs : List Value, xs.length = l.length /\ (∀ j, mk.contains j = false -> xs[j]? = vs0[j]?) /\ (∀ j ∈ mk, xs[j]? = some (us j)) /\ ∀ w, J (fun j => mk.contains j) us w -> Qn (frm a l xs (fun _ => true)) w
 | [], done, ws, hmk, hp, hl, h1, h2, h => by
  have e : mskK mk done = fun _ => true := funext fun j => by
   rw [List.append_nil] at hmk
   unfold mskK
   rw [hmk]
   cases done.contains j <;> rfl
  rw [e] at h
  exact ⟨fun i hi => (by cases hi), ws, hl, h1, fun j hj => h2 j (by rw [hmk, List.append_nil] at hj; exact hj), h⟩
 | i :: r, done, ws, hmk, hp, hl, h1, h2, h => by
  obtain ⟨o, ho, h3, h4⟩ := h
  have hp' : (∀ x ∈ done, ∀ y ∈ i :: r, x < y) /\ (i :: r).Pairwise (· < ·) := by
   rw [hmk, List.pairwise_append] at hp
   exact ⟨hp.2.2, hp.2.1⟩
  have hir := (List.pairwise_cons.1 hp'.2).1
  have hni : done.contains i = false := by
   cases hc : done.contains i with
   | false => rfl
   | true => have := hp'.1 i (List.contains_iff_mem.1 hc) i List.mem_cons_self; omega
  have hki : mk.contains i = true := List.contains_iff_mem.2 (by rw [hmk]; exact List.mem_append_right _ List.mem_cons_self)
  have hmi : mskK mk done i = false := by unfold mskK; rw [hki, hni]; rfl
  have em : (fun j => mskK mk done j || j == i) = mskK mk (done ++ [i]) := funext fun j => by
   unfold mskK
   have : (done ++ [i]).contains j = (done.contains j || j == i) := by
    rw [Bool.eq_iff_iff]
    simp
   rw [this, Bool.or_assoc]
  rw [frm_put' ht a _ i o (us i) hl ho hmi, em] at h4
  have hlt : i < l.length := (List.getElem?_eq_some_iff.1 ho).1
  obtain ⟨g1, g2⟩ := kw_step ht a vs0 hl0 r (done ++ [i]) (ws.set i (us i)) (by rw [hmk]; simp) hp (by simp [hl]) (fun j hj => by
   rw [List.getElem?_set_ne (by rintro rfl; rw [hki] at hj; cases hj)]
   exact h1 j hj) (fun j hj => by
   rcases List.mem_append.1 hj with hj | hj
   ·
    have : i ≠ j := by have := hp'.1 j hj i List.mem_cons_self; omega
    rw [List.getElem?_set_ne this]
    exact h2 j hj
   ·
    obtain rfl := List.mem_singleton.1 hj
    rw [List.getElem?_set]; simp [hl, hlt]) h4
  refine ⟨fun k hk => ?_, g2⟩
  rcases List.mem_cons.1 hk with rfl | hk
  ·
   refine ⟨ws, o, done, hl, ho, h1, h2, fun j hj => ?_, h3⟩
   constructor
   · intro h5; exact hp'.1 j (List.contains_iff_mem.1 h5) k List.mem_cons_self
   ·
    intro h5
    have h6 := List.contains_iff_mem.1 hj
    rw [hmk] at h6
    rcases List.mem_append.1 h6 with h6 | h6
    · exact List.contains_iff_mem.2 h6
    ·
     rcases List.mem_cons.1 h6 with rfl | h6
     · omega
     · have := hir j h6; omega
  · exact g1 k hk
def uo (vs : List Value) : Nat -> Value := fun j => vs.getD j undef
theorem uo_set {vs : List Value} {i : Nat} {u : Value} (h : i < vs.length) : uo (vs.set i u) = fun j => if j = i then u else uo vs j := funext fun j => by
 unfold uo
 rw [List.getD_eq_getElem?_getD, List.getD_eq_getElem?_getD, List.getElem?_set]
 by_cases hj : j = i
 · subst hj; simp [h]
 · rw [if_neg hj, if_neg (fun e => hj e.symm)]
theorem wpAny_mk (ht : Tame l) {mk : List Nat} (hs : ssaB l mk = true) {J : (Nat -> Bool) -> (Nat -> Value) -> World -> Prop} {S : World -> Prop} (hJS : ∀ m us w, J m us w -> S w) {Q : Exit -> Act -> World -> Prop} (a : Act) (vs0 : List Value) (hl0 : vs0.length = l.length)
 (hrd : ∀ j o v, l[j]? = some o -> mk.contains j = false -> vs0[j]? = some v -> ∀ w, S w -> ∀ K : Act -> World -> Prop, K ((frm a l vs0 (msk mk j)).put o.dst v) w -> o.wp P (frm a l vs0 (msk mk j)) w K QNo)
 (hmkr : ∀ us : Nat -> Value, (∀ i ∈ mk, ∃ (xs : List Value) (o : Oper) (d : List Nat), xs.length = l.length /\ l[i]? = some o /\ (∀ j, mk.contains j = false -> xs[j]? = vs0[j]?) /\ (∀ j ∈ d, xs[j]? = some (us j)) /\ (∀ j, mk.contains j = true -> (d.contains j = true ↔ j < i)) /\
  ∀ m w, J m us w -> m i = false -> (∀ j, mk.contains j = true -> edge o j = true -> m j = true) -> o.wp P (frm a l xs (mskK mk d)) w (fun a' w' => ∃ u, a' = (frm a l xs (mskK mk d)).put o.dst u /\ J (fun j => m j || j == i) (fun j => if j = i then u else us j) w') QNo) /\
  ∃ xs : List Value, xs.length = l.length /\ (∀ j, mk.contains j = false -> xs[j]? = vs0[j]?) /\ (∀ j ∈ mk, xs[j]? = some (us j)) /\ ∀ w, J (fun j => mk.contains j) us w -> Q .normal (frm a l xs (fun _ => true)) w)
 (hmkl : ∀ i ∈ mk, i < l.length) :
 ∀ (fuel : Nat) (listed : Array Bool) (vs : List Value) (w : World), J (fun j => mk.contains j && listed.getD j false) (uo vs) w -> HeadInv .any l.toArray l.length listed -> vs.length = l.length -> (∀ j, mk.contains j = false -> vs[j]? = vs0[j]?) -> (List.range l.length).countP (fun j => !listed.getD j false) = fuel ->
   wpAny P .any l.toArray Q fuel listed (frm a l vs (fun j => listed.getD j false)) w := by
 intro fuel
 induction fuel with
 | zero =>
  intro listed vs w hJ inv hlv hvs hc0
  have hall : ∀ j, j < l.length -> listed.getD j false = true := fun j hj => by
   have := List.countP_eq_zero.1 hc0 j (List.mem_range.2 hj)
   simpa using this
  obtain ⟨_, xs, h1, h2, h3, h4⟩ := hmkr (uo vs)
  have em : (fun j => mk.contains j && listed.getD j false) = fun j => mk.contains j := funext fun j => by
   cases hc : mk.contains j with
   | false => rfl
   | true => rw [hall j (hmkl j (List.contains_iff_mem.1 hc))]; rfl
  rw [em] at hJ
  have h5 := h4 w hJ
  have ef : frm a l vs (fun j => listed.getD j false) = frm a l xs (fun _ => true) := by
   have e1 : frm a l vs (fun j => listed.getD j false) = frm a l vs (fun _ => true) := by
    refine act_ext (fun t => frm_agree hlv ht.apart a _ _ t fun j oj hj _ => hall j (List.getElem?_eq_some_iff.1 hj).1) (by rw [zbN, zbN])
   rw [e1]
   refine frm_vs a _ hlv h1 fun j _ => ?_
   cases hc : mk.contains j with
   | false => rw [hvs j hc, h2 j hc]
   | true =>
    have hm := List.contains_iff_mem.1 hc
    rw [h3 j hm]
    have hjl := hmkl j hm
    unfold uo
    rw [List.getD_eq_getElem?_getD, List.getElem?_eq_getElem (by omega)]
    rfl
  rw [ef]
  refine ⟨?_, h5⟩
  apply List.eq_nil_iff_forall_not_mem.2
  intro j hj
  obtain ⟨g1, o, ho, _⟩ := mem_ready.1 hj
  have hjl : j < l.length := by
   have := (Array.getElem?_eq_some_iff.1 ho).1
   simpa using this
  have g2 := hall j hjl
  rw [getD_both g1] at g2
  cases g2
 | succ fuel ih =>
  intro listed vs w hJ inv hlv hvs hc1
  have hsz : listed.size = l.length := by rw [inv.size]; simp
  refine ⟨fun hr => ?_, fun i hi => ?_⟩
  ·
   have h0 : 0 < (List.range l.length).countP (fun j => !listed.getD j false) := by omega
   obtain ⟨i, hi, hp⟩ := List.countP_pos_iff.1 h0
   have := all_listed ht hsz hr i (List.mem_range.1 hi)
   rw [this] at hp; cases hp
  ·
   have hi2 := hi
   rw [mem_ready] at hi
   obtain ⟨h1, o, ho, hdep⟩ := hi
   have ho' : l[i]? = some o := by simpa using ho
   have hil : i < l.length := (List.getElem?_eq_some_iff.1 ho').1
   have hinv := inv.set hi2 hil
   have hib : i < listed.size := by omega
   have hif : listed.getD i false = false := getD_both h1
   have hcnt : (List.range l.length).countP (fun j => !(listed.setIfInBounds i true).getD j false) = fuel := by
    have := count_set hib hif l.length hil
    omega
   have emask : (fun j => listed.getD j false || j == i) = (fun j => (listed.setIfInBounds i true).getD j false) := funext fun j => (zbj listed i j hib).symm
   have hdep2 : ∀ j, edge o j = true -> listed.getD j false = true := fun j hj => by
    obtain ⟨e, he, hb⟩ := Array.any_eq_true'.1 hj
    simp only [Bool.and_eq_true, beq_iff_eq] at hb
    have := hdep e he hb.1
    rwa [hb.2] at this
   have hg := ssa_guard hs ho'
   unfold wpOp
   rw [ho]
   simp only
   rw [if_pos (by simp only [Region.wanted, hg])]
   left
   cases hk : mk.contains i with
   | false =>
    have hv : vs0[i]? = some (vs0[i]'(by omega)) := List.getElem?_eq_getElem (by omega)
    obtain ⟨v, hv9⟩ : ∃ v, vs0[i]'(by omega) = v := ⟨_, rfl⟩
    rw [hv9] at hv
    have hrd1 := hrd i o v ho' hk hv w (hJS _ _ _ hJ)
    have hexec : execOp (frm a l vs (fun j => listed.getD j false)).eval o = execOp (frm a l vs0 (msk mk i)).eval o := execOp_congr o (fun cs b => ht.sel i o cs b ho') (reads_same2 hlv hl0 ht a _ _ i o ho' fun j oj t hj hne hd hlk => by
     obtain ⟨q1, q2, q3⟩ := ssa_reads hs ho' hj hne hd hlk
     have q4 : mk.contains j = false := by
      rcases q3 with q3 | q3
      · rw [hk] at q3; cases q3
      · exact q3
     refine ⟨?_, fun _ => hvs j q4⟩
     rw [hdep2 j q1]
     unfold msk
     rw [q4, decide_eq_true q2]
     rfl)
    refine wp_frameB (a := frm a l vs0 (msk mk i)) (T := fun u w' => u = v /\ w' = w) hexec (by rw [zcf, zcf]) (hrd1 _ ⟨v, rfl, rfl, rfl⟩) ?_
    rintro u w' ⟨rfl, rfl⟩
    rw [frm_put hlv ht.apart a _ i o u ho' (by rw [hvs i hk]; exact hv), emask]
    refine ih _ vs w' ?_ hinv hlv hvs hcnt
    have e9 : (fun j => mk.contains j && (listed.setIfInBounds i true).getD j false) = fun j => mk.contains j && listed.getD j false := funext fun j => by
     rw [zbj listed i j hib]
     by_cases hji : j = i
     · subst hji; rw [hk]; rfl
     · rw [beq_eq_false_iff_ne.2 hji, Bool.or_false]
    rw [e9]
    exact hJ
   | true =>
    obtain ⟨xs, o2, d, x1, x2, x3, x4, x5, x6⟩ := (hmkr (uo vs)).1 i (List.contains_iff_mem.1 hk)
    rw [ho'] at x2
    cases x2
    have hst := x6 _ w hJ (by rw [hk, hif]; rfl) (fun j hj he => by rw [hj, hdep2 j he]; rfl)
    have hexec : execOp (frm a l vs (fun j => listed.getD j false)).eval o = execOp (frm a l xs (mskK mk d)).eval o := execOp_congr o (fun cs b => ht.sel i o cs b ho') (reads_same2 hlv x1 ht a _ _ i o ho' fun j oj t hj hne hd hlk => by
     obtain ⟨q1, q2, _⟩ := ssa_reads hs ho' hj hne hd hlk
     have hjl : j < l.length := (List.getElem?_eq_some_iff.1 hj).1
     rw [hdep2 j q1]
     cases hkj : mk.contains j with
     | false => exact ⟨by unfold mskK; rw [hkj]; rfl, fun _ => by rw [hvs j hkj, x3 j hkj]⟩
     | true =>
      have hdj := (x5 j hkj).2 q2
      refine ⟨by unfold mskK; rw [hkj, hdj]; rfl, fun _ => ?_⟩
      rw [x4 j (List.contains_iff_mem.1 hdj)]
      unfold uo
      rw [List.getD_eq_getElem?_getD, List.getElem?_eq_getElem (by omega)]
      rfl)
    refine wp_frameB (a := frm a l xs (mskK mk d)) (T := fun u w' => J (fun j => (mk.contains j && listed.getD j false) || j == i) (fun j => if j = i then u else uo vs j) w') hexec (by rw [zcf, zcf]) hst ?_
    intro u w' hJ'
    rw [frm_put' ht a _ i o u hlv ho' hif, emask]
    refine ih _ (vs.set i u) w' ?_ hinv (by simp [hlv]) (fun j hj => by
     rw [List.getElem?_set_ne (by rintro rfl; rw [hk] at hj; cases hj)]
     exact hvs j hj) hcnt
    rw [uo_set (by omega)]
    have e9 : (fun j => mk.contains j && (listed.setIfInBounds i true).getD j false) = fun j => (mk.contains j && listed.getD j false) || j == i := funext fun j => by
     rw [zbj listed i j hib]
     by_cases hji : j = i
     · subst hji; rw [hk]; simp
     · rw [beq_eq_false_iff_ne.2 hji, Bool.or_false, Bool.or_false]
    rw [e9]
    exact hJ'
def makeB (l : List Oper) (mk : List Nat) : Bool := tameOK l && ssaB l mk && mk.all (fun i => decide (i < l.length)) && decide (mk.Pairwise (· < ·))
theorem zaK {id : Nat} {Q : Exit -> Act -> World -> Prop} {a : Act} {w : World} (mk : List Nat) (S : World -> Prop) (J : (Nat -> Bool) -> (Nat -> Value) -> World -> Prop) (hm : P.follows .mixedOrders = true) (hchk : makeB l mk = true) (hJS : ∀ m us w, J m us w -> S w) (hJ0 : ∀ us, J (fun _ => false) us w.drew)
 (h : TK P mk S (fun a' => ∀ us : Nat -> Value, KW P l mk J (fun a'' w'' => Q .normal a'' w'') us mk a') 0 l a) : (Code.region id l.toArray true).wp P Q a w := by
 simp only [makeB, Bool.and_eq_true, decide_eq_true_eq] at hchk
 obtain ⟨⟨⟨ht, hs⟩, hb⟩, hp⟩ := hchk
 have ht := tame_of ht
 obtain ⟨vs, hvs⟩ : ∃ vs, vs = List.replicate l.length undef := ⟨_, rfl⟩
 have hlen : vs.length = l.length := by rw [hvs]; simp
 have e0 : ∀ (xs : List Value), frm a l xs (msk mk 0) = a := fun xs => by
  unfold frm
  refine zbo _ _ (fun x hx => ?_)
  obtain ⟨y, _, rfl⟩ := List.mem_map.1 hx
  simp [msk]
 have h' := h.out
 rw [<- e0 vs] at h'
 obtain ⟨vs0, g1, _, g3, g4⟩ := tk_vals ht a l 0 vs (by simp) hlen h' (Nat.zero_le _)
 have hmkr := fun us : Nat -> Value => kw_step (P := P) (J := J) (Qn := fun a'' w'' => Q .normal a'' w'') (us := us) ht a vs0 g1 mk [] vs0 (by simp) hp g1 (fun _ _ => rfl) (fun j hj => by cases hj) (by
  have h5 := (g4 us).out
  have em : msk mk l.length = msk mk l.length := rfl
  have ef : frm a l vs0 (mskK mk []) = frm a l vs0 (msk mk l.length) := by
   refine act_ext (fun t => frm_agree g1 ht.apart a _ _ t fun j oj hj _ => ?_) (by rw [zbN, zbN])
   have := (List.getElem?_eq_some_iff.1 hj).1
   unfold mskK msk
   simp [this]
  rw [ef]
  exact h5)
 refine wp_region_any hm ?_
 have hl0 : ∀ j, (Array.replicate l.toArray.size false).getD j false = false := fun j => getD_replicate_false _ _
 have := wpAny_mk (P := P) (S := S) ht hs hJS (Q := Q) a vs0 g1 (fun j o v ho hk hv => g3 j o v (Nat.zero_le _) ho hk hv) hmkr (fun i hi => by
  have := List.all_eq_true.1 hb i hi
  simpa using this)
  l.length (Array.replicate l.toArray.size false) vs0 w.drew (by
   have e : (fun j => mk.contains j && (Array.replicate l.toArray.size false).getD j false) = fun _ => false := funext fun j => by rw [hl0]; simp
   rw [e]
   exact hJ0 _) ⟨by simp, fun j oj _ hl => (by rw [hl0] at hl; cases hl), fun t h1 h2 => getD_in (by simpa using h2) (hl0 _)⟩ g1 (fun _ _ => rfl) (by
   have : (List.range l.length).countP (fun j => !(Array.replicate l.toArray.size false).getD j false) = (List.range l.length).length := by
    refine List.countP_eq_length.2 fun j _ => ?_
    rw [hl0]; rfl
   rw [this, List.length_range])
 have e1 : frm a l vs0 (fun j => (Array.replicate l.toArray.size false).getD j false) = a := by
  unfold frm
  refine zbo _ _ (fun x hx => ?_)
  obtain ⟨y, _, rfl⟩ := List.mem_map.1 hx
  exact hl0 _
 rw [e1] at this
 simpa using this
end
end Go.Proofs.YtaehkbbdmamfpaaGreatDoor
