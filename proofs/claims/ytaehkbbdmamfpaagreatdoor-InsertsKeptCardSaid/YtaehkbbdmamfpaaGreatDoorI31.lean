/-
  Inserts: between the makers of '!keep.Same(append(lost(x), contents(y, k)...), contents(z, k))'; the document's lists in a deal (plain). No statement of the seat stands here.
-/
import Derived.Test.YtaehkbbdmamfpaaGreatDoorV11a
import Derived.Test.YtaehkbbdmamfpaaGreatDoorI29
namespace Go.Proofs.YtaehkbbdmamfpaaGreatDoor
open Go.ChangeShapes Go.WideShapes Go.ChangeAt Go.RowKit
theorem wp_append_none {P : Program} {w : World} {o : Oper} {a : Act} {K : Act → World → Prop} {Q : Exit → Act → World → Prop} (s x : Operand) (t : TypeId)
    (ho : o.op = .call { callee := .builtin .append, args := #[s, x], argTypes := #[t, t] })
    (base : Nat) (e : TypeId) (i : TypeInfo) (size : Nat) (ht : P.underlying t = some (.slice e)) (hi : P.info? e = some i)
    (v : Value) (n : Nat) (xs : List Value) (hs : a.eval s = v) (hown : w.ownsRow base e size v n xs) (hx : a.eval x = .slice none 0 0) (h : K (a.put o.dst v) w) : o.wp P a w K Q := by
  have hrun := run_append_owned_none (P := P) (w := w) base t o.type e i size ht hi v n xs hown
  unfold Oper.wp
  simp [execOp, ho, resolve, invoke, builtin, hs, hx, hrun, Result.andThen]
  exact h
theorem grown_refl (W : World) (r : Option Nat) : W.grownBy W r := ⟨rfl, rfl, rfl, Nat.le_refl _, fun _ _ _ => rfl⟩
def alK (m : Nat → Bool) (j : Nat) : Bool := (j == 4 && m 4 && !m 8) || (j == 7 && m 7) || (j == 8 && m 8) || (j == 13 && m 13)
theorem alK_cases {m : Nat → Bool} {j : Nat} (h : alK m j = true) : (j = 4 ∧ m 4 = true ∧ m 8 = false) ∨ (j = 7 ∧ m 7 = true) ∨ (j = 8 ∧ m 8 = true) ∨ (j = 13 ∧ m 13 = true) := by
  unfold alK at h
  simp only [Bool.or_eq_true, Bool.and_eq_true, beq_iff_eq, Bool.not_eq_true'] at h
  rcases h with ((⟨⟨h1, h2⟩, h3⟩ | ⟨h1, h2⟩) | ⟨h1, h2⟩) | ⟨h1, h2⟩
  · exact .inl ⟨h1, h2, h3⟩
  · exact .inr (.inl ⟨h1, h2⟩)
  · exact .inr (.inr (.inl ⟨h1, h2⟩))
  · exact .inr (.inr (.inr ⟨h1, h2⟩))
structure JK (w0 : World) (xs : Nat → List Nd) (m : Nat → Bool) (us : Nat → Value) (W : World) : Prop where
  below : Below w0.heap.size w0 W
  dep : m 8 = true → m 4 = true ∧ m 7 = true
  row : ∀ j, alK m j = true → W.ownsRow w0.heap.size 53 19 (us j) (xs j).length ((xs j).flatMap Nd.cells)
  ne : ∀ i j, alK m i = true → alK m j = true → i ≠ j → ∀ q, (us i).ownBlock = some q → (us j).ownBlock ≠ some q
  same : m 14 = true → us 14 = .bool true
  fin : m 15 = true → us 15 = .bool false
section
variable {w0 W W' : World} {xs : Nat → List Nd} {m : Nat → Bool} {us : Nat → Value}
theorem JK.init : JK w0 xs (fun _ => false) us w0.drew :=
  ⟨(Below.refl _ _).drew, (fun h => by cases h), (fun j h => by simp [alK] at h), (fun i j h => by simp [alK] at h), (fun h => by cases h), (fun h => by cases h)⟩
theorem JK.call (h : JK w0 xs m us W) {i : Nat} (hi : i = 4 ∨ i = 7 ∨ i = 13) (hm : m i = false) {v : Value} (hv : NRow W v (xs i) W') (hb : Below W.heap.size W W') : JK w0 xs (fun j => m j || j == i) (fun j => if j = i then v else us j) W' := by
  have h8 : i = 4 ∨ i = 7 → m 8 = false := fun e => by
    cases h8 : m 8
    · rfl
    · obtain ⟨a, b⟩ := h.dep h8
      rcases e with rfl | rfl
      · rw [hm] at a; cases a
      · rw [hm] at b; cases b
  have ha : ∀ j, alK (fun j => m j || j == i) j = true → j ≠ i → alK m j = true := fun j hj hne => by
    have := alK_cases hj
    simp only [Bool.or_eq_true, beq_iff_eq, Bool.or_eq_false_iff, beq_eq_false_iff_ne] at this
    unfold alK
    rcases this with ⟨rfl, h1, h2, _⟩ | ⟨rfl, h1⟩ | ⟨rfl, h1⟩ | ⟨rfl, h1⟩
    · rcases h1 with h1 | h1
      · simp [h1, h2]
      · exact absurd h1 hne
    · rcases h1 with h1 | h1
      · simp [h1]
      · exact absurd h1 hne
    · rcases h1 with h1 | h1
      · simp [h1]
      · exact absurd h1 hne
    · rcases h1 with h1 | h1
      · simp [h1]
      · exact absurd h1 hne
  have hfar : ∀ j, alK m j = true → ∀ q, (us j).ownBlock = some q → v.ownBlock ≠ some q := fun j hj q hq e => by
    have h1 := ((h.row j hj).lt q hq).2
    have h2 := (hv.lt q e).1
    omega
  have hne' : ∀ j, (if j = i then v else us j) = if j = i then v else us j := fun _ => rfl
  refine ⟨h.below.trans (hb.mono h.below.size), fun e => ?_, fun j hj => ?_, fun a c hac hcc hne q hq => ?_, fun e => ?_, fun e => ?_⟩
  · have e8 : m 8 = true := by
      rcases hi with rfl | rfl | rfl <;> simpa using e
    obtain ⟨a, b⟩ := h.dep e8
    exact ⟨by simp [a], by simp [b]⟩
  · by_cases e : j = i
    · subst e
      simp only [if_pos]
      exact ownsRow_base hv h.below.size
    · simp only [if_neg e]
      exact ownsRow_below (h.row j (ha j hj e)) hb
  · by_cases ea : a = i
    · subst ea
      simp only [if_pos] at hq
      simp only [if_neg (Ne.symm hne)]
      intro e2
      exact hfar c (ha c hcc (Ne.symm hne)) q e2 hq
    · simp only [if_neg ea] at hq
      by_cases ec : c = i
      · subst ec
        simp only [if_pos]
        exact hfar a (ha a hac ea) q hq
      · simp only [if_neg ec]
        exact h.ne a c (ha a hac ea) (ha c hcc ec) hne q hq
  · have e8 : m 14 = true := by
      rcases hi with rfl | rfl | rfl <;> simpa using e
    simp only [if_neg (show ¬ (14 : Nat) = i by rcases hi with rfl | rfl | rfl <;> decide)]
    exact h.same e8
  · have e8 : m 15 = true := by
      rcases hi with rfl | rfl | rfl <;> simpa using e
    simp only [if_neg (show ¬ (15 : Nat) = i by rcases hi with rfl | rfl | rfl <;> decide)]
    exact h.fin e8
theorem JK.app (h : JK w0 xs m us W) (h4 : m 4 = true) (h7 : m 7 = true) (h8 : m 8 = false) (hx : xs 8 = xs 4 ++ xs 7) {v' : Value}
    (hr : W'.ownsRow w0.heap.size 53 19 v' ((xs 4).length + (xs 7).length) ((xs 4).flatMap Nd.cells ++ (xs 7).flatMap Nd.cells)) (hg : W.grownBy W' (us 4).ownBlock) (hat : v'.ownBlock = (us 4).ownBlock ∨ v'.ownBlock = some W.heap.size) :
    JK w0 xs (fun j => m j || j == 8) (fun j => if j = 8 then v' else us j) W' := by
  have a4 : alK m 4 = true := by simp [alK, h4, h8]
  have ha : ∀ j, alK (fun j => m j || j == 8) j = true → j ≠ 8 → alK m j = true ∧ j ≠ 4 := fun j hj hne => by
    have := alK_cases hj
    simp only [Bool.or_eq_true, beq_iff_eq, Bool.or_eq_false_iff, beq_eq_false_iff_ne] at this
    unfold alK
    rcases this with ⟨rfl, h1, h2, h3⟩ | ⟨rfl, h1⟩ | ⟨rfl, h1⟩ | ⟨rfl, h1⟩
    · exact absurd rfl h3
    · rcases h1 with h1 | h1
      · simp [h1]
      · exact absurd h1 hne
    · exact absurd rfl hne
    · rcases h1 with h1 | h1
      · simp [h1]
      · exact absurd h1 hne
  have hfar : ∀ j, alK m j = true → j ≠ 4 → ∀ q, (us j).ownBlock = some q → v'.ownBlock ≠ some q := fun j hj hne q hq e => by
    rcases hat with h1 | h1
    · rw [h1] at e
      exact h.ne 4 j a4 hj (Ne.symm hne) q e hq
    · rw [h1] at e
      have h2 := ((h.row j hj).lt q hq).2
      cases e
      omega
  refine ⟨h.below.grown hg h.below.size (fun g hg => ((h.row 4 a4).lt g hg).1), fun _ => ⟨by simp [h4], by simp [h7]⟩, fun j hj => ?_, fun a c hac hcc hne q hq => ?_, fun e => ?_, fun e => ?_⟩
  · by_cases e : j = 8
    · subst e
      simp only [if_pos]
      rw [hx, List.length_append, List.flatMap_append]
      exact hr
    · simp only [if_neg e]
      obtain ⟨b1, b2⟩ := ha j hj e
      exact ownsRow_same (h.row j b1) fun q hq hl => hg.block q hl (fun e2 => h.ne 4 j a4 b1 (Ne.symm b2) q e2.symm hq)
  · by_cases ea : a = 8
    · subst ea
      simp only [if_pos] at hq
      simp only [if_neg (Ne.symm hne)]
      intro e2
      obtain ⟨b1, b2⟩ := ha c hcc (Ne.symm hne)
      exact hfar c b1 b2 q e2 hq
    · simp only [if_neg ea] at hq
      obtain ⟨b1, b2⟩ := ha a hac ea
      by_cases ec : c = 8
      · subst ec
        simp only [if_pos]
        exact hfar a b1 b2 q hq
      · simp only [if_neg ec]
        obtain ⟨d1, d2⟩ := ha c hcc ec
        exact h.ne a c b1 d1 hne q hq
  · simp only [if_neg (show ¬ (14 : Nat) = 8 by decide)]
    exact h.same (by simpa using e)
  · simp only [if_neg (show ¬ (15 : Nat) = 8 by decide)]
    exact h.fin (by simpa using e)
theorem JK.bool (h : JK w0 xs m us W) {i : Nat} {bb : Bool} (hi : (i = 14 ∧ bb = true) ∨ (i = 15 ∧ bb = false)) (hb : Below W.heap.size W W') : JK w0 xs (fun j => m j || j == i) (fun j => if j = i then .bool bb else us j) W' := by
  have ha : ∀ j, alK (fun j => m j || j == i) j = true → alK m j = true ∧ j ≠ i := fun j hj => by
    have := alK_cases hj
    simp only [Bool.or_eq_true, beq_iff_eq, Bool.or_eq_false_iff, beq_eq_false_iff_ne] at this
    unfold alK
    rcases hi with ⟨rfl, _⟩ | ⟨rfl, _⟩
    all_goals
      rcases this with ⟨rfl, h1, h2, _⟩ | ⟨rfl, h1⟩ | ⟨rfl, h1⟩ | ⟨rfl, h1⟩
      · simp at h1 ⊢; simp [h1, h2]
      · simp at h1 ⊢; simp [h1]
      · simp at h1 ⊢; simp [h1]
      · simp at h1 ⊢; simp [h1]
  refine ⟨h.below.trans (hb.mono h.below.size), fun e => ?_, fun j hj => ?_, fun a c hac hcc hne q hq => ?_, fun e => ?_, fun e => ?_⟩
  · have e8 : m 8 = true := by
      rcases hi with ⟨rfl, _⟩ | ⟨rfl, _⟩ <;> simpa using e
    obtain ⟨a, b⟩ := h.dep e8
    exact ⟨by simp [a], by simp [b]⟩
  · obtain ⟨b1, b2⟩ := ha j hj
    simp only [if_neg b2]
    exact ownsRow_below (h.row j b1) hb
  · obtain ⟨b1, b2⟩ := ha a hac
    obtain ⟨d1, d2⟩ := ha c hcc
    simp only [if_neg b2] at hq
    simp only [if_neg d2]
    exact h.ne a c b1 d1 hne q hq
  · rcases hi with ⟨rfl, rfl⟩ | ⟨rfl, rfl⟩
    · simp only [if_pos]
    · simp only [if_neg (show ¬ (14 : Nat) = 15 by decide)]
      exact h.same (by simpa using e)
  · rcases hi with ⟨rfl, rfl⟩ | ⟨rfl, rfl⟩
    · simp only [if_neg (show ¬ (15 : Nat) = 14 by decide)]
      exact h.fin (by simpa using e)
    · simp only [if_pos]
end
/-! ### Plain: the page -/
theorem ahead_split {L : List Nd} {t : Nat} (hs : Items L 0 (itsP L)) (ht : t ∈ itsP L ∨ t = L.length) : (itsP L).takeWhile (fun x : Nat => decide ((x : Int) < (t : Int))) = itsP (L.take t) := by
  have hi := items_take hs ht
  rw [itsP_eq hi]
  refine wh_below (r := (itsP L).dropWhile (· != t)) ?_ (fun x hx => ?_) (fun x hx => ?_)
  · unfold aheadP; exact (List.takeWhile_append_dropWhile).symm
  · have := (hi.lt x hx).2
    rw [List.length_take] at this
    omega
  · have hne : x = t := by
      cases hd : (itsP L).dropWhile (· != t) with
      | nil => rw [hd] at hx; cases hx
      | cons y r =>
        rw [hd] at hx
        cases hx
        have := List.head_dropWhile_not (p := (· != t)) (l := itsP L) (by rw [hd]; simp)
        simp only [hd, List.head_cons, bne_eq_false_iff_eq] at this
        exact this
    omega
theorem page_plain {L : List Nd} {t : Nat} (hs : Items L 0 (itsP L)) (ht : t ∈ itsP L ∨ t = L.length) (htl : t ≤ L.length) : pageP L (itsP (L.take t)) = itF fPlain (L.take t) := by
  have hi := its_self (items_take hs ht)
  unfold pageP itF
  refine flat_same fun x hx => ?_
  obtain ⟨m, hm⟩ := hi.at_ x hx
  have hlt := (hi.lt x hx).2
  obtain ⟨b1, b2⟩ := take_beh hlt hm
  have hp := behC_pos _ _ _ hm
  unfold fPlain
  rw [item_head hm]
  have hn : nth (L.take t) x = nth L x := by
    unfold nth; rw [List.getElem?_take_of_lt (by omega)]
  rw [hn, itemN_sl hm, itemN_sl b1]
  have e : sl (L.take t) x m = sl L x m := by
    unfold sl
    rw [List.drop_take, List.take_take]
    congr 1; omega
  rw [e]
theorem plain_run {A : List Nd} (hA : RunG 40 A) : ∀ s : List Nat, (∀ x ∈ s, x ∈ itsP A) → RunG 40 (s.flatMap fun x => fPlain (itemN A x))
  | [], _ => .nil (by decide)
  | x :: s, h => by
    rw [List.flatMap_cons]
    refine RunG.app ?_ (plain_run hA s fun y hy => h y (by simp [hy]))
    unfold fPlain
    split
    · exact .nil (by decide)
    · exact hA.item (by decide) (h x (by simp))
theorem plain_len {A : List Nd} (h : Items A 0 (itsP A)) : (itF fPlain A).length ≤ A.length := by
  have key : ∀ s : List Nat, (s.flatMap fun x => fPlain (itemN A x)).length ≤ (s.flatMap (itemN A)).length := by
    intro s
    induction s with
    | nil => exact Nat.le_refl _
    | cons x s ih =>
      rw [List.flatMap_cons, List.flatMap_cons, List.length_append, List.length_append]
      have : (fPlain (itemN A x)).length ≤ (itemN A x).length := by
        unfold fPlain
        split
        · simp
        · exact Nat.le_refl _
      omega
  have h1 := key (itsP A)
  rw [items_flat h, List.drop_zero] at h1
  exact h1
theorem ins_le {A : List Nd} {x m : Nat} (hm : behC (A.drop x) 0 = some m) : (insP A x).length ≤ (itemN A x).length := by
  have hp := behC_pos _ _ _ hm
  rw [List.length_drop] at hp
  rw [insP_eq hm, itemN_sl hm, sl_len (by omega)]
  unfold sl
  simp only [List.length_take, List.length_drop]
  omega
theorem cont_len {A : List Nd} (hA : RunG 40 A) (k : Int) : (contL A k).length ≤ A.length := by
  have h := hA.its
  have key : ∀ s : List Nat, (∀ x ∈ s, x ∈ itsP A) → (s.flatMap fun x => fCont k (itemN A x)).length ≤ (s.flatMap (itemN A)).length := by
    intro s
    induction s with
    | nil => intro _; exact Nat.le_refl _
    | cons x s ih =>
      intro hs
      have hx := hs x (by simp)
      obtain ⟨m, hm⟩ := h.at_ x hx
      rw [List.flatMap_cons, List.flatMap_cons, List.length_append, List.length_append]
      have h1 : (fCont k (itemN A x)).length ≤ (itemN A x).length := by
        unfold fCont
        rw [item_head hm, item_ins hm]
        split
        · rename_i hc
          exact Nat.le_trans (lost_len (ins_good hA hx hc.1).its) (ins_le hm)
        · simp
      have h2 := ih fun y hy => hs y (by simp [hy])
      omega
  have h1 := key (itsP A) fun x hx => hx
  rw [items_flat h, List.drop_zero] at h1
  exact h1
theorem deal_err {L : List Nd} : ∀ {s : List Sp} {d : Dl} {e : Int}, dealF L s d = .error e → e ≠ 0
  | [], d, e, h => by cases h
  | a :: s, d, e, h => by
    unfold dealF at h
    cases hd : dealS L d a with
    | ok d' => rw [hd] at h; exact deal_err h
    | error e' =>
      rw [hd] at h
      cases h
      unfold dealS at hd
      simp only at hd
      split at hd
      · cases hd
      split at hd
      · cases hd
      split at hd
      · cases hd
      · rename_i hq
        cases hd
        exact hq
theorem deal_bad {L : List Nd} {tk : Int} {C : List Cl} {goal depth : Int} (h : (dealP L tk C goal depth).e ≠ 0) : (dealP L tk C goal depth).page = [] ∧ (dealP L tk C goal depth).boxes = [] ∧ (dealP L tk C goal depth).rest = [] := by
  unfold dealP at h ⊢
  split
  · rename_i h1
    rw [if_pos h1] at h
    split
    · rename_i h2
      rw [if_pos h2] at h
      simp only at h ⊢
      split
      · rename_i h3
        rw [if_pos h3] at h
        split
        · exact ⟨rfl, rfl, rfl⟩
        · rename_i D hD
          rw [hD] at h
          simp only at h
          split
          · exact ⟨rfl, rfl, rfl⟩
          · rename_i h4
            rw [if_neg h4] at h
            exact absurd rfl h
      · exact ⟨rfl, rfl, rfl⟩
    · exact ⟨rfl, rfl, rfl⟩
  · exact ⟨rfl, rfl, rfl⟩
theorem dealF_ok9 {L : List Nd} {t : Nat} (hL : L.length ≤ 2000) : ∀ {s : List Sp} {n : Nat} {d D : Dl}, (∀ y ∈ s, StepOk L t y) → DlOk n d → dealF L s d = .ok D → DlOk (n + s.length) D
  | [], n, d, D, _, h, hD => by cases hD; exact h
  | a :: s, n, d, D, hs, h, hD => by
    obtain ⟨d', h1, h2⟩ := dealF_cons hD
    have := dealF_ok9 hL (fun y hy => hs y (by simp [hy])) (dealS_ok hL (hs a (by simp)) h h1) h2
    rw [List.length_cons, show n + (s.length + 1) = n + 1 + s.length by omega]
    exact this
theorem deal_good {L : List Nd} {tk : Int} {C : List Cl} {goal depth : Int} (h : (dealP L tk C goal depth).e = 0) :
    ∃ (t : Nat) (D : Dl), tk = (t : Int) ∧ (t ∈ itsP L ∨ t = L.length) ∧ t ≤ L.length ∧ checkC L = 0 ∧ RunG 40 (L.take t) ∧ dealP L tk C goal depth = ⟨itF fPlain (L.take t), D.boxes, D.rest ++ L.drop t, 0⟩ ∧ (D.rest ++ L.drop t).length ≤ 2000 ∧ D.boxes.length ≤ 255 ∧
      RunG 40 D.rest ∧ (∀ k, colQ (boxK D.boxes k) = 0) ∧ ∀ k : Nat, lostL (boxK D.boxes k) ++ contL D.rest (k : Int) = contL (L.take t) (k : Int) := by
  obtain ⟨R, hR⟩ : ∃ R, dealP L tk C goal depth = R := ⟨_, rfl⟩
  rw [hR] at h ⊢
  unfold dealP at hR
  split at hR
  case isFalse h1 => subst hR; exact absurd h h1
  rename_i h1
  have hok := accE_ok h1
  have hck := colQ_check hok.col
  have hs := its_of hck
  split at hR
  case isFalse h2 => subst hR; cases h
  rename_i h2
  obtain ⟨t, rfl, ht⟩ := isPlace_at h2
  have htl : t ≤ L.length := by
    rcases ht with h | h
    · exact Nat.le_of_lt (hs.lt _ h).2
    · omega
  simp only [Int.toNat_natCast] at hR
  split at hR
  case isFalse h3 => subst hR; exact absurd h h3
  rename_i h3
  split at hR
  case h_1 e hE => subst hR; exact absurd h (deal_err hE)
  rename_i D hD
  split at hR
  case isTrue h4 => subst hR; cases h
  rename_i h4
  have hso := steps_ok (L := L) (C := C) (goal := goal) (depth := depth) hck ht h3
  have hdo := dealF_ok9 (n := 0) (checkC_zero hck).1 hso ⟨by decide, (fun x hx => by cases hx), Nat.zero_le _⟩ hD
  obtain ⟨k1, k2, k3⟩ := deal_kept ht hok.col h3 hD
  refine ⟨t, D, rfl, ht, htl, hck, ((check_run.1 hck).2.cut (by decide) ht).1, ?_, by omega, hdo.few, k1, k2, k3⟩
  rw [← hR, ahead_split hs ht, page_plain hs ht htl]
end Go.Proofs.YtaehkbbdmamfpaaGreatDoor
