/-
  A region that draws its order: reads, whose order has no part in what they hand back, and some operations that make or write memory, in whatever order their edges leave: each shown once, from what holds between any two of them. No statement of the seat stands here.
-/
import Derived.Test.YtomehdepjenilaaGreatTame4
namespace Go.Proofs.YtomehdepjenilaaGreat
open Go.RowKit
section
variable {P : Program} {l : List Oper}
def ssaB (l : List Oper) (mk : List Nat) : Bool := (List.range l.length).all fun i => match l[i]? with
  | none => true
  | some oi => oi.guard.isNone && (List.range l.length).all fun j => j == i || match l[j]? with
    | none => true
    | some oj => match oj.dst with
      | none => true
      | some t => !(oi.looksAt l.toArray).contains t || (edge oi j && decide (j < i) && (mk.contains i || !mk.contains j))
theorem ssa_guard {mk : List Nat} (h : ssaB l mk = true) {i : Nat} {o : Oper} (hi : l[i]? = some o) : o.guard = none := by
  have hlt : i < l.length := (List.getElem?_eq_some_iff.1 hi).1
  have h1 := List.all_eq_true.1 h i (List.mem_range.2 hlt)
  rw [hi] at h1
  simp only [Bool.and_eq_true, Option.isNone_iff_eq_none] at h1
  exact h1.1
theorem ssa_reads {mk : List Nat} (h : ssaB l mk = true) {i j : Nat} {o oj : Oper} {t : Nat} (hi : l[i]? = some o) (hj : l[j]? = some oj) (hne : j ≠ i) (hd : oj.dst = some t) (hl : t ∈ o.looksAt l.toArray) :
    edge o j = true ∧ j < i ∧ (mk.contains i = true ∨ mk.contains j = false) := by
  have hlt : i < l.length := (List.getElem?_eq_some_iff.1 hi).1
  have hlj : j < l.length := (List.getElem?_eq_some_iff.1 hj).1
  have h1 := List.all_eq_true.1 h i (List.mem_range.2 hlt)
  rw [hi] at h1
  simp only [Bool.and_eq_true] at h1
  have h2 := List.all_eq_true.1 h1.2 j (List.mem_range.2 hlj)
  rw [hj] at h2
  simp only [hd, Bool.or_eq_true, beq_iff_eq, hne, false_or] at h2
  rcases h2 with h2 | h2
  · rw [List.contains_iff_mem.2 hl] at h2; cases h2
  · simp only [Bool.and_eq_true, decide_eq_true_eq, Bool.or_eq_true, Bool.not_eq_true'] at h2
    exact ⟨h2.1.1, h2.1.2, h2.2⟩
theorem reads_same2 {vs vs' : List Value} (h1 : vs.length = l.length) (h2 : vs'.length = l.length) (ht : Tame l) (a : Act) (m m' : Nat → Bool) (i : Nat) (o : Oper) (hi : l[i]? = some o)
    (h : ∀ (j : Nat) (oj : Oper) (t : Nat), l[j]? = some oj → j ≠ i → oj.dst = some t → t ∈ o.looksAt l.toArray → m j = m' j ∧ (m j = true → vs[j]? = vs'[j]?)) :
    ∀ x ∈ o.op.operands, (frm a l vs m).eval x = (frm a l vs' m').eval x := by
  classical
  obtain ⟨m1, hm1⟩ : ∃ m1 : Nat → Bool, m1 = fun j => m j && decide (∃ (oj : Oper) (t : Nat), l[j]? = some oj ∧ j ≠ i ∧ oj.dst = some t ∧ t ∈ o.looksAt l.toArray) := ⟨_, rfl⟩
  have hm : ∀ (j : Nat) (oj : Oper) (t : Nat), l[j]? = some oj → j ≠ i → oj.dst = some t → t ∈ o.looksAt l.toArray → m1 j = m j := fun j oj t hj hne hd hl => by
    rw [hm1]
    show (m j && decide _) = m j
    rw [decide_eq_true ⟨oj, t, hj, hne, hd, hl⟩, Bool.and_true]
  have e1 := (reads_same h1 ht a m m1 i o hi fun j oj t hj hne hd hl => (hm j oj t hj hne hd hl).symm).1
  have e2 : frm a l vs m1 = frm a l vs' m1 := frm_vs a m1 h1 h2 fun j hj => by
    rw [hm1] at hj
    simp only [Bool.and_eq_true, decide_eq_true_eq] at hj
    obtain ⟨h3, oj, t, h4, h5, h6, h7⟩ := hj
    exact (h j oj t h4 h5 h6 h7).2 h3
  have e3 := (reads_same h2 ht a m1 m' i o hi fun j oj t hj hne hd hl => (hm j oj t hj hne hd hl).trans (h j oj t hj hne hd hl).1).1
  intro x hx
  rw [e1 x hx, e2, e3 x hx]
def tk (P : Program) (mk : List Nat) (S : World → Prop) (Qn : Act → Prop) : Nat → List Oper → Act → Prop
  | _, [], a => Qn a
  | i, o :: rest, a => if mk.contains i then tk P mk S Qn (i + 1) rest a else ∃ v, (∀ w, S w → ∀ K : Act → World → Prop, K (a.put o.dst v) w → o.wp P a w K QNo) ∧ tk P mk S Qn (i + 1) rest (a.put o.dst v)
structure TK (P : Program) (mk : List Nat) (S : World → Prop) (Qn : Act → Prop) (i : Nat) (rest : List Oper) (a : Act) : Prop where
  out : tk P mk S Qn i rest a
theorem TK.nil {mk : List Nat} {S : World → Prop} {Qn : Act → Prop} {i : Nat} {a : Act} (h : Qn a) : TK P mk S Qn i [] a := ⟨h⟩
theorem TK.pass {mk : List Nat} {S : World → Prop} {Qn : Act → Prop} {i : Nat} {o : Oper} {rest : List Oper} {a : Act} (hk : mk.contains i = true) (h : TK P mk S Qn (i + 1) rest a) : TK P mk S Qn i (o :: rest) a := by
  refine ⟨?_⟩
  unfold tk
  rw [if_pos hk]
  exact h.out
theorem TK.read {mk : List Nat} {S : World → Prop} {Qn : Act → Prop} {i : Nat} {o : Oper} {rest : List Oper} {T : List Value} {df : List Deferred} (hk : mk.contains i = false) (v : Value) (h : ∀ w, S w → ∀ K : Act → World → Prop, (∀ u, u = v → K ((⟨T.toArray, df⟩ : Act).put o.dst u) w) → o.wp P ⟨T.toArray, df⟩ w K QNo)
    (hr : TK P mk S Qn (i + 1) rest ((⟨T.toArray, df⟩ : Act).put o.dst v)) : TK P mk S Qn i (o :: rest) ⟨T.toArray, df⟩ := by
  refine ⟨?_⟩
  unfold tk
  rw [if_neg (by rw [hk]; decide)]
  exact ⟨v, fun w hS K hK => h w hS K (fun u hu => by rw [hu]; exact hK), hr.out⟩
def msk (mk : List Nat) (i : Nat) : Nat → Bool := fun j => !mk.contains j && decide (j < i)
theorem tk_vals (ht : Tame l) {mk : List Nat} {S : World → Prop} {Qn : Act → Prop} (a : Act) : ∀ (rest : List Oper) (i : Nat) (vs : List Value), l.drop i = rest → vs.length = l.length → tk P mk S Qn i rest (frm a l vs (msk mk i)) → i ≤ l.length →
    ∃ vs0 : List Value, vs0.length = l.length ∧ (∀ j, j < i → vs0[j]? = vs[j]?) ∧
      (∀ j o v, i ≤ j → l[j]? = some o → mk.contains j = false → vs0[j]? = some v → ∀ w, S w → ∀ K : Act → World → Prop, K ((frm a l vs0 (msk mk j)).put o.dst v) w → o.wp P (frm a l vs0 (msk mk j)) w K QNo) ∧
      Qn (frm a l vs0 (msk mk l.length))
  | [], i, vs, hd, hl, h, hi => by
    have : l.length ≤ i := by
      have := congrArg List.length hd
      rw [List.length_drop, List.length_nil] at this
      omega
    obtain rfl : i = l.length := by omega
    exact ⟨vs, hl, fun _ _ => rfl, fun j o v hj ho => by have := (List.getElem?_eq_some_iff.1 ho).1; omega, h⟩
  | o :: rest, i, vs, hd, hl, h, hi => by
    have hlt : i < l.length := by
      have := congrArg List.length hd
      rw [List.length_drop, List.length_cons] at this
      omega
    have ho : l[i]? = some o := by
      have := congrArg (fun x : List Oper => x[0]?) hd
      simpa [List.getElem?_drop] using this
    have hd' : l.drop (i + 1) = rest := by
      rw [← List.tail_drop, hd]; rfl
    unfold tk at h
    split at h
    · rename_i hk
      have em : msk mk (i + 1) = msk mk i := funext fun j => by
        unfold msk
        by_cases hj : j = i
        · subst hj; rw [hk]; rfl
        · congr 1
          simp only [decide_eq_decide]; omega
      rw [← em] at h
      obtain ⟨vs0, h1, h2, h3, h4⟩ := tk_vals ht a rest (i + 1) vs hd' hl h hlt
      refine ⟨vs0, h1, fun j hj => h2 j (by omega), fun j o' v hj ho' hk' hv => ?_, h4⟩
      by_cases hji : j = i
      · subst hji; rw [hk] at hk'; cases hk'
      · exact h3 j o' v (by omega) ho' hk' hv
    · rename_i hk
      have hk : mk.contains i = false := by simpa using hk
      obtain ⟨v, h1, h2⟩ := h
      have hmi : msk mk i i = false := by unfold msk; simp
      have em : (fun j => msk mk i j || j == i) = msk mk (i + 1) := funext fun j => by
        unfold msk
        by_cases hj : j = i
        · subst hj; rw [hk]; simp
        · rw [beq_eq_false_iff_ne.2 hj, Bool.or_false]
          congr 1
          simp only [decide_eq_decide]; omega
      rw [frm_put' ht a _ i o v hl ho hmi, em] at h2
      obtain ⟨vs0, g1, g2, g3, g4⟩ := tk_vals ht a rest (i + 1) (vs.set i v) hd' (by simp [hl]) h2 hlt
      have hlow : ∀ j, j < i → vs0[j]? = vs[j]? := fun j hj => by
        rw [g2 j (by omega), List.getElem?_set_ne (by omega)]
      refine ⟨vs0, g1, hlow, fun j o' v' hj ho' hk' hv => ?_, g4⟩
      by_cases hji : j = i
      · subst hji
        rw [ho] at ho'; cases ho'
        have e9 : vs0[j]? = some v := by
          rw [g2 j (by omega), List.getElem?_set]
          simp [hl, hlt]
        rw [hv] at e9; cases e9
        have ef : frm a l vs0 (msk mk j) = frm a l vs (msk mk j) := frm_vs a _ g1 hl fun k hk9 => by
          unfold msk at hk9
          simp only [Bool.and_eq_true, decide_eq_true_eq] at hk9
          exact hlow k hk9.2
        rw [ef]
        exact h1
      · exact g3 j o' v' (by omega) ho' hk' hv
def kw (P : Program) (l : List Oper) (mk : List Nat) (J : (Nat → Bool) → (Nat → Value) → World → Prop) (Qn : Act → World → Prop) (us : Nat → Value) : List Nat → Act → Prop
  | [], a => ∀ w, J (fun j => mk.contains j) us w → Qn a w
  | i :: r, a => ∃ o, l[i]? = some o ∧ (∀ m w, J m us w → m i = false → (∀ j, mk.contains j = true → edge o j = true → m j = true) → o.wp P a w (fun a' w' => ∃ u, a' = a.put o.dst u ∧ J (fun j => m j || j == i) (fun j => if j = i then u else us j) w') QNo) ∧ kw P l mk J Qn us r (a.put o.dst (us i))
structure KW (P : Program) (l : List Oper) (mk : List Nat) (J : (Nat → Bool) → (Nat → Value) → World → Prop) (Qn : Act → World → Prop) (us : Nat → Value) (r : List Nat) (a : Act) : Prop where
  out : kw P l mk J Qn us r a
theorem KW.nil {mk : List Nat} {J : (Nat → Bool) → (Nat → Value) → World → Prop} {Qn : Act → World → Prop} {us : Nat → Value} {a : Act} (h : ∀ w, J (fun j => mk.contains j) us w → Qn a w) : KW P l mk J Qn us [] a := ⟨h⟩
theorem KW.step {mk : List Nat} {J : (Nat → Bool) → (Nat → Value) → World → Prop} {Qn : Act → World → Prop} {us : Nat → Value} {i : Nat} {r : List Nat} {T : List Value} {df : List Deferred} (o : Oper) (ho : l[i]? = some o)
    (h : ∀ m w, J m us w → m i = false → (∀ j, mk.contains j = true → edge o j = true → m j = true) → ∀ R : Act → World → Prop, (∀ u w', J (fun j => m j || j == i) (fun j => if j = i then u else us j) w' → R ((⟨T.toArray, df⟩ : Act).put o.dst u) w') → o.wp P ⟨T.toArray, df⟩ w R QNo)
    (hr : KW P l mk J Qn us r ((⟨T.toArray, df⟩ : Act).put o.dst (us i))) : KW P l mk J Qn us (i :: r) ⟨T.toArray, df⟩ :=
  ⟨o, ho, fun m w h1 h2 h3 => h m w h1 h2 h3 _ fun u _ hJ => ⟨u, rfl, hJ⟩, hr.out⟩
def mskK (mk done : List Nat) : Nat → Bool := fun j => !mk.contains j || done.contains j
theorem kw_step (ht : Tame l) {mk : List Nat} {J : (Nat → Bool) → (Nat → Value) → World → Prop} {Qn : Act → World → Prop} {us : Nat → Value} (a : Act) (vs0 : List Value) (hl0 : vs0.length = l.length) : ∀ (r done : List Nat) (ws : List Value), mk = done ++ r → mk.Pairwise (· < ·) → ws.length = l.length → (∀ j, mk.contains j = false → ws[j]? = vs0[j]?) → (∀ j ∈ done, ws[j]? = some (us j)) →
    kw P l mk J Qn us r (frm a l ws (mskK mk done)) →
    (∀ i ∈ r, ∃ (xs : List Value) (o : Oper) (d : List Nat), xs.length = l.length ∧ l[i]? = some o ∧ (∀ j, mk.contains j = false → xs[j]? = vs0[j]?) ∧ (∀ j ∈ d, xs[j]? = some (us j)) ∧ (∀ j, mk.contains j = true → (d.contains j = true ↔ j < i)) ∧
      ∀ m w, J m us w → m i = false → (∀ j, mk.contains j = true → edge o j = true → m j = true) → o.wp P (frm a l xs (mskK mk d)) w (fun a' w' => ∃ u, a' = (frm a l xs (mskK mk d)).put o.dst u ∧ J (fun j => m j || j == i) (fun j => if j = i then u else us j) w') QNo) ∧
    ∃ xs : List Value, xs.length = l.length ∧ (∀ j, mk.contains j = false → xs[j]? = vs0[j]?) ∧ (∀ j ∈ mk, xs[j]? = some (us j)) ∧ ∀ w, J (fun j => mk.contains j) us w → Qn (frm a l xs (fun _ => true)) w
  | [], done, ws, hmk, hp, hl, h1, h2, h => by
    have e : mskK mk done = fun _ => true := funext fun j => by
      rw [List.append_nil] at hmk
      unfold mskK
      rw [hmk]
      cases done.contains j <;> rfl
    rw [e] at h
    exact ⟨fun i hi => (by cases hi), ws, hl, h1, fun j hj => h2 j (by rw [hmk, List.append_nil] at hj; exact hj), h⟩
  | i :: r, done, ws, hmk, hp, hl, h1, h2, h => by
    obtain ⟨o, ho, h3, h4⟩ := h
    have hp' : (∀ x ∈ done, ∀ y ∈ i :: r, x < y) ∧ (i :: r).Pairwise (· < ·) := by
      rw [hmk, List.pairwise_append] at hp
      exact ⟨hp.2.2, hp.2.1⟩
    have hir := (List.pairwise_cons.1 hp'.2).1
    have hni : done.contains i = false := by
      cases hc : done.contains i with
      | false => rfl
      | true => have := hp'.1 i (List.contains_iff_mem.1 hc) i List.mem_cons_self; omega
    have hki : mk.contains i = true := List.contains_iff_mem.2 (by rw [hmk]; exact List.mem_append_right _ List.mem_cons_self)
    have hmi : mskK mk done i = false := by unfold mskK; rw [hki, hni]; rfl
    have em : (fun j => mskK mk done j || j == i) = mskK mk (done ++ [i]) := funext fun j => by
      unfold mskK
      have : (done ++ [i]).contains j = (done.contains j || j == i) := by
        rw [Bool.eq_iff_iff]
        simp
      rw [this, Bool.or_assoc]
    rw [frm_put' ht a _ i o (us i) hl ho hmi, em] at h4
    have hlt : i < l.length := (List.getElem?_eq_some_iff.1 ho).1
    obtain ⟨g1, g2⟩ := kw_step ht a vs0 hl0 r (done ++ [i]) (ws.set i (us i)) (by rw [hmk]; simp) hp (by simp [hl]) (fun j hj => by
        rw [List.getElem?_set_ne (by rintro rfl; rw [hki] at hj; cases hj)]
        exact h1 j hj) (fun j hj => by
        rcases List.mem_append.1 hj with hj | hj
        · have : i ≠ j := by have := hp'.1 j hj i List.mem_cons_self; omega
          rw [List.getElem?_set_ne this]
          exact h2 j hj
        · obtain rfl := List.mem_singleton.1 hj
          rw [List.getElem?_set]; simp [hl, hlt]) h4
    refine ⟨fun k hk => ?_, g2⟩
    rcases List.mem_cons.1 hk with rfl | hk
    · refine ⟨ws, o, done, hl, ho, h1, h2, fun j hj => ?_, h3⟩
      constructor
      · intro h5; exact hp'.1 j (List.contains_iff_mem.1 h5) k List.mem_cons_self
      · intro h5
        have h6 := List.contains_iff_mem.1 hj
        rw [hmk] at h6
        rcases List.mem_append.1 h6 with h6 | h6
        · exact List.contains_iff_mem.2 h6
        · rcases List.mem_cons.1 h6 with rfl | h6
          · omega
          · have := hir j h6; omega
    · exact g1 k hk
def uo (vs : List Value) : Nat → Value := fun j => vs.getD j undef
theorem uo_set {vs : List Value} {i : Nat} {u : Value} (h : i < vs.length) : uo (vs.set i u) = fun j => if j = i then u else uo vs j := funext fun j => by
  unfold uo
  rw [List.getD_eq_getElem?_getD, List.getD_eq_getElem?_getD, List.getElem?_set]
  by_cases hj : j = i
  · subst hj; simp [h]
  · rw [if_neg hj, if_neg (fun e => hj e.symm)]
theorem wpAny_mk (ht : Tame l) {mk : List Nat} (hs : ssaB l mk = true) {J : (Nat → Bool) → (Nat → Value) → World → Prop} {S : World → Prop} (hJS : ∀ m us w, J m us w → S w) {Q : Exit → Act → World → Prop} (a : Act) (vs0 : List Value) (hl0 : vs0.length = l.length)
    (hrd : ∀ j o v, l[j]? = some o → mk.contains j = false → vs0[j]? = some v → ∀ w, S w → ∀ K : Act → World → Prop, K ((frm a l vs0 (msk mk j)).put o.dst v) w → o.wp P (frm a l vs0 (msk mk j)) w K QNo)
    (hmkr : ∀ us : Nat → Value, (∀ i ∈ mk, ∃ (xs : List Value) (o : Oper) (d : List Nat), xs.length = l.length ∧ l[i]? = some o ∧ (∀ j, mk.contains j = false → xs[j]? = vs0[j]?) ∧ (∀ j ∈ d, xs[j]? = some (us j)) ∧ (∀ j, mk.contains j = true → (d.contains j = true ↔ j < i)) ∧
      ∀ m w, J m us w → m i = false → (∀ j, mk.contains j = true → edge o j = true → m j = true) → o.wp P (frm a l xs (mskK mk d)) w (fun a' w' => ∃ u, a' = (frm a l xs (mskK mk d)).put o.dst u ∧ J (fun j => m j || j == i) (fun j => if j = i then u else us j) w') QNo) ∧
      ∃ xs : List Value, xs.length = l.length ∧ (∀ j, mk.contains j = false → xs[j]? = vs0[j]?) ∧ (∀ j ∈ mk, xs[j]? = some (us j)) ∧ ∀ w, J (fun j => mk.contains j) us w → Q .normal (frm a l xs (fun _ => true)) w)
    (hmkl : ∀ i ∈ mk, i < l.length) :
    ∀ (fuel : Nat) (listed : Array Bool) (vs : List Value) (w : World), J (fun j => mk.contains j && listed.getD j false) (uo vs) w → HeadInv .any l.toArray l.length listed → vs.length = l.length → (∀ j, mk.contains j = false → vs[j]? = vs0[j]?) → (List.range l.length).countP (fun j => !listed.getD j false) = fuel →
      wpAny P .any l.toArray Q fuel listed (frm a l vs (fun j => listed.getD j false)) w := by
  intro fuel
  induction fuel with
  | zero =>
    intro listed vs w hJ inv hlv hvs hc0
    have hall : ∀ j, j < l.length → listed.getD j false = true := fun j hj => by
      have := List.countP_eq_zero.1 hc0 j (List.mem_range.2 hj)
      simpa using this
    obtain ⟨_, xs, h1, h2, h3, h4⟩ := hmkr (uo vs)
    have em : (fun j => mk.contains j && listed.getD j false) = fun j => mk.contains j := funext fun j => by
      cases hc : mk.contains j with
      | false => rfl
      | true => rw [hall j (hmkl j (List.contains_iff_mem.1 hc))]; rfl
    rw [em] at hJ
    have h5 := h4 w hJ
    have ef : frm a l vs (fun j => listed.getD j false) = frm a l xs (fun _ => true) := by
      have e1 : frm a l vs (fun j => listed.getD j false) = frm a l vs (fun _ => true) := by
        refine act_ext (fun t => frm_agree hlv ht.apart a _ _ t fun j oj hj _ => hall j (List.getElem?_eq_some_iff.1 hj).1) (by rw [frm_defers, frm_defers])
      rw [e1]
      refine frm_vs a _ hlv h1 fun j _ => ?_
      cases hc : mk.contains j with
      | false => rw [hvs j hc, h2 j hc]
      | true =>
        have hm := List.contains_iff_mem.1 hc
        rw [h3 j hm]
        have hjl := hmkl j hm
        unfold uo
        rw [List.getD_eq_getElem?_getD, List.getElem?_eq_getElem (by omega)]
        rfl
    rw [ef]
    refine ⟨?_, h5⟩
    apply List.eq_nil_iff_forall_not_mem.2
    intro j hj
    obtain ⟨g1, o, ho, _⟩ := mem_ready.1 hj
    have hjl : j < l.length := by
      have := (Array.getElem?_eq_some_iff.1 ho).1
      simpa using this
    have g2 := hall j hjl
    rw [getD_both g1] at g2
    cases g2
  | succ fuel ih =>
    intro listed vs w hJ inv hlv hvs hc1
    have hsz : listed.size = l.length := by rw [inv.size]; simp
    refine ⟨fun hr => ?_, fun i hi => ?_⟩
    · have h0 : 0 < (List.range l.length).countP (fun j => !listed.getD j false) := by omega
      obtain ⟨i, hi, hp⟩ := List.countP_pos_iff.1 h0
      have := all_listed ht hsz hr i (List.mem_range.1 hi)
      rw [this] at hp; cases hp
    · have hi2 := hi
      rw [mem_ready] at hi
      obtain ⟨h1, o, ho, hdep⟩ := hi
      have ho' : l[i]? = some o := by simpa using ho
      have hil : i < l.length := (List.getElem?_eq_some_iff.1 ho').1
      have hinv := inv.set hi2 hil
      have hib : i < listed.size := by omega
      have hif : listed.getD i false = false := getD_both h1
      have hcnt : (List.range l.length).countP (fun j => !(listed.setIfInBounds i true).getD j false) = fuel := by
        have := count_set hib hif l.length hil
        omega
      have emask : (fun j => listed.getD j false || j == i) = (fun j => (listed.setIfInBounds i true).getD j false) := funext fun j => (getD_set listed i j hib).symm
      have hdep2 : ∀ j, edge o j = true → listed.getD j false = true := fun j hj => by
        obtain ⟨e, he, hb⟩ := Array.any_eq_true'.1 hj
        simp only [Bool.and_eq_true, beq_iff_eq] at hb
        have := hdep e he hb.1
        rwa [hb.2] at this
      have hg := ssa_guard hs ho'
      unfold wpOp
      rw [ho]
      simp only
      rw [if_pos (by simp only [Region.wanted, hg])]
      left
      cases hk : mk.contains i with
      | false =>
        have hv : vs0[i]? = some (vs0[i]'(by omega)) := List.getElem?_eq_getElem (by omega)
        obtain ⟨v, hv9⟩ : ∃ v, vs0[i]'(by omega) = v := ⟨_, rfl⟩
        rw [hv9] at hv
        have hrd1 := hrd i o v ho' hk hv w (hJS _ _ _ hJ)
        have hexec : execOp (frm a l vs (fun j => listed.getD j false)).eval o = execOp (frm a l vs0 (msk mk i)).eval o := execOp_congr o (fun cs b => ht.sel i o cs b ho') (reads_same2 hlv hl0 ht a _ _ i o ho' fun j oj t hj hne hd hlk => by
          obtain ⟨q1, q2, q3⟩ := ssa_reads hs ho' hj hne hd hlk
          have q4 : mk.contains j = false := by
            rcases q3 with q3 | q3
            · rw [hk] at q3; cases q3
            · exact q3
          refine ⟨?_, fun _ => hvs j q4⟩
          rw [hdep2 j q1]
          unfold msk
          rw [q4, decide_eq_true q2]
          rfl)
        refine wp_frameB (a := frm a l vs0 (msk mk i)) (T := fun u w' => u = v ∧ w' = w) hexec (by rw [frm_size, frm_size]) (hrd1 _ ⟨v, rfl, rfl, rfl⟩) ?_
        rintro u w' ⟨rfl, rfl⟩
        rw [frm_put hlv ht.apart a _ i o u ho' (by rw [hvs i hk]; exact hv), emask]
        refine ih _ vs w' ?_ hinv hlv hvs hcnt
        have e9 : (fun j => mk.contains j && (listed.setIfInBounds i true).getD j false) = fun j => mk.contains j && listed.getD j false := funext fun j => by
          rw [getD_set listed i j hib]
          by_cases hji : j = i
          · subst hji; rw [hk]; rfl
          · rw [beq_eq_false_iff_ne.2 hji, Bool.or_false]
        rw [e9]
        exact hJ
      | true =>
        obtain ⟨xs, o2, d, x1, x2, x3, x4, x5, x6⟩ := (hmkr (uo vs)).1 i (List.contains_iff_mem.1 hk)
        rw [ho'] at x2
        cases x2
        have hst := x6 _ w hJ (by rw [hk, hif]; rfl) (fun j hj he => by rw [hj, hdep2 j he]; rfl)
        have hexec : execOp (frm a l vs (fun j => listed.getD j false)).eval o = execOp (frm a l xs (mskK mk d)).eval o := execOp_congr o (fun cs b => ht.sel i o cs b ho') (reads_same2 hlv x1 ht a _ _ i o ho' fun j oj t hj hne hd hlk => by
          obtain ⟨q1, q2, _⟩ := ssa_reads hs ho' hj hne hd hlk
          have hjl : j < l.length := (List.getElem?_eq_some_iff.1 hj).1
          rw [hdep2 j q1]
          cases hkj : mk.contains j with
          | false => exact ⟨by unfold mskK; rw [hkj]; rfl, fun _ => by rw [hvs j hkj, x3 j hkj]⟩
          | true =>
            have hdj := (x5 j hkj).2 q2
            refine ⟨by unfold mskK; rw [hkj, hdj]; rfl, fun _ => ?_⟩
            rw [x4 j (List.contains_iff_mem.1 hdj)]
            unfold uo
            rw [List.getD_eq_getElem?_getD, List.getElem?_eq_getElem (by omega)]
            rfl)
        refine wp_frameB (a := frm a l xs (mskK mk d)) (T := fun u w' => J (fun j => (mk.contains j && listed.getD j false) || j == i) (fun j => if j = i then u else uo vs j) w') hexec (by rw [frm_size, frm_size]) hst ?_
        intro u w' hJ'
        rw [frm_put' ht a _ i o u hlv ho' hif, emask]
        refine ih _ (vs.set i u) w' ?_ hinv (by simp [hlv]) (fun j hj => by
          rw [List.getElem?_set_ne (by rintro rfl; rw [hk] at hj; cases hj)]
          exact hvs j hj) hcnt
        rw [uo_set (by omega)]
        have e9 : (fun j => mk.contains j && (listed.setIfInBounds i true).getD j false) = fun j => (mk.contains j && listed.getD j false) || j == i := funext fun j => by
          rw [getD_set listed i j hib]
          by_cases hji : j = i
          · subst hji; rw [hk]; simp
          · rw [beq_eq_false_iff_ne.2 hji, Bool.or_false, Bool.or_false]
        rw [e9]
        exact hJ'
def makeB (l : List Oper) (mk : List Nat) : Bool := tameOK l && ssaB l mk && mk.all (fun i => decide (i < l.length)) && decide (mk.Pairwise (· < ·))
theorem region_makers {id : Nat} {Q : Exit → Act → World → Prop} {a : Act} {w : World} (mk : List Nat) (S : World → Prop) (J : (Nat → Bool) → (Nat → Value) → World → Prop) (hm : P.follows .mixedOrders = true) (hchk : makeB l mk = true) (hJS : ∀ m us w, J m us w → S w) (hJ0 : ∀ us, J (fun _ => false) us w.drew)
    (h : TK P mk S (fun a' => ∀ us : Nat → Value, KW P l mk J (fun a'' w'' => Q .normal a'' w'') us mk a') 0 l a) : (Code.region id l.toArray true).wp P Q a w := by
  simp only [makeB, Bool.and_eq_true, decide_eq_true_eq] at hchk
  obtain ⟨⟨⟨ht, hs⟩, hb⟩, hp⟩ := hchk
  have ht := tame_of ht
  obtain ⟨vs, hvs⟩ : ∃ vs, vs = List.replicate l.length undef := ⟨_, rfl⟩
  have hlen : vs.length = l.length := by rw [hvs]; simp
  have e0 : ∀ (xs : List Value), frm a l xs (msk mk 0) = a := fun xs => by
    unfold frm
    refine putSel_false _ _ (fun x hx => ?_)
    obtain ⟨y, _, rfl⟩ := List.mem_map.1 hx
    simp [msk]
  have h' := h.out
  rw [← e0 vs] at h'
  obtain ⟨vs0, g1, _, g3, g4⟩ := tk_vals ht a l 0 vs (by simp) hlen h' (Nat.zero_le _)
  have hmkr := fun us : Nat → Value => kw_step (P := P) (J := J) (Qn := fun a'' w'' => Q .normal a'' w'') (us := us) ht a vs0 g1 mk [] vs0 (by simp) hp g1 (fun _ _ => rfl) (fun j hj => by cases hj) (by
    have h5 := (g4 us).out
    have em : msk mk l.length = msk mk l.length := rfl
    have ef : frm a l vs0 (mskK mk []) = frm a l vs0 (msk mk l.length) := by
      refine act_ext (fun t => frm_agree g1 ht.apart a _ _ t fun j oj hj _ => ?_) (by rw [frm_defers, frm_defers])
      have := (List.getElem?_eq_some_iff.1 hj).1
      unfold mskK msk
      simp [this]
    rw [ef]
    exact h5)
  refine wp_region_any hm ?_
  have hl0 : ∀ j, (Array.replicate l.toArray.size false).getD j false = false := fun j => getD_replicate_false _ _
  have := wpAny_mk (P := P) (S := S) ht hs hJS (Q := Q) a vs0 g1 (fun j o v ho hk hv => g3 j o v (Nat.zero_le _) ho hk hv) hmkr (fun i hi => by
      have := List.all_eq_true.1 hb i hi
      simpa using this)
    l.length (Array.replicate l.toArray.size false) vs0 w.drew (by
      have e : (fun j => mk.contains j && (Array.replicate l.toArray.size false).getD j false) = fun _ => false := funext fun j => by rw [hl0]; simp
      rw [e]
      exact hJ0 _) ⟨by simp, fun j oj _ hl => (by rw [hl0] at hl; cases hl), fun t h1 h2 => getD_in (by simpa using h2) (hl0 _)⟩ g1 (fun _ _ => rfl) (by
      have : (List.range l.length).countP (fun j => !(Array.replicate l.toArray.size false).getD j false) = (List.range l.length).length := by
        refine List.countP_eq_length.2 fun j _ => ?_
        rw [hl0]; rfl
      rw [this, List.length_range])
  have e1 : frm a l vs0 (fun j => (Array.replicate l.toArray.size false).getD j false) = a := by
    unfold frm
    refine putSel_false _ _ (fun x hx => ?_)
    obtain ⟨y, _, rfl⟩ := List.mem_map.1 hx
    exact hl0 _
  rw [e1] at this
  simpa using this
end
end Go.Proofs.YtomehdepjenilaaGreat
