/-
  The page builder: the page's break is the best one (plain). No statement of the seat stands here.
-/
import Derived.Test.YtomehdepjenilaaGreatH19
import Derived.Test.YtomehdepjenilaaGreatH32
namespace Go.Proofs.YtomehdepjenilaaGreat
open Go.ChangeShapes Go.WideShapes Go.ChangeAt Go.RowKit
def qI (prev : Option It) (x : It) (r : List It) : Int :=
  if (hd x).kind = 7 ∧ (prev.any fun p => !fallsK (hd p).kind) = true then 0 else if (hd x).kind = 8 ∧ r ≠ [] ∧ (hd (r.headD [])).kind = 7 then 0 else if (hd x).kind = 9 then (hd x).pen else 10000
def cI (g : Gr) (dn : List It) (q : Int) : Int := pricedP (badT (sizeM (mI g.depth (prunI g.top dn))).1 g.height) q
def lawI (g : Gr) (own : List Nd) (cost : Int) : List It → List It → Bool → Bool
  | _, [], _ => false
  | dn, x :: r, met =>
    if qI dn.getLast? x r < 10000 ∧ hasS dn = true then
      if flatI (prunI g.top dn) = own then
        (if cI g dn (qI dn.getLast? x r) = cost then (if cI g dn (qI dn.getLast? x r) = 1073741823 ∨ qI dn.getLast? x r ≤ -10000 then true else lawI g own cost (dn ++ [x]) r true) else false)
      else if cI g dn (qI dn.getLast? x r) < cost ∨ (met = true ∧ cI g dn (qI dn.getLast? x r) ≤ cost ∧ cI g dn (qI dn.getLast? x r) < 1073741823) then false
      else if cI g dn (qI dn.getLast? x r) = 1073741823 ∨ qI dn.getLast? x r ≤ -10000 then met
      else lawI g own cost (dn ++ [x]) r met
    else lawI g own cost (dn ++ [x]) r met
def bestP9 (s : Sh) : List Nd := ((s.list.take s.bk).map (·.1)).flatten
structure Sofar (g : Gr) (dn : List It) (σ : St) : Prop where
  jp : JP g dn σ.s
  inv : ∃ T0, Inv0 T0 0 σ
  dnOK : ∀ x ∈ dn, Good0 x
  wOK : ∀ x ∈ σ.waits, Good0 x
  len : dn.length + σ.waits.length ≤ 2000
  lt : σ.s.bsome = true → σ.s.bk < σ.s.list.length
  bc : σ.s.bcost ≤ 1073741823
theorem come_pre {g : Gr} {all : Bool} {σ σ' : St} {out out' : List PgP} (h : ComeTo g all σ out σ' out') : ∃ t, out' = out ++ t := by
  induction h with
  | nil _ => exact ⟨[], by simp⟩
  | stop _ _ => exact ⟨[], by simp⟩
  | step _ _ _ _ ih => exact ih
  | page _ _ _ _ _ ih =>
    obtain ⟨t, e⟩ := ih
    exact ⟨_ :: t, by rw [e, List.append_assoc]; rfl⟩
  | full _ _ _ _ => exact ⟨[_], rfl⟩
def AtP (g : Gr) (dn : List It) (σ : St) (p : PgP) : Prop :=
  p.cost ≤ σ.s.bcost ∧ ((p.box = bestP9 σ.s ∧ p.cost = σ.s.bcost ∧ σ.s.bsome = true ∧ lawI g p.box p.cost dn σ.waits true = true) ∨ ((flatS σ.s).length ≤ p.box.length ∧ lawI g p.box p.cost dn σ.waits false = true))
theorem looseQ_qI {g : Gr} {dn : List It} {s : Sh} {x : It} {r : List It} (h : JP g dn s) (hb : s.box = true) (hl : s.list ≠ []) : looseQ s (hd x) r = qI dn.getLast? x r := by
  have hla := h.last hb
  obtain ⟨y, hy, hyl⟩ : ∃ y, dn.getLast? = some y ∧ hd y = lastN s := by
    cases e : dn.getLast? with
    | none => rw [e] at hla; cases hla
    | some y =>
      rw [e] at hla
      simp only [Option.map_some, Option.some.injEq] at hla
      exact ⟨y, rfl, hla⟩
  have e1 : (dn.getLast?.any fun p => !fallsK (hd p).kind) = !fallsK (lastN s).kind := by rw [hy, Option.any_some, hyl]
  unfold looseQ qI
  rw [e1]
  split
  · rename_i h1
    by_cases c1 : (hd x).kind = 7 ∧ (!fallsK (lastN s).kind) = true
    · rw [if_pos c1]
    · rw [if_neg c1]
      rcases h1 with h1 | h1
      · exact absurd ⟨h1.1, by rw [h1.2.2]; rfl⟩ c1
      · exact (if_pos h1).symm
  · rename_i h1
    have n1 : ¬ ((hd x).kind = 7 ∧ (!fallsK (lastN s).kind) = true) := fun hc => h1 (Or.inl ⟨hc.1, hl, by simpa using hc.2⟩)
    rw [if_neg n1]
    exact (if_neg fun hc => h1 (Or.inr hc)).symm
theorem cost_I9 {g : Gr} {dn : List It} {s : Sh} {q : Int} (hz : g.top = .zero) (hgh : -1073741823 ≤ g.height ∧ g.height ≤ 1073741823) (hgd : 0 ≤ g.depth ∧ g.depth ≤ 1073741823) (h : JP g dn s) (hd0 : ∀ x ∈ dn, Good0 x) (hl : dn.length ≤ 2000) (hp : s.pens = 0) (hq : q < 10000) : costI s q = cI g dn q := by
  have hm := JP.mt hz hd0 hl
  have hdp : (mI g.depth (prunI g.top dn)).depth = g.depth := mI_depth _ _
  have hn := hm.nat
  have hd := hm.d
  have hb : -8900000000000 ≤ s.t.nat ∧ s.t.nat ≤ 8900000000000 := by
    rw [h.meas.1]
    unfold sizeM
    split
    · show -8900000000000 ≤ (mI g.depth (prunI g.top dn)).t.nat + ((mI g.depth (prunI g.top dn)).d - (mI g.depth (prunI g.top dn)).depth) ∧ (mI g.depth (prunI g.top dn)).t.nat + ((mI g.depth (prunI g.top dn)).d - (mI g.depth (prunI g.top dn)).depth) ≤ 8900000000000
      rw [hdp]
      omega
    · show -8900000000000 ≤ (mI g.depth (prunI g.top dn)).t.nat ∧ (mI g.depth (prunI g.top dn)).t.nat ≤ 8900000000000
      omega
  rw [cost_P hp hq hb (by rw [h.goal]; exact hgh), h.goal, h.meas.1]
  rfl
theorem flatS_prun {g : Gr} {dn : List It} {s : Sh} (h : JP g dn s) : flatS s = flatI (prunI g.top dn) := by unfold flatS flatI; rw [h.list]
theorem flat_grow (a : List (It × Int)) (b : List (It × Int)) : ((a.map (·.1)).flatten).length ≤ (((a ++ b).map (·.1)).flatten).length := by simp
theorem best_same {s s' : Sh} (hb : s.bk ≤ s.list.length) (hk : s'.bk = s.bk) {b : List (It × Int)} (hl : s'.list = s.list ++ b) : bestP9 s' = bestP9 s := by
  unfold bestP9
  rw [hl, hk, List.take_append_of_le_length hb]
theorem best_short {s : Sh} (hI : ∀ y ∈ s.list, Item0 y.1) (h : s.bk < s.list.length) : (bestP9 s).length < (flatS s).length := by
  unfold bestP9 flatS
  have e : s.list = s.list.take s.bk ++ s.list.drop s.bk := (List.take_append_drop _ _).symm
  have hd : s.list.drop s.bk ≠ [] := fun e => by
    have := congrArg List.length e
    rw [List.length_drop] at this
    simp at this
    omega
  obtain ⟨y, t, hy⟩ : ∃ y t, s.list.drop s.bk = y :: t := by
    cases e : s.list.drop s.bk with
    | nil => exact absurd e hd
    | cons y t => exact ⟨y, t, rfl⟩
  have hyp : 0 < y.1.length := (hI y (List.mem_of_mem_drop (by rw [hy]; simp))).pos
  conv => rhs; rw [e, hy]
  simp
  omega
variable {g : Gr} {dn l : List It} {σ τ : St} {x : It} {p : PgP}
theorem law_skip {own : List Nd} {cost : Int} {met : Bool} (h : ¬ (qI dn.getLast? x l < 10000 ∧ hasS dn = true)) : lawI g own cost dn (x :: l) met = lawI g own cost (dn ++ [x]) l met := by
  rw [lawI, if_neg h]
theorem at_skip {b : List (It × Int)} (hbk : σ.s.bk ≤ σ.s.list.length) (hl : τ.s.list = σ.s.list ++ b) (hk : τ.s.bk = σ.s.bk) (hb : τ.s.bsome = σ.s.bsome) (hc : τ.s.bcost = σ.s.bcost) (hw : σ.waits = x :: l) (ht : τ.waits = l) (hq : ¬ (qI dn.getLast? x l < 10000 ∧ hasS dn = true)) (h : AtP g (dn ++ [x]) τ p) : AtP g dn σ p := by
  obtain ⟨h1, h2⟩ := h
  rw [hc, best_same hbk hk hl, hb, ht] at h2
  rw [hc] at h1
  refine ⟨h1, ?_⟩
  rw [hw, law_skip hq, law_skip hq]
  rcases h2 with h2 | ⟨h2, h3⟩
  · exact .inl h2
  · refine .inr ⟨?_, h3⟩
    have : (flatS σ.s).length ≤ (flatS τ.s).length := by
      unfold flatS
      rw [hl]
      exact flat_grow _ _
    omega
theorem qI_solid (h : solidK (hd x).kind = true) (o : Option It) : qI o x l = 10000 := by
  unfold qI
  have : (hd x).kind = 4 ∨ (hd x).kind = 5 ∨ (hd x).kind = 3 := by simp [solidK] at h; omega
  rw [if_neg (by omega), if_neg (by omega), if_neg (by omega)]
theorem qI_pass (h : (hd x).kind = 12 ∨ (hd x).kind = 14) (o : Option It) : qI o x l = 10000 := by
  unfold qI
  rw [if_neg (by omega), if_neg (by omega), if_neg (by omega)]
theorem tried_told {s : Sh} {q : Int} (hp : s.pens = 0) (hq : q < 10000) (hf : s.bsome = false → s.bcost = 1073741823) :
    (triedS s q).bsome = true ∧ (((triedS s q).bk = s.list.length ∧ (triedS s q).bcost = costI s q ∧ costI s q ≤ s.bcost) ∨ ((triedS s q).bk = s.bk ∧ (triedS s q).bcost = s.bcost ∧ s.bsome = true ∧ ¬ (costI s q ≤ s.bcost ∧ costI s q < 1073741823))) := by
  unfold triedS
  dsimp only
  by_cases h : costI s q ≤ s.bcost ∧ (costI s q < 1073741823 ∨ s.bsome = false)
  · rw [if_pos h]
    exact ⟨rfl, .inl ⟨rfl, rfl, h.1⟩⟩
  · rw [if_neg h]
    refine ⟨rfl, .inr ⟨rfl, rfl, ?_, fun hc => h ⟨hc.1, .inl hc.2⟩⟩⟩
    cases e : s.bsome
    · exfalso
      exact h ⟨by rw [hf e]; exact cost_le hp hq, .inr e⟩
    · rfl
theorem fires_eq (s : Sh) (q : Int) : firesB s q = true ↔ (costI s q = 1073741823 ∨ q ≤ -10000) := by
  unfold firesB
  simp
theorem law_try {own : List Nd} {cost c q : Int} {met : Bool} (hq : qI dn.getLast? x l = q) (hq2 : q < 10000) (hs : hasS dn = true) (hc : cI g dn q = c) : lawI g own cost dn (x :: l) met =
    if flatI (prunI g.top dn) = own then (if c = cost then (if c = 1073741823 ∨ q ≤ -10000 then true else lawI g own cost (dn ++ [x]) l true) else false)
    else if c < cost ∨ (met = true ∧ c ≤ cost ∧ c < 1073741823) then false else if c = 1073741823 ∨ q ≤ -10000 then met else lawI g own cost (dn ++ [x]) l met := by
  rw [lawI, hq, hc, if_pos ⟨hq2, hs⟩]
theorem best_all {s s1 : Sh} (hl : s1.list = s.list) (hk : s1.bk = s.list.length) : bestP9 s1 = flatS s := by
  unfold bestP9 flatS
  rw [hl, hk, List.take_length]
theorem fire_best {s : Sh} {n : Nd} {r : List It} {bot : ByteArray} (h : ∀ y ∈ s.list, Item0 y.1) (hn : Item0 [n]) : (fireP g s n r bot).1.box = bestP9 s ∧ (fireP g s n r bot).1.cost = s.bcost := by
  obtain ⟨f1, _, _⟩ := fireP_zero (g := g) (l := r) (bot := bot) h hn
  rw [f1]
  exact ⟨(flat_take s.list s.bk).1, rfl⟩
section
variable (hz : g.top = .zero) (hgh : -1073741823 ≤ g.height ∧ g.height ≤ 1073741823) (hgd : 0 ≤ g.depth ∧ g.depth ≤ 1073741823)
include hz hgh hgd
theorem at_fire (hS : Sofar g dn σ) (hw : σ.waits = x :: l) (hb : σ.s.body = true) (hk : (hd x).kind = 7 ∨ (hd x).kind = 8 ∨ (hd x).kind = 9) (hq : looseQ σ.s (hd x) l < 10000) (hf : firesB σ.s (looseQ σ.s (hd x) l) = true) (hp : p = (fireP g (triedS σ.s (looseQ σ.s (hd x) l)) (hd x) l σ.bot).1) : AtP g dn σ p := by
  obtain ⟨T0, hI⟩ := hS.inv
  have hbox : σ.s.box = true := by rw [← hI.box]; exact hb
  have hx : Good0 x := hS.wOK x (by rw [hw]; simp)
  have hlen : dn.length ≤ 1999 := by have := hS.len; rw [hw, List.length_cons] at this; omega
  have hqe := looseQ_qI (r := l) hS.jp hbox (hI.body hb) (x := x)
  generalize looseQ σ.s (hd x) l = q at *
  have hce := cost_I9 hz hgh hgd hS.jp hS.dnOK (by omega) hI.pens hq
  have hone : Item0 [hd x] := Item0.one hk hx.it.so hx.it.ho
  obtain ⟨t1, t2, t3, t4, t5⟩ := tried_same σ.s q
  obtain ⟨q1, q2⟩ := tried_told hI.pens hq hI.fresh
  obtain ⟨f1, f2⟩ := fire_best (g := g) (s := triedS σ.s q) (n := hd x) (r := l) (bot := σ.bot) (fun y hy => hI.list y (by rw [← t1]; exact hy)) hone
  rw [← hp] at f1 f2
  have hfl := flatS_prun hS.jp
  have hF : costI σ.s q = 1073741823 ∨ q ≤ -10000 := (fires_eq _ _).1 hf
  rw [hce] at hF q2
  have hhs : hasS dn = true := by rw [← hS.jp.box]; exact hbox
  rcases q2 with ⟨a1, a2, a3⟩ | ⟨a1, a2, a3, a4⟩
  · have hbx : p.box = flatS σ.s := f1.trans (best_all t1 a1)
    have hcs : p.cost = cI g dn q := f2.trans a2
    refine ⟨by rw [hcs]; exact a3, .inr ⟨by rw [hbx]; exact Nat.le_refl _, ?_⟩⟩
    rw [hw, law_try hqe.symm hq hhs rfl, if_pos (by rw [hbx, hfl]), if_pos hcs.symm, if_pos hF]
  · have hbx : p.box = bestP9 σ.s := by
      rw [f1]
      unfold bestP9
      rw [t1, a1]
    have hcs : p.cost = σ.s.bcost := f2.trans a2
    refine ⟨by rw [hcs]; exact Int.le_refl _, .inl ⟨hbx, hcs, a3, ?_⟩⟩
    have hsh := best_short hI.list (hS.lt a3)
    have hbc := hS.bc
    rw [hw, law_try hqe.symm hq hhs rfl, if_neg (by rw [← hfl, hbx]; intro e; rw [e] at hsh; omega), if_neg (by rw [hcs]; omega), if_pos hF]
theorem at_try (hS : Sofar g dn σ) (hw : σ.waits = x :: l) (hb : σ.s.body = true) (_hk : (hd x).kind = 7 ∨ (hd x).kind = 8 ∨ (hd x).kind = 9) (hq : looseQ σ.s (hd x) l < 10000) (hf : firesB σ.s (looseQ σ.s (hd x) l) = false) (hτ : τ = ⟨addedS (triedS σ.s (looseQ σ.s (hd x) l)) x, l, σ.bot⟩)
    (h : AtP g (dn ++ [x]) τ p) : AtP g dn σ p := by
  obtain ⟨T0, hI⟩ := hS.inv
  have hbox : σ.s.box = true := by rw [← hI.box]; exact hb
  have hx : Good0 x := hS.wOK x (by rw [hw]; simp)
  have hlen : dn.length ≤ 1999 := by have := hS.len; rw [hw, List.length_cons] at this; omega
  have hqe := looseQ_qI (r := l) hS.jp hbox (hI.body hb) (x := x)
  generalize looseQ σ.s (hd x) l = q at *
  have hce := cost_I9 hz hgh hgd hS.jp hS.dnOK (by omega) hI.pens hq
  obtain ⟨t1, t2, t3, t4, t5⟩ := tried_same σ.s q
  obtain ⟨q1, q2⟩ := tried_told hI.pens hq hI.fresh
  have hfl := flatS_prun hS.jp
  have hF : ¬ (cI g dn q = 1073741823 ∨ q ≤ -10000) := fun e => by
    rw [← hce] at e
    rw [(fires_eq _ _).2 e] at hf
    cases hf
  rw [hce] at q2
  have hhs : hasS dn = true := by rw [← hS.jp.box]; exact hbox
  have hbc := hS.bc
  subst hτ
  obtain ⟨h1, h2⟩ := h
  obtain ⟨d1, d2, d3, d4, d5, d6, d7⟩ := added_eq (triedS σ.s q) x
  have hlist : (addedS (triedS σ.s q) x).list = σ.s.list ++ [(x, 0)] := by rw [d1]; show (triedS σ.s q).list ++ _ = _; rw [t1]
  have hgrow : (flatS (addedS (triedS σ.s q) x)).length = (flatS σ.s).length + x.length := by
    unfold flatS
    rw [hlist]
    simp
  have hxp := hx.it.pos
  have e1 : (⟨addedS (triedS σ.s q) x, l, σ.bot⟩ : St).s = addedS (triedS σ.s q) x := rfl
  have e2 : (⟨addedS (triedS σ.s q) x, l, σ.bot⟩ : St).waits = l := rfl
  rw [e1, e2, d4, d3] at h2
  rw [e1, d4] at h1
  rw [hgrow] at h2
  rcases q2 with ⟨a1, a2, a3⟩ | ⟨a1, a2, a3, a4⟩
  · have hbest : bestP9 (addedS (triedS σ.s q) x) = flatS σ.s := by
      unfold bestP9 flatS
      rw [hlist, d2, a1, List.take_left]
    rw [a2] at h1 h2
    rw [hbest] at h2
    refine ⟨by omega, .inr ?_⟩
    rw [hw, law_try hqe.symm hq hhs rfl]
    rcases h2 with ⟨b1, b2, _, b4⟩ | ⟨b1, b2⟩
    · refine ⟨by rw [b1]; exact Nat.le_refl _, ?_⟩
      rw [if_pos (by rw [b1, hfl]), if_pos b2.symm, if_neg hF]
      exact b4
    · refine ⟨by omega, ?_⟩
      rw [if_neg (by rw [← hfl]; intro e; rw [← e] at b1; omega), if_neg (by
        rintro (e | ⟨e, _⟩)
        · omega
        · cases e), if_neg hF]
      exact b2
  · have hbest : bestP9 (addedS (triedS σ.s q) x) = bestP9 σ.s := best_same hI.bk (d2.trans a1) hlist
    rw [a2] at h1 h2
    rw [hbest] at h2
    refine ⟨h1, ?_⟩
    have hsh := best_short hI.list (hS.lt a3)
    rw [hw, law_try hqe.symm hq hhs rfl, law_try hqe.symm hq hhs rfl]
    rcases h2 with ⟨b1, b2, _, b4⟩ | ⟨b1, b2⟩
    · refine .inl ⟨b1, b2, a3, ?_⟩
      rw [if_neg (by rw [← hfl, b1]; intro e; rw [e] at hsh; omega), if_neg (by rw [b2]; omega), if_neg hF]
      exact b4
    · refine .inr ⟨by omega, ?_⟩
      rw [if_neg (by rw [← hfl]; intro e; rw [← e] at b1; omega), if_neg (by
        rintro (e | ⟨e, _⟩)
        · omega
        · cases e), if_neg hF]
      exact b2
end
end Go.Proofs.YtomehdepjenilaaGreat
namespace Go.Proofs.YtomehdepjenilaaGreat
open Go.ChangeShapes Go.WideShapes Go.ChangeAt Go.RowKit
theorem so_next {g : Gr} {dn l : List It} {σ τ : St} {x : It} {T0 : Nat} (hS : Sofar g dn σ) (hw : σ.waits = x :: l) (hj : JP g (dn ++ [x]) τ.s) (hi : Inv0 T0 0 τ) (ht : τ.waits = l) (hlt : τ.s.bsome = true → τ.s.bk < τ.s.list.length) (hbc : τ.s.bcost ≤ 1073741823) : Sofar g (dn ++ [x]) τ := by
  have hlen := hS.len
  rw [hw, List.length_cons] at hlen
  refine ⟨hj, ⟨T0, hi⟩, fun y hy => ?_, fun y hy => ?_, ?_, hlt, hbc⟩
  · rcases List.mem_append.1 hy with hy | hy
    · exact hS.dnOK y hy
    · simp only [List.mem_singleton] at hy
      subst hy
      exact hS.wOK y (by rw [hw]; simp)
  · rw [ht] at hy
    exact hS.wOK y (by rw [hw]; simp [hy])
  · rw [ht, List.length_append, List.length_singleton]
    omega
section
variable {g : Gr} (hz : g.top = .zero) (hgh : -1073741823 ≤ g.height ∧ g.height ≤ 1073741823) (hgd : 0 ≤ g.depth ∧ g.depth ≤ 1073741823)
include hz hgh hgd
theorem page_at {dn l : List It} {σ τ : St} {x : It} {p : PgP} (hS : Sofar g dn σ) (hw : σ.waits = x :: l) (hp : stepP g σ.s x l σ.bot = (some p, τ)) : AtP g dn σ p := by
  have hx : Good0 x := hS.wOK x (by rw [hw]; simp)
  rcases solidK_kind hx.it.kind with ⟨h1, h2⟩ | ⟨h1, h2, h3⟩ | ⟨h1, h2, h3, h4⟩
  · rw [step_solid h1] at hp
    cases hp
  · rw [step_loose h1 h2] at hp
    rcases loose_cases g σ.s x l σ.bot with ⟨a1, a2⟩ | ⟨a1, a2, a3, a4⟩ | ⟨a1, a2, a3, a4⟩ | ⟨a1, a2, a3⟩
    · rw [a2] at hp
      cases hp
    · rw [a4] at hp
      simp only [Prod.mk.injEq, Option.some.injEq] at hp
      exact at_fire hz hgh hgd hS hw a1 h3 a2 a3 hp.1.symm
    · rw [a4] at hp
      cases hp
    · rw [a3] at hp
      cases hp
  · rw [step_pass h1 h2 h3] at hp
    cases hp
theorem best_at {σ σ' : St} {out out' : List PgP} (h : ComeTo g false σ out σ' out') : out = [] → ∀ dn, Sofar g dn σ → ∀ p ps, out' = p :: ps → AtP g dn σ p := by
  have hg : TopOK g := ⟨by rw [hz]; decide, by rw [hz]; decide⟩
  induction h with
  | nil _ =>
    intro ho dn _ p ps he
    rw [ho] at he
    cases he
  | stop _ _ =>
    intro ho dn _ p ps he
    rw [ho] at he
    cases he
  | @step σ τ σ' out out' x l hw hs hp _ ih =>
    intro ho dn hS p ps he
    obtain ⟨T0, hI⟩ := hS.inv
    have hx : Good0 x := hS.wOK x (by rw [hw]; simp)
    have hlen : dn.length ≤ 1999 := by have := hS.len; rw [hw, List.length_cons] at this; omega
    obtain ⟨hI2, hτw, _⟩ := inv0_step hg hI hw hp
    rcases solidK_kind hx.it.kind with ⟨h1, h2⟩ | ⟨h1, h2, h3⟩ | ⟨h1, h2, h3, h4⟩
    · rw [step_solid h1] at hp
      simp only [Prod.mk.injEq, true_and] at hp
      subst hp
      obtain ⟨e1, e2, e3, e4, e5, e6, e7⟩ := solid_eq g σ.s x
      have hq : ¬ (qI dn.getLast? x l < 10000 ∧ hasS dn = true) := fun hc => by rw [qI_solid h1] at hc; omega
      obtain ⟨bb, hbb⟩ : ∃ bb, (solidS g σ.s x).list = σ.s.list ++ bb := by
        rw [e1]
        split
        · exact ⟨_, rfl⟩
        · exact ⟨_, by rw [List.append_assoc]⟩
      have hn := so_next hS hw (τ := ⟨solidS g σ.s x, l, σ.bot⟩) (hS.jp.solid hz hgd hS.dnOK hlen hx h1) hI2 rfl (fun e => by
        show (solidS g σ.s x).bk < (solidS g σ.s x).list.length
        have e : (solidS g σ.s x).bsome = true := e
        rw [e3] at e
        have := hS.lt e
        rw [e2, hbb, List.length_append]
        omega) (by show (solidS g σ.s x).bcost ≤ _; rw [e4]; exact hS.bc)
      exact at_skip (τ := ⟨solidS g σ.s x, l, σ.bot⟩) hI.bk hbb e2 e3 e4 hw rfl hq (ih ho _ hn p ps he)
    · rw [step_loose h1 h2] at hp
      rcases loose_cases g σ.s x l σ.bot with ⟨a1, a2⟩ | ⟨a1, a2, a3, a4⟩ | ⟨a1, a2, a3, a4⟩ | ⟨a1, a2, a3⟩
      · rw [a2] at hp
        simp only [Prod.mk.injEq, true_and] at hp
        subst hp
        have hbox : σ.s.box = false := by rw [← hI.box]; exact a1
        have hq : ¬ (qI dn.getLast? x l < 10000 ∧ hasS dn = true) := fun hc => by
          rw [← hS.jp.box, hbox] at hc
          cases hc.2
        have hn := so_next hS hw (τ := ⟨σ.s, l, σ.bot⟩) (hS.jp.drop hbox h2 h1) hI2 rfl hS.lt hS.bc
        exact at_skip (τ := ⟨σ.s, l, σ.bot⟩) (b := []) hI.bk (by simp) rfl rfl rfl hw rfl hq (ih ho _ hn p ps he)
      · rw [a4] at hp
        cases hp
      · rw [a4] at hp
        simp only [Prod.mk.injEq, true_and] at hp
        have hbox : σ.s.box = true := by rw [← hI.box]; exact a1
        obtain ⟨t1, t2, t3, t4, t5⟩ := tried_same σ.s (looseQ σ.s (hd x) l)
        obtain ⟨q1, q2⟩ := tried_told hI.pens a2 hI.fresh
        obtain ⟨d1, d2, d3, d4, d5, d6, d7⟩ := added_eq (triedS σ.s (looseQ σ.s (hd x) l)) x
        have hll : (addedS (triedS σ.s (looseQ σ.s (hd x) l)) x).list.length = σ.s.list.length + 1 := by
          rw [d1]
          show ((triedS σ.s (looseQ σ.s (hd x) l)).list ++ _).length = _
          rw [t1]
          simp
        have hj := hS.jp.added hz hgd hS.dnOK hlen hx hbox h3 ⟨t1, t2, t3, t4, t5⟩
        subst hp
        have hn := so_next hS hw (τ := ⟨addedS (triedS σ.s (looseQ σ.s (hd x) l)) x, l, σ.bot⟩) hj hI2 rfl (fun _ => by
          show (addedS (triedS σ.s (looseQ σ.s (hd x) l)) x).bk < (addedS (triedS σ.s (looseQ σ.s (hd x) l)) x).list.length
          rw [hll, d2]
          have := hI.bk
          rcases q2 with ⟨b1, _⟩ | ⟨b1, _⟩ <;> omega) (by
          show (addedS (triedS σ.s (looseQ σ.s (hd x) l)) x).bcost ≤ _
          rw [d4]
          have := hS.bc
          rcases q2 with ⟨_, b1, b2⟩ | ⟨_, b1, _⟩ <;> omega)
        exact at_try hz hgh hgd hS hw a1 h3 a2 a3 rfl (ih ho _ hn p ps he)
      · rw [a3] at hp
        simp only [Prod.mk.injEq, true_and] at hp
        subst hp
        have hbox : σ.s.box = true := by rw [← hI.box]; exact a1
        obtain ⟨d1, d2, d3, d4, d5, d6, d7⟩ := added_eq σ.s x
        have hqe := looseQ_qI (r := l) hS.jp hbox (hI.body a1) (x := x)
        have hq : ¬ (qI dn.getLast? x l < 10000 ∧ hasS dn = true) := fun hc => a2 (by rw [hqe]; exact hc.1)
        have hj := hS.jp.added hz hgd hS.dnOK hlen hx hbox h3 ⟨rfl, rfl, rfl, rfl, rfl⟩
        have hll : (addedS σ.s x).list = σ.s.list ++ [(x, 0)] := d1
        have hn := so_next hS hw (τ := ⟨addedS σ.s x, l, σ.bot⟩) hj hI2 rfl (fun e => by
          show (addedS σ.s x).bk < (addedS σ.s x).list.length
          have e : (addedS σ.s x).bsome = true := e
          rw [d3] at e
          have := hS.lt e
          rw [hll, d2, List.length_append]
          omega) (by show (addedS σ.s x).bcost ≤ _; rw [d4]; exact hS.bc)
        exact at_skip (τ := ⟨addedS σ.s x, l, σ.bot⟩) hI.bk hll d2 d3 d4 hw rfl hq (ih ho _ hn p ps he)
    · rw [step_pass h1 h2 h3] at hp
      simp only [Prod.mk.injEq, true_and] at hp
      subst hp
      have hq : ¬ (qI dn.getLast? x l < 10000 ∧ hasS dn = true) := fun hc => by rw [qI_pass h4] at hc; omega
      have hn := so_next hS hw (τ := ⟨putS σ.s x 0, l, σ.bot⟩) (hS.jp.pass h4) hI2 rfl (fun e => by
        show σ.s.bk < (σ.s.list ++ [_]).length
        have := hS.lt e
        rw [List.length_append]
        omega) hS.bc
      exact at_skip (τ := ⟨putS σ.s x 0, l, σ.bot⟩) (b := [(x, 0)]) hI.bk rfl rfl rfl rfl hw rfl hq (ih ho _ hn p ps he)
  | @page σ τ σ' out out' x l p0 hw hs hp hl hc _ =>
    intro ho dn hS p ps he
    obtain ⟨t, et⟩ := come_pre hc
    rw [et, ho] at he
    simp only [List.nil_append, List.cons_append, List.cons.injEq] at he
    obtain ⟨rfl, _⟩ := he
    exact page_at hz hgh hgd hS hw hp
  | @full σ τ out x l p0 hw hs hp hl =>
    intro ho dn hS p ps he
    rw [ho] at he
    simp only [List.nil_append, List.cons.injEq] at he
    obtain ⟨rfl, _⟩ := he
    exact page_at hz hgh hgd hS hw hp
theorem best_first {l : List It} {bot : ByteArray} {σ' : St} {p : PgP} {ps : List PgP} (hl : ∀ x ∈ l, Good0 x) (hlen : l.length ≤ 2000) (h : ComeTo g false ⟨freshS g, l, bot⟩ [] σ' (p :: ps)) : lawI g p.box p.cost [] l false = true := by
  have hI : Inv0 (flatI l).length 0 ⟨freshS g, l, bot⟩ := ⟨fun x hx => (hl x hx).it, fun x hx => (by cases hx), Nat.le_refl _, fun e => (by cases e), fun _ => rfl, fun e => (by cases e), rfl, rfl, by show 0 + (flatI l).length ≤ (flatI l).length + 0 + 0; omega⟩
  have hS : Sofar g [] ⟨freshS g, l, bot⟩ := ⟨JP.fresh hgd.1, ⟨_, hI⟩, fun x hx => (by cases hx), hl, by show 0 + l.length ≤ 2000; omega, fun e => (by cases e), Int.le_refl _⟩
  obtain ⟨_, h2⟩ := best_at hz hgh hgd h rfl [] hS p ps rfl
  rcases h2 with ⟨_, _, e, _⟩ | ⟨_, e⟩
  · cases e
  · exact e
end
end Go.Proofs.YtomehdepjenilaaGreat
