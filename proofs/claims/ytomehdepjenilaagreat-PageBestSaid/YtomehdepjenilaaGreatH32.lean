/-
  The page builder: items that are no inserts come.
-/
import Derived.Test.YtomehdepjenilaaGreatH10
import Derived.Test.YtomehdepjenilaaGreatH17
import Derived.Test.YtomehdepjenilaaGreatH16
import Derived.Test.YtomehdepjenilaaGreatH31
import Derived.Test.YtomehdepjenilaaGreatH19
namespace Go.Proofs.YtomehdepjenilaaGreat
open Go.ChangeShapes Go.WideShapes Go.ChangeAt Go.RowKit
theorem solidK_kind {k : Int} (h : k = 3 ∨ k = 4 ∨ k = 5 ∨ k = 7 ∨ k = 8 ∨ k = 9 ∨ k = 12 ∨ k = 14) : (solidK k = true ∧ (k = 3 ∨ k = 4 ∨ k = 5)) ∨ (solidK k = false ∧ fallsK k = true ∧ (k = 7 ∨ k = 8 ∨ k = 9)) ∨ (solidK k = false ∧ fallsK k = false ∧ k ≠ 13 ∧ (k = 12 ∨ k = 14)) := by
  rcases h with rfl | rfl | rfl | rfl | rfl | rfl | rfl | rfl <;> simp [solidK, fallsK]
theorem flatI_cons (x : It) (l : List It) : flatI (x :: l) = x ++ flatI l := by simp [flatI]
structure TopOK (g : Gr) : Prop where
  so : 0 ≤ g.top.so ∧ g.top.so ≤ 3
  ho : 0 ≤ g.top.ho ∧ g.top.ho ≤ 3
theorem step_solid {g : Gr} {s : Sh} {x : It} {l : List It} {bot : ByteArray} (h : solidK (hd x).kind = true) : stepP g s x l bot = (none, ⟨solidS g s x, l, bot⟩) := by
  unfold stepP; rw [if_pos h]
theorem step_loose {g : Gr} {s : Sh} {x : It} {l : List It} {bot : ByteArray} (h : solidK (hd x).kind = false) (h2 : fallsK (hd x).kind = true) : stepP g s x l bot = looseP g s x l bot := by
  unfold stepP; rw [if_neg (by rw [h]; decide), if_pos h2]
theorem step_pass {g : Gr} {s : Sh} {x : It} {l : List It} {bot : ByteArray} (h : solidK (hd x).kind = false) (h2 : fallsK (hd x).kind = false) (h3 : (hd x).kind ≠ 13) : stepP g s x l bot = (none, ⟨putS s x 0, l, bot⟩) := by
  unfold stepP; rw [if_neg (by rw [h]; decide), if_neg (by rw [h2]; decide), if_neg h3]
theorem loose_cases (g : Gr) (s : Sh) (x : It) (l : List It) (bot : ByteArray) : (s.body = false ∧ looseP g s x l bot = (none, ⟨s, l, bot⟩)) ∨ (s.body = true ∧ looseQ s (hd x) l < 10000 ∧ firesB s (looseQ s (hd x) l) = true ∧ looseP g s x l bot = (some (fireP g (triedS s (looseQ s (hd x) l)) (hd x) l bot).1, (fireP g (triedS s (looseQ s (hd x) l)) (hd x) l bot).2)) ∨
    (s.body = true ∧ looseQ s (hd x) l < 10000 ∧ firesB s (looseQ s (hd x) l) = false ∧ looseP g s x l bot = (none, ⟨addedS (triedS s (looseQ s (hd x) l)) x, l, bot⟩)) ∨ (s.body = true ∧ ¬ looseQ s (hd x) l < 10000 ∧ looseP g s x l bot = (none, ⟨addedS s x, l, bot⟩)) := by
  unfold looseP
  cases hb : s.body
  · exact .inl ⟨rfl, by simp⟩
  · by_cases hq : looseQ s (hd x) l < 10000
    · cases hf : firesB s (looseQ s (hd x) l)
      · exact .inr (.inr (.inl ⟨rfl, hq, rfl, by simp [hq, hf]⟩))
      · exact .inr (.inl ⟨rfl, hq, rfl, by simp [hq, hf]⟩)
    · exact .inr (.inr (.inr ⟨rfl, hq, by simp [hq]⟩))
theorem marks_its (L : List Nd) : marksR L (itsP L) = marksR L (itemsP L) := by
  by_cases h : checkC L = 0
  · rw [itsP_eq (itemsP_spec h)]
  · have e : ∀ s, colP L s = checkC L := fun s => by unfold colP; rw [if_neg h]
    unfold marksR
    rw [e, e, if_neg h, if_neg h]
theorem fireP_zero {g : Gr} {s : Sh} {n : Nd} {l : List It} {bot : ByteArray} (h : ∀ y ∈ s.list, Item0 y.1) (hn : Item0 [n]) :
    (fireP g s n l bot).1 = firP (flatS s) (placeS s.list s.bk) n s.bcost bot ∧ (fireP g s n l bot).2 = ⟨freshS g, (behindP ((s.list.drop s.bk).map (·.1) ++ [[n]])).1 ++ l, (firP (flatS s) (placeS s.list s.bk) n s.bcost bot).bot⟩ ∧
    behN9 ((flatS s).drop (placeS s.list s.bk) ++ [n]) = ((behindP ((s.list.drop s.bk).map (·.1) ++ [[n]])).1.flatten, (behindP ((s.list.drop s.bk).map (·.1) ++ [[n]])).2) := by
  obtain ⟨h1, h2⟩ := box_none (l := s.list.take s.bk) fun y hy => (h y (List.mem_of_mem_take hy)).not13
  obtain ⟨t1, t2⟩ := flat_take s.list s.bk
  have hful : fullI ((s.list.drop s.bk).map (·.1) ++ [[n]]) := fun y hy => by
    rcases List.mem_append.1 hy with hy | hy
    · obtain ⟨z, hz, rfl⟩ := List.mem_map.1 hy
      exact (h z (List.mem_of_mem_drop hz)).ne
    · simp only [List.mem_singleton] at hy
      subst hy
      exact hn.ne
  have e3 : behN9 ((flatS s).drop (placeS s.list s.bk) ++ [n]) = ((behindP ((s.list.drop s.bk).map (·.1) ++ [[n]])).1.flatten, (behindP ((s.list.drop s.bk).map (·.1) ++ [[n]])).2) := by
    rw [← behind_flat hful (by simp)]
    unfold flatS
    rw [t2]
    simp
  have e1 : firP (flatS s) (placeS s.list s.bk) n s.bcost bot = (fireP g s n l bot).1 := by
    unfold firP fireP
    rw [e3]
    unfold flatS
    rw [t1, h1, h2]
    dsimp only
    rw [marks_its]
    rfl
  refine ⟨e1.symm, ?_, e3⟩
  rw [e1]
  unfold fireP
  rw [h2]
  rfl
theorem inv0_step {g : Gr} (hg : TopOK g) {T0 k : Nat} {σ τ : St} {x : It} {l : List It} (hI : Inv0 T0 k σ) (hw : σ.waits = x :: l) (hs : stepP g σ.s x l σ.bot = (none, τ)) : Inv0 T0 k τ ∧ τ.waits = l ∧ τ.bot = σ.bot := by
  have hx : Item0 x := hI.waits x (by rw [hw]; simp)
  have hl : ∀ y ∈ l, Item0 y := fun y hy => hI.waits y (by rw [hw]; simp [hy])
  have ht := hI.total
  rw [hw, flatI_cons, List.length_append] at ht
  rcases solidK_kind hx.kind with ⟨h1, h2⟩ | ⟨h1, h2, h3⟩ | ⟨h1, h2, h3, h4⟩
  · rw [step_solid h1] at hs
    cases hs
    obtain ⟨e1, e2, e3, e4, e5, e6, e7⟩ := solid_eq g σ.s x
    have hln : (solidS g σ.s x).list.length = (if σ.s.box then σ.s.list.length else σ.s.list.length + 1) + 1 := by rw [e1]; split <;> simp
    refine ⟨⟨hl, ?_, ?_, ?_, ?_, ?_, ?_, ?_, ?_⟩, rfl, rfl⟩
    · intro y hy
      show Item0 y.1
      have hy : y ∈ (solidS g σ.s x).list := hy
      rw [e1] at hy
      rcases List.mem_append.1 hy with hy | hy
      · cases hb : σ.s.box
        · rw [hb] at hy
          rcases List.mem_append.1 hy with hy | hy
          · exact hI.list y hy
          · simp only [List.mem_singleton] at hy
            subst hy
            exact Item0.one (.inl rfl) hg.so hg.ho
        · rw [hb] at hy
          exact hI.list y hy
      · simp only [List.mem_singleton] at hy
        subst hy
        exact hx
    · show (solidS g σ.s x).bk ≤ (solidS g σ.s x).list.length
      rw [hln, e2]
      have := hI.bk
      split <;> omega
    · show (solidS g σ.s x).bsome = true → _
      rw [e3, e2]; exact hI.some_
    · show (solidS g σ.s x).bsome = false → _
      rw [e3, e4]; exact hI.fresh
    · intro _ e
      have e : (solidS g σ.s x).list = [] := e
      rw [e] at hln
      simp at hln
    · exact e7.trans hI.pens
    · exact e5.trans e6.symm
    · show (flatS (solidS g σ.s x)).length + (flatI l).length ≤ T0 + k + (if (solidS g σ.s x).box then 1 else 0)
      rw [e6]
      have : (flatS (solidS g σ.s x)).length = (if σ.s.box then 0 else 1) + (flatS σ.s).length + x.length := by
        unfold flatS
        rw [e1]
        cases σ.s.box <;> simp <;> omega
      rw [this]
      cases hb : σ.s.box
      · rw [hb] at ht
        simp only [Bool.false_eq_true, if_false, if_true] at ht ⊢
        omega
      · rw [hb] at ht
        simp only [if_true] at ht ⊢
        omega
  · rw [step_loose h1 h2] at hs
    rcases loose_cases g σ.s x l σ.bot with ⟨a1, a2⟩ | ⟨a1, a2, a3, a4⟩ | ⟨a1, a2, a3, a4⟩ | ⟨a1, a2, a3⟩
    · rw [a2] at hs
      cases hs
      exact ⟨⟨hl, hI.list, hI.bk, hI.some_, hI.fresh, hI.body, hI.pens, hI.box, by show (flatS σ.s).length + (flatI l).length ≤ T0 + k + (if σ.s.box then 1 else 0); omega⟩, rfl, rfl⟩
    · rw [a4] at hs
      cases hs
    · rw [a4] at hs
      cases hs
      obtain ⟨b1, b2, b3, b4, b5, b6, b7⟩ := tried_ok hI.pens a2 hI.fresh hI.some_ hI.bk (hI.body a1)
      generalize triedS σ.s (looseQ σ.s (hd x) l) = s2 at *
      obtain ⟨d1, d2, d3, d4, d5, d6, d7⟩ := added_eq s2 x
      refine ⟨⟨hl, ?_, ?_, ?_, ?_, ?_, ?_, ?_, ?_⟩, rfl, rfl⟩
      · show ∀ y ∈ (addedS s2 x).list, Item0 y.1
        rw [d1]
        exact mem_put (P := Item0) (fun y hy => hI.list y (by rw [← b4]; exact hy)) hx
      · show (addedS s2 x).bk ≤ (addedS s2 x).list.length
        rw [d1, d2]
        show s2.bk ≤ (s2.list ++ [(x, 0)]).length
        rw [List.length_append]; omega
      · show (addedS s2 x).bsome = true → 0 < (addedS s2 x).bk
        rw [d2]; exact fun _ => b2
      · show (addedS s2 x).bsome = false → _
        rw [d3, b1]; exact fun e => by cases e
      · intro _ e
        have e : (addedS s2 x).list = [] := e
        rw [d1] at e
        simp [putS] at e
      · exact d7.trans (b7.trans hI.pens)
      · show (addedS s2 x).body = (addedS s2 x).box
        rw [d5, d6, b5, b6]; exact hI.box
      · show (flatS (addedS s2 x)).length + (flatI l).length ≤ T0 + k + (if (addedS s2 x).box then 1 else 0)
        have : (flatS (addedS s2 x)).length = (flatS σ.s).length + x.length := by
          unfold flatS
          rw [d1]
          simp [putS, b4]
        rw [this, d6, b6]
        omega
    · rw [a3] at hs
      cases hs
      obtain ⟨d1, d2, d3, d4, d5, d6, d7⟩ := added_eq σ.s x
      refine ⟨⟨hl, ?_, ?_, ?_, ?_, ?_, ?_, ?_, ?_⟩, rfl, rfl⟩
      · show ∀ y ∈ (addedS σ.s x).list, Item0 y.1
        rw [d1]
        exact mem_put (P := Item0) hI.list hx
      · show (addedS σ.s x).bk ≤ (addedS σ.s x).list.length
        rw [d1, d2]
        have := hI.bk
        show σ.s.bk ≤ (σ.s.list ++ [(x, 0)]).length
        rw [List.length_append]; omega
      · show (addedS σ.s x).bsome = true → 0 < (addedS σ.s x).bk
        rw [d3, d2]; exact hI.some_
      · show (addedS σ.s x).bsome = false → _
        rw [d3, d4]; exact hI.fresh
      · intro _ e
        have e : (addedS σ.s x).list = [] := e
        rw [d1] at e
        simp [putS] at e
      · exact d7.trans hI.pens
      · show (addedS σ.s x).body = (addedS σ.s x).box
        rw [d5, d6]; exact hI.box
      · show (flatS (addedS σ.s x)).length + (flatI l).length ≤ T0 + k + (if (addedS σ.s x).box then 1 else 0)
        have : (flatS (addedS σ.s x)).length = (flatS σ.s).length + x.length := by
          unfold flatS
          rw [d1]
          simp [putS]
        rw [this, d6]
        omega
  · rw [step_pass h1 h2 h3] at hs
    cases hs
    refine ⟨⟨hl, mem_put (P := Item0) hI.list hx, ?_, hI.some_, hI.fresh, ?_, hI.pens, hI.box, ?_⟩, rfl, rfl⟩
    · have := hI.bk
      show σ.s.bk ≤ (σ.s.list ++ [(x, 0)]).length
      rw [List.length_append]; omega
    · intro _ e
      simp [putS] at e
    · show (flatS (putS σ.s x 0)).length + (flatI l).length ≤ T0 + k + (if σ.s.box then 1 else 0)
      rw [flat_put]
      omega
theorem inv0_page {g : Gr} {T0 k : Nat} {σ τ : St} {x : It} {l : List It} {p : PgP} (hI : Inv0 T0 k σ) (hw : σ.waits = x :: l) (hs : stepP g σ.s x l σ.bot = (some p, τ)) : Inv0 T0 (k + 1) τ := by
  have hx : Item0 x := hI.waits x (by rw [hw]; simp)
  have hl : ∀ y ∈ l, Item0 y := fun y hy => hI.waits y (by rw [hw]; simp [hy])
  have ht := hI.total
  rw [hw, flatI_cons, List.length_append] at ht
  rcases solidK_kind hx.kind with ⟨h1, h2⟩ | ⟨h1, h2, h3⟩ | ⟨h1, h2, h3, h4⟩
  · rw [step_solid h1] at hs
    cases hs
  · rw [step_loose h1 h2] at hs
    rcases loose_cases g σ.s x l σ.bot with ⟨a1, a2⟩ | ⟨a1, a2, a3, a4⟩ | ⟨a1, a2, a3, a4⟩ | ⟨a1, a2, a3⟩
    · rw [a2] at hs
      cases hs
    · rw [a4] at hs
      obtain ⟨b1, b2, b3, b4, b5, b6, b7⟩ := tried_ok hI.pens a2 hI.fresh hI.some_ hI.bk (hI.body a1)
      have hfl : flatS (triedS σ.s (looseQ σ.s (hd x) l)) = flatS σ.s := by unfold flatS; rw [b4]
      have hone : Item0 [hd x] := Item0.one h3 hx.so hx.ho
      have hit : ∀ y ∈ (triedS σ.s (looseQ σ.s (hd x) l)).list, Item0 y.1 := fun y hy => hI.list y (by rw [← b4]; exact hy)
      obtain ⟨f1, f2, f3⟩ := fireP_zero (g := g) (l := l) (bot := σ.bot) hit hone
      rw [f2] at hs
      simp only [Prod.mk.injEq] at hs
      obtain ⟨_, rfl⟩ := hs
      have hall : ∀ y ∈ ((triedS σ.s (looseQ σ.s (hd x) l)).list.drop (triedS σ.s (looseQ σ.s (hd x) l)).bk).map (·.1) ++ [[hd x]], Item0 y := fun y hy => by
        rcases List.mem_append.1 hy with hy | hy
        · obtain ⟨z, hz, rfl⟩ := List.mem_map.1 hy
          exact hit z (List.mem_of_mem_drop hz)
        · simp only [List.mem_singleton] at hy
          subst hy
          exact hone
      refine ⟨fun y hy => ?_, fun y hy => (by cases hy), Nat.le_refl _, fun e => (by cases e), fun _ => rfl, fun e => (by cases e), rfl, rfl, ?_⟩
      · rcases List.mem_append.1 hy with hy | hy
        · exact behind_items hall y hy
        · exact hl y hy
      · show 0 + (flatI ((behindP _).1 ++ l)).length ≤ T0 + (k + 1) + 0
        have e1 : (flatI ((behindP (((triedS σ.s (looseQ σ.s (hd x) l)).list.drop (triedS σ.s (looseQ σ.s (hd x) l)).bk).map (·.1) ++ [[hd x]])).1 ++ l)).length = ((((triedS σ.s (looseQ σ.s (hd x) l)).list.drop (triedS σ.s (looseQ σ.s (hd x) l)).bk).map (·.1)).flatten).length + 1 + (flatI l).length := by
          unfold flatI
          rw [List.flatten_append, List.length_append, behind_len _ fun y hy => (hall y hy).ne]
          simp
        rw [e1]
        have e2 := (flat_take (triedS σ.s (looseQ σ.s (hd x) l)).list (triedS σ.s (looseQ σ.s (hd x) l)).bk).2
        rw [← e2, List.length_drop]
        have e3 : (((triedS σ.s (looseQ σ.s (hd x) l)).list.map (·.1)).flatten).length = (flatS σ.s).length := by rw [b4]; rfl
        rw [e3]
        have := hx.pos
        split at ht <;> omega
    · rw [a4] at hs
      cases hs
    · rw [a3] at hs
      cases hs
  · rw [step_pass h1 h2 h3] at hs
    cases hs
theorem place_pos {l : List (It × Int)} {k : Nat} (h : ∀ y ∈ l, Item0 y.1) (hk : 0 < k) (hl : k ≤ l.length) : 0 < placeS l k := by
  unfold placeS
  cases l with
  | nil => simp at hl; omega
  | cons x r =>
    obtain ⟨j, rfl⟩ : ∃ j, k = j + 1 := ⟨k - 1, by omega⟩
    have := (h x (by simp)).pos
    simp only [List.take_succ_cons, List.map_cons, List.flatten_cons, List.length_append]
    omega
theorem place_le (l : List (It × Int)) (k : Nat) : placeS l k ≤ ((l.map (·.1)).flatten).length := by
  have := (flat_take l k).1
  unfold placeS
  rw [← this, List.length_take]
  exact Nat.min_le_right _ _
theorem looseO_I {g : Gr} {s : Sh} {x : It} {l : List It} {bot : ByteArray} (hs : fullI (s.list.map (·.1))) (hl : fullI l) (hk : (hd x).kind ≠ 13) (hb : s.bk ≤ s.list.length) (hb2 : (triedS s (looseQ s (hd x) l)).bk ≤ (triedS s (looseQ s (hd x) l)).list.length) :
    looseO g (toRw s) x (flatI l) bot (fireP g (triedS s (looseQ s (hd x) l)) (hd x) l bot).1 (flatI (fireP g (triedS s (looseQ s (hd x) l)) (hd x) l bot).2.waits) = outI (looseP g s x l bot) := by
  have hq : looseQR (toRw s) (x.headD Nd.zero) (flatI l) = looseQ s (hd x) l := looseQ_I hs hl
  unfold looseO
  rw [hq, fires_I]
  show (if s.body = true then _ else _) = _
  rcases loose_cases g s x l bot with ⟨a1, a2⟩ | ⟨a1, a2, a3, a4⟩ | ⟨a1, a2, a3, a4⟩ | ⟨a1, a2, a3⟩
  · rw [a2, if_neg (by rw [a1]; decide)]
    rfl
  · rw [a4, if_pos a1, if_pos ⟨a2, a3⟩]
    rfl
  · rw [a4, if_pos a1, if_neg (by rintro ⟨_, h⟩; rw [a3] at h; cases h)]
    have : triedQ (toRw s) (looseQ s (hd x) l) = toRw (triedS s (looseQ s (hd x) l)) := by
      unfold triedQ
      rw [if_pos a2, toRw_tried]
    rw [this, toRw_added hk hb2]
    rfl
  · rw [a3, if_pos a1, if_neg (fun h => a2 h.1)]
    have : triedQ (toRw s) (looseQ s (hd x) l) = toRw s := by
      unfold triedQ
      rw [if_neg a2]
    rw [this, toRw_added hk hb]
    rfl
theorem way0 {g : Gr} (hg : TopOK g) {T0 k : Nat} {σ : St} {x : It} {l : List It} (hI : Inv0 T0 k σ) (hT : T0 ≤ 600000000000) (hk : k ≤ 2000) (hw : σ.waits = x :: l) : WayOf g σ x l := by
  have hx : Item0 x := hI.waits x (by rw [hw]; simp)
  have hl : ∀ y ∈ l, Item0 y := fun y hy => hI.waits y (by rw [hw]; simp [hy])
  have ht := hI.total
  rw [hw, flatI_cons, List.length_append] at ht
  have hsum : (flatS σ.s).length + x.length + (flatI l).length ≤ 600000002001 := by split at ht <;> omega
  have hn := hx.not13
  rcases solidK_kind hx.kind with ⟨h1, h2⟩ | ⟨h1, h2, h3⟩ | ⟨h1, h2, h3, h4⟩
  · refine ⟨88, by rcases h2 with e | e | e <;> rw [e] <;> rfl, by rcases h2 with e | e | e <;> rw [e] <;> decide, fun w base B r b c q o cap hB hX => ?_⟩
    rw [step_solid h1]
    refine (bsolid w base B r b c g σ.bot (flatI l) (toRw σ.s) _ q o cap x hB hX (by show (flatS σ.s).length + x.length ≤ _; omega) hg.so hg.ho).mono fun e w' h => ?_
    have := h.went
    rw [toRw_solid hn hI.bk] at this
    exact this
  · refine ⟨90, by rcases h3 with e | e | e <;> rw [e] <;> rfl, by rcases h3 with e | e | e <;> rw [e] <;> decide, fun w base B r b c q o cap hB hX => ?_⟩
    rw [step_loose h1 h2]
    have hfs : fullI (σ.s.list.map (·.1)) := fun y hy => by
      obtain ⟨z, hz, rfl⟩ := List.mem_map.1 hy
      exact (hI.list z hz).ne
    have hfl : fullI l := fun y hy => (hl y hy).ne
    have hq : looseQR (toRw σ.s) (x.headD Nd.zero) (flatI l) = looseQ σ.s (hd x) l := looseQ_I hfs hfl
    have hone : Item0 [hd x] := Item0.one h3 hx.so hx.ho
    have hbk2 : (triedS σ.s (looseQ σ.s (hd x) l)).bk ≤ (triedS σ.s (looseQ σ.s (hd x) l)).list.length := by
      unfold triedS
      dsimp only
      split
      · exact Nat.le_refl _
      · exact hI.bk
    refine (bloose w base B r b c g σ.bot (flatI l) (toRw σ.s) _ q o cap x hB hX (by show (flatS σ.s).length + x.length ≤ _; omega) hx.so hx.ho (fireP g (triedS σ.s (looseQ σ.s (hd x) l)) (hd x) l σ.bot).1 (flatI (fireP g (triedS σ.s (looseQ σ.s (hd x) l)) (hd x) l σ.bot).2.waits) ?_).mono fun e w' h => ?_
    · intro hbody hq9 _ w1 c1 r1 hB1
      rw [hq] at hq9 hB1
      rw [toRw_tried] at hB1
      obtain ⟨b1, b2, b3, b4, b5, b6, b7⟩ := tried_ok hI.pens hq9 hI.fresh hI.some_ hI.bk (hI.body hbody)
      have hit : ∀ y ∈ (triedS σ.s (looseQ σ.s (hd x) l)).list, Item0 y.1 := fun y hy => hI.list y (by rw [← b4]; exact hy)
      have hfl2 : (flatS (triedS σ.s (looseQ σ.s (hd x) l))).length = (flatS σ.s).length := by unfold flatS; rw [b4]
      obtain ⟨f1, f2, f3⟩ := fireP_zero (g := g) (l := l) (bot := σ.bot) hit hone
      generalize triedS σ.s (looseQ σ.s (hd x) l) = s2 at *
      refine (bfire_0 w1 base B r1 b c1 g σ.bot (flatI l) (toRw s2) hB1 (insT_none _ _ fun y hy => (hit y hy).not13) (hd x) (placeS s2.list s2.bk) (place_pos hit b2 b3) rfl (place_le _ _) (by show (flatS s2).length + _ ≤ _; omega)).mono ?_
      rintro e w2 ⟨T, he, hFd⟩
      refine ⟨T, he, ?_⟩
      have e1 : flatI (fireP g s2 (hd x) l σ.bot).2.waits = (behN9 ((flatS s2).drop (placeS s2.list s2.bk) ++ [hd x])).1 ++ flatI l := by
        rw [f2, f3]
        unfold flatI
        rw [List.flatten_append]
      rw [e1, f1]
      exact hFd
    · rw [← looseO_I hfs hfl hn hI.bk hbk2]
      exact h
  · refine ⟨89, by rcases h4 with e | e <;> rw [e] <;> rfl, by rcases h4 with e | e <;> rw [e] <;> decide, fun w base B r b c q o cap hB hX => ?_⟩
    rw [step_pass h1 h2 h3]
    refine (bpassive w base B r b c g σ.bot (flatI l) (toRw σ.s) _ q o cap x hB hX (by show (flatS σ.s).length + x.length ≤ _; omega)).mono fun e w' h => ?_
    have := h.went
    rw [toRw_put 0 hn hI.bk] at this
    exact this
theorem flatI_le {l : List It} (h : ∀ y ∈ l, Item0 y) : l.length ≤ (flatI l).length := by
  induction l with
  | nil => exact Nat.le_refl _
  | cons x r ih =>
    have h1 := (h x (by simp)).pos
    have h2 := ih fun y hy => h y (by simp [hy])
    rw [flatI_cons, List.length_append, List.length_cons]
    omega
theorem run_zero {g : Gr} (hg : TopOK g) (all : Bool) {T0 : Nat} (hT : T0 ≤ 600000000000) : Run9 g all (Inv0 T0) := by
  refine ⟨fun k σ x l hI hw => ⟨fun y hy => (hI.waits y (by rw [hw]; exact hy)).ne, ?_⟩, fun k σ x l τ hI hw _ hs => ?_, fun k σ x l p τ hI hw _ hs => inv0_page hI hw hs, fun k σ hI hk => ?_, fun k σ x l hI hk hw _ => way0 hg hI hT hk hw⟩
  · rw [flatI_cons]
    exact behC_app _ _ _ _ (hI.waits x (by rw [hw]; simp)).beh
  · obtain ⟨h1, h2, _⟩ := inv0_step hg hI hw hs
    exact ⟨h1, by rw [h2, hw]; simp⟩
  · have h1 := hI.total
    have h2 := flatI_le hI.waits
    split at h1 <;> omega
structure Good0 (x : It) : Prop where
  it : Item0 x
  nb : NdB (hd x)
structure JP (g : Gr) (dn : List It) (s : Sh) : Prop where
  list : s.list.map (·.1) = prunI g.top dn
  box : s.box = hasS dn
  goal : s.goal = g.height
  meas : s.t = (sizeM (mI g.depth (prunI g.top dn))).1 ∧ s.depth = (sizeM (mI g.depth (prunI g.top dn))).2
  last : s.box = true → dn.getLast?.map hd = some (lastN s)
theorem topG_N (h : Int) (hh : -1073741823 ≤ h ∧ h ≤ 1073741823) : topG .zero h = topN .zero h := by
  unfold topG topN topNat
  rw [wrap_13 (x := Gl.zero.nat - h) (by show -1000000000000000 ≤ 0 - h ∧ 0 - h ≤ 1000000000000000; omega)]
theorem topN_nb (h : Int) : NdB (topN .zero h) := by
  have z1 : (-1073741823 : Int) ≤ 0 ∧ (0 : Int) ≤ 1073741823 := by decide
  have z2 : (0 : Int) ≤ 0 ∧ (0 : Int) ≤ 3 := by decide
  refine ⟨fun e => (by cases e), fun e => (by cases e), fun _ => ?_, fun _ => z1, fun _ => z1, fun _ => z2, fun _ => z2⟩
  show -1073741823 ≤ topNat .zero h ∧ topNat .zero h ≤ 1073741823
  unfold topNat
  omega
theorem topN_it (h : Int) : Good0 [topN .zero h] := ⟨Item0.one (.inl rfl) (by show (0 : Int) ≤ 0 ∧ (0 : Int) ≤ 3; decide) (by show (0 : Int) ≤ 0 ∧ (0 : Int) ≤ 3; decide), topN_nb h⟩
theorem prunI_good : ∀ {dn : List It}, (∀ x ∈ dn, Good0 x) → (∀ x ∈ prunI .zero dn, Good0 x) ∧ (prunI .zero dn).length ≤ dn.length + 1
  | [], _ => ⟨fun x hx => (by cases hx), by simp [prunI]⟩
  | y :: r, h => by
    obtain ⟨i1, i2⟩ := prunI_good (dn := r) fun x hx => h x (by simp [hx])
    rw [prunI]
    split
    · refine ⟨fun x hx => ?_, by simp⟩
      rcases List.mem_cons.1 hx with rfl | hx
      · exact topN_it _
      · exact h x hx
    · split
      · exact ⟨i1, by rw [List.length_cons]; omega⟩
      · refine ⟨fun x hx => ?_, by rw [List.length_cons, List.length_cons]; omega⟩
        rcases List.mem_cons.1 hx with rfl | hx
        · exact h _ (by simp)
        · exact i1 x hx
theorem mI_depth (depth : Int) (l : List It) : (mI depth l).depth = depth := by
  unfold mI
  suffices h : ∀ m : Mt, (l.foldl (fun m x => passM (hd x) m) m).depth = m.depth by exact h _
  induction l with
  | nil => intro m; rfl
  | cons a r ih => intro m; rw [List.foldl_cons, ih, passM_depth]
theorem JP.mt {g : Gr} {dn : List It} (hz : g.top = .zero) (hd0 : ∀ x ∈ dn, Good0 x) (hl : dn.length ≤ 2000) : MtB 8800000000000 (mI g.depth (prunI g.top dn)) := by
  rw [hz]
  obtain ⟨i1, i2⟩ := prunI_good hd0
  exact mI_ok (fun x hx => (i1 x hx).it) (fun x hx => (i1 x hx).nb) (by omega) _
theorem hasS_snoc (dn : List It) (x : It) : hasS (dn ++ [x]) = (hasS dn || solidK (hd x).kind) := by simp [hasS]
theorem last_put (s : Sh) (x : It) (t : Int) : lastN (putS s x t) = hd x := by simp [lastN, putS]
theorem last_snoc (dn : List It) (x : It) : (dn ++ [x]).getLast?.map hd = some (hd x) := by simp
variable {g : Gr} {dn : List It} {s : Sh} {x : It}
theorem JP.solid (hz : g.top = .zero) (hg : 0 ≤ g.depth ∧ g.depth ≤ 1073741823) (hd0 : ∀ x ∈ dn, Good0 x) (hl : dn.length ≤ 1999) (h : JP g dn s) (hx : Good0 x) (hk : solidK (hd x).kind = true) : JP g (dn ++ [x]) (solidS g s x) := by
  obtain ⟨e1, e2, e3, e4, e5, e6, e7⟩ := solid_eq g s x
  have hm := JP.mt hz hd0 (by omega)
  have hdp : (mI g.depth (prunI g.top dn)).depth = g.depth := mI_depth _ _
  have hb := hx.nb.solid hk
  have htop : topG g.top (hd x).h = topN g.top (hd x).h := by rw [hz]; exact topG_N _ hb.1
  have hlist : (solidS g s x).list.map (·.1) = prunI g.top (dn ++ [x]) := by
    rw [e1, prunI_snoc, ← h.box]
    cases hbx : s.box
    · simp only [Bool.false_eq_true, if_false, hk, if_true, List.map_append, List.map_cons, List.map_nil, h.list, htop, List.append_assoc]
      rfl
    · simp only [if_true, List.map_append, List.map_cons, List.map_nil, h.list]
  refine ⟨hlist, by rw [e6, hasS_snoc, hk, Bool.or_true], ?_, ?_, fun _ => ?_⟩
  · have : (solidS g s x).goal = s.goal := by
      unfold solidS deepS
      split <;> (unfold toppedS; split <;> rfl)
    rw [this, h.goal]
  · rw [prunI_snoc, ← h.box]
    have hfin : ∀ (s1 : Sh) (m : Mt), MtB 8800000000000 m → m.depth = g.depth → s1.t = (sizeM m).1 ∧ s1.depth = (sizeM m).2 → toppedS g s (hd x).h = s1 → (solidS g s x).t = (sizeM (passM (hd x) m)).1 ∧ (solidS g s x).depth = (sizeM (passM (hd x) m)).2 := fun s1 m hmb hmd hs1 htp => by
      have := met_solid hmb (Int.le_refl _) (by rw [hmd]; exact hg) hs1 hx.nb hk
      rw [hmd, ← htp] at this
      exact this
    cases hbx : s.box
    · simp only [Bool.false_eq_true, if_false, hk, if_true]
      have hg2 := prunI_good hd0
      rw [← hz] at hg2
      have hgl : ∀ y ∈ prunI g.top dn ++ [[topN g.top (hd x).h]], Good0 y := fun y hy => by
        rcases List.mem_append.1 hy with hy | hy
        · exact hg2.1 y hy
        · simp only [List.mem_singleton] at hy
          subst hy
          rw [hz]
          exact topN_it _
      have hmb := mI_ok (l := prunI g.top dn ++ [[topN g.top (hd x).h]]) (fun y hy => (hgl y hy).it) (fun y hy => (hgl y hy).nb) (by rw [List.length_append, List.length_singleton]; omega) g.depth
      have hnb : NdB (topN g.top (hd x).h) := by rw [hz]; exact topN_nb _
      have hsk := met_skip (s := putS s [topN g.top (hd x).h] 0) hm (Int.le_refl _) (by rw [hdp]; exact hg) h.meas hnb rfl
      have hfi := hfin (flexS (growS (putS s [topN g.top (hd x).h] 0) (topN g.top (hd x).h).glue.nat) (topN g.top (hd x).h).glue) (mI g.depth (prunI g.top dn ++ [[topN g.top (hd x).h]])) hmb (mI_depth _ _) (by rw [mI_snoc]; exact hsk) (by unfold toppedS; rw [if_neg (by rw [hbx]; decide), htop])
      rw [← mI_snoc, List.append_assoc] at hfi
      exact hfi
    · simp only [if_true]
      have hfi := hfin s _ hm hdp h.meas (by unfold toppedS; rw [if_pos hbx])
      rw [← mI_snoc] at hfi
      exact hfi
  · rw [last_snoc]
    congr 1
    unfold lastN
    rw [e1]
    simp
theorem JP.behind (h : JP g dn s) (hbx : s.box = true) {s' : Sh} (hl : s'.list = s.list ++ [(x, 0)]) (hb : s'.box = s.box) (hgo : s'.goal = s.goal) (hm : s'.t = (sizeM (passM (hd x) (mI g.depth (prunI g.top dn)))).1 ∧ s'.depth = (sizeM (passM (hd x) (mI g.depth (prunI g.top dn)))).2) : JP g (dn ++ [x]) s' := by
  have hp : prunI g.top (dn ++ [x]) = prunI g.top dn ++ [x] := by rw [prunI_snoc, ← h.box, hbx]; rfl
  refine ⟨by rw [hl, hp, List.map_append, h.list]; rfl, by rw [hb, h.box, hasS_snoc, ← h.box, hbx]; rfl, hgo.trans h.goal, ?_, fun _ => ?_⟩
  · rw [hp, mI_snoc]
    exact hm
  · rw [last_snoc]
    congr 1
    unfold lastN
    rw [hl]
    simp
theorem JP.added (hz : g.top = .zero) (hg : 0 ≤ g.depth ∧ g.depth ≤ 1073741823) (hd0 : ∀ x ∈ dn, Good0 x) (hl : dn.length ≤ 1999) (h : JP g dn s) (hx : Good0 x) (hbx : s.box = true) (hk : (hd x).kind = 7 ∨ (hd x).kind = 8 ∨ (hd x).kind = 9) {s0 : Sh} (h0 : s0.list = s.list ∧ s0.box = s.box ∧ s0.goal = s.goal ∧ s0.t = s.t ∧ s0.depth = s.depth) : JP g (dn ++ [x]) (addedS s0 x) := by
  obtain ⟨a1, a2, a3, a4, a5⟩ := h0
  have hm := JP.mt hz hd0 (by omega)
  have hdp : (mI g.depth (prunI g.top dn)).depth = g.depth := mI_depth _ _
  have hme : (putS s0 x 0).t = (sizeM (mI g.depth (prunI g.top dn))).1 ∧ (putS s0 x 0).depth = (sizeM (mI g.depth (prunI g.top dn))).2 := ⟨a4.trans h.meas.1, a5.trans h.meas.2⟩
  obtain ⟨d1, d2, d3, d4, d5, d6, d7⟩ := added_eq s0 x
  have hgo : (addedS s0 x).goal = s0.goal := by unfold addedS; split <;> (try split) <;> rfl
  refine h.behind hbx (by rw [d1]; show s0.list ++ _ = _; rw [a1]) (d6.trans a2) (hgo.trans a3) ?_
  rcases hk with e | e | e
  · have := met_skip (s := putS s0 x 0) hm (Int.le_refl _) (by rw [hdp]; exact hg) hme hx.nb e
    unfold addedS
    rw [if_pos e]
    exact this
  · have := met_kern (s := putS s0 x 0) hm (Int.le_refl _) (by rw [hdp]; exact hg) hme hx.nb e
    unfold addedS
    rw [if_neg (by rw [e]; decide), if_pos e]
    exact this
  · unfold addedS
    rw [if_neg (by rw [e]; decide), if_neg (by rw [e]; decide), pass_light (by rw [e]; rfl)]
    exact hme
theorem JP.pass (h : JP g dn s) (hk : (hd x).kind = 12 ∨ (hd x).kind = 14) : JP g (dn ++ [x]) (putS s x 0) := by
  have h1 : solidK (hd x).kind = false := by rcases hk with e | e <;> rw [e] <;> rfl
  have h2 : fallsK (hd x).kind = false := by rcases hk with e | e <;> rw [e] <;> rfl
  have hp : prunI g.top (dn ++ [x]) = prunI g.top dn ++ [x] := by
    rw [prunI_snoc, h1, h2]
    simp
  refine ⟨by rw [hp]; show (s.list ++ [(x, (0 : Int))]).map (fun y : It × Int => y.1) = _; rw [List.map_append, h.list]; rfl, by rw [hasS_snoc, h1, Bool.or_false]; exact h.box, h.goal, ?_, fun _ => ?_⟩
  · rw [hp, mI_snoc, pass_light (by rcases hk with e | e <;> rw [e] <;> rfl)]
    exact h.meas
  · rw [last_snoc, last_put]
theorem JP.drop (h : JP g dn s) (hbx : s.box = false) (hk : fallsK (hd x).kind = true) (hs : solidK (hd x).kind = false) : JP g (dn ++ [x]) s := by
  have hp : prunI g.top (dn ++ [x]) = prunI g.top dn := by
    rw [prunI_snoc, ← h.box, hbx, hs, hk]
    simp
  refine ⟨by rw [hp]; exact h.list, by rw [hasS_snoc, hs, Bool.or_false]; exact h.box, h.goal, by rw [hp]; exact h.meas, fun e => ?_⟩
  rw [hbx] at e
  cases e
theorem JP.fresh (hd0 : 0 ≤ g.depth) : JP g [] (freshS g) := by
  refine ⟨rfl, rfl, rfl, ?_, fun e => (by cases e)⟩
  show (Tt.zero = (sizeM ⟨.zero, 0, g.depth⟩).1) ∧ (0 : Int) = (sizeM ⟨.zero, 0, g.depth⟩).2
  unfold sizeM
  rw [if_neg (by show ¬ g.depth < 0; omega)]
  exact ⟨rfl, rfl⟩
theorem tried_same (s : Sh) (q : Int) : (triedS s q).list = s.list ∧ (triedS s q).box = s.box ∧ (triedS s q).goal = s.goal ∧ (triedS s q).t = s.t ∧ (triedS s q).depth = s.depth := by
  unfold triedS
  dsimp only
  split <;> exact ⟨rfl, rfl, rfl, rfl, rfl⟩
end Go.Proofs.YtomehdepjenilaaGreat
