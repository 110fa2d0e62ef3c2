/-
  Items of parts of lists; a Disc's three lists (plain).
-/
import Derived.Test.YtiijpbfkchokaaaW1
namespace Go.Proofs.Ytiijpbfkchokaaa
open Go.RowKit
theorem behC_app : ∀ (l r : List Nd) (n : Int) (m : Nat), behC l n = some m → behC (l ++ r) n = some m
  | [], _, _, _, h => by cases h
  | x :: l, r, n, m, h => by
    rw [List.cons_append]
    unfold behC at h ⊢
    split at h
    · rename_i h0; rw [if_pos h0]; exact h
    · rename_i h0
      rw [if_neg h0]
      obtain ⟨k, hk, rfl⟩ := Option.map_eq_some_iff.1 h
      rw [behC_app l r _ k hk]
      rfl
theorem behC_take0 : ∀ (l : List Nd) (n : Int) (m : Nat), behC l n = some m → behC (l.take m) n = some m
  | [], _, _, h => by cases h
  | x :: l, n, m, h => by
    have hp := behC_pos _ _ _ h
    obtain ⟨m', rfl⟩ : ∃ m', m = m' + 1 := ⟨m - 1, by omega⟩
    rw [List.take_succ_cons]
    unfold behC at h ⊢
    split at h
    · rename_i h0; rw [if_pos h0]; exact h
    · rename_i h0
      rw [if_neg h0]
      obtain ⟨k, hk, e⟩ := Option.map_eq_some_iff.1 h
      have : k = m' := by omega
      subst this
      rw [behC_take0 l _ k hk]
      rfl
/-- an item within what stands open -/
theorem behC_lift1 : ∀ (l : List Nd) (c : Int) (m : Nat), 1 ≤ c → behC l c = some m → ∀ n, 1 ≤ n → behC l (c + n) = (behC (l.drop m) n).map (· + m)
  | [], _, _, _, h, _, _ => by cases h
  | x :: l, c, m, hc, h, n, hn => by
    have hb : behN x.kind (c + n) = behN x.kind c + n := by unfold behN; split <;> (try split) <;> omega
    have hge : 0 ≤ behN x.kind c := by unfold behN; split <;> (try split) <;> omega
    unfold behC at h
    split at h
    · rename_i h0
      cases h
      rw [behC, hb, h0, Int.zero_add, if_neg (by omega)]
      rfl
    · rename_i h0
      obtain ⟨k, hk, rfl⟩ := Option.map_eq_some_iff.1 h
      rw [behC, hb, if_neg (by omega), behC_lift1 l _ k (by omega) hk n hn, List.drop_succ_cons, Option.map_map]
      congr 1
theorem behC_lift {l : List Nd} {m : Nat} (h : behC l 0 = some m) (hk : ∀ x, l.head? = some x → x.kind ≠ 6) {n : Int} (hn : 1 ≤ n) : behC l n = (behC (l.drop m) n).map (· + m) := by
  cases l with
  | nil => cases h
  | cons x l =>
    have h6 := hk x rfl
    unfold behC at h
    have hb : behN x.kind n = behN x.kind 0 + n := by unfold behN; rw [if_neg h6, if_neg h6]; split <;> omega
    split at h
    · rename_i h0
      cases h
      rw [behC, hb, h0, Int.zero_add, if_neg (by omega)]
      rfl
    · rename_i h0
      obtain ⟨k, hk, rfl⟩ := Option.map_eq_some_iff.1 h
      have hpos : 1 ≤ behN x.kind 0 := by
        unfold behN at h0 ⊢
        rw [if_neg h6] at h0 ⊢
        split
        · omega
        · rename_i ho; rw [if_neg ho] at h0; exact absurd rfl h0
      rw [behC, hb, if_neg (by omega), behC_lift1 l _ k hpos hk n hn, List.drop_succ_cons, Option.map_map]
      congr 1
theorem items_app {X Y : List Nd} {i : Nat} {s t : List Nat} (h : Items X i s) (k : Items Y 0 t) : Items (X ++ Y) i (s ++ t.map (X.length + ·)) := by
  have shift : ∀ {j : Nat} {u : List Nat}, Items Y j u → Items (X ++ Y) (X.length + j) (u.map (X.length + ·)) := by
    intro j u hu
    induction hu with
    | done => rw [← List.length_append]; exact .done
    | step hi hm hs2 ih =>
      rename_i j m u
      refine .step (m := m) (by rw [List.length_append]; omega) ?_ (by rwa [Nat.add_assoc])
      rw [List.drop_append, List.drop_eq_nil_of_le (by omega), List.nil_append, Nat.add_sub_cancel_left]
      exact hm
  induction h with
  | done => exact shift k
  | step hi hm _ ih =>
    refine .step (by rw [List.length_append]; omega) ?_ ih
    rw [List.drop_append, Nat.sub_eq_zero_of_le (by omega), List.drop_zero]
    exact behC_app _ _ _ _ hm
theorem items_nil : Items [] 0 [] := .done
/-- m nodes from a place on -/
def sl (L : List Nd) (i m : Nat) : List Nd := (L.drop i).take m
theorem sl_len {L : List Nd} {i m : Nat} (h : i + m ≤ L.length) : (sl L i m).length = m := by unfold sl; simp; omega
theorem sl_sub {L : List Nd} {i m : Nat} : ∀ n ∈ sl L i m, n ∈ L := fun _ h => List.mem_of_mem_drop (List.mem_of_mem_take h)
theorem nth_sl {L : List Nd} {i m j : Nat} (hj : j < m) : nth (sl L i m) j = nth L (i + j) := by
  unfold nth sl
  rw [List.getElem?_take, if_pos hj, List.getElem?_drop]
theorem items_one {L : List Nd} {i m : Nat} (h : behC (L.drop i) 0 = some m) : Items (sl L i m) 0 [0] := by
  have hp := behC_pos _ _ _ h
  rw [List.length_drop] at hp
  have hl := sl_len (L := L) (i := i) (m := m) (by omega)
  refine .step (m := m) (by omega) ?_ ?_
  · rw [List.drop_zero]; exact behC_take0 _ _ _ h
  · rw [Nat.zero_add]
    have := Items.done (L := sl L i m)
    rwa [hl] at this
/-- the elements of what a Disc holds -/
def elsF (L : List Nd) : Nat → Nat → List (Nat × Nat)
  | 0, _ => []
  | n + 1, i => if (nth L i).kind = 6 then [] else if (nth L i).kind = 11 then (i, 1) :: elsF L n (i + 1) else match behC (L.drop i) 0 with | none => [] | some m => (i, m) :: elsF L n (i + m)
theorem elsF_eq {L : List Nd} {e i : Nat} {s : List (Nat × Nat)} (h : Els L e i s) (he : (nth L e).kind = 6) : ∀ n, e - i < n → elsF L n i = s := by
  induction h with
  | done =>
    intro n hn
    obtain ⟨n, rfl⟩ : ∃ k, n = k + 1 := ⟨n - 1, by omega⟩
    rw [elsF, if_pos he]
  | sep hi hk hs ih =>
    intro n hn
    obtain ⟨n, rfl⟩ : ∃ k, n = k + 1 := ⟨n - 1, by omega⟩
    rw [elsF, if_neg (by rw [hk]; decide), if_pos hk, ih n (by omega)]
  | item hi hk hm hs ih =>
    intro n hn
    obtain ⟨n, rfl⟩ : ∃ k, n = k + 1 := ⟨n - 1, by omega⟩
    have hp := behC_pos _ _ _ hm
    have hle := hs.le
    have hn6 := small_not hk
    rw [elsF, if_neg hn6.2.1, if_neg hn6.1, hm]
    simp only
    rw [ih n (by omega)]
abbrev Three := List Nd × List Nd × List Nd
def addP (t : Three) (k : Nat) (x : List Nd) : Three :=
  match k with
  | 0 => (t.1 ++ x, t.2.1, t.2.2)
  | 1 => (t.1, t.2.1 ++ x, t.2.2)
  | _ => (t.1, t.2.1, t.2.2 ++ x)
def thrF (L : List Nd) : List (Nat × Nat) → Nat → Three → Three
  | [], _, t => t
  | x :: s, k, t => if (nth L x.1).kind = 11 then thrF L s (k + 1) t else thrF L s k (addP t k (sl L x.1 x.2))
/-- a Disc's three lists -/
def threeP (L : List Nd) (x : Nat) : Three := thrF L (elsF L L.length (x + 1)) 0 ([], [], [])
/-- a list as a Disc may hold it -/
structure PartOK (L X : List Nd) : Prop where
  items : ∃ s, Items X 0 s ∧ ∀ x ∈ s, smallK (nth X x).kind = true
  sub : ∀ n ∈ X, n ∈ L
theorem PartOK.nil (L : List Nd) : PartOK L [] := ⟨⟨[], items_nil, fun _ h => by cases h⟩, fun _ h => by cases h⟩
theorem PartOK.add {L X : List Nd} (h : PartOK L X) {i m : Nat} (hk : smallK (nth L i).kind = true) (hm : behC (L.drop i) 0 = some m) : PartOK L (X ++ sl L i m) := by
  obtain ⟨s, hs, hsm⟩ := h.items
  have hp := behC_pos _ _ _ hm
  refine ⟨⟨_, items_app hs (items_one hm), fun x hx => ?_⟩, fun n hn => ?_⟩
  · rcases List.mem_append.1 hx with hx | hx
    · have hlt := (hs.lt x hx).2
      have e : nth (X ++ sl L i m) x = nth X x := by unfold nth; rw [List.getElem?_append_left hlt]
      rw [e]; exact hsm x hx
    · simp only [List.map_cons, List.map_nil, List.mem_singleton, Nat.add_zero] at hx
      subst hx
      have e : nth (X ++ sl L i m) X.length = nth L i := by
        unfold nth
        rw [List.getElem?_append_right (Nat.le_refl _), Nat.sub_self]
        have := nth_sl (L := L) (i := i) (m := m) (j := 0) (by omega)
        unfold nth at this
        rw [this]; rfl
      rw [e]; exact hk
  · rcases List.mem_append.1 hn with hn | hn
    · exact h.sub n hn
    · exact sl_sub n hn
structure ThreeOK (L : List Nd) (t : Three) : Prop where
  a : PartOK L t.1
  b : PartOK L t.2.1
  c : PartOK L t.2.2
theorem ThreeOK.add {L : List Nd} {t : Three} (h : ThreeOK L t) (k : Nat) {i m : Nat} (hk : smallK (nth L i).kind = true) (hm : behC (L.drop i) 0 = some m) : ThreeOK L (addP t k (sl L i m)) := by
  unfold addP
  split
  · exact ⟨h.a.add hk hm, h.b, h.c⟩
  · exact ⟨h.a, h.b.add hk hm, h.c⟩
  · exact ⟨h.a, h.b, h.c.add hk hm⟩
theorem thrF_ok {L : List Nd} {e i : Nat} {s : List (Nat × Nat)} (h : Els L e i s) : ∀ (k : Nat) (t : Three), ThreeOK L t → ThreeOK L (thrF L s k t) := by
  induction h with
  | done => intro k t ht; exact ht
  | sep hi hk hs ih =>
    intro k t ht
    rw [thrF, if_pos hk]
    exact ih (k + 1) t ht
  | item hi hk hm hs ih =>
    intro k t ht
    rw [thrF, if_neg (small_not hk).1]
    exact ih k _ (ht.add k hk hm)
theorem thrF_len {L : List Nd} {e i : Nat} {s : List (Nat × Nat)} (h : Els L e i s) (hl : e ≤ L.length) : ∀ (k : Nat) (t : Three), (thrF L s k t).1.length + (thrF L s k t).2.1.length + (thrF L s k t).2.2.length ≤ t.1.length + t.2.1.length + t.2.2.length + (e - i) := by
  induction h with
  | done => intro k t; simp [thrF]
  | sep hi hk hs ih =>
    intro k t
    have := ih (k + 1) t
    rw [thrF, if_pos hk]
    omega
  | item hi hk hm hs ih =>
    rename_i i m s
    intro k t
    have := ih k (addP t k (sl L i m))
    have hle := hs.le
    have hsl := sl_len (L := L) (i := i) (m := m) (by omega)
    rw [thrF, if_neg (small_not hk).1]
    have e3 : (addP t k (sl L i m)).1.length + (addP t k (sl L i m)).2.1.length + (addP t k (sl L i m)).2.2.length = t.1.length + t.2.1.length + t.2.2.length + m := by
      unfold addP
      split <;> simp [hsl] <;> omega
    simp only
    omega
/-- a Disc stands at a place of a good list -/
structure DiscAt (L : List Nd) (x m : Nat) (s : List (Nat × Nat)) : Prop where
  beh : behC (L.drop x) 0 = some m
  els : Els L (x + m - 1) (x + 1) s
  two : 2 ≤ m
  lt : x + m ≤ L.length
  end_ : (nth L (x + m - 1)).kind = 6
  seps : sepsN L s = 2
  eq : threeP L x = thrF L s 0 ([], [], [])
theorem els_beh {L : List Nd} {e i : Nat} {s : List (Nat × Nat)} (h : Els L e i s) (he : (nth L e).kind = 6) (hl : e < L.length) : behC (L.drop i) 1 = some (e + 1 - i) := by
  induction h with
  | done =>
    rw [List.drop_eq_getElem_cons hl, behC, ← nth_get hl, he, if_pos (by decide)]
    congr 1; omega
  | sep hi hk hs ih =>
    rename_i i s
    have hil : i < L.length := by omega
    rw [List.drop_eq_getElem_cons hil, behC, ← nth_get hil, hk, if_neg (by decide)]
    rw [show behN 11 1 = 1 by decide, ih]
    simp; omega
  | item hi hk hm hs ih =>
    rename_i i m s
    have hil : i < L.length := by omega
    have hle := hs.le
    rw [behC_lift hm (fun x hx => ?_) (Int.le_refl 1), List.drop_drop, ih]
    · simp; omega
    · rw [List.head?_drop, List.getElem?_eq_getElem hil] at hx
      cases hx
      rw [← nth_get hil]
      exact (small_not hk).2.1
theorem items_run2 {L : List Nd} {i : Nat} {s : List Nat} (h : Items L i s) : ∀ {d d' : Int}, runC (L.drop i) [] d = some ([], d') → ∀ x ∈ s, ∃ d2, runC (L.drop x) [] d2 = some ([], d') := by
  induction h with
  | done => intro d d' _ x hx; cases hx
  | step hi hm hs ih =>
    rename_i i m s
    intro d d' hr x hx
    rcases List.mem_cons.1 hx with rfl | hx
    · exact ⟨d, hr⟩
    · have e := List.drop_eq_getElem_cons hi
      rw [e] at hr
      obtain ⟨m2, d2, hb, hr2⟩ := runC_top hr
      rw [← e] at hb hr2
      rw [hm] at hb
      cases hb
      rw [List.drop_drop] at hr2
      exact ih hr2 x hx
theorem disc_at {L : List Nd} {s : List Nat} (hc : checkC L = 0) (hs : Items L 0 s) {x : Nat} (hx : x ∈ s) (hk : (nth L x).kind = 10) : ∃ m u, DiscAt L x m u := by
  obtain ⟨_, d, _, hr⟩ := checkC_zero hc
  obtain ⟨d1, h1⟩ := items_run2 hs (by rw [List.drop_zero]; exact hr) x hx
  have hlt := (hs.lt x hx).2
  rw [List.drop_eq_getElem_cons hlt] at h1
  unfold runC at h1
  split at h1
  · obtain ⟨⟨X, d2⟩, h2, h3⟩ := Option.bind_eq_some_iff.1 h1
    have hst : X = [2] := by
      rw [← nth_get hlt, hk] at h2
      have e : stepC 10 [] d1 = some ([2], max d1 (0 + 1)) := rfl
      rw [e] at h2
      cases h2; rfl
    subst hst
    obtain ⟨u, e, d3, h4, h5, h6, h7, _⟩ := els_of_run L L.length (x + 1) 2 d2 d (by omega) hlt (by decide) h3
    have hle := h4.le
    have hb := els_beh h4 h6 h5
    have hbx : behC (L.drop x) 0 = some (e + 1 - x) := by
      rw [List.drop_eq_getElem_cons hlt, behC, ← nth_get hlt, hk]
      rw [show behN 10 0 = 1 by decide, if_neg (by decide), hb]
      simp; omega
    have he : x + (e + 1 - x) - 1 = e := by omega
    refine ⟨e + 1 - x, u, hbx, by rw [he]; exact h4, by omega, by omega, by rw [he]; exact h6, by exact_mod_cast h7, ?_⟩
    unfold threeP
    rw [elsF_eq h4 h6 L.length (by omega)]
  · cases h1
theorem disc_ok {L : List Nd} {x m : Nat} {u : List (Nat × Nat)} (h : DiscAt L x m u) : ThreeOK L (threeP L x) ∧ (threeP L x).1.length + (threeP L x).2.1.length + (threeP L x).2.2.length ≤ m := by
  have h2 := h.two
  have hl := h.lt
  rw [h.eq]
  refine ⟨thrF_ok h.els 0 _ ⟨.nil L, .nil L, .nil L⟩, ?_⟩
  have := thrF_len h.els (by omega) 0 ([], [], [])
  simp only [List.length_nil] at this
  omega
end Go.Proofs.Ytiijpbfkchokaaa
