/-
  What stands in a line (plain): its nodes, its items, its totals.
-/
import Derived.Test.YtiijpbfkchokaaaGreatB10
namespace Go.Proofs.YtiijpbfkchokaaaGreat
open Go.ChangeShapes Go.WideShapes Go.ChangeAt Go.RowKit
theorem disc_sl2 {L : List Nd} {x m i n : Nat} {u : List (Nat × Nat)} (h : DiscAt L x m u) (hi : i ≤ x) (hn : x + m ≤ i + n) : ∃ u', DiscAt (sl L i n) (x - i) m u' ∧ threeP (sl L i n) (x - i) = threeP L x := by
  have h2 := h.two
  have hlt := h.lt
  have hend : (nth (sl L i n) (x - i + m - 1)).kind = 6 := by
    rw [nth_sl (by omega), show i + (x - i + m - 1) = x + m - 1 by omega]; exact h.end_
  have hels : Els (sl L i n) (x - i + m - 1) (x - i + 1) (u.map fun p => (p.1 - i, p.2)) := by
    have := els_sl h.els (x := i) (m := n) (by omega) (by omega)
    rwa [show x + m - 1 - i = x - i + m - 1 by omega, show x + 1 - i = x - i + 1 by omega] at this
  have hl : x - i + m ≤ (sl L i n).length := by unfold sl; simp; omega
  have heq : threeP (sl L i n) (x - i) = threeP L x := by
    unfold threeP
    rw [elsF_eq hels hend _ (by omega)]
    have h3 := h.eq
    unfold threeP at h3
    rw [h3]
    exact thrF_sl h.els (by omega) (by omega) 0 _
  refine ⟨u.map fun p => (p.1 - i, p.2), ⟨?_, hels, h2, hl, hend, ?_, ?_⟩, heq⟩
  · have e : (sl L i n).drop (x - i) = (L.drop x).take (n - (x - i)) := by unfold sl; rw [List.drop_take, List.drop_drop]; congr 2; omega
    rw [e]
    have h4 := behC_take0 _ _ _ h.beh
    have h5 := behC_app _ ((((L.drop x).take (n - (x - i))).drop m)) _ _ h4
    have e2 : (L.drop x).take m ++ ((L.drop x).take (n - (x - i))).drop m = (L.drop x).take (n - (x - i)) := by
      have : (L.drop x).take m = ((L.drop x).take (n - (x - i))).take m := by rw [List.take_take, Nat.min_eq_left (by omega)]
      rw [this, List.take_append_drop]
    rwa [e2] at h5
  · have hs := h.seps
    unfold sepsN at hs ⊢
    rw [List.filter_map, List.length_map, ← hs]
    congr 1
    refine List.filter_congr fun p hp => ?_
    have hb : x + 1 ≤ p.1 ∧ p.1 < x + m - 1 := by
      have : ∀ {e i : Nat} {s : List (Nat × Nat)}, Els L e i s → ∀ p ∈ s, i ≤ p.1 ∧ p.1 < e := by
        intro e i s hh
        induction hh with
        | done => intro p hp; cases hp
        | sep hi _ _ ih =>
          intro p hp
          rcases List.mem_cons.1 hp with rfl | hp
          · exact ⟨Nat.le_refl _, hi⟩
          · have := ih p hp; omega
        | item hi _ _ _ ih =>
          intro p hp
          rcases List.mem_cons.1 hp with rfl | hp
          · exact ⟨Nat.le_refl _, hi⟩
          · have := ih p hp; omega
      exact this h.els p hp
    simp only [Function.comp]
    rw [nth_sl (by omega), show i + (p.1 - i) = p.1 by omega]
  · rw [heq, h.eq]; exact (thrF_sl h.els (by omega) (by omega) 0 _).symm
theorem at_nth {C M B : List Nd} {a j : Nat} (hC : C.drop a = M ++ B) (hj : j < M.length) : nth C (a + j) = nth M j := by
  unfold nth
  rw [← List.getElem?_drop, hC, List.getElem?_append_left hj]
theorem at_drop {C M B : List Nd} {a j : Nat} (hC : C.drop a = M ++ B) (hj : j ≤ M.length) : C.drop (a + j) = M.drop j ++ B := by
  rw [← List.drop_drop, hC, List.drop_append_of_le_length hj]
theorem at_sl {C M B : List Nd} {a j m : Nat} (hC : C.drop a = M ++ B) (hj : j + m ≤ M.length) : sl C (a + j) m = sl M j m := by
  unfold sl
  rw [at_drop hC (by omega), List.take_append_of_le_length (by rw [List.length_drop]; omega)]
theorem at_beh {C M B : List Nd} {a j m : Nat} {n : Int} (hC : C.drop a = M ++ B) (hj : j ≤ M.length) (h : behC (M.drop j) n = some m) : behC (C.drop (a + j)) n = some m := by
  rw [at_drop hC hj]; exact behC_app _ _ _ _ h
theorem at_els {C M B : List Nd} {a e i : Nat} {u : List (Nat × Nat)} (hC : C.drop a = M ++ B) (h : Els M e i u) (he : e ≤ M.length) : Els C (a + e) (a + i) (u.map fun p => (a + p.1, p.2)) := by
  induction h with
  | done => exact .done
  | sep hi hk hs ih => exact .sep (by omega) (by rw [at_nth hC (by omega)]; exact hk) ih
  | item hi hk hm hs ih =>
    exact .item (by omega) (by rw [at_nth hC (by omega)]; exact hk) (at_beh hC (by omega) hm) (by rw [Nat.add_assoc]; exact ih)
theorem at_thr {C M B : List Nd} {a e i : Nat} {u : List (Nat × Nat)} (hC : C.drop a = M ++ B) (h : Els M e i u) (he : e ≤ M.length) : ∀ (k : Nat) (t : Three), thrF C (u.map fun p => (a + p.1, p.2)) k t = thrF M u k t := by
  induction h with
  | done => intro k t; rfl
  | sep hi hk hs ih =>
    intro k t
    rw [List.map_cons, thrF, thrF, if_pos hk, if_pos (by rw [at_nth hC (by omega)]; exact hk)]
    exact ih (k + 1) t
  | item hi hk hm hs ih =>
    intro k t
    have hle := hs.le
    rw [List.map_cons, thrF, thrF, if_neg (small_not hk).1, if_neg (by rw [at_nth hC (by omega)]; exact (small_not hk).1), at_sl hC (by omega)]
    exact ih k _
theorem els_mem {L : List Nd} {e i : Nat} {s : List (Nat × Nat)} (h : Els L e i s) : ∀ p ∈ s, i ≤ p.1 ∧ p.1 < e := by
  induction h with
  | done => intro p hp; cases hp
  | sep hi _ _ ih =>
    intro p hp
    rcases List.mem_cons.1 hp with rfl | hp
    · exact ⟨Nat.le_refl _, hi⟩
    · have := ih p hp; omega
  | item hi _ _ _ ih =>
    intro p hp
    rcases List.mem_cons.1 hp with rfl | hp
    · exact ⟨Nat.le_refl _, hi⟩
    · have := ih p hp; omega
theorem at_disc {C M B : List Nd} {a y m : Nat} {u : List (Nat × Nat)} (hC : C.drop a = M ++ B) (h : DiscAt M y m u) : DiscAt C (a + y) m (u.map fun p => (a + p.1, p.2)) ∧ threeP C (a + y) = threeP M y := by
  have h2 := h.two
  have hlt := h.lt
  have hcl : a + (y + m) ≤ C.length := by
    have := congrArg List.length hC
    rw [List.length_drop, List.length_append] at this
    omega
  have hend : (nth C (a + y + m - 1)).kind = 6 := by
    rw [show a + y + m - 1 = a + (y + m - 1) by omega, at_nth hC (by omega)]; exact h.end_
  have hels : Els C (a + y + m - 1) (a + y + 1) (u.map fun p => (a + p.1, p.2)) := by
    have := at_els hC h.els (by omega)
    rwa [show a + (y + m - 1) = a + y + m - 1 by omega, ← Nat.add_assoc] at this
  have heq : threeP C (a + y) = threeP M y := by
    unfold threeP
    rw [elsF_eq hels hend _ (by omega)]
    have h3 := h.eq
    unfold threeP at h3
    rw [h3]
    exact at_thr hC h.els (by omega) 0 _
  refine ⟨⟨at_beh hC (by omega) h.beh, hels, h2, by omega, hend, ?_, ?_⟩, heq⟩
  · have hs := h.seps
    unfold sepsN at hs ⊢
    rw [List.filter_map, List.length_map, ← hs]
    congr 1
    refine List.filter_congr fun p hp => ?_
    have hb := els_mem h.els p hp
    simp only [Function.comp]
    rw [at_nth hC (by omega)]
  · rw [heq, h.eq]; exact (at_thr hC h.els (by omega) 0 _).symm
structure RowOK (Y : List Nd) (s : List Nat) : Prop where
  items : Items Y 0 s
  right : ∀ n ∈ Y, rightB n = true
  disc : ∀ x ∈ s, (nth Y x).kind = 10 → ∃ m u, DiscAt Y x m u
  six : ∀ x ∈ s, (nth Y x).kind ≠ 6
theorem it_bound2 {L : List Nd} (hr : ∀ n ∈ L, rightB n = true) {x m : Nat} (hlt : x < L.length) (hm : behC (L.drop x) 0 = some m) (hd : (nth L x).kind = 10 → ∃ m u, DiscAt L x m u) : TtB (1073741823 * m) (itT L x) := by
  have hp := behC_pos _ _ _ hm
  have hrn : rightB (nth L x) = true := by rw [nth_get hlt]; exact hr _ (List.getElem_mem _)
  have hpm : (1073741823 : Int) ≤ 1073741823 * (m : Int) := by omega
  unfold itT
  split
  · rename_i h7
    have h7' : (nth L x).kind = 7 := by simpa using h7
    have nb := nb_of hrn
    exact (glue_bound (nb.nat h7') (nb.str h7') (nb.shr h7') (by omega)).mono hpm
  · unfold itN
    split
    · rename_i h10
      obtain ⟨m', u, hd⟩ := hd (by simpa using h10)
      have := hd.beh
      rw [hm] at this
      cases this
      obtain ⟨hok, hlen⟩ := disc_ok hd
      have hb := row_bound hok.c hr
      have hle : (1073741823 : Int) * ((threeP L x).2.2.length : Int) ≤ 1073741823 * (m : Int) := by omega
      exact .wide (by omega) (by omega)
    · have := ac_bound hrn
      exact .wide (by omega) (by omega)
theorem sum_pre2 {L : List Nd} (hr : ∀ n ∈ L, rightB n = true) : ∀ {i : Nat} {t : List Nat}, Items L i t → (∀ x ∈ t, (nth L x).kind = 10 → ∃ m u, DiscAt L x m u) → ∀ d r, t = d ++ r → TtB (1073741823 * ((L.length - i : Nat) : Int)) (sumA L d) := by
  intro i t h
  induction h with
  | done =>
    intro _ d r e
    have : d = [] := by cases d with | nil => rfl | cons _ _ => cases e
    subst this
    exact TtB.zero.mono (by omega)
  | step hi hm hs2 ih =>
    rename_i i m t
    intro hd d r e
    have hp := behC_pos _ _ _ hm
    rw [List.length_drop] at hp
    cases d with
    | nil => exact TtB.zero.mono (by omega)
    | cons y d =>
      simp only [List.cons_append, List.cons.injEq] at e
      obtain ⟨rfl, e⟩ := e
      rw [sumA_cons]
      refine ((it_bound2 hr hi hm (hd _ List.mem_cons_self)).plus (ih (fun x hx => hd x (List.mem_cons_of_mem _ hx)) d r e)).mono ?_
      omega
theorem RowOK.tot {Y : List Nd} {s : List Nat} (h : RowOK Y s) (hl : Y.length ≤ 2000) : TotY Y s :=
  ⟨h.items, h.right, hl, fun d r e => (sum_pre2 h.right h.items h.disc d r e).mono (by omega)⟩
theorem at_itT {C M B : List Nd} {a y : Nat} (hC : C.drop a = M ++ B) (hy : y < M.length) (hd : (nth M y).kind = 10 → ∃ m u, DiscAt M y m u) : itT C (a + y) = itT M y := by
  unfold itT itN
  rw [at_nth hC hy]
  split
  · rfl
  · split
    · rename_i h10
      obtain ⟨m, u, h⟩ := hd (by simpa using h10)
      rw [(at_disc hC h).2]
    · rfl
theorem at_sumA {C M B : List Nd} {a : Nat} (hC : C.drop a = M ++ B) : ∀ (s : List Nat), (∀ y ∈ s, y < M.length) → (∀ x ∈ s, (nth M x).kind = 10 → ∃ m u, DiscAt M x m u) → sumA C (s.map (a + ·)) = sumA M s
  | [], _, _ => rfl
  | x :: r, h1, h2 => by
    rw [List.map_cons, sumA_cons, sumA_cons, at_itT hC (h1 x List.mem_cons_self) (h2 x List.mem_cons_self), at_sumA hC r (fun y hy => h1 y (List.mem_cons_of_mem _ hy)) (fun y hy => h2 y (List.mem_cons_of_mem _ hy))]
theorem RowOK.app {X Y : List Nd} {s t : List Nat} (h : RowOK X s) (k : RowOK Y t) : RowOK (X ++ Y) (s ++ t.map (X.length + ·)) ∧ sumA (X ++ Y) (s ++ t.map (X.length + ·)) = (sumA X s).plus (sumA Y t) := by
  have hX : (X ++ Y).drop 0 = X ++ Y := rfl
  have hY : (X ++ Y).drop X.length = Y ++ [] := by rw [List.drop_left, List.append_nil]
  have hxl : ∀ y ∈ s, y < X.length := fun y hy => (h.items.lt y hy).2
  have hyl : ∀ y ∈ t, y < Y.length := fun y hy => (k.items.lt y hy).2
  refine ⟨⟨items_app h.items k.items, fun n hn => ?_, fun x hx hk => ?_, fun x hx => ?_⟩, ?_⟩
  · rcases List.mem_append.1 hn with hn | hn
    · exact h.right n hn
    · exact k.right n hn
  · rcases List.mem_append.1 hx with hx | hx
    · have e := at_nth hX (hxl x hx)
      rw [Nat.zero_add] at e
      rw [e] at hk
      obtain ⟨m, u, hd⟩ := h.disc x hx hk
      have := (at_disc hX hd).1
      rw [Nat.zero_add] at this
      exact ⟨_, _, this⟩
    · obtain ⟨y, hy, rfl⟩ := List.mem_map.1 hx
      rw [at_nth hY (hyl y hy)] at hk
      obtain ⟨m, u, hd⟩ := k.disc y hy hk
      exact ⟨_, _, (at_disc hY hd).1⟩
  · rcases List.mem_append.1 hx with hx | hx
    · have e := at_nth hX (hxl x hx)
      rw [Nat.zero_add] at e
      rw [e]
      exact h.six x hx
    · obtain ⟨y, hy, rfl⟩ := List.mem_map.1 hx
      rw [at_nth hY (hyl y hy)]
      exact k.six y hy
  · rw [sumA_app, at_sumA hY t hyl k.disc]
    have := at_sumA hX s hxl h.disc
    have e : s.map (0 + ·) = s := by simp
    rw [e] at this
    rw [this]
theorem RowOK.part {L X : List Nd} (hP : PartOK L X) (hr : ∀ n ∈ L, rightB n = true) : RowOK X (itsP X) ∧ sumA X (itsP X) = .wide (rowN X) := by
  obtain ⟨hi, hk⟩ := hP.its
  refine ⟨⟨hi, fun n hn => hr n (hP.sub n hn), fun x hx hk10 => ?_, fun x hx => (small_not (hk x hx)).2.1⟩, sumA_small _ hk⟩
  have := hk x hx
  rw [hk10] at this
  exact absurd this (by decide)
theorem RowOK.slice {L : List Nd} (hr : ∀ n ∈ L, rightB n = true) {i : Nat} {t : List Nat} (hi : Items L i t) (hd : ∀ x ∈ t, (nth L x).kind = 10 → ∃ m u, DiscAt L x m u) (h6 : ∀ x ∈ t, (nth L x).kind ≠ 6) {q : Nat} (hto : q ∈ t ∨ q = L.length) :
    RowOK (sl L i (q - i)) ((t.takeWhile (· < q)).map (· - i)) ∧ sumA (sl L i (q - i)) ((t.takeWhile (· < q)).map (· - i)) = sumA L (t.takeWhile (· < q)) := by
  have his := items_slice hi hto
  have hql : q ≤ L.length := by
    rcases hto with h | h
    · exact Nat.le_of_lt (hi.lt q h).2
    · omega
  have hin : ∀ x ∈ t.takeWhile (· < q), i ≤ x ∧ x < q ∧ x ∈ t := fun x hx => by
    have hx2 := (List.takeWhile_sublist (· < q)).subset hx
    have h3 : ∀ (l : List Nat), x ∈ l.takeWhile (· < q) → x < q := by
      intro l
      induction l with
      | nil => intro h; cases h
      | cons y l ih =>
        intro h
        by_cases hy : y < q
        · rw [List.takeWhile_cons_of_pos (by simpa using hy)] at h
          rcases List.mem_cons.1 h with rfl | h
          · exact hy
          · exact ih h
        · rw [List.takeWhile_cons_of_neg (by simpa using hy)] at h; cases h
    exact ⟨(hi.lt x hx2).1, h3 _ hx, hx2⟩
  have hlen : ∀ x ∈ t.takeWhile (· < q), (sl L i (q - i)).length = q - i := fun x hx => sl_len (by have := hin x hx; omega)
  have hbeh : ∀ {j : Nat} {u : List Nat}, Items L j u → ∀ x ∈ u, q ∈ u ∨ q = L.length → x < q → ∃ m, behC (L.drop x) 0 = some m ∧ x + m ≤ q := by
    intro j u hu
    induction hu with
    | done => intro x hx; cases hx
    | step hj hm hs ih =>
      rename_i j m u
      intro x hx hq hxq
      have hq2 : x ≠ j → q ∈ u ∨ q = L.length := fun hne => by
        rcases hq with h | h
        · rcases List.mem_cons.1 h with h | h
          · rcases List.mem_cons.1 hx with h5 | h5
            · exact absurd h5 hne
            · have := (hs.lt x h5).1
              have hp := behC_pos _ _ _ hm
              omega
          · exact .inl h
        · exact .inr h
      by_cases hxj : x = j
      · subst hxj
        refine ⟨m, hm, ?_⟩
        rcases hq with h | h
        · rcases List.mem_cons.1 h with h | h
          · omega
          · exact (hs.lt q h).1
        · have hp := behC_pos _ _ _ hm
          rw [List.length_drop] at hp
          omega
      · rcases List.mem_cons.1 hx with h5 | h5
        · exact absurd h5 hxj
        · exact ih x h5 (hq2 hxj) hxq
  have hdd : ∀ x ∈ t.takeWhile (· < q), (nth L x).kind = 10 → ∃ m u, DiscAt (sl L i (q - i)) (x - i) m u ∧ threeP (sl L i (q - i)) (x - i) = threeP L x := fun x hx hk => by
    obtain ⟨h1, h2, h3⟩ := hin x hx
    obtain ⟨m, u, h⟩ := hd x h3 hk
    obtain ⟨m2, hb, hle⟩ := hbeh hi x h3 hto h2
    have := h.beh
    rw [hb] at this
    cases this
    obtain ⟨u', h4, h5⟩ := disc_sl2 h h1 (n := q - i) (by omega)
    exact ⟨_, u', h4, h5⟩
  have hnth : ∀ x ∈ t.takeWhile (· < q), nth (sl L i (q - i)) (x - i) = nth L x := fun x hx => by
    obtain ⟨h1, h2, _⟩ := hin x hx
    rw [nth_sl (by omega), show i + (x - i) = x by omega]
  refine ⟨⟨his, fun n hn => hr n (sl_sub n hn), fun x hx hk => ?_, fun x hx => ?_⟩, ?_⟩
  · obtain ⟨y, hy, rfl⟩ := List.mem_map.1 hx
    rw [hnth y hy] at hk
    obtain ⟨m, u, h, _⟩ := hdd y hy hk
    exact ⟨m, u, h⟩
  · obtain ⟨y, hy, rfl⟩ := List.mem_map.1 hx
    rw [hnth y hy]
    exact h6 y (hin y hy).2.2
  · have key : ∀ (r : List Nat), (∀ x ∈ r, x ∈ t.takeWhile (· < q)) → sumA (sl L i (q - i)) (r.map (· - i)) = sumA L r := by
      intro r
      induction r with
      | nil => intro _; rfl
      | cons x r ih =>
        intro hr2
        rw [List.map_cons, sumA_cons, sumA_cons, ih fun y hy => hr2 y (List.mem_cons_of_mem _ hy)]
        congr 1
        have hx := hr2 x List.mem_cons_self
        unfold itT itN
        rw [hnth x hx]
        split
        · rfl
        · split
          · rename_i h10
            obtain ⟨m, u, _, h⟩ := hdd x hx (by simpa using h10)
            rw [h]
          · rfl
    exact key _ fun x hx => hx
def headL (L : List Nd) : Option Nat → List Nd
  | none => []
  | some x => if discB L x then (threeP L x).2.1 else []
def tailL (L : List Nd) (q : Nat) : List Nd := if discB L q then (threeP L q).1 else []
def startC (L : List Nd) (s : List Nat) (f : Option Nat) (q : Nat) : Nat := ((fromP L s f q).takeWhile (· < q)).headD q
def contP (L : List Nd) (s : List Nat) (f : Option Nat) (q : Nat) : List Nd := headL L f ++ (sl L (startC L s f q) (q - startC L s f q) ++ tailL L q)
theorem start_eq {L : List Nd} {s t : List Nat} {f : Option Nat} {q i : Nat} (ht : fromP L s f q = t) (hi : Items L i t) (hto : q ∈ t ∨ q = L.length) (hiq : i ≤ q) : startC L s f q = i := by
  unfold startC
  rw [ht]
  cases hi with
  | done =>
    rcases hto with h | h
    · cases h
    · simp [h]
  | step hl hm hs =>
    by_cases h : i < q
    · rw [List.takeWhile_cons_of_pos (by simpa using h)]; rfl
    · rw [List.takeWhile_cons_of_neg (by simpa using h)]
      show q = i
      omega
theorem discB_kind {L : List Nd} {x : Nat} (h : discB L x = true) : (nth L x).kind = 10 := by
  unfold discB at h
  simp only [Bool.and_eq_true, beq_iff_eq] at h
  exact h.2
theorem head_ok {L : List Nd} {s : List Nat} (hc : checkC L = 0) (hs : Items L 0 s) (hr : ∀ n ∈ L, rightB n = true) {f : Option Nat} (hf : ∀ x, f = some x → x ∈ s) : ∃ t, RowOK (headL L f) t ∧ sumA (headL L f) t = .wide (preN L f) := by
  have h0 : ∃ t, RowOK [] t ∧ sumA [] t = Tt.wide 0 := ⟨[], ⟨items_nil, fun _ h => (by cases h), fun _ h => (by cases h), fun _ h => (by cases h)⟩, rfl⟩
  cases f with
  | none => exact h0
  | some x =>
    unfold headL preN
    simp only
    split
    · rename_i hd
      obtain ⟨m, u, h⟩ := disc_at hc hs (hf x rfl) (discB_kind hd)
      exact ⟨_, RowOK.part (disc_ok h).1.b hr⟩
    · exact h0
theorem tail_ok {L : List Nd} {s : List Nat} (hc : checkC L = 0) (hs : Items L 0 s) (hr : ∀ n ∈ L, rightB n = true) {q : Nat} (hq : q ∈ s ∨ q = L.length) : ∃ t, RowOK (tailL L q) t ∧ sumA (tailL L q) t = .wide (sufN L q) := by
  unfold tailL sufN
  split
  · rename_i hd
    have hqs : q ∈ s := by
      rcases hq with h | h
      · exact h
      · rw [h] at hd; simp [discB] at hd
    obtain ⟨m, u, h⟩ := disc_at hc hs hqs (discB_kind hd)
    exact ⟨_, RowOK.part (disc_ok h).1.a hr⟩
  · exact ⟨[], ⟨items_nil, fun _ h => (by cases h), fun _ h => (by cases h), fun _ h => (by cases h)⟩, rfl⟩
theorem cut_at {L : List Nd} {j x q : Nat} {u : List Nat} (hu : Items L j u) (h1 : x ∈ u) (hxq : x < q) (h2 : q ∈ u ∨ q = L.length) : ∃ m t, u.dropWhile (· < x) = x :: t ∧ behC (L.drop x) 0 = some m ∧ Items L (x + m) t ∧ x < L.length ∧ (q ∈ t ∨ q = L.length) ∧ (∀ y ∈ t, y ∈ u) ∧ x + m ≤ q := by
  induction hu with
  | done => cases h1
  | step hi hm hs2 ih =>
    rename_i j m u
    have hp := behC_pos _ _ _ hm
    rw [List.length_drop] at hp
    have hjq : j ≠ q → q ∈ u ∨ q = L.length := fun hne => by
      rcases h2 with h | h
      · rcases List.mem_cons.1 h with h | h
        · exact absurd h.symm hne
        · exact .inl h
      · exact .inr h
    by_cases hxj : x = j
    · subst hxj
      rw [List.dropWhile_cons_of_neg (by simp)]
      have h4 := hjq (by omega)
      refine ⟨m, u, rfl, hm, hs2, hi, h4, fun y hy => List.mem_cons_of_mem _ hy, ?_⟩
      rcases h4 with h | h
      · exact (hs2.lt q h).1
      · omega
    · have hxu : x ∈ u := by
        rcases List.mem_cons.1 h1 with h | h
        · exact absurd h hxj
        · exact h
      have hlt := (hs2.lt x hxu).1
      have h4 := hjq (by omega)
      rw [List.dropWhile_cons_of_pos (by simp; omega)]
      obtain ⟨m2, t, h5, h6, h7, h8, h9, h10, h11⟩ := ih hxu h4
      exact ⟨m2, t, h5, h6, h7, h8, h9, fun y hy => List.mem_cons_of_mem _ (h10 y hy), h11⟩
theorem falls_one {L : List Nd} {i : Nat} (hi : i < L.length) (hf : fallsR (nth L i).kind = true) : behC (L.drop i) 0 = some 1 := by
  rw [List.drop_eq_getElem_cons hi]
  rw [nth_get hi] at hf
  unfold behC behN
  have h6 : L[i].kind ≠ 6 := by intro e; rw [e] at hf; exact absurd hf (by decide)
  have ho : opensK L[i].kind = false := by
    unfold fallsR at hf
    simp only [Bool.or_eq_true, beq_iff_eq] at hf
    unfold opensK
    rcases hf with (((h | h) | h) | h) | h <;> rw [h] <;> rfl
  simp [ho, h6]
def fallC (L : List Nd) (q : Nat) (c : Bool) (t : List Nat) : List Nat := if c then dropTo L q t else t
theorem fallC_go {L : List Nd} {q i m : Nat} {c : Bool} {t : List Nat} (hm : behC (L.drop i) 0 = some m) (hi : i < L.length) (hc : c = true) (hq : i < q) (hf : fallsR (nth L i).kind = true) : m = 1 ∧ fallC L q c (i :: t) = fallC L q c t := by
  have := falls_one hi hf
  rw [hm] at this
  refine ⟨Option.some.inj this, ?_⟩
  unfold fallC
  rw [hc, if_pos rfl, if_pos rfl, dropTo, if_pos ⟨hq, hf⟩]
theorem fallC_stop {L : List Nd} {q i : Nat} {c : Bool} {t : List Nat} (hi : Items L i t) (h : ¬ (c = true ∧ i < q ∧ fallsR (nth L i).kind = true)) : fallC L q c t = t := by
  unfold fallC
  split
  · rename_i hc
    cases hi with
    | done => rfl
    | step hl hm hs => rw [dropTo, if_neg fun h2 => h ⟨hc, h2⟩]
  · rfl
theorem from_items {L : List Nd} {s : List Nat} (hs : Items L 0 s) {f : Option Nat} {q : Nat} (hf : ∀ x, f = some x → x ∈ s ∧ x < q) (hq : q ∈ s ∨ q = L.length) : ∃ i, Items L i (fromP L s f q) ∧ i ≤ q ∧ (q ∈ fromP L s f q ∨ q = L.length) ∧ (∀ x, f = some x → x ≤ i ∧ (∀ m, discB L x = true → behC (L.drop x) 0 = some m → x + m ≤ i)) ∧ ∀ x ∈ fromP L s f q, x ∈ s := by
  have drp : ∀ {i : Nat} {t : List Nat}, Items L i t → i ≤ q → (q ∈ t ∨ q = L.length) → ∃ j, Items L j (dropTo L q t) ∧ i ≤ j ∧ j ≤ q ∧ (q ∈ dropTo L q t ∨ q = L.length) ∧ ∀ x ∈ dropTo L q t, x ∈ t := by
    intro i t h
    induction h with
    | done => intro h1 h2; exact ⟨_, .done, Nat.le_refl _, h1, h2, fun _ h => h⟩
    | step hi hm hs2 ih =>
      rename_i i m t
      intro h1 h2
      rw [dropTo]
      split
      · rename_i h3
        have h4 : q ∈ t ∨ q = L.length := by
          rcases h2 with h | h
          · rcases List.mem_cons.1 h with h | h
            · omega
            · exact .inl h
          · exact .inr h
        have hp := behC_pos _ _ _ hm
        rw [List.length_drop] at hp
        have h5 : i + m ≤ q := by
          rcases h4 with h | h
          · exact (hs2.lt q h).1
          · omega
        obtain ⟨j, h6, h7, h8, h9, h10⟩ := ih h5 h4
        exact ⟨j, h6, by omega, h8, h9, fun x hx => List.mem_cons_of_mem _ (h10 x hx)⟩
      · exact ⟨i, .step hi hm hs2, Nat.le_refl _, h1, h2, fun _ h => h⟩
  cases f with
  | none => exact ⟨0, hs, Nat.zero_le _, hq, fun x h => (by cases h), fun _ h => h⟩
  | some x =>
    obtain ⟨hx, hxq⟩ := hf x rfl
    obtain ⟨m, t, h1, h2, h3, h4, h5, h6, h7⟩ := cut_at hs hx hxq hq
    have hmm : ∀ m', behC (L.drop x) 0 = some m' → m' = m := fun m' h => by rw [h2] at h; exact (Option.some.inj h).symm
    unfold fromP
    simp only
    rw [h1, List.tail_cons]
    cases hd : discB L x with
    | true =>
      simp only [if_true]
      by_cases he : (threeP L x).2.1 = []
      · rw [if_pos he]
        obtain ⟨j, k1, k2, k3, k4, k5⟩ := drp h3 h7 h5
        exact ⟨j, k1, k3, k4, fun y hy => by cases hy; exact ⟨by omega, fun m' _ hm' => by rw [hmm m' hm']; exact k2⟩, fun y hy => h6 y (k5 y hy)⟩
      · rw [if_neg he]
        exact ⟨x + m, h3, h7, h5, fun y hy => by cases hy; exact ⟨by omega, fun m' _ hm' => by rw [hmm m' hm']; exact Nat.le_refl _⟩, h6⟩
    | false =>
      simp only [Bool.false_eq_true, if_false]
      have h8 : q ∈ x :: t ∨ q = L.length := h5.imp (List.mem_cons_of_mem _) id
      obtain ⟨j, k1, k2, k3, k4, k5⟩ := drp (.step h4 h2 h3) (by omega) h8
      refine ⟨j, k1, k3, k4, fun y hy => by cases hy; exact ⟨k2, fun _ h => by rw [hd] at h; cases h⟩, fun y hy => ?_⟩
      rcases List.mem_cons.1 (k5 y hy) with h | h
      · rw [h]; exact hx
      · exact h6 y h
theorem cont_row {L : List Nd} {s : List Nat} (hc : checkC L = 0) (hs : Items L 0 s) {f : Option Nat} {q : Nat} (hf : ∀ x, f = some x → x ∈ s ∧ x < q) (hq : q ∈ s ∨ q = L.length) :
    (∃ t, RowOK (contP L s f q) t ∧ sumA (contP L s f q) t = ((Tt.wide (preN L f)).plus (sumA L ((fromP L s f q).takeWhile (· < q)))).plus (.wide (sufN L q))) ∧ (contP L s f q).length ≤ L.length := by
  have hr := check_right hc
  obtain ⟨i, h1, h2, h3, h4, h5⟩ := from_items hs hf hq
  have he := start_eq rfl h1 h3 h2
  obtain ⟨t1, k1, k2⟩ := head_ok hc hs hr (f := f) fun x h => (hf x h).1
  obtain ⟨t3, k5, k6⟩ := tail_ok hc hs hr hq
  obtain ⟨k3, k4⟩ := RowOK.slice hr h1 (fun x hx hk => disc_at hc hs (h5 x hx) hk) (fun x hx => (items_kind0 hs hc x (h5 x hx)).1) h3
  have hm := k3.app k5
  have ht := k1.app hm.1
  have hlen : (headL L f).length ≤ i := by
    cases f with
    | none => simp [headL]
    | some x =>
      unfold headL
      simp only
      split
      · rename_i hd
        obtain ⟨m, u, h⟩ := disc_at hc hs (hf x rfl).1 (discB_kind hd)
        have := (h4 x rfl).2 m hd h.beh
        have := (disc_ok h).2
        omega
      · simp
  have hlt : q + (tailL L q).length ≤ L.length := by
    unfold tailL
    split
    · rename_i hd
      have hqs : q ∈ s := by
        rcases hq with h | h
        · exact h
        · rw [h] at hd; simp [discB] at hd
      obtain ⟨m, u, h⟩ := disc_at hc hs hqs (discB_kind hd)
      have := (disc_ok h).2
      have := h.lt
      omega
    · rcases hq with h | h
      · have := (hs.lt q h).2; simp; omega
      · simp [h]
  unfold contP
  rw [he]
  refine ⟨⟨_, ht.1, ?_⟩, ?_⟩
  · rw [ht.2, hm.2, k2, k4, k6, plus_assoc]
  · rw [List.length_append, List.length_append, sl_len (by omega)]
    omega
end Go.Proofs.YtiijpbfkchokaaaGreat
