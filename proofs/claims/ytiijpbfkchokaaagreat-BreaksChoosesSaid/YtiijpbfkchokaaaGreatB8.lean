/-
  Chosen breaks and ways (plain).
-/
import Derived.Test.YtiijpbfkchokaaaGreatW2
import Derived.Test.YtiijpbfkchokaaaGreatL5
import Derived.Test.YtiijpbfkchokaaaGreatW9
import Derived.WalkMore
import Derived.BigQuiet
set_option maxRecDepth 100000
set_option maxHeartbeats 8000000
namespace Go.Proofs.YtiijpbfkchokaaaGreat
open Go.ChangeShapes Go.WideShapes Go.ChangeAt Go.RowKit
theorem takesW_sub : ∀ (B : List (Nat × Int)) (c : List Int), takesW B c = true → c.Sublist (B.map fun x => (x.1 : Int))
  | [], c, h => by
    cases c with
    | nil => exact .slnil
    | cons y t => simp [takesW] at h
  | x :: r, [], _ => List.nil_sublist _
  | x :: r, y :: t, h => by
    unfold takesW at h
    split at h
    · rename_i e
      rw [List.map_cons, e]
      exact (takesW_sub r t h).cons_cons _
    · split at h
      · cases h
      · exact (takesW_sub r (y :: t) h).cons _
theorem lns_eq (one : Option Nat → Nat × Int → Int → Int → Bk) : ∀ (B : List (Nat × Int)) (pre c : List Int) (f : Option Nat) (line before : Int), (B.map (·.1)).Pairwise (· < ·) → (∀ z ∈ pre, ∀ x ∈ B, z < (x.1 : Int)) →
    lnsW one B c f line before = if takesW B c = true then some (linesW one B (pre ++ c) f line before) else none
  | [], pre, c, f, line, before, _, _ => by
    cases c <;> simp [lnsW, takesW, linesW]
  | x :: r, pre, [], f, line, before, hp, hz => by
    rw [List.map_cons, List.pairwise_cons] at hp
    unfold lnsW takesW
    by_cases hf : x.2 ≤ -10000
    · simp [hf]
    · rw [if_neg hf, if_neg hf, lns_eq one r pre [] f line before hp.2 (fun z hz1 y hy => hz z hz1 y (List.mem_cons_of_mem _ hy))]
      have hnc : (pre ++ []).contains (x.1 : Int) = false := by
        rw [List.append_nil, List.contains_eq_mem, decide_eq_false_iff_not]
        intro h
        have := hz _ h x List.mem_cons_self
        omega
      rw [linesW, hnc]
      rfl
  | x :: r, pre, y :: t, f, line, before, hp, hz => by
    rw [List.map_cons, List.pairwise_cons] at hp
    unfold lnsW takesW
    by_cases hy : y = (x.1 : Int)
    · rw [if_pos hy, if_pos hy, lns_eq one r (pre ++ [y]) t (some x.1) (line + 1) _ hp.2 (fun z hz1 q hq => by
        rcases List.mem_append.1 hz1 with h | h
        · exact hz z h q (List.mem_cons_of_mem _ hq)
        · rw [List.mem_singleton] at h
          subst h
          have := hp.1 q.1 (List.mem_map_of_mem hq)
          omega)]
      have hc : (pre ++ y :: t).contains (x.1 : Int) = true := by rw [List.contains_eq_mem]; simp [hy]
      rw [linesW, hc, List.append_assoc, List.singleton_append]
      by_cases ht : takesW r t = true
      · simp [ht]
      · simp [ht]
    · rw [if_neg hy, if_neg hy]
      by_cases hf : x.2 ≤ -10000
      · simp [hf]
      · rw [if_neg hf, if_neg hf, lns_eq one r pre (y :: t) f line before hp.2 (fun z hz1 q hq => hz z hz1 q (List.mem_cons_of_mem _ hq))]
        by_cases ht : takesW r (y :: t) = true
        · rw [if_pos ht, if_pos ht]
          have hsub := takesW_sub r (y :: t) ht
          have hnc : (pre ++ y :: t).contains (x.1 : Int) = false := by
            rw [List.contains_eq_mem, decide_eq_false_iff_not]
            intro h
            rcases List.mem_append.1 h with h | h
            · have := hz _ h x List.mem_cons_self; omega
            · obtain ⟨q, hq, e⟩ := List.mem_map.1 (hsub.subset h)
              have := hp.1 q.1 (List.mem_map_of_mem hq)
              omega
          rw [linesW, hnc]
          rfl
        · rw [if_neg ht, if_neg ht]
attribute [local go_sem ↓] Go.wp_at_zero Go.wp_at_succ
theorem end9 (p0 : Option Addr) (b off cap : Nat) (L : List Nd) (at_ m : Nat) (w : World) (h : NIn w p0 b off cap L) (hm : behC (L.drop at_) 0 = some m) :
    Calls Tryz.prog 124 #[.slice p0 L.length cap, .int .i64 at_] w fun e w' => e = .returned (.int .i64 ((at_ + m : Nat) : Int)) ∧ Below w.heap.size w w' := by
  have H := Lib.hid h
  have hl := h.len
  have Hm := Lib.hid hm
  clear h hm
  go_enter Tryz.func124, Tryz.ntmps124
  go_wp2
  apply wp_scope_straight
  go_wp2
  apply wp_label
  go_wp2
  go_loopg [1, 5] (L.length + 1 - at_) (fun g t1 t5 wr => ∃ (j k : Nat) (n : Int), g = L.length + 1 - j ∧ t1 = .int .i64 j ∧ t5 = .int .i64 n ∧ behC (L.drop j) n = some k ∧ j + k = at_ + m ∧ (-(j : Int) ≤ n ∧ n ≤ j) ∧ Below w.heap.size w wr)
  case atStart => exact ⟨at_, m, 0, rfl, rfl, rfl, Hm.out, rfl, by omega, .refl _ _⟩
  case round =>
    clear Hm
    obtain ⟨j, k, n, rfl, rfl, rfl, hk, hjk, hn, hbl⟩ := hrel
    have hlt : j < L.length := by have := behC_pos _ _ _ hk; simp at this; omega
    have hN := H.out.below hbl
    have xa := hN.nd j hlt
    obtain rfl := hN.at_ hlt
    have hj1 : (0 : Int) ≤ (j : Int) := by omega
    have hj2 : (j : Int) < (L.length : Int) := by omega
    obtain ⟨hn1, hn2⟩ := hn
    have HB := Lib.hid (behC_at hlt hk)
    have Hjk := Lib.hid hjk
    have Hl := Lib.hid hlt
    have HO : Hid (Calls Tryz.prog 83 #[.agg L[j].arr] wr fun e w' => e = .returned (.bool (opensK L[j].kind)) ∧ Below wr.heap.size wr w') := Lib.hid (opens_any L[j] wr)
    have HX : Hid (∀ w', Below wr.heap.size wr w' → w'.cell? ⟨b, off + j * 19, none⟩ = some (.int .i64 L[j].kind)) := Lib.hid fun w' hb => agg_cell ((hN.below hb).nd j hlt) 0 _ rfl
    generalize L[j] = x at xa HO HX HB
    clear hk hjk hlt hN
    cases ho : opensK x.kind
    · rw [ho] at HO
      have Ho := Lib.hid ho
      clear ho
      cases h6 : (x.kind == 6)
      · have hb : behN x.kind n = n := by unfold behN; rw [Ho.out, if_neg (by simp), if_neg (by simpa using h6)]
        have HB := HB.out
        rw [hb] at HB
        clear hb Ho
        rcases HB with ⟨hz, hk1⟩ | ⟨hz, k1, hk1, hk2⟩
        · subst hz
          go_wp2_with (go_at_call 83; refine HO.out.mono ?_; rintro e w2 ⟨rfl, hb2⟩; (have x2 := HX.out _ hb2))
          rw [Exit.noGoto_ret]
          go_ret
          exact ⟨ret_int (by have := Hjk.out; omega), hbl.trans (hb2.mono hbl.size)⟩
        · have Hk2 := Lib.hid hk2
          have hz' : (n == 0) = false := by simpa using hz
          clear hk2 hz
          go_wp2_with (go_at_call 83; refine HO.out.mono ?_; rintro e w2 ⟨rfl, hb2⟩; (have x2 := HX.out _ hb2))
          go_roundg (L.length + 1 - (j + 1))
          case measure => have := Hl.out; omega
          case rel => exact ⟨j + 1, k1, n, rfl, by go_num, rfl, Hk2.out, by have := Hjk.out; omega, by omega, hbl.trans (hb2.mono hbl.size)⟩
      · have hb : behN x.kind n = n - 1 := by unfold behN; rw [Ho.out, if_neg (by simp), if_pos (by simpa using h6)]
        have HB := HB.out
        rw [hb] at HB
        clear hb Ho
        rcases HB with ⟨hz, hk1⟩ | ⟨hz, k1, hk1, hk2⟩
        · have hz' : ((n - 1 : Int) == 0) = true := by simpa using hz
          clear hz
          go_wp2_with (go_at_call 83; refine HO.out.mono ?_; rintro e w2 ⟨rfl, hb2⟩; (have x2 := HX.out _ hb2))
          rw [Exit.noGoto_ret]
          go_ret
          exact ⟨ret_int (by have := Hjk.out; omega), hbl.trans (hb2.mono hbl.size)⟩
        · have Hk2 := Lib.hid hk2
          have hz' : ((n - 1 : Int) == 0) = false := by simpa using hz
          clear hk2 hz
          go_wp2_with (go_at_call 83; refine HO.out.mono ?_; rintro e w2 ⟨rfl, hb2⟩; (have x2 := HX.out _ hb2))
          go_roundg (L.length + 1 - (j + 1))
          case measure => have := Hl.out; omega
          case rel => exact ⟨j + 1, k1, n - 1, rfl, by go_num, rfl, Hk2.out, by have := Hjk.out; omega, by omega, hbl.trans (hb2.mono hbl.size)⟩
    · rw [ho] at HO
      have hb : behN x.kind n = n + 1 := by unfold behN; rw [ho, if_pos rfl]
      have HB := HB.out
      rw [hb] at HB
      clear hb ho
      rcases HB with ⟨hz, hk1⟩ | ⟨hz, k1, hk1, hk2⟩
      · have hz' : ((n + 1 : Int) == 0) = true := by simpa using hz
        clear hz
        go_wp2_with (go_at_call 83; refine HO.out.mono ?_; rintro e w2 ⟨rfl, hb2⟩)
        rw [Exit.noGoto_ret]
        go_ret
        exact ⟨ret_int (by have := Hjk.out; omega), hbl.trans (hb2.mono hbl.size)⟩
      · have Hk2 := Lib.hid hk2
        have hz' : ((n + 1 : Int) == 0) = false := by simpa using hz
        clear hk2 hz
        go_wp2_with (go_at_call 83; refine HO.out.mono ?_; rintro e w2 ⟨rfl, hb2⟩)
        go_roundg (L.length + 1 - (j + 1))
        case measure => have := Hl.out; omega
        case rel => exact ⟨j + 1, k1, n + 1, rfl, by go_num, rfl, Hk2.out, by have := Hjk.out; omega, by omega, hbl.trans (hb2.mono hbl.size)⟩
theorem begins_any (p0 : Option Addr) (b off cap : Nat) (L : List Nd) (x : Nat) (hx : x < L.length) (h6 : (nth L x).kind ≠ 6) (h11 : (nth L x).kind ≠ 11) (w : World) (h : NIn w p0 b off cap L) :
    Calls Tryz.prog 90 #[.slice p0 L.length cap, .int .i64 x] w fun e w' => e = .returned (.bool true) ∧ w = w' := by
  have c0 : w.cell? ⟨b, off + x * 19, none⟩ = some (.int .i64 (nth L x).kind) := agg_cell (h.nth hx) 0 _ rfl
  obtain rfl := h.at_ hx
  have hx1 : (0 : Int) ≤ (x : Int) := by omega
  have hx2 : (x : Int) < (L.length : Int) := by omega
  have k6 : ((nth L x).kind != 6) = true := by simpa using h6
  have k11 : ((nth L x).kind != 11) = true := by simpa using h11
  clear h6 h11 h
  go_enter Tryz.func90, Tryz.ntmps90
  go_wp2_with fail
  go_ret
  exact ⟨rfl, rfl⟩
end Go.Proofs.YtiijpbfkchokaaaGreat
namespace Go.Proofs.YtiijpbfkchokaaaGreat
open Go.RowKit
theorem runC_app : ∀ (A B : List Nd) (st : List Int) (d : Int), runC (A ++ B) st d = (runC A st d).bind fun s => runC B s.1 s.2
  | [], B, st, d => rfl
  | x :: A, B, st, d => by
    rw [List.cons_append]
    simp only [runC]
    split
    · cases stepC x.kind st d with
      | none => rfl
      | some s => exact runC_app A B s.1 s.2
    · rfl
theorem runC_len : ∀ (A B : List Nd) (st st2 : List Int) (d d2 : Int), runC A st d = some (st2, d2) → behC (A ++ B) st.length = some A.length → st2 = []
  | [], B, st, st2, d, d2, _, hb => by
    have := behC_pos _ _ _ hb
    simp at this
  | x :: A, B, st, st2, d, d2, h, hb => by
    unfold runC at h
    split at h
    · obtain ⟨⟨st', d1⟩, h1, h2⟩ := Option.bind_eq_some_iff.1 h
      obtain ⟨hl, _⟩ := stepC_len h1
      simp only at h2
      rw [List.cons_append] at hb
      unfold behC at hb
      rw [← hl] at hb
      split at hb
      · rename_i h0
        have hA : A = [] := by
          simp only [List.length_cons, Option.some.injEq] at hb
          exact List.length_eq_zero_iff.1 (by omega)
        subst hA
        simp only [runC, Option.some.injEq, Prod.mk.injEq] at h2
        rw [← h2.1]
        exact List.length_eq_zero_iff.1 (by omega)
      · obtain ⟨k, hk, e⟩ := Option.map_eq_some_iff.1 hb
        have : k = A.length := by simp only [List.length_cons] at e; omega
        subst this
        exact runC_len A B st' st2 d1 d2 h2 hk
    · cases h
theorem stepC_dd {k : Int} {st st' : List Int} {d d' : Int} (d0 : Int) (h : stepC k st d = some (st', d')) : d ≤ d' ∧ ∃ e, e ≤ max d' d0 ∧ stepC k st d0 = some (st', e) := by
  unfold stepC at h ⊢
  split at h
  · rename_i h1
    rw [if_pos h1]
    split at h
    · cases h
    · split at h
      · cases h
      · rename_i h2
        cases h
        exact ⟨Int.le_refl _, d0, by omega, by simp only [if_neg h2]⟩
  · rename_i h1
    rw [if_neg h1]
    split at h
    · rename_i h3
      rw [if_pos h3]
      split at h
      · cases h
      · split at h
        · cases h
        · rename_i h2
          cases h
          exact ⟨Int.le_refl _, d0, by omega, by simp only [if_neg h2]⟩
    · rename_i h3
      rw [if_neg h3]
      cases hgl : st.getLast? with
      | none =>
        simp only [hgl, Bool.false_eq_true, if_false] at h ⊢
        cases h
        exact ⟨by omega, max d0 (st.length + 1), by omega, rfl⟩
      | some x =>
        simp only [hgl] at h ⊢
        by_cases hb : (decide (0 ≤ x) && !smallK k) = true
        · rw [if_pos hb] at h; cases h
        · rw [if_neg hb] at h ⊢
          cases h
          exact ⟨by omega, max d0 (st.length + 1), by omega, rfl⟩
theorem runC_dd : ∀ (l : List Nd) (st st' : List Int) (d d' d0 : Int), runC l st d = some (st', d') → d ≤ d' ∧ ∃ e, e ≤ max d' d0 ∧ runC l st d0 = some (st', e)
  | [], st, st', d, d', d0, h => by
    unfold runC at h ⊢
    cases h
    exact ⟨Int.le_refl _, d0, by omega, rfl⟩
  | n :: l, st, st', d, d', d0, h => by
    unfold runC at h ⊢
    split at h
    · rename_i hr
      rw [if_pos hr]
      obtain ⟨⟨s1, d1⟩, h1, h2⟩ := Option.bind_eq_some_iff.1 h
      obtain ⟨h3, e1, he1, hs1⟩ := stepC_dd d0 h1
      obtain ⟨h4, e2, he2, hs2⟩ := runC_dd l s1 st' d1 d' e1 h2
      exact ⟨by omega, e2, by omega, by rw [hs1]; exact hs2⟩
    · cases h
theorem item_check {L : List Nd} {s : List Nat} (hc : checkC L = 0) (hs : Items L 0 s) {x m : Nat} (hx : x ∈ s) (hm : behC (L.drop x) 0 = some m) : checkC (sl L x m) = 0 := by
  obtain ⟨hl, d, hd, hr⟩ := checkC_zero hc
  obtain ⟨d1, h1⟩ := items_run2 hs (by rw [List.drop_zero]; exact hr) x hx
  have hp := behC_pos _ _ _ hm
  rw [List.length_drop] at hp
  have hml := sl_len (L := L) (i := x) (m := m) (by omega)
  have e : L.drop x = sl L x m ++ (L.drop x).drop m := (List.take_append_drop m (L.drop x)).symm
  rw [e, runC_app] at h1
  obtain ⟨⟨st, d2⟩, h2, h3⟩ := Option.bind_eq_some_iff.1 h1
  have hst : st = [] := runC_len (sl L x m) ((L.drop x).drop m) [] st d1 d2 h2 (by rw [← e, hml]; exact hm)
  subst hst
  obtain ⟨h4, _⟩ := runC_dd _ _ _ _ _ 0 h3
  obtain ⟨_, q, hq, h5⟩ := runC_dd _ _ _ _ _ 0 h2
  unfold checkC
  rw [if_neg (by omega), h5]
  simp only [codeC]
  rw [if_neg (by simp), if_neg (by omega)]
theorem els_sl {L : List Nd} {e i x m : Nat} {u : List (Nat × Nat)} (h : Els L e i u) (hx : x ≤ i) (he : e ≤ x + m) : Els (sl L x m) (e - x) (i - x) (u.map fun p => (p.1 - x, p.2)) := by
  induction h with
  | done => exact .done
  | sep hi hk hs ih =>
    rename_i i u
    refine .sep (by omega) (by rw [nth_sl (by omega), show x + (i - x) = i by omega]; exact hk) ?_
    have := ih (by omega)
    rwa [show i + 1 - x = i - x + 1 by omega] at this
  | item hi hk hm hs ih =>
    rename_i i m' u
    have hle := hs.le
    have hp := behC_pos _ _ _ hm
    refine .item (by omega) (by rw [nth_sl (by omega), show x + (i - x) = i by omega]; exact hk) (m := m') ?_ ?_
    · have e1 : (sl L x m).drop (i - x) = (L.drop i).take (m - (i - x)) := by
        unfold sl
        rw [List.drop_take, List.drop_drop, show x + (i - x) = i by omega]
      rw [e1]
      have h1 := behC_take0 _ _ _ hm
      have e2 : (L.drop i).take (m - (i - x)) = (L.drop i).take m' ++ ((L.drop i).drop m').take (m - (i - x) - m') := by
        rw [← List.take_add]; congr 1; omega
      rw [e2]
      exact behC_app _ _ _ _ h1
    · have := ih (by omega)
      rwa [show i + m' - x = i - x + m' by omega] at this
theorem thrF_sl {L : List Nd} {e i x m : Nat} {u : List (Nat × Nat)} (h : Els L e i u) (hx : x ≤ i) (he : e ≤ x + m) : ∀ (k : Nat) (t : Three), thrF (sl L x m) (u.map fun p => (p.1 - x, p.2)) k t = thrF L u k t := by
  induction h with
  | done => intro k t; rfl
  | sep hi hk hs ih =>
    rename_i i u
    intro k t
    rw [List.map_cons, thrF, thrF, if_pos hk]
    have hk2 : (nth (sl L x m) (i - x)).kind = 11 := by rw [nth_sl (by omega), show x + (i - x) = i by omega]; exact hk
    simp only [hk2, if_true]
    exact ih (by omega) (k + 1) t
  | item hi hk hm hs ih =>
    rename_i i m' u
    intro k t
    have hle := hs.le
    rw [List.map_cons, thrF, thrF, if_neg (small_not hk).1]
    have hk2 : (nth (sl L x m) (i - x)).kind ≠ 11 := by rw [nth_sl (by omega), show x + (i - x) = i by omega]; exact (small_not hk).1
    simp only [hk2, if_false]
    have e1 : sl (sl L x m) (i - x) m' = sl L i m' := by
      unfold sl
      rw [List.drop_take, List.drop_drop, show x + (i - x) = i by omega, List.take_take, Nat.min_eq_left (by omega)]
    rw [e1]
    exact ih (by omega) k _
theorem three_sl {L : List Nd} {x m : Nat} {u : List (Nat × Nat)} (h : DiscAt L x m u) : threeP (sl L x m) 0 = threeP L x := by
  have h2 := h.two
  have hl := h.lt
  have hml := sl_len (L := L) (i := x) (m := m) hl
  have h1 := els_sl (x := x) (m := m) h.els (by omega) (by omega)
  have he : (nth (sl L x m) (x + m - 1 - x)).kind = 6 := by rw [nth_sl (by omega), show x + (x + m - 1 - x) = x + m - 1 by omega]; exact h.end_
  rw [h.eq]
  unfold threeP
  rw [show x + 1 - x = 0 + 1 by omega] at h1
  rw [elsF_eq h1 he _ (by omega), thrF_sl h.els (by omega) (by omega)]
theorem itT_sl {L : List Nd} {s : List Nat} (hc : checkC L = 0) (hs : Items L 0 s) {x m : Nat} (hx : x ∈ s) (hm : behC (L.drop x) 0 = some m) : itT (sl L x m) 0 = itT L x := by
  have hp := behC_pos _ _ _ hm
  have e : nth (sl L x m) 0 = nth L x := by rw [nth_sl (by omega), Nat.add_zero]
  unfold itT itN
  rw [e]
  split
  · rfl
  · split
    · rename_i hk
      obtain ⟨m', u, hd⟩ := disc_at hc hs hx (by simpa using hk)
      have := hd.beh
      rw [hm] at this
      cases this
      rw [three_sl hd]
    · rfl
end Go.Proofs.YtiijpbfkchokaaaGreat
namespace Go.Proofs.YtiijpbfkchokaaaGreat
open Go.ChangeShapes Go.WideShapes Go.ChangeAt Go.RowKit
attribute [local go_sem ↓] Go.wp_at_zero Go.wp_at_succ
def tP (t : Three) : Nat → List Nd
  | 0 => t.1
  | 1 => t.2.1
  | _ => t.2.2
theorem tP_add (t : Three) (k j : Nat) (hk : k < 3) (hj : j < 3) (x : List Nd) : tP (addP t k x) j = if j = k then tP t k ++ x else tP t j := by
  rcases k with _ | _ | _ | k <;> rcases j with _ | _ | _ | j <;> first | rfl | omega
structure ThI (w : World) (Z : Nat) (vs : Nat → Value) (t : Three) (W : World) : Prop where
  blk : W.heap[Z]? = some (.cells #[vs 0, vs 1, vs 2] 159 (0, 0))
  rows : ∀ j, j < 3 → W.ownsRow (Z + 1) 69 19 (vs j) (tP t j).length ((tP t j).flatMap Nd.cells)
  ne : ∀ i j, i < 3 → j < 3 → i ≠ j → ∀ q, (vs i).ownBlock = some q → (vs j).ownBlock ≠ some q
  res : W.heap[w.heap.size]? = some (.cells #[.slice none 0 0, .slice none 0 0, .slice none 0 0] 159 (0, 0))
  below : Below w.heap.size w W
  lt : w.heap.size < Z
theorem ThI.cell {w : World} {Z : Nat} {vs : Nat → Value} {t : Three} {W : World} (h : ThI w Z vs t W) {k : Nat} (hk : k < 3) : W.cell? ⟨Z, k, none⟩ = some (vs k) := by
  rw [cell?_blk' h.blk]
  rcases k with _ | _ | _ | k
  · rfl
  · rfl
  · rfl
  · omega
theorem ThI.still {w : World} {Z : Nat} {vs : Nat → Value} {t : Three} {W W' : World} (h : ThI w Z vs t W) (hb : Below W.heap.size W W') : ThI w Z vs t W' :=
  have hZ := (Array.getElem?_eq_some_iff.1 h.blk).1
  ⟨(hb.block Z hZ).trans h.blk, fun j hj => ownsRow_below (h.rows j hj) hb, h.ne, (hb.block _ (Nat.lt_trans h.lt hZ)).trans h.res, h.below.trans (hb.mono h.below.size), h.lt⟩
theorem ThI.grown {w : World} {Z : Nat} {vs : Nat → Value} {t : Three} {W W' : World} (h : ThI w Z vs t W) {k : Nat} (hk : k < 3) {g c : Nat} {x : List Nd}
    (hr : W'.ownsRow (Z + 1) 69 19 (.slice (some ⟨g, 0, none⟩) (tP t k ++ x).length c) (tP t k ++ x).length ((tP t k ++ x).flatMap Nd.cells)) (hg : W.grownBy W' (vs k).ownBlock) (hg2 : (vs k).ownBlock = some g ∨ g = W.heap.size) :
    ThI w Z (fun j => if j = k then .slice (some ⟨g, 0, none⟩) (tP t k ++ x).length c else vs j) (addP t k x) (W'.setCell ⟨Z, k, none⟩ (.slice (some ⟨g, 0, none⟩) (tP t k ++ x).length c)) := by
  have hZ := (Array.getElem?_eq_some_iff.1 h.blk).1
  have hkne : some Z ≠ (vs k).ownBlock := fun e => by have := ((h.rows k hk).lt Z e.symm).1; omega
  have hrne : some w.heap.size ≠ (vs k).ownBlock := fun e => by have := ((h.rows k hk).lt _ e.symm).1; have := h.lt; omega
  have hb1 : W'.heap[Z]? = W.heap[Z]? := hg.block Z hZ hkne
  have hlt := h.lt
  have hne : ∀ j, j < 3 → j ≠ k → ∀ q, (vs j).ownBlock = some q → q ≠ g := fun j hj hjk q hq e => by
    subst e
    rcases hg2 with h2 | h2
    · exact h.ne j k hj hk hjk q hq h2
    · have := ((h.rows j hj).lt q hq).2; omega
  refine ⟨?_, fun j hj => ?_, fun i j hi hj hij q hq => ?_, ?_, ?_, h.lt⟩
  · rw [heap_setCell_same _ _ _ _ _ _ (hb1.trans h.blk)]
    congr 2
    rcases k with _ | _ | _ | k
    · rfl
    · rfl
    · rfl
    · omega
  · rw [tP_add _ _ _ hk hj]
    by_cases e : j = k
    · subst e
      simp only [if_true]
      exact ownsRow_same hr fun q hq _ => Below.heap_setCell _ _ _ _ (fun e2 => by have := (hr.lt q hq).1; simp only at e2; omega)
    · simp only [if_neg e]
      refine ownsRow_same ((h.rows j hj).kept hg ?_) fun q hq _ => Below.heap_setCell _ _ _ _ (fun e2 => by have := ((h.rows j hj).lt q hq).1; simp only at e2; omega)
      cases ho : (vs j).ownBlock with
      | none => exact .inl rfl
      | some q => exact .inr fun e2 => h.ne j k hj hk e q ho e2.symm
  · by_cases e : i = k
    · by_cases f : j = k
      · omega
      · simp only [if_pos e] at hq
        simp only [if_neg f]
        cases hq
        exact fun h2 => hne j hj f g h2 rfl
    · by_cases f : j = k
      · simp only [if_neg e] at hq
        simp only [if_pos f]
        exact fun h2 => by cases h2; exact hne i hi e g hq rfl
      · simp only [if_neg e] at hq
        simp only [if_neg f]
        exact h.ne i j hi hj hij q hq
  · exact (Below.heap_setCell _ _ _ _ (by simp only; omega)).trans ((hg.block _ (by omega) hrne).trans h.res)
  · exact (h.below.grown hg h.below.size (fun q hq => by have := ((h.rows k hk).lt q hq).1; omega)).setCell (p := ⟨Z, k, none⟩) (by simp only; omega) _
theorem t3_store {W : World} {b : Nat} {T0 T : T3} (h : W.heap[b]? = some (.cells T0.arr 159 (0, 0))) : agg? (setAgg W b 0 T.arr) b 0 3 = some T.arr := by
  have := heap_setCells_same b _ (0, 0) T.arr.toList 0 T0.arr W h
  rw [show T.arr.toList = T.cells from rfl, setMany_T3] at this
  rw [agg?_blk' (w := setAgg W b 0 T.arr) this 0 3 (by simp [T3.size_arr])]
  simp [T3.arr, T3.cells]
theorem ThI.start (w : World) : ThI w (w.heap.size + 1) (fun _ => .slice none 0 0) ([], [], []) ((w.alloc (.cells #[.slice none 0 0, .slice none 0 0, .slice none 0 0] 159)).alloc (.cells #[.slice none 0 0, .slice none 0 0, .slice none 0 0] 159)) :=
  ⟨by have := heap_alloc_new (w.alloc (.cells #[.slice none 0 0, .slice none 0 0, .slice none 0 0] 159)) (.cells #[.slice none 0 0, .slice none 0 0, .slice none 0 0] 159); rwa [World.size_alloc] at this,
   fun j hj => by rcases j with _ | _ | _ | j <;> exact World.ownsRow_nil _ _ _ _, fun i j _ _ _ q hq => (by cases hq),
   (Below.heap_alloc _ _ _ (by simp)).trans (heap_alloc_new w _), ((Below.refl _ _).alloc (Nat.le_refl _) _).alloc (by simp) _, by omega⟩
structure ThreeV (w : World) (t : Three) (vs : Nat → Value) (W : World) : Prop where
  rows : ∀ j, j < 3 → W.ownsRow w.heap.size 69 19 (vs j) (tP t j).length ((tP t j).flatMap Nd.cells)
  ne : ∀ i j, i < 3 → j < 3 → i ≠ j → ∀ q, (vs i).ownBlock = some q → (vs j).ownBlock ≠ some q
theorem three9 (p0 : Option Addr) (b off cap : Nat) (L : List Nd) (x m : Nat) (u : List (Nat × Nat)) (hd : DiscAt L x m u) (hll : L.length ≤ 2000) (w : World) (hN : NIn w p0 b off cap L) :
    Calls Tryz.prog 91 #[.slice p0 L.length cap, .int .i64 x] w fun e w' => (∃ vs : Nat → Value, e = .returned (.agg #[vs 0, vs 1, vs 2]) ∧ ThreeV w (threeP L x) vs w') ∧ Below w.heap.size w w' := by
  have H := Lib.hid hN
  have h2 := hd.two
  have hlt := hd.lt
  have hI := ThI.start w
  have HD := Lib.hid hd
  have HE : Hid (∀ (i m' : Nat) W, Below w.heap.size w W → behC (L.drop i) 0 = some m' → Calls Tryz.prog 124 #[.slice p0 L.length cap, .int .i64 i] W fun e w' => e = .returned (.int .i64 ((i + m' : Nat) : Int)) ∧ Below W.heap.size W w') := Lib.hid fun i m' W hb hm => end9 p0 b off cap L i m' W (H.out.below hb) hm
  obtain ⟨Z, hZ⟩ : ∃ Z, w.heap.size + 1 = Z := ⟨_, rfl⟩
  have hx1 : (0 : Int) ≤ (x : Int) := by omega
  have hcp := hN.cap'
  obtain rfl := hN.hp (by intro e; rw [e] at hlt; simp at hlt; omega)
  clear hN hd
  go_enter Tryz.func91, Tryz.ntmps91
  go_upto_region 3 with (fail)
  generalize hwx : (w.alloc (.cells #[.slice none 0 0, .slice none 0 0, .slice none 0 0] 159)).alloc (.cells #[.slice none 0 0, .slice none 0 0, .slice none 0 0] 159) = w1 at hI ⊢
  clear hwx
  rw [hZ] at hI
  have HZ := Lib.hid hZ
  clear hZ
  have hbl1 := hI.below
  go_wp2_with (go_at_call 124; refine (HE.out x m _ hbl1 HD.out.beh).mono ?_; rintro e w2 ⟨rfl, hb2⟩)
  have HI2 := Lib.hid (hI.still hb2)
  clear hI hb2 hbl1
  obtain ⟨e, he⟩ : ∃ e, x + m - 1 = e := ⟨_, rfl⟩
  have he2 : ((x + m : Nat) : Int) - 1 = (e : Int) := by omega
  have hex : (x : Int) + 1 ≤ 9223372036854775807 := by omega
  go_wp2_with fail
  have Hels : Hid (Els L e (x + 1) u) := Lib.hid (by rw [← he]; exact HD.out.els)
  have Hend : Hid ((nth L e).kind = 6 ∧ e < L.length) := Lib.hid ⟨by rw [← he]; exact HD.out.end_, by omega⟩
  have Hthr : Hid (thrF L u 0 ([], [], []) = threeP L x) := Lib.hid HD.out.eq.symm
  have Hsep : Hid (0 + sepsN L u = 2) := Lib.hid (by rw [HD.out.seps])
  have hel : e < L.length := Hend.out.2
  have hea : (e : Int) ≤ (x : Int) + (m : Int) - 1 := by omega
  have heb : (x : Int) + (m : Int) - 1 ≤ (e : Int) := by omega
  clear he he2 hex
  go_loopg [6, 7] (e + 1 - (x + 1)) (fun gg t6 t7 wr => ∃ (i k : Nat) (vs : Nat → Value) (t : Three) (s : List (Nat × Nat)), gg = e + 1 - i ∧ t6 = .int .i64 k ∧ t7 = .int .i64 i ∧ Els L e i s ∧ k + sepsN L s = 2 ∧ thrF L s k t = threeP L x ∧ (∀ j, j < 3 → (tP t j).length ≤ i) ∧ ThI w Z vs t wr)
  case atStart => exact ⟨x + 1, 0, _, _, u, rfl, rfl, rfl, Hels.out, Hsep.out, Hthr.out, fun j hj => by rcases j with _ | _ | _ | j <;> simp [tP], HI2.out⟩
  case round =>
    clear HI2 Hels Hthr Hsep HD
    obtain ⟨i, k, vs, t, s, rfl, rfl, rfl, hels, hsep, hthr, hlen, hI⟩ := hrel
    have hile := hels.le
    have hi1 : (0 : Int) ≤ (i : Int) := by omega
    cases hels with
    | done =>
      have Hthr := Lib.hid (show t = threeP L x from hthr)
      have hZc := hI.blk
      have hrc := hI.res
      have hbl := hI.below
      have hZlt := hI.lt
      obtain ⟨p1, c1, e1⟩ := owns_form (hI.rows 0 (by decide))
      obtain ⟨p2, c2, e2⟩ := owns_form (hI.rows 1 (by decide))
      obtain ⟨p3, c3, e3⟩ := owns_form (hI.rows 2 (by decide))
      have hT : (#[vs 0, vs 1, vs 2] : Array Value) = (T3.mk p1 (tP t 0).length c1 p2 (tP t 1).length c2 p3 (tP t 2).length c3).arr := by rw [e1, e2, e3]; rfl
      have HT := Lib.hid hT
      rw [hT] at hZc
      have aZ : agg? wr Z 0 3 = some (T3.mk p1 (tP t 0).length c1 p2 (tP t 1).length c2 p3 (tP t 2).length c3).arr := by rw [agg?_blk' hZc 0 3 (by simp [T3.size_arr])]; simp [T3.arr, T3.cells]
      have tR : there? wr w.heap.size 0 3 = true := there_blk hrc 0 3 (by simp)
      have HI := Lib.hid hI
      clear hI hthr hlen hsep e1 e2 e3 hT hZc
      generalize T3.mk p1 (tP t 0).length c1 p2 (tP t 1).length c2 p3 (tP t 2).length c3 = T at HT aZ
      go_wp2_with fail
      have hF := t3_store (T0 := T3.mk none 0 0 none 0 0 none 0 0) (T := T) hrc
      refine ret_t3 rfl w.heap.size 0 T rfl hF rfl ⟨⟨vs, by rw [HT.out], ?_⟩, Below.setAgg hbl (Nat.le_refl _) _ _⟩
      rw [← Hthr.out]
      refine ⟨fun j hj => ownsRow_base (ownsRow_same (HI.out.rows j hj) fun q hq _ => heap_setCells_other _ _ (fun e2 => by have := ((HI.out.rows j hj).lt q hq).1; omega) _ _ _) (by omega), HI.out.ne⟩
    | sep hi hk hs =>
      rename_i s
      have hlt2 : i < L.length := by omega
      have hN := H.out.below hI.below
      have c0 : wr.cell? ⟨b, off + i * 19, none⟩ = some (.int .i64 11) := by have := agg_cell (hN.nth hlt2) 0 _ (Nd.get0 (nth L i)); rw [hk] at this; exact this
      have hi2 : (i : Int) < (L.length : Int) := by omega
      have hi3 : (i : Int) < (x : Int) + (m : Int) - 1 := by omega
      have hk2 : (k : Int) + 1 ≤ 100 := by unfold sepsN at hsep; omega
      have HS := Lib.hid (show k + 1 + sepsN L s = 2 from by unfold sepsN at hsep ⊢; rw [List.filter_cons_of_pos (by simpa using hk), List.length_cons] at hsep; omega)
      have HT := Lib.hid (show thrF L s (k + 1) t = threeP L x from by rw [thrF, if_pos hk] at hthr; exact hthr)
      have HE2 := Lib.hid hs
      have Hlen := Lib.hid hlen
      have HI := Lib.hid hI
      clear hI hthr hlen hsep hk hs hN
      go_wp2_with fail
      go_roundg (e + 1 - (i + 1))
      case measure => omega
      case rel => exact ⟨i + 1, k + 1, vs, t, s, rfl, by go_num, by go_num, HE2.out, HS.out, HT.out, fun j hj => Nat.le_succ_of_le (Hlen.out j hj), HI.out⟩
    | item hi hk hm hs =>
      rename_i m' s
      have hlt2 : i < L.length := by omega
      have hN := H.out.below hI.below
      have c0 : wr.cell? ⟨b, off + i * 19, none⟩ = some (.int .i64 (nth L i).kind) := agg_cell (hN.nth hlt2) 0 _ (Nd.get0 (nth L i))
      have h11 : ((nth L i).kind == 11) = false := by simpa using (small_not hk).1
      have hle2 := hs.le
      have hmp := behC_pos _ _ _ hm
      have hi2 : (i : Int) < (L.length : Int) := by omega
      have hi3 : (i : Int) < (x : Int) + (m : Int) - 1 := by omega
      have hk3 : k < 3 := by omega
      have hk4 : (0 : Int) ≤ (k : Int) := by omega
      have hk5 : (k : Int) < 3 := by omega
      have HS := Lib.hid (show k + sepsN L s = 2 from by unfold sepsN at hsep ⊢; rw [List.filter_cons_of_neg (by simpa using (small_not hk).1)] at hsep; exact hsep)
      have HT := Lib.hid (show thrF L s k (addP t k (sl L i m')) = threeP L x from by rw [thrF, if_neg (small_not hk).1] at hthr; exact hthr)
      have HE2 := Lib.hid hs
      have hbl := hI.below
      have HEi := Lib.hid (HE.out i m' wr hbl hm)
      obtain ⟨pv, cv, hv⟩ := owns_form (hI.rows k hk3)
      have hsl := sl_len (L := L) (i := i) (m := m') (by omega)
      have hLk := hlen k hk3
      have Hlen := Lib.hid hlen
      have HI := Lib.hid hI
      have Hsl := Lib.hid hsl
      have Hv := Lib.hid hv
      have Hm := Lib.hid hmp
      clear hI hthr hlen hsep hk hs hN hm hsl hv
      obtain ⟨q, hq⟩ : ∃ q, i + m' = q := ⟨_, rfl⟩
      have hq1 : (i : Int) ≤ (q : Int) := by omega
      have hq2 : (q : Int) ≤ (cap : Int) := by have := Hm.out; omega
      have hq3 : (0 : Int) ≤ (q : Int) := by omega
      have hq4 : i ≤ q := by omega
      have hq5 : ¬ cap = i := by have := Hm.out; omega
      have hq6 : (q - i : Nat) = m' := by omega
      rw [hq] at HEi
      have Hq := Lib.hid hq
      clear hq
      generalize (nth L i).kind = kd at c0 h11
      go_wp2_with (go_at_call 124; refine HEi.out.mono ?_; rintro e' w3 ⟨rfl, hb3⟩)
      have HI3 := Lib.hid (HI.out.still hb3)
      have hcell : w3.drew.cell? ⟨Z, k, none⟩ = some (vs k) := HI3.out.cell hk3
      rw [Hv.out] at hcell
      clear c0 h11 HEi HI
      obtain ⟨i0, hi0', hz0, hz1, hz2⟩ := info_parts info_node
      have hrow := ownsRow_same (w' := w3.drew) (HI3.out.rows k hk3) fun _ _ _ => rfl
      rw [Hv.out] at hrow
      have hNd : NIn w3.drew (some ⟨b, off, none⟩) b off cap L := by have := H.out.below HI3.out.below; exact ⟨this.hp, this.hb, this.nd, this.cap', this.len⟩
      have hnews : ∀ j u, ((sl L i m').flatMap Nd.cells)[j]? = some u → w3.drew.cell? ((⟨b, off + i * 19, none⟩ : Addr).add j) = some u := ((hNd.drop i (Nat.le_of_lt hlt2)).take _).news
      have hflat : ((sl L i m').flatMap Nd.cells).length = m' * 19 := by rw [flat_len, Hsl.out]
      have Hnews := Lib.hid hnews
      have Hflat := Lib.hid hflat
      have Hrow := Lib.hid hrow
      have hZlt := HI3.out.lt
      have hZs : Z < w3.heap.size := (Array.getElem?_eq_some_iff.1 HI3.out.blk).1
      have hkne : some Z ≠ (vs k).ownBlock := fun e9 => by have := ((HI3.out.rows k hk3).lt Z e9.symm).1; omega
      rw [Hv.out] at hkne
      have Hkne := Lib.hid hkne
      have Hblk := Lib.hid HI3.out.blk
      have hpm : 0 < m' := Hm.out.1
      have Hvk : Hid ((#[vs 0, vs 1, vs 2] : Array Value)[k]? = some (vs k)) := Lib.hid (by rcases k with _ | _ | _ | k <;> first | rfl | omega)
      clear hNd hnews hflat hrow hkne
      go_region_law (refine step_append_lies rfl (.tmp 35) (.tmp 39) 22 rfl (Z + 1) 69 i0 (.agg Nd.zero.arr) 19 160 Tryz.underlying22 hi0' hz0 hz1 hz2 rfl (by decide) (.slice pv (tP t k).length cv) (tP t k).length ((tP t k).flatMap Nd.cells) rfl Hrow.out ⟨b, off + i * 19, none⟩ m' (cap - i) ((sl L i m').flatMap Nd.cells) rfl Hflat.out Hnews.out (nodes_one _) hpm (by unfold maxLen; omega) (by omega) (show Z + 1 ≤ w3.heap.size from hZs) _ rfl ?_; intro g1 cap1 w4 hown1 hgrow1 hat1 hlt1; (have hz4 := Lib.hid ((hgrow1.block Z hZs Hkne.out).trans Hblk.out)); (have cz : w4.cell? ⟨Z, k, none⟩ = some (vs k) := (cell?_blk' hz4.out _).trans Hvk.out); (have fz : w4.frozen? ⟨Z, k, none⟩ = false := frozen_of_row w4 Z k _ _ hz4.out))
      have el : (tP t k ++ sl L i m').length = (tP t k).length + m' := by rw [List.length_append, Hsl.out]
      have hI4 := ThI.grown (HI3.out.still ((Below.refl _ _).drew)) hk3 (x := sl L i m') (g := g1) (c := cap1) (by rw [el, List.flatMap_append]; exact hown1) (by rw [Hv.out]; exact hgrow1) (by rw [Hv.out]; exact hat1)
      rw [el] at hI4
      have HI4 := Lib.hid hI4
      have Hl4 : Hid (∀ j, j < 3 → (tP (addP t k (sl L i m')) j).length ≤ q) := Lib.hid fun j hj => by
        rw [tP_add _ _ _ hk3 hj]
        by_cases e9 : j = k
        · rw [if_pos e9, el]; have := Hq.out; omega
        · rw [if_neg e9]; have := Hlen.out j hj; omega
      have HE4 := Lib.hid (show Els L e q s from by rw [← Hq.out]; exact HE2.out)
      clear hI4 hown1 hgrow1 hat1 hlt1 hcell el
      go_wp2_with fail
      go_roundg (e + 1 - q)
      case measure => omega
      case rel => exact ⟨q, k, _, addP t k (sl L i m'), s, rfl, rfl, rfl, HE4.out, HS.out, HT.out, Hl4.out, HI4.out⟩
end Go.Proofs.YtiijpbfkchokaaaGreat
namespace Go.Proofs.YtiijpbfkchokaaaGreat
open Go.ChangeShapes Go.WideShapes Go.ChangeAt Go.RowKit
attribute [local go_sem ↓] Go.wp_at_zero Go.wp_at_succ
def PartsPost (w : World) (L : List Nd) (x : Nat) (e : Ending) (w' : World) : Prop :=
  (∃ vs : Nat → Value, e = .returned (.tuple #[vs 0, vs 1, vs 2, .int .i64 0]) ∧ ThreeV w (threeP L x) vs w') ∧ Below w.heap.size w w'
theorem ThreeV.below {w : World} {t : Three} {vs : Nat → Value} {W W' : World} (h : ThreeV w t vs W) (hb : Below W.heap.size W W') : ThreeV w t vs W' := ⟨fun j hj => ownsRow_below (h.rows j hj) hb, h.ne⟩
theorem ThreeV.base {w w0 : World} {t : Three} {vs : Nat → Value} {W : World} (h : ThreeV w t vs W) (hb : w0.heap.size ≤ w.heap.size) : ThreeV w0 t vs W := ⟨fun j hj => ownsRow_base (h.rows j hj) hb, h.ne⟩
theorem ThreeV.form {w : World} {t : Three} {vs : Nat → Value} {W : World} (h : ThreeV w t vs W) : ∃ T : T3, vs 0 = .slice T.aA T.aN T.aC ∧ vs 1 = .slice T.bA T.bN T.bC ∧ vs 2 = .slice T.cA T.cN T.cC := by
  obtain ⟨p1, c1, e1⟩ := owns_form (h.rows 0 (by decide))
  obtain ⟨p2, c2, e2⟩ := owns_form (h.rows 1 (by decide))
  obtain ⟨p3, c3, e3⟩ := owns_form (h.rows 2 (by decide))
  exact ⟨T3.mk p1 _ c1 p2 _ c2 p3 _ c3, e1, e2, e3⟩
attribute [local go_sem] T3.lit
theorem parts9 (p0 : Option Addr) (b off cap : Nat) (L : List Nd) (s : List Nat) (hc : checkC L = 0) (hs : Items L 0 s) (x : Nat) (hx : x ∈ s) (hk : (nth L x).kind = 10) (w : World) (hN : NIn w p0 b off cap L) :
    Calls Tryz.prog 72 #[.slice p0 L.length cap, .int .i64 x] w (PartsPost w L x) := by
  obtain ⟨m, u, hd⟩ := disc_at hc hs hx hk
  have hll := (checkC_zero hc).1
  have hlt := (hs.lt x hx).2
  have HC := Lib.hid (check_any p0 b off cap L w hN)
  rw [hc] at HC
  have HB : Hid (∀ W, Below w.heap.size w W → Calls Tryz.prog 90 #[.slice p0 L.length cap, .int .i64 x] W fun e w' => e = .returned (.bool true) ∧ W = w') := Lib.hid fun W hb => begins_any p0 b off cap L x hlt (by rw [hk]; decide) (by rw [hk]; decide) W (hN.below hb)
  have HT : Hid (∀ W, Below w.heap.size w W → _) := Lib.hid fun W hb => three9 p0 b off cap L x m u hd hll W (hN.below hb)
  have hx1 : (0 : Int) ≤ (x : Int) := by omega
  have hx2 : (x : Int) < (L.length : Int) := by omega
  have HX : Hid (∀ W, Below w.heap.size w W → W.cell? ⟨b, off + x * 19, none⟩ = some (.int .i64 10)) := Lib.hid fun W hb => by have := agg_cell ((hN.below hb).nth hlt) 0 _ (Nd.get0 (nth L x)); rw [hk] at this; exact this
  obtain rfl := hN.at_ hlt
  clear hc hs hx hk hd hN hlt
  go_enter Tryz.func72, Tryz.ntmps72
  go_wp2_with fail
  refine HC.out.mono ?_
  clear HC
  rintro e w2 ⟨rfl, hb2⟩
  have c0 := HX.out _ hb2
  have HB2 := Lib.hid (HB.out _ hb2)
  have HT2 := Lib.hid (HT.out _ hb2)
  clear HB HT HX
  go_wp2_with (first | (go_at_call 90; refine HB2.out.mono ?_; rintro e w3 ⟨rfl, rfl⟩) | (go_at_call 91; refine HT2.out.mono ?_; rintro e w4 ⟨⟨vs, rfl, hv⟩, hb4⟩; (have HV := Lib.hid hv); (obtain ⟨T, t1, t2, t3⟩ := hv.form); (have Ht := Lib.hid (And.intro t1 (And.intro t2 t3))); rw [t1, t2, t3]; clear hv t1 t2 t3))
  have dT := heap_alloc_new w4 (.cells T.arr 159)
  have y0 : (w4.alloc (.cells T.arr 159)).cell? ⟨w4.heap.size, 0, none⟩ = some (.slice T.aA T.aN T.aC) := by rw [cell?_blk' dT]; rfl
  have y1 : (w4.alloc (.cells T.arr 159)).cell? ⟨w4.heap.size, 1, none⟩ = some (.slice T.bA T.bN T.bC) := by rw [cell?_blk' dT]; rfl
  have y2 : (w4.alloc (.cells T.arr 159)).cell? ⟨w4.heap.size, 2, none⟩ = some (.slice T.cA T.cN T.cC) := by rw [cell?_blk' dT]; rfl
  have hb5 : Below w4.heap.size w4 (w4.alloc (.cells T.arr 159)) := (Below.refl _ _).alloc (Nat.le_refl _) _
  have HV5 := Lib.hid (HV.out.below hb5)
  have hbF := hb2.trans ((hb4.trans (hb5.mono hb4.size)).mono hb2.size)
  have hz2 := hb2.size
  clear dT hb2 hb4 hb5 HV c0
  generalize w4.alloc (.cells T.arr 159) = w5 at y0 y1 y2 HV5 hbF ⊢
  go_quiet (fail)
  go_wp2_with fail
  refine bodyPost_ret (results_tmp4 rfl _ _ _) rfl ?_
  refine ⟨⟨vs, ?_, (HV5.out.below (below_drewN_refl _ _ _)).base hz2⟩, below_drewN hbF _⟩
  rw [Ht.out.1, Ht.out.2.1, Ht.out.2.2]
  rfl
end Go.Proofs.YtiijpbfkchokaaaGreat
