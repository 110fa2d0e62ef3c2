/-
  The document's Best.
  The best break is the best (plain).
-/
import Derived.Test.YtkkdopfdoommnaaC12
import Derived.BigQuiet
namespace Go.Proofs.Ytkkdopfdoommnaa
open Go.ChangeShapes Go.WideShapes Go.ChangeAt Go.RowKit
theorem stepB_form {L : List Nd} {s : List Nat} {h d : Int} {o : Option (Nat × Int × Int)} {x : Nat × Int} {Z : Nat → Prop} (ho : ∀ y, o = some y → Z y.1 ∧ y.2.1 = (measP L s y.1 d).1.nat + (measP L s y.1 d).2) (hx : Z x.1) : ∀ y, stepB L s h d o x = some y → Z y.1 ∧ y.2.1 = (measP L s y.1 d).1.nat + (measP L s y.1 d).2 := by
  intro y hy
  cases o with
  | none => cases hy; exact ⟨hx, rfl⟩
  | some z =>
    simp only [stepB] at hy
    split at hy
    · cases hy; exact ⟨hx, rfl⟩
    · cases hy; exact ho _ rfl
theorem bestF_form {L : List Nd} {s : List Nat} {h d : Int} {Z : Nat → Prop} : ∀ (r : List (Nat × Int)) (o : Option (Nat × Int × Int)), (∀ y, o = some y → Z y.1 ∧ y.2.1 = (measP L s y.1 d).1.nat + (measP L s y.1 d).2) → (∀ x ∈ r, Z x.1) → ∀ y, bestF L s h d o r = some y → Z y.1 ∧ y.2.1 = (measP L s y.1 d).1.nat + (measP L s y.1 d).2
  | [], o, ho, _, y, hy => ho y hy
  | x :: r, o, ho, hr, y, hy => by
    rw [bestF] at hy
    split at hy
    · exact stepB_form ho (hr x List.mem_cons_self) y hy
    · exact bestF_form r _ (stepB_form ho (hr x List.mem_cons_self)) (fun z hz => hr z (List.mem_cons_of_mem _ hz)) y hy
/-- the best break, as the document has it -/
theorem bestO_chos (L : List Nd) (s : List Nat) (h d : Int) : ∃ y : Nat × Int × Int, bestO L s h d = some y ∧ (y.1 ∈ s ∨ y.1 = L.length) ∧ y.2.1 = (measP L s y.1 d).1.nat + (measP L s y.1 d).2 ∧ chosF L s h d true 0 1073741823 (legalP L s) = (y.1, y.2.2) := by
  have hpen : ∀ z ∈ legalP L s, z.2 < 10000 := fun z hz => by
    obtain ⟨j, hj, rfl⟩ := List.getElem_of_mem hz
    exact legalP_pen hj
  have hmem : ∀ z ∈ legalP L s, z.1 ∈ s ∨ z.1 = L.length := fun z hz => by
    obtain ⟨j, hj, rfl⟩ := List.getElem_of_mem hz
    exact (legalP_at hj).1
  have hne : legalP L s ≠ [] := by unfold legalP; simp
  unfold bestO
  generalize legalP L s = P at *
  cases P with
  | nil => exact absurd rfl hne
  | cons x r =>
    have h1 := chosF_all L s h d x r hpen
    cases hb : bestF L s h d none (x :: r) with
    | none => rw [hb] at h1; cases h1
    | some y =>
      rw [hb] at h1
      obtain ⟨h2, h3⟩ := bestF_form (Z := fun t => t ∈ s ∨ t = L.length) (x :: r) none (fun y hy => by cases hy) hmem y hb
      exact ⟨y, rfl, h2, h3, (Option.some.inj h1).symm⟩
set_option maxRecDepth 100000 in
set_option maxHeartbeats 8000000 in
theorem qbest (p0 : Option Addr) (b off cap : Nat) (L : List Nd) (s : List Nat) (hs : checkC L = 0 → Items L 0 s) (height depth : Int) (w : World) (hN : NIn w p0 b off cap L) :
    Calls Try.prog 45 #[.slice p0 L.length cap, .int .i64 height, .int .i64 depth] w fun e w' => e = .returned (.tuple #[.int .i64 (bA (bestR L s height depth).1), .int .i64 (bS (bestR L s height depth).1), .int .i64 (bL (bestR L s height depth).1), .int .i64 (bestR L s height depth).2]) ∧ Below w.heap.size w w' := by
  have HC := Lib.hid (qcolumn p0 b off cap L s hs w hN)
  have H := Lib.hid hN
  have Hs := Lib.hid hs
  clear hN hs
  go_enter Try.func45, Try.ntmps45
  go_wp2_with fail
  refine HC.out.mono ?_
  clear HC
  rintro e w1 ⟨rfl, hb1⟩
  by_cases hck : colP L s = 0
  · have hs := Hs.out (colP_check hck)
    have hkd := items_kind0 hs (colP_check hck)
    have hl := (checkC_zero (colP_check hck)).1
    have hr := check_right (colP_check hck)
    have hnb : ∀ x ∈ s, NdB (nth L x) := fun x hx => nb_of (hr _ (by rw [nth_get (hs.lt x hx).2]; exact List.getElem_mem _))
    have Hck := Lib.hid hck
    have HD := Lib.hid (qdimen11 height w1)
    have HE := Lib.hid (qdimen11 depth w1)
    rw [hck]
    clear hck
    cases hd1 : dimenB height
    · have HV := Lib.hid (show bestR L s height depth = (none, 11) by unfold bestR; rw [if_pos Hck.out]; simp [hd1])
      rw [hd1] at HD
      clear hd1 hs hkd hl hr hnb Hs H HE
      go_wp2_with (go_at_call 71; refine HD.out.mono ?_; rintro e w5 ⟨rfl, rfl⟩)
      (try simp only [Exit.inBlock, Exit.then])
      refine bodyPost_ret (results_tmp4 rfl _ _ _) rfl ?_
      exact ⟨by rw [HV.out]; rfl, hb1⟩
    · rw [hd1] at HD
      cases hd2 : dimenB depth
      · have HV := Lib.hid (show bestR L s height depth = (none, 11) by unfold bestR; rw [if_pos Hck.out]; simp [hd1, hd2])
        rw [hd2] at HE
        clear hd1 hd2 hs hkd hl hr hnb Hs H
        go_wp2_with (first | (go_at_call_has 71 (Value.int IntKind.i64 height); refine HD.out.mono ?_; rintro e w5 ⟨rfl, rfl⟩) | (go_at_call_has 71 (Value.int IntKind.i64 depth); refine HE.out.mono ?_; rintro e w5 ⟨rfl, rfl⟩))
        (try simp only [Exit.inBlock, Exit.then])
        refine bodyPost_ret (results_tmp4 rfl _ _ _) rfl ?_
        exact ⟨by rw [HV.out]; rfl, hb1⟩
      · obtain ⟨y, hy, hyz, hym, hyc⟩ := bestO_chos L s height depth
        have HV := Lib.hid (show bestR L s height depth = (some y, 0) by unfold bestR; rw [if_pos Hck.out]; simp [hd1, hd2, hy])
        have hd3 : (-1073741823 ≤ height ∧ height ≤ 1073741823) ∧ -1073741823 ≤ depth ∧ depth ≤ 1073741823 := by simpa [dimenB] using (show (dimenB height && dimenB depth) = true by rw [hd1, hd2]; rfl)
        have HCh := Lib.hid (qchosen p0 b off cap L s Hck.out hs height depth (by rw [hd1, hd2]; rfl) w1 (H.out.below hb1))
        rw [hyc] at HCh
        have HZ : Hid (∀ W, Below w.heap.size w W → Calls Try.prog 72 #[.slice p0 L.length cap, .int .i64 (y.1 : Nat), .int .i64 depth] W fun e w' => e = .returned (.tuple #[.agg (measP L s y.1 depth).1.arr, .int .i64 (measP L s y.1 depth).2]) ∧ Below W.heap.size W w') := Lib.hid fun W hb => qsized p0 b off cap L s hs (fun x hx => (hkd x hx).1) hnb hl y.1 hyz depth hd3.2 W (H.out.below hb)
        have hmb := meas_bound (L := L) y.1 hnb (by have := hs.len; omega) hd3.2
        rw [hd2] at HE
        have Hym := Lib.hid hym
        clear hd1 hd2 hs hkd hl hr hnb Hs H hy hyz hym hyc hd3
        obtain ⟨t, sz, c⟩ := y
        simp only at HCh HZ hmb Hym
        generalize measP L s t depth = mm at HZ hmb Hym
        obtain ⟨T, dd⟩ := mm
        simp only at hmb Hym
        obtain ⟨⟨m1, m2⟩, m3, m4⟩ := hmb
        go_wp2_with (first
          | (go_at_call 75; refine HCh.out.mono ?_; rintro e w6 ⟨rfl, hb6⟩; have hb06 := hb1.trans (hb6.mono hb1.size))
          | (go_at_call 72; refine (HZ.out _ hb06).mono ?_; rintro e w7 ⟨rfl, hb7⟩; go_upto_region 8 with (fail))
          | (go_at_call_has 71 (Value.int IntKind.i64 height); refine HD.out.mono ?_; rintro e w5 ⟨rfl, rfl⟩) | (go_at_call_has 71 (Value.int IntKind.i64 depth); refine HE.out.mono ?_; rintro e w5 ⟨rfl, rfl⟩))
        have hb07 := hb06.trans (hb7.mono hb06.size)
        have aT : TAt (w7.alloc (.cells T.arr 68)) w7.heap.size T := heap_alloc_new w7 _
        have hb08 := hb07.alloc hb07.size (.cells T.arr 68)
        clear hb07 hb7 hb6 hb06 HCh HZ HD HE
        generalize w7.alloc (.cells T.arr 68) = w8 at aT hb08 ⊢
        generalize w7.heap.size = X at aT ⊢
        have a1 : w8.cell? ⟨X, 0, none⟩ = some (.int .i64 T.nat) := agg_cell aT.agg 0 _ rfl
        go_wp2_with fail
        go_quiet (fail)
        go_wp2_with fail
        (try simp only [Exit.inBlock, Exit.then])
        refine bodyPost_ret (results_tmp4 rfl _ _ _) rfl ?_
        exact ⟨by rw [HV.out]; simp only [bA, bS, bL, Hym.out]; rfl, below_drewN hb08 _⟩
  · have hck' : ((colP L s : Int) != 0) = true := by simpa using hck
    have HR := Lib.hid (show bestR L s height depth = (none, colP L s) by unfold bestR; rw [if_neg hck])
    clear hck
    go_wp2_with fail
    (try simp only [Exit.inBlock, Exit.then])
    refine bodyPost_ret (results_tmp4 rfl _ _ _) rfl ?_
    exact ⟨by rw [HR.out]; rfl, hb1⟩
end Go.Proofs.Ytkkdopfdoommnaa
namespace Go.Proofs.Ytkkdopfdoommnaa
open Go.RowKit
def cB (L : List Nd) (s : List Nat) (h d : Int) (x : Nat × Int) : Int := (atB L s h d x).2.2
/-- behind the best one, up to the first stop, each costs more -/
def Later (L : List Nd) (s : List Nat) (h d c : Int) : List (Nat × Int) → Prop
  | [] => True
  | z :: r => c < cB L s h d z ∧ (stopB L s h d z = false → Later L s h d c r)
theorem bestF_parts (L : List Nd) (s : List Nat) (h d : Int) : ∀ (P : List (Nat × Int)) (y y' : Nat × Int × Int), bestF L s h d (some y) P = some y' →
    (y' = y ∧ Later L s h d y.2.2 P) ∨ ∃ pre x r, P = pre ++ x :: r ∧ y' = atB L s h d x ∧ (∀ z ∈ pre, stopB L s h d z = false ∧ cB L s h d x ≤ cB L s h d z) ∧ cB L s h d x ≤ y.2.2 ∧ (stopB L s h d x = false → Later L s h d (cB L s h d x) r)
  | [], y, y', e => .inl ⟨(Option.some.inj e).symm, trivial⟩
  | x :: r, y, y', e => by
    rw [bestF] at e
    by_cases hst : stopB L s h d x = true
    · rw [if_pos hst] at e
      simp only [stepB] at e
      split at e
      · rename_i hc
        exact .inr ⟨[], x, r, rfl, (Option.some.inj e).symm, (fun _ h => by cases h), hc, (fun h2 => by rw [hst] at h2; cases h2)⟩
      · rename_i hc
        exact .inl ⟨(Option.some.inj e).symm, by unfold cB; omega, (fun h2 => by rw [hst] at h2; cases h2)⟩
    · rw [if_neg hst] at e
      have hst' : stopB L s h d x = false := by simpa using hst
      simp only [stepB] at e
      split at e
      · rename_i hc
        rcases bestF_parts L s h d r _ _ e with ⟨h1, h2⟩ | ⟨pre, x2, r2, h1, h2, h3, h4, h5⟩
        · exact .inr ⟨[], x, r, rfl, h1, (fun _ h => by cases h), hc, fun _ => h2⟩
        · refine .inr ⟨x :: pre, x2, r2, by rw [h1]; rfl, h2, fun z hz => ?_, Int.le_trans h4 hc, h5⟩
          rcases List.mem_cons.1 hz with rfl | hz
          · exact ⟨hst', h4⟩
          · exact h3 z hz
      · rename_i hc
        rcases bestF_parts L s h d r _ _ e with ⟨h1, h2⟩ | ⟨pre, x2, r2, h1, h2, h3, h4, h5⟩
        · exact .inl ⟨h1, by unfold cB; omega, fun _ => h2⟩
        · refine .inr ⟨x :: pre, x2, r2, by rw [h1]; rfl, h2, fun z hz => ?_, h4, h5⟩
          rcases List.mem_cons.1 hz with rfl | hz
          · exact ⟨hst', by unfold cB at h4 ⊢; omega⟩
          · exact h3 z hz
/-- the best break stands among the legal ones; what is ahead of it costs no less, what is behind it, up to the first stop, costs more -/
theorem bestO_parts (L : List Nd) (s : List Nat) (h d : Int) : ∃ pre x r, legalP L s = pre ++ x :: r ∧ bestO L s h d = some (atB L s h d x) ∧ (∀ z ∈ pre, stopB L s h d z = false ∧ cB L s h d x ≤ cB L s h d z) ∧ (stopB L s h d x = false → Later L s h d (cB L s h d x) r) := by
  have hne : legalP L s ≠ [] := by unfold legalP; simp
  obtain ⟨y, hy, _⟩ := bestO_chos L s h d
  unfold bestO at hy ⊢
  generalize legalP L s = P at hne hy
  cases P with
  | nil => exact absurd rfl hne
  | cons x r =>
    rw [bestF] at hy ⊢
    by_cases hst : stopB L s h d x = true
    · rw [if_pos hst] at hy ⊢
      exact ⟨[], x, r, rfl, rfl, (fun _ h => by cases h), (fun h2 => by rw [hst] at h2; cases h2)⟩
    · rw [if_neg hst] at hy ⊢
      have hst' : stopB L s h d x = false := by simpa using hst
      change bestF L s h d (some (atB L s h d x)) r = some y at hy
      change ∃ pre x1 r1, x :: r = pre ++ x1 :: r1 ∧ bestF L s h d (some (atB L s h d x)) r = some (atB L s h d x1) ∧ _
      rcases bestF_parts L s h d r _ _ hy with ⟨h1, h2⟩ | ⟨pre, x2, r2, h1, h2, h3, h4, h5⟩
      · exact ⟨[], x, r, rfl, by rw [hy, h1], (fun _ h => by cases h), fun _ => h2⟩
      · refine ⟨x :: pre, x2, r2, by rw [h1]; rfl, by rw [hy, h2], fun z hz => ?_, h5⟩
        rcases List.mem_cons.1 hz with rfl | hz
        · exact ⟨hst', h4⟩
        · exact h3 z hz
theorem later_at {L : List Nd} {s : List Nat} {h d c : Int} : ∀ {r : List (Nat × Int)} {j : Nat}, Later L s h d c r → (hj : j < r.length) → (∀ k, (hk : k < j) → stopB L s h d (r[k]'(Nat.lt_trans hk hj)) = false) → c < cB L s h d r[j]
  | [], j, _, hj, _ => absurd hj (Nat.not_lt_zero _)
  | z :: r, 0, hl, _, _ => hl.1
  | z :: r, j + 1, hl, hj, hs => later_at (r := r) (j := j) (hl.2 (hs 0 (Nat.succ_pos _))) (by simpa using hj) fun k hk => by
      have := hs (k + 1) (by omega)
      simpa using this
/-- what the law asks of each round -/
structure BestAt (L : List Nd) (s : List Nat) (h d : Int) (m : Nat) : Prop where
  lt : m < (legalP L s).length
  best : bestO L s h d = some (atB L s h d (legalP L s)[m])
  ahead : ∀ i, (hi : i < m) → stopB L s h d ((legalP L s)[i]'(Nat.lt_trans hi lt)) = false ∧ cB L s h d (legalP L s)[m] ≤ cB L s h d ((legalP L s)[i]'(Nat.lt_trans hi lt))
  behind : ∀ i, (hi : i < (legalP L s).length) → m < i → (∀ k, (hk : k < i) → stopB L s h d ((legalP L s)[k]'(Nat.lt_trans hk hi)) = false) → cB L s h d (legalP L s)[m] < cB L s h d (legalP L s)[i]
theorem bestAt (L : List Nd) (s : List Nat) (h d : Int) : ∃ m, BestAt L s h d m := by
  obtain ⟨pre, x, r, h1, h2, h3, h4⟩ := bestO_parts L s h d
  have hlt : pre.length < (legalP L s).length := by rw [h1]; simp
  have hx : (legalP L s)[pre.length] = x := by simp [h1]
  refine ⟨pre.length, hlt, by rw [h2, hx], fun i hi => ?_, fun i hi hm hk => ?_⟩
  · have he : (legalP L s)[i]'(Nat.lt_trans hi hlt) = pre[i] := by simp [h1, List.getElem_append_left hi]
    rw [he, hx]
    exact h3 _ (List.getElem_mem hi)
  · have hst := hk pre.length hm
    rw [hx] at hst
    have hl := h4 hst
    have hir : i - pre.length - 1 < r.length := by have := hi; rw [h1] at this; simp at this; omega
    have key : ∀ k, (hk : k < r.length) → (legalP L s)[pre.length + 1 + k]'(by rw [h1]; simp; omega) = r[k] := fun k hk => by
      simp only [h1]
      rw [List.getElem_append_right (by omega)]
      simp [show pre.length + 1 + k - pre.length = k + 1 by omega]
    have hres := later_at hl hir fun k hk2 => by
      have := hk (pre.length + 1 + k) (by omega)
      rwa [key k (by omega)] at this
    rw [hx]
    have e := key _ hir
    simp only [show pre.length + 1 + (i - pre.length - 1) = i by omega] at e
    rwa [e]
/-- the last one is a stop -/
theorem legalP_last (L : List Nd) (s : List Nat) (h d : Int) : ¬ ∀ i, (hi : i < (legalP L s).length) → stopB L s h d (legalP L s)[i] = false := by
  intro hall
  have hm : (L.length, (-10000 : Int)) ∈ legalP L s := by unfold legalP; simp
  obtain ⟨i, hi, e⟩ := List.getElem_of_mem hm
  have := hall i hi
  rw [e] at this
  simp [stopB] at this
end Go.Proofs.Ytkkdopfdoommnaa
