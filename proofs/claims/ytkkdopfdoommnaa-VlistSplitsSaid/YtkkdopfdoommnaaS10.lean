/-
  The document's Size.
-/
import Derived.Test.YtkkdopfdoommnaaS9
namespace Go.Proofs.Ytkkdopfdoommnaa
open Go.ChangeShapes Go.WideShapes Go.ChangeAt Go.RowKit
attribute [local go_sem ↓] Go.wp_at_zero Go.wp_at_succ
set_option maxHeartbeats 1000000 in
theorem qdimen11 (x : Int) (w : World) : Calls Try.prog 71 #[.int .i64 x] w fun e w' => e = .returned (.bool (dimenB x)) ∧ w = w' := by
  by_cases h : -1073741823 ≤ x ∧ x ≤ 1073741823
  · obtain ⟨h1, h2⟩ := h
    have H := Lib.hid (show dimenB x = true by simp [dimenB, h1, h2])
    go_enter Try.func71, Try.ntmps71
    go_wp2
    go_ret
    exact ⟨ret_bool (by rw [H.out]), rfl⟩
  · have H := Lib.hid (show dimenB x = false by simp only [dimenB, decide_eq_false_iff_not]; exact h)
    by_cases h1 : -1073741823 ≤ x
    · have h2 : ¬ x ≤ 1073741823 := fun h2 => h ⟨h1, h2⟩
      clear h
      go_enter Try.func71, Try.ntmps71
      go_wp2
      go_ret
      exact ⟨ret_bool (by rw [H.out]), rfl⟩
    · clear h
      go_enter Try.func71, Try.ntmps71
      go_wp2
      go_ret
      exact ⟨ret_bool (by rw [H.out]), rfl⟩
theorem foundB_mem {L : List Nd} {s : List Nat} {t : Nat} (h : foundB L s (t : Int) = true) : t ∈ s ∨ t = L.length := by
  unfold foundB at h
  simp only [Bool.or_eq_true, List.any_eq_true, beq_iff_eq] at h
  rcases h with h | ⟨x, hx, h⟩
  · exact .inr (by omega)
  · have : x = t := by omega
    exact .inl (this ▸ hx)
set_option maxRecDepth 100000 in
set_option maxHeartbeats 8000000 in
theorem qsize (p0 : Option Addr) (b off cap : Nat) (L : List Nd) (s : List Nat) (hs : checkC L = 0 → Items L 0 s) (tk depth : Int) (w : World) (hN : NIn w p0 b off cap L) :
    Calls Try.prog 40 #[.slice p0 L.length cap, .int .i64 tk, .int .i64 depth] w fun e w' => e = .returned (.tuple #[.agg (sizeR L s tk depth).1.arr, .int .i64 (sizeR L s tk depth).2.1, .int .i64 (sizeR L s tk depth).2.2]) ∧ Below w.heap.size w w' := by
  have hlen := hN.len
  have hb0 : Below w.heap.size w (w.alloc (.cells (Tt.mk 0 0 0 0 0 0 0 0 0).arr 68)) := (Below.refl _ _).alloc (Nat.le_refl _) _
  have bR : TAt (w.alloc (.cells (Tt.mk 0 0 0 0 0 0 0 0 0).arr 68)) w.heap.size ⟨0, 0, 0, 0, 0, 0, 0, 0, 0⟩ := heap_alloc_new w _
  have HC := Lib.hid fun W (hb : Below w.heap.size w W) => qcolumn p0 b off cap L s hs W (hN.below hb)
  have H := Lib.hid hN
  have Hs := Lib.hid hs
  clear hN hs
  go_enter Try.func40, Try.ntmps40
  go_upto_region 1 with (fail)
  generalize w.alloc (.cells (Tt.mk 0 0 0 0 0 0 0 0 0).arr 68) = w1 at hb0 bR ⊢
  go_wp2_with fail
  refine (HC.out _ hb0).mono ?_
  clear HC
  rintro e w2 ⟨rfl, hb2⟩
  have cR : TAt w2 w.heap.size ⟨0, 0, 0, 0, 0, 0, 0, 0, 0⟩ := (hb2.block _ bR.lt).trans bR
  have hbw := hb0.trans (hb2.mono hb0.size)
  clear bR hb0 hb2
  by_cases hck : colP L s = 0
  · have hs := Hs.out (colP_check hck)
    have hkd := items_kind0 hs (colP_check hck)
    have hl := (checkC_zero (colP_check hck)).1
    have hr := check_right (colP_check hck)
    have HSt := Lib.hid (qstarts p0 b off cap L s w2 (H.out.below hbw) hs fun x hx => (hkd x hx).1)
    have HSz := Lib.hid (show sizeR L s tk depth = if foundB L s tk then (if dimenB depth then ((measP L s tk.toNat depth).1, (measP L s tk.toNat depth).2, 0) else (.zero, 0, 11)) else (.zero, 0, 3) by unfold sizeR; rw [if_pos hck])
    have HQ : Hid (∀ t : Nat, t ∈ s ∨ t = L.length → dimenB depth = true → ∀ W, Below w.heap.size w W → Calls Try.prog 72 #[.slice p0 L.length cap, .int .i64 (t : Nat), .int .i64 depth] W fun e w' => e = .returned (.tuple #[.agg (measP L s t depth).1.arr, .int .i64 (measP L s t depth).2]) ∧ Below W.heap.size W w') := Lib.hid fun t ht hd W hb =>
      qsized p0 b off cap L s hs (fun x hx => (hkd x hx).1) (fun x hx => nb_of (hr _ (by rw [nth_get (hs.lt x hx).2]; exact List.getElem_mem _))) hl t ht depth (by simpa [dimenB] using hd) W (H.out.below hb)
    rw [hck]
    have hsl := hs.len
    clear hck hs hkd Hs hr
    go_wp2_with fail
    refine HSt.out.mono ?_
    clear HSt
    rintro e w3 ⟨⟨v, rfl, hrow⟩, hb3⟩
    have dR : TAt w3 w.heap.size ⟨0, 0, 0, 0, 0, 0, 0, 0, 0⟩ := (hb3.block _ cR.lt).trans cR
    have hbw3 := hbw.trans (hb3.mono hbw.size)
    have hrw : w3.ownsRow w2.heap.size 3 1 v s.length (ints (ofN s)) := hrow
    obtain ⟨pv, cv, rfl⟩ := owns_form hrw
    have HRow := Lib.hid hrw
    have DR := Lib.hid dR
    have HB3 := Lib.hid hbw3
    clear hrow cR hbw hb3 hrw dR hbw3
    go_wp2_with fail
    go_loopg [10, 12] (s.length + 1) (fun gg t10 t12 wr => ∃ (i : Nat) (f : Bool), gg = s.length + 1 - i ∧ i ≤ s.length ∧ ((tk == (L.length : Int)) || (s.take i).any fun x : Nat => (x : Int) == tk) = f ∧ t10 = .bool f ∧ t12 = .int .i64 i ∧ wr = w3)
    case atStart => exact ⟨0, (tk == (L.length : Int)), rfl, Nat.zero_le _, by simp, rfl, rfl, rfl⟩
    case round =>
      obtain ⟨i, f, rfl, hi, hf, rfl, rfl, rfl⟩ := hrel
      have Hf := Lib.hid hf
      clear hf
      have hi1 : (0 : Int) ≤ (i : Int) := by omega
      by_cases hin : i < s.length
      · have hi2 : (i : Int) < (s.length : Int) := by omega
        obtain ⟨gi, c, hv, _, hcp, cI⟩ := irow_cell HRow.out hin
        simp only [Value.slice.injEq] at hv
        obtain ⟨rfl, _, rfl⟩ := hv
        have hst : (s.take (i + 1)).any (fun x : Nat => (x : Int) == tk) = ((s.take i).any (fun x : Nat => (x : Int) == tk) || (((s[i] : Nat) : Int) == tk)) := by rw [List.take_succ_eq_append_getElem hin, List.any_append, List.any_cons, List.any_nil, Bool.or_false]
        obtain ⟨x, hx⟩ : ∃ x, s[i] = x := ⟨_, rfl⟩
        rw [hx] at cI hst
        have Hst := Lib.hid hst
        have Hin := Lib.hid hin
        clear hst hx hin
        cases f
        · cases h2 : ((x : Int) == tk)
          · have He := Lib.hid (show ((tk == (L.length : Int)) || (s.take (i + 1)).any fun x : Nat => (x : Int) == tk) = false by rw [Hst.out, ← Bool.or_assoc, Hf.out, h2]; rfl)
            go_wp2_with fail
            go_roundg (s.length + 1 - (i + 1))
            case measure => have := Hin.out; omega
            case rel => exact ⟨i + 1, false, rfl, Hin.out, He.out, rfl, by go_num, rfl⟩
          · have He := Lib.hid (show ((tk == (L.length : Int)) || (s.take (i + 1)).any fun x : Nat => (x : Int) == tk) = true by rw [Hst.out, ← Bool.or_assoc, Hf.out, h2]; rfl)
            go_wp2_with fail
            go_roundg (s.length + 1 - (i + 1))
            case measure => have := Hin.out; omega
            case rel => exact ⟨i + 1, true, rfl, Hin.out, He.out, rfl, by go_num, rfl⟩
        · have He := Lib.hid (show ((tk == (L.length : Int)) || (s.take (i + 1)).any fun x : Nat => (x : Int) == tk) = true by rw [Hst.out, ← Bool.or_assoc, Hf.out]; rfl)
          go_wp2_with fail
          go_roundg (s.length + 1 - (i + 1))
          case measure => have := Hin.out; omega
          case rel => exact ⟨i + 1, true, rfl, Hin.out, He.out, rfl, by go_num, rfl⟩
      · have hi2 : (s.length : Int) ≤ (i : Int) := by omega
        have hfo : foundB L s tk = f := by have := Hf.out; rwa [List.take_of_length_le (by omega)] at this
        have thR := DR.out.there
        have HD := Lib.hid (qdimen11 depth wr)
        have hbw3 := HB3.out
        clear Hf hin
        cases f
        · have hR : sizeR L s tk depth = (.zero, 0, 3) := by rw [HSz.out, hfo]; rfl
          have HRz := Lib.hid hR
          clear hfo hR
          go_wp2_with fail
          exact ⟨rfl, _, results_tt3 rfl _ _ w.heap.size _ rfl (DR.out.store (U := ⟨0, 0, 0, 0, 0, 0, 0, 0, 0⟩)).agg, by rw [HRz.out]; rfl, Below.setAgg hbw3 (Nat.le_refl _) _ _⟩
        · obtain ⟨t, rfl⟩ := found_nat hfo
          cases hdm : dimenB depth
          · have hR : sizeR L s t depth = (.zero, 0, 11) := by rw [HSz.out, hfo, hdm]; rfl
            have HRz := Lib.hid hR
            rw [hdm] at HD
            clear hfo hR hdm
            go_wp2_with (go_at_call 71; refine HD.out.mono ?_; rintro e w5 ⟨rfl, rfl⟩)
            exact ⟨rfl, _, results_tt3 rfl _ _ w.heap.size _ rfl (DR.out.store (U := ⟨0, 0, 0, 0, 0, 0, 0, 0, 0⟩)).agg, by rw [HRz.out]; rfl, Below.setAgg hbw3 (Nat.le_refl _) _ _⟩
          · have hR : sizeR L s t depth = ((measP L s t depth).1, (measP L s t depth).2, 0) := by rw [HSz.out, hfo, hdm, Int.toNat_natCast]; rfl
            have HRz := Lib.hid hR
            have HQs := Lib.hid (HQ.out t (foundB_mem hfo) hdm wr hbw3)
            rw [hdm] at HD
            clear hfo hR hdm
            go_wp2_with (go_at_call 71; refine HD.out.mono ?_; rintro e w5 ⟨rfl, rfl⟩)
            refine HQs.out.mono ?_
            clear HQs
            rintro e w6 ⟨rfl, hb6⟩
            have kR : TAt w6 w.heap.size ⟨0, 0, 0, 0, 0, 0, 0, 0, 0⟩ := (hb6.block _ DR.out.lt).trans DR.out
            have kb := hbw3.trans (hb6.mono hbw3.size)
            go_upto_region 15 with (fail)
            have kT : TAt (w6.alloc (.cells (measP L s t depth).1.arr 68)) w6.heap.size (measP L s t depth).1 := heap_alloc_new w6 _
            have kR2 : TAt (w6.alloc (.cells (measP L s t depth).1.arr 68)) w.heap.size ⟨0, 0, 0, 0, 0, 0, 0, 0, 0⟩ := (Below.heap_alloc _ _ _ kR.lt).trans kR
            have kb2 := kb.alloc kb.size (.cells (measP L s t depth).1.arr 68)
            have a1 := kT.agg
            have th2 := kR2.there
            have hst := (kR2.store (U := (measP L s t depth).1)).agg
            generalize w6.alloc (.cells (measP L s t depth).1.arr 68) = w7 at kT kR2 kb2 a1 th2 hst ⊢
            generalize w6.heap.size = X7 at kT a1 ⊢
            clear kT kR2
            go_wp2_with fail
            exact ⟨rfl, _, results_tt3 rfl _ _ w.heap.size _ rfl hst, by rw [HRz.out]; rfl, Below.setAgg kb2 (Nat.le_refl _) _ _⟩
  · have hck' : ((colP L s : Int) != 0) = true := by simpa using hck
    have HR := Lib.hid (show sizeR L s tk depth = (.zero, 0, colP L s) by unfold sizeR; rw [if_neg hck])
    have th := cR.there
    clear hck
    go_wp2_with fail
    exact ⟨rfl, _, results_tt3 rfl _ _ w.heap.size _ rfl (cR.store (U := ⟨0, 0, 0, 0, 0, 0, 0, 0, 0⟩)).agg, by rw [HR.out]; rfl, Below.setAgg hbw (Nat.le_refl _) _ _⟩
end Go.Proofs.Ytkkdopfdoommnaa
