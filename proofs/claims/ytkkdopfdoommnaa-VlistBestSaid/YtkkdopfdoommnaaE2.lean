/-
  The law VlistBest: the walk.
-/
import Derived.Test.YtkkdopfdoommnaaS6
import Derived.Test.YtkkdopfdoommnaaL6
import Derived.Test.YtkkdopfdoommnaaE1
import Derived.Test.YtkkdopfdoommnaaC11
import Derived.Test.YtkkdopfdoommnaaV5
import Derived.Sort.AtCall
namespace Go.Proofs.Ytkkdopfdoommnaa
open Go.ChangeShapes Go.WideShapes Go.ChangeAt Go.RowKit Go.Shelf
attribute [local go_sem ↓] Go.wp_at_zero Go.wp_at_succ
theorem size_at {L : List Nd} {s : List Nat} {t : Nat} {d : Int} (hck : colP L s = 0) (hm : t ∈ s ∨ t = L.length) (hd : dimenB d = true) : sizeR L s (t : Int) d = ((measP L s t d).1, (measP L s t d).2, 0) := by
  have hf : foundB L s (t : Int) = true := by
    unfold foundB
    rcases hm with h | h
    · rw [Bool.or_eq_true]; exact .inr (List.any_eq_true.2 ⟨t, h, by simp⟩)
    · rw [Bool.or_eq_true]; exact .inl (by simp [h])
  unfold sizeR
  rw [if_pos hck, if_pos hf, if_pos hd, Int.toNat_natCast]
/-- a stop -/
def stopC (C : Nat × Int → Int) (z : Nat × Int) : Bool := decide (z.2 ≤ -10000) || C z == 1073741823
/-- the best of a row of breaks: what the law asks of each round -/
structure BestRun (P : List (Nat × Int)) (C : Nat × Int → Int) (m : Nat) : Prop where
  lt : m < P.length
  ahead : ∀ i, (hi : i < P.length) → i < m → stopC C P[i] = false ∧ C (P[m]'lt) ≤ C P[i]
  behind : ∀ i, (hi : i < P.length) → m < i → (∀ k, (hk : k < P.length) → k < i → stopC C P[k] = false) → C (P[m]'lt) < C P[i]
  last : ¬ ∀ i, (hi : i < P.length) → stopC C P[i] = false
  inj : ∀ i j, (hi : i < P.length) → (hj : j < P.length) → P[i].1 = P[j].1 → i = j
theorem bestRun {L : List Nd} {s : List Nat} {h d : Int} {m : Nat} (hm : BestAt L s h d m) (hs : Items L 0 s) : BestRun (legalP L s) (cB L s h d) m where
  lt := hm.lt
  ahead := fun i _ him => hm.ahead i him
  behind := fun i hi hmi hk => hm.behind i hi hmi fun k hk2 => hk k (Nat.lt_trans hk2 hi) hk2
  last := legalP_last L s h d
  inj := fun _ _ hi hj e => legalP_inj hs hi hj e
theorem ats_get {P : List (Nat × Int)} {i : Nat} (hi : i < P.length) : (atsP P)[i]'(by simpa [atsP] using hi) = (P[i].1 : Int) := by simp [atsP]
theorem pens_get {P : List (Nat × Int)} {i : Nat} (hi : i < P.length) : (pensP P)[i]'(by simpa [pensP] using hi) = P[i].2 := by simp [pensP]
theorem zin_get {w : World} {B n : Nat} {p : Option Addr} {k c : Nat} {l : List Int} (h : w.ownsRow B 3 1 (.slice p k c) n (ints l)) {i : Nat} (hi : i < l.length) : ∃ g, p = some ⟨g, 0, none⟩ ∧ w.cell? ⟨g, i, none⟩ = some (.int .i64 l[i]) := by
  obtain ⟨p', g, c', e, _, z⟩ := zin_of h
  cases e
  exact ⟨g, z.hp (by intro e; rw [e] at hi; simp at hi), z.at_ i hi⟩
set_option maxRecDepth 100000 in
set_option maxHeartbeats 4000000 in
theorem best_walk (p0 : Option Addr) (b off cap : Nat) (L : List Nd) (height depth : Int) (w : World) (hN : NIn w p0 b off cap L) :
    Calls Try.prog 12 #[.slice p0 L.length cap, .int .i64 height, .int .i64 depth] w fun e w' => e = .returned (.bool true) ∧ Below w.heap.size w w' := by
  have HN := Lib.hid hN
  have Hs := Lib.hid (show checkC L = 0 → Items L 0 (itemsP L) from fun h => itemsP_spec h)
  have HP := Lib.hid (vlegal p0 b off cap L (itemsP L) Hs.out w hN)
  have HB : Hid (∀ W, Below w.heap.size w W → _) := Lib.hid (fun W hb => vBest p0 b off cap L (itemsP L) Hs.out height depth W (HN.out.below hb))
  clear hN
  go_enter Try.func12, Try.ntmps12
  go_wp2_with fail
  refine HP.out.mono ?_
  clear HP
  rintro e w2 ⟨⟨v, u, rfl, hv, hu, -⟩, hb2⟩
  have HV := Lib.hid hv
  have HU := Lib.hid hu
  clear hv hu
  by_cases hck : colP L (itemsP L) = 0
  · by_cases hdm : (dimenB height && dimenB depth) = true
    · have hbr : bestR L (itemsP L) height depth = (bestO L (itemsP L) height depth, 0) := by unfold bestR; rw [if_pos hck, if_pos hdm]
      have hlr : legR L (itemsP L) = legalP L (itemsP L) := by unfold legR; rw [if_pos hck]
      rw [hbr] at HB
      rw [hlr] at HV HU
      obtain ⟨m, hm⟩ := bestAt L (itemsP L) height depth
      have hmlt := hm.lt
      have hs := Hs.out (colP_check hck)
      have hdd : dimenB depth = true := (Bool.and_eq_true_iff.1 hdm).2
      have hdd' : -1073741823 ≤ depth ∧ depth ≤ 1073741823 := by simpa [dimenB] using hdd
      have hR := Lib.hid (bestRun hm hs)
      have hr := check_right (colP_check hck)
      have hnb : ∀ x ∈ itemsP L, NdB (nth L x) := fun x hx => nb_of (hr _ (by rw [nth_get (hs.lt x hx).2]; exact List.getElem_mem _))
      have hsl : (itemsP L).length ≤ 2001 := by have := hs.len; have := (checkC_zero (colP_check hck)).1; omega
      have HC : Hid (∀ (i : Nat) (hi : i < (legalP L (itemsP L)).length) W, Below w.heap.size w W → Calls Try.prog 42 #[.slice p0 L.length cap, .int .i64 ((legalP L (itemsP L))[i].1 : Int), .int .i64 height, .int .i64 depth] W fun e w' => e = .returned (.tuple #[.int .i64 (cB L (itemsP L) height depth (legalP L (itemsP L))[i]), .int .i64 0]) ∧ Below W.heap.size W w') := Lib.hid fun i hi W hb => by
        have := vCost p0 b off cap L (itemsP L) Hs.out ((legalP L (itemsP L))[i].1 : Int) height depth W (HN.out.below hb)
        have hr : costR L (itemsP L) ((legalP L (itemsP L))[i].1 : Int) height depth = (cB L (itemsP L) height depth (legalP L (itemsP L))[i], 0) := by
          unfold costR
          rw [if_pos hck, findB_at hs hi rfl, costF, if_pos hdm]
          rfl
        rwa [hr] at this
      have HS : Hid (∀ W, Below w.heap.size w W → Calls Try.prog 38 #[.slice p0 L.length cap, .int .i64 ((legalP L (itemsP L))[m]'hmlt).1, .int .i64 depth] W fun e w' => e = .returned (.tuple #[.agg (measP L (itemsP L) ((legalP L (itemsP L))[m]'hmlt).1 depth).1.arr, .int .i64 (measP L (itemsP L) ((legalP L (itemsP L))[m]'hmlt).1 depth).2, .int .i64 0]) ∧ Below W.heap.size W w') := Lib.hid fun W hb => by
        have := vsize p0 b off cap L (itemsP L) Hs.out ((legalP L (itemsP L))[m]'hmlt).1 depth W (HN.out.below hb)
        rwa [size_at hck (legalP_at hm.lt).1 hdd] at this
      have hmb := meas_bound (L := L) (((legalP L (itemsP L))[m]'hmlt).1) hnb hsl hdd'
      have hA : bA (bestO L (itemsP L) height depth) = (((legalP L (itemsP L))[m]'hmlt).1 : Int) := by rw [hm.best]; rfl
      have hS : bS (bestO L (itemsP L) height depth) = (measP L (itemsP L) ((legalP L (itemsP L))[m]'hmlt).1 depth).1.nat + (measP L (itemsP L) ((legalP L (itemsP L))[m]'hmlt).1 depth).2 := by rw [hm.best]; rfl
      have hL : bL (bestO L (itemsP L) height depth) = cB L (itemsP L) height depth ((legalP L (itemsP L))[m]'hmlt) := by rw [hm.best]; rfl
      simp only [hA, hS, hL] at HB
      rw [hck]
      have hlenP : (legalP L (itemsP L)).length ≤ 2001 := by
        have h1 := legalP_len L (itemsP L)
        have h2 := hs.len
        have h3 := (checkC_zero (colP_check hck)).1
        omega
      generalize measP L (itemsP L) ((legalP L (itemsP L))[m]'hmlt).1 depth = md at HB HS hmb
      clear hA hS hL hdd hdd' hs hbr hlr hm hck hdm hr hnb hsl Hs
      generalize cB L (itemsP L) height depth = C at HB HC hR
      generalize legalP L (itemsP L) = P at *
      obtain ⟨am, ham⟩ : ∃ am : Int, ((P[m]'hmlt).1 : Int) = am := ⟨_, rfl⟩
      obtain ⟨cm, hcm⟩ : ∃ cm : Int, C (P[m]'hmlt) = cm := ⟨_, rfl⟩
      simp only [ham, hcm] at HB HS
      have Ham := Lib.hid ham
      have Hcm := Lib.hid hcm
      clear ham hcm
      go_wp2_with fail
      refine (HB.out _ hb2).mono ?_
      clear HB
      rintro e w3 ⟨rfl, hb3⟩
      have hb03 := hb2.trans (hb3.mono hb2.size)
      have hv3 := ownsRow_below HV.out hb3
      have hu3 := ownsRow_below HU.out hb3
      obtain ⟨pv, cv, rfl⟩ := owns_form hv3
      obtain ⟨pu, cu, rfl⟩ := owns_form hu3
      have HV3 := Lib.hid hv3
      have HU3 := Lib.hid hu3
      have hla : (atsP P).length = P.length := by simp [atsP]
      have hlp : (pensP P).length = P.length := by simp [pensP]
      obtain ⟨⟨m1, m2⟩, m3, m4⟩ := hmb
      obtain ⟨T, D⟩ := md
      simp only at m1 m2 m3 m4 HS
      clear hb2 hb3 HV HU hv3 hu3
      go_wp2_with (first | (go_at_call 14; refine (num11_any _ _).mono ?_; rintro e w' ⟨rfl, rfl⟩) | (go_at_call 15; refine (knows_any _).mono ?_; rintro e w4 ⟨rfl, hb4⟩))
      have hb04 := hb03.trans (hb4.mono hb03.size)
      have HV4 := Lib.hid (ownsRow_below HV3.out hb4)
      have HU4 := Lib.hid (ownsRow_below HU3.out hb4)
      clear HV3 HU3 hb03 hb4
      go_loopg [14, 15] (P.length + 1) (fun gg t14 t15 wr => ∃ i : Nat, gg = P.length + 1 - i ∧ i ≤ P.length ∧ t14 = .bool (decide (m < i)) ∧ t15 = .int .i64 i ∧ (∀ k, (hk : k < P.length) → k < i → stopC C P[k] = false) ∧ Below w4.heap.size w4 wr)
      case atStart => exact ⟨0, rfl, Nat.zero_le _, by simp, rfl, fun k _ h => absurd h (Nat.not_lt_zero _), .refl _ _⟩
      case round =>
        obtain ⟨i, rfl, hi, rfl, rfl, hst, hbl⟩ := hrel
        have hi1 : (0 : Int) ≤ (i : Int) := by omega
        by_cases hin : i < P.length
        · have hi2 : (i : Int) < (P.length : Int) := by omega
          have hb0l := hb04.trans (hbl.mono hb04.size)
          have HCi := Lib.hid (HC.out i hin _ hb0l)
          obtain ⟨gv, rfl, cv1⟩ := zin_get (ownsRow_below HV4.out hbl) (i := i) (by omega)
          rw [ats_get hin] at cv1
          have Hst := Lib.hid hst
          clear hst
          obtain ⟨gu, rfl, cu1⟩ := zin_get (ownsRow_below HU4.out hbl) (i := i) (by omega)
          rw [pens_get hin] at cu1
          rcases Nat.lt_trichotomy i m with him | him | him
          · obtain ⟨hs1, hc1⟩ := hR.out.ahead i hin him
            have hne : ((P[i].1 : Int) == am) = false := by
              rw [beq_eq_false_iff_ne, ← Ham.out]
              intro e
              exact absurd (hR.out.inj i m hin hmlt (by exact_mod_cast e)) (by omega)
            have hmet : decide (m < i) = false := by simp; omega
            have Hnx := Lib.hid (show ∀ k, (hk : k < P.length) → k < i + 1 → stopC C P[k] = false from fun k hk hki => by
              rcases Nat.lt_or_eq_of_le (Nat.le_of_lt_succ hki) with h | h
              · exact Hst.out k hk h
              · subst h; exact hs1)
            have hq1 : ¬ P[i].2 ≤ -10000 := by simp only [stopC, Bool.or_eq_false_iff, decide_eq_false_iff_not] at hs1; exact hs1.1
            have hq2 : (C P[i] == 1073741823) = false := by simp only [stopC, Bool.or_eq_false_iff] at hs1; exact hs1.2
            have hc2 : ¬ C P[i] < cm := by rw [← Hcm.out]; omega
            rw [hmet]
            have Hmet := Lib.hid hmet
            have Him := Lib.hid him
            clear hmet hs1 hc1 Hst
            generalize (P[i].1 : Int) = ai at HCi cv1 hne
            generalize C P[i] = ci at HCi hq2 hc2
            generalize P[i].2 = qi at cu1 hq1
            go_wp2_with (first | (go_at_call 14; refine (num11_any _ _).mono ?_; rintro e w' ⟨rfl, rfl⟩) | (go_at_call 42; refine HCi.out.mono ?_; rintro e w5 ⟨rfl, hb5⟩; (have cv5 := cell_below cv1 hb5); (have cu5 := cell_below cu1 hb5)))
            go_roundg (P.length + 1 - (i + 1))
            case measure => omega
            case rel => exact ⟨i + 1, rfl, hin, by have := Him.out; simp; omega, by go_num, Hnx.out, hbl.trans (hb5.mono hbl.size)⟩
          · subst him
            have hnx : stopC C P[i] = false → ∀ k, (hk : k < P.length) → k < i + 1 → stopC C P[k] = false := fun hs1 k hk hki => by
              rcases Nat.lt_or_eq_of_le (Nat.le_of_lt_succ hki) with h | h
              · exact Hst.out k hk h
              · subst h; exact hs1
            have Hnx := Lib.hid hnx
            have hst : stopC C P[i] = (decide (P[i].2 ≤ -10000) || C P[i] == 1073741823) := rfl
            have HSt := Lib.hid hst
            have hw : -9223372036854775808 ≤ T.nat + D ∧ T.nat + D ≤ 9223372036854775807 := by omega
            clear hnx hst Hst
            rw [Ham.out] at HCi cv1
            rw [Hcm.out] at HCi HSt
            generalize P[i].2 = qi at cu1 HSt
            go_wp2_with (first | (go_at_call 14; refine (num11_any _ _).mono ?_; rintro e w' ⟨rfl, rfl⟩) | (go_at_call 42; refine HCi.out.mono ?_; rintro e w5 ⟨rfl, hb5⟩; (have cv5 := cell_below cv1 hb5); (have cu5 := cell_below cu1 hb5)) | (go_at_call 38; refine (HS.out _ (hb0l.trans (hb5.mono hb0l.size))).mono ?_; rintro e w6 ⟨rfl, hb6⟩; (have cu6 : (w6.alloc (.cells T.arr 68)).cell? ⟨gu, i, none⟩ = some (.int .i64 qi) := cell_below (cell_below cu5 hb6) ((Below.refl _ _).alloc (Nat.le_refl _) _)); (have aT : TAt (w6.alloc (.cells T.arr 68)) w6.heap.size T := heap_alloc_new w6 _); (have xT := aT.cell 0 (.int .i64 T.nat) rfl)))
            all_goals
              have hbA : Below wr.heap.size wr (w6.alloc (.cells T.arr 68)) := (hb5.trans (hb6.mono hb5.size)).alloc (Nat.le_trans hb5.size hb6.size) _
            · go_ret
              exact ⟨rfl, hb0l.trans (hbA.mono hb0l.size)⟩
            · go_ret
              exact ⟨rfl, hb0l.trans (hbA.mono hb0l.size)⟩
            · rename_i h1 h2
              go_roundg (P.length + 1 - (i + 1))
              case measure => omega
              case rel => exact ⟨i + 1, rfl, hin, by simp, by go_num, Hnx.out (by rw [HSt.out, h2.1, decide_eq_false (by omega)]; rfl), hbl.trans (hbA.mono hbl.size)⟩
          · have hc1 := hR.out.behind i hin him Hst.out
            have hne : ((P[i].1 : Int) == am) = false := by
              rw [beq_eq_false_iff_ne, ← Ham.out]
              intro e
              exact absurd (hR.out.inj i m hin hmlt (by exact_mod_cast e)) (by omega)
            have hmet : decide (m < i) = true := by simp; omega
            have hnx : stopC C P[i] = false → ∀ k, (hk : k < P.length) → k < i + 1 → stopC C P[k] = false := fun hs1 k hk hki => by
              rcases Nat.lt_or_eq_of_le (Nat.le_of_lt_succ hki) with h | h
              · exact Hst.out k hk h
              · subst h; exact hs1
            have Hnx := Lib.hid hnx
            have hst : stopC C P[i] = (decide (P[i].2 ≤ -10000) || C P[i] == 1073741823) := rfl
            have HSt := Lib.hid hst
            have hc2 : ¬ C P[i] < cm := by rw [← Hcm.out]; omega
            have hc3 : ¬ C P[i] ≤ cm := by rw [← Hcm.out]; omega
            rw [hmet]
            have Him := Lib.hid him
            clear hmet hnx hst Hst hc1
            generalize (P[i].1 : Int) = ai at HCi cv1 hne
            generalize C P[i] = ci at HCi HSt hc2 hc3
            generalize P[i].2 = qi at cu1 HSt
            go_wp2_with (first | (go_at_call 14; refine (num11_any _ _).mono ?_; rintro e w' ⟨rfl, rfl⟩) | (go_at_call 42; refine HCi.out.mono ?_; rintro e w5 ⟨rfl, hb5⟩; (have cv5 := cell_below cv1 hb5); (have cu5 := cell_below cu1 hb5)))
            · go_ret
              exact ⟨rfl, hb0l.trans (hb5.mono hb0l.size)⟩
            · go_ret
              exact ⟨rfl, hb0l.trans (hb5.mono hb0l.size)⟩
            · rename_i h0 h1 h2 h3
              go_roundg (P.length + 1 - (i + 1))
              case measure => omega
              case rel => exact ⟨i + 1, rfl, hin, by have := Him.out; simp; omega, by go_num, Hnx.out (by rw [HSt.out, h2.1, decide_eq_false (by omega)]; rfl), hbl.trans (hb5.mono hbl.size)⟩
        · obtain rfl : i = P.length := by omega
          exact absurd (fun k hk => hst k hk hk) hR.out.last
    · have hbr : bestR L (itemsP L) height depth = (none, 11) := by unfold bestR; rw [if_pos hck, if_neg hdm]
      rw [hbr] at HB
      rw [hck]
      simp only [bA, bS, bL] at HB
      clear hbr Hs
      go_wp2_with fail
      refine (HB.out _ hb2).mono ?_
      clear HB
      rintro e w3 ⟨rfl, hb3⟩
      have hb03 := hb2.trans (hb3.mono hb2.size)
      clear hb2 hb3 HV HU
      go_wp2_with (first | (go_at_call 14; refine (num11_any _ _).mono ?_; rintro e w' ⟨rfl, rfl⟩) | (go_at_call 15; refine (knows_any _).mono ?_; rintro e w4 ⟨rfl, hb4⟩))
      go_ret
      exact ⟨rfl, hb03.trans (hb4.mono hb03.size)⟩
  · have hbr : bestR L (itemsP L) height depth = (none, colP L (itemsP L)) := by unfold bestR; rw [if_neg hck]
    rw [hbr] at HB
    simp only [bA, bS, bL] at HB
    have hck' : ((colP L (itemsP L) : Int) != 0) = true := by simpa using hck
    generalize colP L (itemsP L) = k at HB hck'
    clear hck
    clear hbr Hs
    go_wp2_with fail
    refine (HB.out _ hb2).mono ?_
    clear HB
    rintro e w3 ⟨rfl, hb3⟩
    have hb03 := hb2.trans (hb3.mono hb2.size)
    clear hb2 hb3 HV HU
    go_wp2_with (first | (go_at_call 14; refine (num11_any _ _).mono ?_; rintro e w' ⟨rfl, rfl⟩) | (go_at_call 15; refine (knows_any _).mono ?_; rintro e w4 ⟨rfl, hb4⟩))
    go_ret
    exact ⟨rfl, hb03.trans (hb4.mono hb03.size)⟩
end Go.Proofs.Ytkkdopfdoommnaa
