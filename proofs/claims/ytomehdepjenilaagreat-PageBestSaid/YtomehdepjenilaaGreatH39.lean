/-
  The law PageBest: the walk.
-/
import Derived.Test.YtomehdepjenilaaGreatL6
import Derived.Test.YtomehdepjenilaaGreatH38
import Derived.Test.YtomehdepjenilaaGreatH28
namespace Go.Proofs.YtomehdepjenilaaGreat
open Go.ChangeShapes Go.WideShapes Go.ChangeAt Go.RowKit
theorem rem_in (x : Int) {M : Int} (h0 : 0 < M) (h1 : M ≤ 1000000000) : 0 ≤ (wrap64 (x.tmod M + M)).tmod M ∧ (wrap64 (x.tmod M + M)).tmod M < M := by
  have a1 := Int.tmod_lt_of_pos x h0
  have a2 := Int.lt_tmod_of_pos x h0
  rw [wrap_13 (by omega)]
  exact ⟨Int.tmod_nonneg _ (by omega), Int.tmod_lt_of_pos _ h0⟩
theorem goal_best {H D : Int} (h1 : 1 ≤ H ∧ H ≤ 1073741823) (h2 : 0 ≤ D ∧ D ≤ 1073741823) : goalC ⟨H, D, ⟨0, 0, 0, 0, 0⟩, []⟩ = 0 := by
  unfold goalC dimenB
  rw [decide_eq_true (show -1073741823 ≤ H ∧ H ≤ 1073741823 by omega), decide_eq_true (show -1073741823 ≤ D ∧ D ≤ 1073741823 by omega), decide_eq_true (show 0 < H by omega)]
  rfl
theorem own_ask {g : Gr} {L : List Nd} {own : List Nd} {cost : Int} : ∀ (rest : List (Nat × Int)), lawB L g own cost rest false = true → ∃ pre x r, rest = pre ++ x :: r ∧ aheadL L x.1 = own ∧ lawB L g own cost (x :: r) false = true
  | [], h => by cases h
  | x :: r, h => by
    by_cases ho : aheadL L x.1 = own
    · exact ⟨[], x, r, rfl, ho, h⟩
    · have h9 := h
      rw [lawB] at h9
      have key : lawB L g own cost r false = true := by
        split at h9
        · exact h9
        · split at h9
          · cases h9
          · split at h9
            · cases h9
            · split at h9
              · cases h9
              · exact h9
      obtain ⟨pre, y, t, e, h1, h2⟩ := own_ask r key
      exact ⟨x :: pre, y, t, by rw [e]; rfl, h1, h2⟩
@[go_sem] theorem run_bdGlK0 (w : World) : (bdGlK #[]).run Tryz.prog w = .ok (.agg Gl.zero.arr) w := by kernel_rfl
theorem atsP_len (l : List (Nat × Int)) : (atsP l).length = l.length := by simp [atsP]
theorem pensP_len (l : List (Nat × Int)) : (pensP l).length = l.length := by simp [pensP]
theorem law_use {g : Gr} {L : List Nd} {own : List Nd} {cost : Int} {x : Nat × Int} {r : List (Nat × Int)} {met : Bool} (h : lawB L g own cost (x :: r) met = true) (hne : x.1 ≠ L.length) {ah : List Nd} {c : Int} (ha : aheadL L x.1 = ah) (hc : costL g ah x.2 = c) :
    ((ah = [] ∨ firmL ah = false) ∧ lawB L g own cost r met = true) ∨ (¬ (ah = [] ∨ firmL ah = false) ∧ ((ah = own ∧ c = cost ∧ ((c = 1073741823 ∨ x.2 ≤ -10000) ∨ (¬ (c = 1073741823 ∨ x.2 ≤ -10000) ∧ lawB L g own cost r true = true))) ∨ (ah ≠ own ∧ ¬ (c < cost ∨ (met = true ∧ c ≤ cost ∧ c < 1073741823)) ∧ (((c = 1073741823 ∨ x.2 ≤ -10000) ∧ met = true) ∨ (¬ (c = 1073741823 ∨ x.2 ≤ -10000) ∧ lawB L g own cost r met = true))))) := by
  subst ha
  subst hc
  rw [lawB] at h
  split at h
  · rename_i h1
    exact .inl ⟨h1, h⟩
  · rename_i h1
    refine .inr ⟨h1, ?_⟩
    split at h
    · rename_i h2
      split at h
      · rename_i h3
        refine .inl ⟨h2, h3, ?_⟩
        split at h
        · rename_i h4
          exact .inl h4
        · rename_i h4
          exact .inr ⟨h4, h⟩
      · cases h
    · rename_i h2
      split at h
      · cases h
      · rename_i h3
        refine .inr ⟨h2, h3, ?_⟩
        split at h
        · rename_i h4
          exact .inl ⟨h4, h⟩
        · rename_i h4
          exact .inr ⟨h4, h⟩
set_option maxRecDepth 100000 in
set_option maxHeartbeats 16000000 in
theorem best13_walk (hh dd : Int) (p0 : Option Addr) (b off cap : Nat) (L : List Nd) (w : World) (hN : NIn w p0 b off cap L) : Calls Tryz.prog 4 #[.int .i64 hh, .int .i64 dd, .slice p0 L.length cap] w fun e w' => e = .returned (.bool true) ∧ Below w.heap.size w w' := by
  have H := Lib.hid hN
  have hlen := hN.len
  have HG := Lib.hid goals13
  have HNew := Lib.hid new_none
  have HNum := Lib.hid num13
  have HKn := Lib.hid knows13
  clear hN
  go_enter Tryz.func4, Tryz.ntmps4
  go_upto_region 2 with (fail)
  obtain ⟨r1, r2⟩ := rem_in hh (M := 16777216) (by decide) (by decide)
  obtain ⟨d1, d2⟩ := rem_in dd (M := 1048576) (by decide) (by decide)
  obtain ⟨Dz, hD⟩ : ∃ D, (wrap64 (dd.tmod 1048576 + 1048576)).tmod 1048576 = D := ⟨_, rfl⟩
  obtain ⟨Hz, hH⟩ : ∃ H, wrap64 (1 + (wrap64 (hh.tmod 16777216 + 16777216)).tmod 16777216) = H := ⟨_, rfl⟩
  have hHb : 1 ≤ Hz ∧ Hz ≤ 16777216 := by rw [← hH, wrap_13 (by omega)]; omega
  have hDb : 0 ≤ Dz ∧ Dz ≤ 1048576 := by rw [← hD]; omega
  rw [hH, hD]
  clear hH hD r1 r2 d1 d2
  have hY := Cb.new w (Gp.mk Hz Dz ⟨0, 0, 0, 0, 0⟩ none 0 0).arr 26
  have hb1 : Below w.heap.size w (w.alloc (.cells (Gp.mk Hz Dz ⟨0, 0, 0, 0, 0⟩ none 0 0).arr 26)) := (Below.refl _ _).alloc (Nat.le_refl _) _
  generalize w.alloc (.cells (Gp.mk Hz Dz ⟨0, 0, 0, 0, 0⟩ none 0 0).arr 26) = w1 at hY hb1 ⊢
  obtain ⟨Y, hYz⟩ : ∃ Y, w.heap.size = Y := ⟨_, rfl⟩
  rw [hYz] at hY
  simp only [hYz]
  clear hYz
  have HYc := Lib.hid hY
  have ya : agg? w1 Y 0 8 = some (Gp.mk Hz Dz ⟨0, 0, 0, 0, 0⟩ none 0 0).arr := hY.agg 0 8 (by rw [Gp.size_arr]; decide)
  have Hb1 := Lib.hid hb1
  have hgc : goalC ⟨Hz, Dz, ⟨0, 0, 0, 0, 0⟩, []⟩ = 0 := goal_best (by omega) (by omega)
  have Hgc := Lib.hid hgc
  clear hY hb1 hgc
  go_upto_region 3 with (first | (go_at_call 10; refine (HG.out _ _ _).mono ?_; rintro e w2 ⟨rfl, hb2⟩) | (go_at_call 9; refine (HNew.out _ _ _ _).mono ?_; rintro e w3 hNp; obtain ⟨B, bb, cc, rr, rfl, hB⟩ := hNp.good Hgc.out; have hb3 := hNp.below; clear hNp))
  have HB := Lib.hid hB
  have hbw : Below w.heap.size w w3 := (Hb1.out.trans (hb2.mono Hb1.out.size)).trans (hb3.mono (Nat.le_trans Hb1.out.size hb2.size))
  have HY3 := Lib.hid ((HYc.out.below hb2).below (hb3))
  have Hbw := Lib.hid hbw
  have hge : w.heap.size ≤ w2.heap.size := Nat.le_trans Hb1.out.size hb2.size
  have hYw2 : Y < w2.heap.size := Nat.lt_of_lt_of_le HYc.out.lt hb2.size
  clear hB hbw hb2 hb3 ya HG HNew HYc Hb1 Hgc
  go_wp2_with fail
  go_loopg [10] (L.length + 1) (fun gg t10 wr => ∃ i : Nat, gg = L.length + 1 - i ∧ i ≤ L.length ∧ t10 = .int .i64 i ∧ (∀ j, j < i → (nth L j).kind ≠ 13) ∧ wr = w3)
  case atStart => exact ⟨0, rfl, Nat.zero_le _, rfl, fun j hj => by omega, rfl⟩
  case round =>
    obtain ⟨i, rfl, hi, rfl, h13, rfl⟩ := hrel
    have hi0 : (0 : Int) ≤ (i : Int) := by omega
    have H13 := Lib.hid h13
    clear h13
    by_cases hlt : i < L.length
    · have hi1 : (i : Int) < (L.length : Int) := by omega
      have hN3 := H.out.below Hbw.out
      have xk := agg_cell (hN3.nth hlt) 0 _ (Nd.get0 _)
      rw [Nat.add_zero] at xk
      have hne : L ≠ [] := fun e => by rw [e] at hlt; simp at hlt
      obtain rfl := hN3.hp hne
      obtain ⟨kd, hkd⟩ : ∃ kd, (nth L i).kind = kd := ⟨_, rfl⟩
      rw [hkd] at xk
      have Hkd := Lib.hid hkd
      clear hN3 hkd hne
      cases e13 : (kd == 13)
      · have n13 : kd ≠ 13 := by simpa using e13
        have Hn13 := Lib.hid n13
        clear n13
        go_wp2_with fail
        go_roundg (L.length + 1 - (i + 1))
        case measure => omega
        case rel => exact ⟨i + 1, rfl, by omega, by go_num, fun j hj => by
          by_cases e : j = i
          · subst e; rw [Hkd.out]; exact Hn13.out
          · exact H13.out j (by omega), rfl⟩
      · go_wp2_with (go_at_call 13; refine (HKn.out _).mono ?_; rintro e w5 ⟨rfl, hb5⟩)
        go_ret
        exact ⟨rfl, Hbw.out.trans (hb5.mono Hbw.out.size)⟩
    · have hiL : i = L.length := by omega
      subst hiL
      have hi1 : ¬ (L.length : Int) < (L.length : Int) := by omega
      have H13L : Hid (∀ n ∈ L, n.kind ≠ 13) := Lib.hid fun n hn => by
        obtain ⟨j, hj, e⟩ := List.getElem_of_mem hn
        have := H13.out j hj
        rw [nth_get hj, e] at this
        exact this
      obtain ⟨C, hC⟩ : ∃ C, colP L (itsP L) = C := ⟨_, rfl⟩
      have HC := Lib.hid hC
      have HCk : Hid (∀ W, Below w.heap.size w W → Calls Tryz.prog 12 #[.slice p0 L.length cap] W fun e w' => e = .returned (.int .i64 C) ∧ Below W.heap.size W w') := Lib.hid fun W hb => by
        rw [← hC]
        exact qcolumn p0 b off cap L (itsP L) (its_ok L) W (H.out.below hb)
      clear hC H13 hlt hi0
      by_cases hC0 : C = 0
      · subst hC0
        have hcol : colP L (itsP L) = 0 := HC.out
        have Hcol := Lib.hid (And.intro hcol (And.intro H13L.out (checkC_zero (colP_check hcol)).1))
        obtain ⟨g, hg⟩ : ∃ g : Gr, (⟨Hz, Dz, ⟨0, 0, 0, 0, 0⟩, []⟩ : Gr) = g := ⟨_, rfl⟩
        rw [hg] at HB
        have hgt : g.top = .zero := by rw [← hg]; rfl
        have hgH : g.height = Hz := by rw [← hg]
        have hgD : g.depth = Dz := by rw [← hg]
        have Hg := Lib.hid (And.intro hgt (And.intro hgH hgD))
        clear hg hcol H13L HC hgt hgH hgD
        go_upto_region 10 with (first
          | (go_at_call 11; refine (HNum.out _ _).mono ?_; rintro e wf ⟨rfl, hf⟩; rw [hf]; clear hf)
          | (go_at_call 12; refine (HCk.out _ Hbw.out).mono ?_; rintro e w5 ⟨rfl, hb5⟩)
          | (go_at_call 13; refine (HKn.out _).mono ?_; rintro e w6 ⟨rfl, hb6⟩))
        have hb36 := hb5.trans (hb6.mono hb5.size)
        have hB6 : BdR w6 w2.heap.size B rr bb cc g ⟨#[]⟩ [] (freshR g.height) := by rw [Hg.out.2.1]; exact HB.out.below hb36
        have HOw := Lib.hid HB.out.sht.own
        have HY6 := Lib.hid (HY3.out.below hb36)
        have Hbw6 := Lib.hid (Hbw.out.trans (hb36.mono Hbw.out.size))
        have hpc : putC L ⟨freshS g, [], ⟨#[]⟩⟩ = 0 := by
          unfold putC
          rw [if_pos Hcol.out.1, if_neg]
          show ¬ 2000 < L.length + (0 + 0)
          have := Hcol.out.2.2
          omega
        have HPut := Lib.hid (put_ok g (Inv0 600000000000) (run_zero ⟨by rw [Hg.out.1]; decide, by rw [Hg.out.1]; decide⟩ false (Nat.le_refl _)) w6 w2.heap.size B rr bb cc ⟨freshS g, [], ⟨#[]⟩⟩ hB6 p0 b off cap L (H.out.below Hbw6.out) (Nat.zero_le _) (Nat.zero_le _) fun _ => inv_first Hcol.out.1 Hcol.out.2.1 _)
        have Hpc := Lib.hid hpc
        clear hb5 hb6 hb36 hB6 hpc HB HY3 Hbw HCk HKn
        go_upto_region 11 with (go_at_call 14; refine HPut.out.mono ?_; clear HPut; rintro e w7 ⟨v9, rfl, hcase⟩; rw [Hpc.out])
        obtain ⟨σ', out, hct, hcr⟩ : ∃ σ' out, ComeTo g false ⟨freshS g, itemsOf L, ⟨#[]⟩⟩ [] σ' out ∧ ComeR w6 w2.heap.size B rr g σ' v9 out w7 := by
          rcases hcase with ⟨h1, _⟩ | ⟨_, σ', out, h2, _, h3⟩
          · exact absurd Hpc.out h1
          · exact ⟨σ', out, h2, h3⟩
        obtain ⟨⟨b9, c9, r9, Ts, hB9, _, hP9⟩, hf9⟩ := hcr
        have hb67 : Below w.heap.size w6 w7 := hf9.below Hbw6.out.size fun k ⟨i, e⟩ => by
          have := (HOw.out.lt i k e).1
          omega
        obtain ⟨pv, cv, rfl⟩ := owns_form hP9.row
        have Hbw7 := Lib.hid (Hbw6.out.trans hb67)
        have HY7 := Lib.hid (HY6.out.frm hf9 fun ⟨i, e⟩ => by have := (HOw.out.lt i Y e).1; omega)
        cases out with
        | nil =>
          have hT0 : Ts = [] := List.length_eq_zero_iff.1 hP9.len
          subst hT0
          clear hP9 hf9 hB9 hct hcase hb67
          go_wp2_with (go_at_call 11; refine (HNum.out _ _).mono ?_; rintro e wf ⟨rfl, hf⟩; rw [hf]; clear hf)
          go_ret
          exact ⟨rfl, Hbw7.out⟩
        | cons pg ps =>
          obtain ⟨T, tt, rfl⟩ : ∃ T tt, Ts = T :: tt := by
            cases Ts with
            | nil => have := hP9.len; cases this
            | cons T tt => exact ⟨T, tt, rfl⟩
          obtain ⟨gp, rfl⟩ : ∃ gp, pv = some ⟨gp, 0, none⟩ := by
            rcases hP9.row.2 with ⟨e, h0⟩ | ⟨g9, cap9, cur9, e, _⟩
            · cases h0
            · simp only [Value.slice.injEq] at e
              exact ⟨g9, e.1⟩
          have a0 := ownk_at pc_len hP9.row 0 (Nat.zero_lt_succ _)
          have hpg := hP9.pg 0 T pg rfl rfl
          have y0 := agg_cell a0 0 _ (Pc.get0 T)
          have y4 := agg_cell a0 4 _ (Pc.get4 T)
          have elen := owns_len hpg.box
          rw [elen] at y0
          rw [hpg.cost] at y4
          simp only [Nat.zero_mul, Nat.zero_add] at y0 y4
          have hlaw := law_best Hg.out.1 (by rw [Hg.out.2.1]; omega) (by rw [Hg.out.2.2]; omega) Hcol.out.1 Hcol.out.2.1 hct
          have hboxl : pg.box.length ≤ 2000 := by
            obtain ⟨pre, y, t, e1, e2, e3⟩ := own_ask _ hlaw
            rw [← e2]
            exact (ask_at Hcol.out.1 Hcol.out.2.1 e1 e3).alen
          obtain ⟨_, pb, qb, cb, eb, hNb, _⟩ := row_nodes hpg.box (by omega)
          simp only [Value.slice.injEq] at eb
          obtain ⟨eba, _, ebc⟩ := eb
          rw [← eba, ← ebc] at hNb
          have HLaw := Lib.hid hlaw
          have HLeg := Lib.hid (qlegal p0 b off cap L (itsP L) (its_ok L) w7 (H.out.below Hbw7.out))
          have hTl : 0 < (T :: tt).length := Nat.zero_lt_succ _
          obtain ⟨tl, htl⟩ : ∃ n, (T :: tt).length = n := ⟨_, rfl⟩
          rw [htl] at hTl
          have hgpl : gp < w7.heap.size := (hP9.row.lt gp rfl).2
          have HNb := Lib.hid hNb
          clear hP9 hf9 hB9 hct hcase hb67 a0 hpg elen eba ebc hNb hlaw
          simp only [htl]
          clear htl
          go_upto_region 15 with (first
            | (go_at_call 11; refine (HNum.out _ _).mono ?_; rintro e wf ⟨rfl, hf⟩; rw [hf]; clear hf)
            | (go_at_call 17; refine HLeg.out.mono ?_; clear HLeg; rintro e w8 ⟨⟨v8, u8, rfl, hv8, hu8, _⟩, hb8⟩))
          obtain ⟨Lg, hLg⟩ : ∃ Lg, legalP L (itsP L) = Lg := ⟨_, rfl⟩
          have hleg : legR L (itsP L) = Lg := by unfold legR; rw [if_pos Hcol.out.1, hLg]
          have HLg := Lib.hid hLg
          have hLgl : Lg.length ≤ 2001 := by
            have h1 := legalP_len L (itsP L)
            have h2 := (its_ok L (colP_check Hcol.out.1)).len
            have h3 := Hcol.out.2.2
            rw [hLg] at h1
            omega
          rw [hLg] at HLaw
          rw [hleg] at hv8 hu8
          obtain ⟨p1, g1, c1, rfl, -, hz1⟩ := zin_of hv8
          obtain ⟨p2, g2, c2, rfl, -, hz2⟩ := zin_of hu8
          have hg1 : ∀ k, (Value.slice p1 (atsP Lg).length c1).ownBlock = some k → k < w8.heap.size := fun k hk => (hv8.lt k hk).2
          have hg2 : ∀ k, (Value.slice p2 (pensP Lg).length c2).ownBlock = some k → k < w8.heap.size := fun k hk => (hu8.lt k hk).2
          rw [atsP_len]
          rw [pensP_len]
          have HZ9 := Lib.hid (And.intro hz1 (And.intro hz2 (And.intro hg1 hg2)))
          have Hb8 := Lib.hid (Hbw7.out.trans (hb8.mono Hbw7.out.size))
          have HY8 := Lib.hid (HY7.out.below hb8)
          have HNb8 := Lib.hid (HNb.out.below hb8)
          have y08 := (World.cell?_of_block (hb8.block gp hgpl)).trans y0
          have y48 := (World.cell?_of_block (hb8.block gp hgpl)).trans y4
          have hgp8 : gp < w8.heap.size := Nat.lt_of_lt_of_le hgpl hb8.size
          have HP8 := Lib.hid (And.intro y48 hgp8)
          clear hv8 hu8 hz1 hz2 hg1 hg2 hleg hLg y0 y4 y08 y48 hgpl hgp8 HNb HY7 HY6 Hbw7 hb8
          go_wp2_with fail
          go_loopg [17, 18] (Lg.length + 1) (fun gg t17 t18 wr => ∃ (met : Bool) (pre rest : List (Nat × Int)), gg = rest.length + 1 ∧ t17 = .bool met ∧ t18 = .int .i64 pre.length ∧ Lg = pre ++ rest ∧ lawB L g pg.box pg.cost rest met = true ∧ Below w8.heap.size w8 wr)
          case atStart => exact ⟨false, [], Lg, rfl, rfl, rfl, rfl, HLaw.out, Below.refl _ _⟩
          case round =>
            obtain ⟨met, pre, rest, rfl, rfl, rfl, hpre, hlw, hbr⟩ := hrel
            cases rest with
            | nil => cases hlw
            | cons x r =>
              have hA := ask_at Hcol.out.1 Hcol.out.2.1 (HLg.out.trans hpre) hlw
              have HA := Lib.hid hA
              have HLw := Lib.hid hlw
              have Hpre := Lib.hid hpre
              have hpl : pre.length < Lg.length := by rw [hpre]; simp
              have hx1 : (atsP Lg)[pre.length]'(by rw [atsP_len]; exact hpl) = (x.1 : Int) := by simp [atsP, hpre]
              have hx2 : (pensP Lg)[pre.length]'(by rw [pensP_len]; exact hpl) = x.2 := by simp [pensP, hpre]
              have hne1 : atsP Lg ≠ [] := fun e => by have := atsP_len Lg; rw [e] at this; simp at this; omega
              have hne2 : pensP Lg ≠ [] := fun e => by have := pensP_len Lg; rw [e] at this; simp at this; omega
              obtain rfl := HZ9.out.1.hp hne1
              obtain rfl := HZ9.out.2.1.hp hne2
              have x1 := HZ9.out.1.at_ pre.length (by rw [atsP_len]; exact hpl)
              have x2 := HZ9.out.2.1.at_ pre.length (by rw [pensP_len]; exact hpl)
              rw [hx1] at x1
              rw [hx2] at x2
              have l1 : g1 < w8.heap.size := HZ9.out.2.2.1 g1 rfl
              have l2 : g2 < w8.heap.size := HZ9.out.2.2.2 g2 rfl
              have HX : Hid (∀ W, Below wr.heap.size wr W → W.cell? ⟨g1, pre.length, none⟩ = some (.int .i64 x.1) ∧ W.cell? ⟨g2, pre.length, none⟩ = some (.int .i64 x.2) ∧ W.cell? ⟨gp, 4, none⟩ = some (.int .i64 pg.cost) ∧ W.cell? ⟨Y, 0, none⟩ = some (.int .i64 Hz) ∧ W.cell? ⟨Y, 1, none⟩ = some (.int .i64 Dz) ∧ NIn W T.boxA qb 0 T.boxC pg.box ∧ Below w.heap.size w W) := Lib.hid fun W hb => by
                have hbW := hbr.trans (hb.mono hbr.size)
                exact ⟨(World.cell?_of_block (hbW.block g1 l1)).trans x1, (World.cell?_of_block (hbW.block g2 l2)).trans x2, (World.cell?_of_block (hbW.block gp HP8.out.2)).trans HP8.out.1, (HY8.out.below hbW).cell 0 _ (Gp.get0 _), (HY8.out.below hbW).cell 1 _ (Gp.get1 _), HNb8.out.below hbW, Hb8.out.trans (hbW.mono Hb8.out.size)⟩
              have Hbr := Lib.hid hbr
              clear hx1 hx2 hne1 hne2 x1 x2 l1 l2 hlw hpre hA hbr
              obtain ⟨x1, x2, -, -, -, -, -⟩ := HX.out wr (Below.refl _ _)
              have hpl0 : (0 : Int) ≤ (pre.length : Int) := by omega
              have hpl1 : (pre.length : Int) < (Lg.length : Int) := by omega
              have hLne : L ≠ [] := fun e => by have := HA.out.lt; rw [e] at this; simp at this
              have hNr := H.out.below ((HX.out wr (Below.refl _ _)).2.2.2.2.2.2)
              obtain rfl := hNr.hp hLne
              have hcapL := hNr.cap'
              have hxlt := HA.out.lt
              have hx0 : (0 : Int) ≤ (x.1 : Int) := by omega
              have hxc : (x.1 : Int) ≤ (cap : Int) := by omega
              have hPr := qpruned (some ⟨b, off, none⟩) b off cap (L.take x.1) (itsP (L.take x.1)) .zero HA.out.its HA.out.k6 (fun y hy => check_right (colP_check Hcol.out.1) y (List.mem_of_mem_take hy)) (by rw [List.length_take]; have := Hcol.out.2.2; omega) (by decide) wr (hNr.take x.1)
              rw [show (L.take x.1).length = x.1 by rw [List.length_take]; omega] at hPr
              have HPr := Lib.hid hPr
              clear hPr hNr hLne hcapL
              go_upto_region 20 with (go_at_call 18; refine HPr.out.mono ?_; clear HPr; rintro e w9 ⟨⟨v9, rfl, hv9⟩, hb9⟩)
              obtain ⟨ah, hah⟩ : ∃ ah, aheadL L x.1 = ah := ⟨_, rfl⟩
              have hv9 : NRow wr v9 ah w9 := by rw [← hah]; exact hv9
              obtain ⟨cst, hcst⟩ : ∃ c, costL g ah x.2 = c := ⟨_, rfl⟩
              have hA9 := HA.out
              have Hq := Lib.hid hA9.q
              have huse := law_use HLw.out (by omega) hah hcst
              obtain ⟨_, _, _, _, ait, ak6, anb, alen⟩ := hA9
              rw [hah] at ait ak6 anb alen
              obtain ⟨_, pa, qa, ca, rfl, hNa, _⟩ := row_nodes hv9 (by omega)
              have HNa := Lib.hid hNa
              have HFi := Lib.hid (firm13 pa qa 0 ca ah w9 hNa ait ak6)
              have HSi : Hid (∀ W, Below w9.heap.size w9 W → Calls Tryz.prog 20 #[.slice pa ah.length ca, .int .i64 (ah.length : Nat), .int .i64 Dz] W fun e w' => e = .returned (.tuple #[.agg (measP ah (itsP ah) ah.length Dz).1.arr, .int .i64 (measP ah (itsP ah) ah.length Dz).2]) ∧ Below W.heap.size W w') := Lib.hid fun W hb => qsized pa qa 0 ca ah (itsP ah) ait ak6 anb alen ah.length (.inr rfl) Dz (by omega) W (hNa.below hb)
              have hmb := meas_bound (L := ah) (s := itsP ah) ah.length anb (by have := ait.len; omega) (depth := Dz) (by omega)
              have hcst2 : pricedP (badT (measP ah (itsP ah) ah.length Dz).1 Hz) x.2 = cst := by rw [← hcst]; unfold costL; rw [Hg.out.2.1, Hg.out.2.2]
              generalize measP ah (itsP ah) ah.length Dz = mm at HSi hmb hcst2
              obtain ⟨TT, dT⟩ := mm
              have Hmb := Lib.hid (And.intro hmb hcst2)
              have Hcst := Lib.hid hcst
              have Huse := Lib.hid huse
              have Hb9 := Lib.hid hb9
              obtain ⟨fm, hfm⟩ : ∃ f, firmL ah = f := ⟨_, rfl⟩
              rw [hfm] at HFi Huse
              obtain ⟨na, hna⟩ : ∃ n, ah.length = n := ⟨_, rfl⟩
              rw [hna] at HFi HSi
              have Hna := Lib.hid hna
              have halen : na ≤ 2000 := by omega
              simp only [hna]
              clear hv9 hah hcst huse ait ak6 anb alen hNa hmb hcst2 hb9 hfm hna
              go_upto_region 20 with (fail)
              go_cut [118] from 111 to 118 (fun s118 wx => s118 = .bool (decide (na = 0) || !fm) ∧ Below w9.heap.size w9 wx)
              case first =>
                by_cases hz0 : na = 0
                · have e0 : ((na : Int) == 0) = true := by rw [hz0]; rfl
                  have hv : Hid ((decide (na = 0) || !fm) = true) := Lib.hid (by rw [decide_eq_true hz0]; rfl)
                  clear hz0
                  go_wp2_with fail
                  go_meet
                  exact ⟨by rw [hv.out], Below.refl _ _⟩
                · have e0 : ((na : Int) == 0) = false := by simpa using hz0
                  have hv : Hid ((decide (na = 0) || !fm) = !fm) := Lib.hid (by rw [decide_eq_false hz0]; rfl)
                  go_wp2_with (go_at_call 19; refine HFi.out.mono ?_; clear HFi; rintro e w10 ⟨rfl, hb10⟩)
                  go_meet
                  exact ⟨by rw [hv.out], hb10⟩
              case rest =>
                obtain ⟨rfl, hb10⟩ := hcut
                have hb910 := Hb9.out.trans (hb10.mono Hb9.out.size)
                have HN10 := Lib.hid (HNa.out.below hb10)
                have Hb910 := Lib.hid hb910
                have Hb10 := Lib.hid hb10
                clear HFi HNa hb10 hb910
                obtain ⟨sk, hsk⟩ : ∃ s, (decide (na = 0) || !fm) = s := ⟨_, rfl⟩
                have Hsk : Hid ((ah = [] ∨ fm = false) ↔ sk = true) := Lib.hid (by
                  rw [← hsk, Bool.or_eq_true, decide_eq_true_iff, ← Hna.out]
                  cases fm <;> simp)
                rw [hsk]
                clear hsk
                cases sk
                · have hns : ¬ (ah = [] ∨ fm = false) := fun e => by have := Hsk.out.1 e; cases this
                  have huse2 := Huse.out.resolve_left fun e => hns e.1
                  have HU := Lib.hid huse2.2
                  have hS10 := HSi.out wc Hb10.out
                  have HS10 := Lib.hid hS10
                  clear hns huse2 Huse HSi hS10
                  obtain ⟨-, -, -, -, yD, -, -⟩ := HX.out wc Hb910.out
                  go_upto_region 22 with (go_at_call 20; refine HS10.out.mono ?_; clear HS10; rintro e w11 ⟨rfl, hb11⟩)
                  have hX12 : Cb (w11.alloc (.cells TT.arr 57)) w11.heap.size TT.arr 57 := Cb.new _ _ _
                  have hb12 : Below wc.heap.size wc (w11.alloc (.cells TT.arr 57)) := hb11.alloc hb11.size _
                  clear hb11 yD
                  generalize w11.alloc (.cells TT.arr 57) = w12 at hX12 hb12 ⊢
                  generalize w11.heap.size = X at hX12 ⊢
                  have hbr12 := Hb910.out.trans (hb12.mono Hb910.out.size)
                  have HBad : Hid (∀ W, Calls Tryz.prog 22 #[.agg TT.arr, .int .i64 Hz] W fun e w' => e = .returned (.int .i64 (badT TT Hz)) ∧ Below W.heap.size W w') := Lib.hid fun W => qBad TT Hz W (by omega) (by omega) (by have := Hmb.out.1.1.1; show _ ≤ TT.nat; have h9 : -9000000000000 ≤ TT.nat := this; omega) (by have := Hmb.out.1.1.2; have h9 : TT.nat ≤ 9000000000000 := this; omega)
                  have hr := badT_range TT Hz
                  have HPd : Hid (∀ W, Calls Tryz.prog 21 #[.int .i64 (badT TT Hz), .int .i64 x.2] W fun e w' => e = .returned (.int .i64 cst) ∧ W = w') := Lib.hid fun W => by
                    have := qPriced (badT TT Hz) x.2 W hr.1 hr.2 Hq.out
                    rw [Hmb.out.2] at this
                    exact this
                  obtain ⟨bt, hbt⟩ : ∃ bt, badT TT Hz = bt := ⟨_, rfl⟩
                  rw [hbt] at HBad HPd hr
                  clear hbt hr
                  have HX12 := Lib.hid hX12
                  have HR12 := Lib.hid (And.intro hb12 hbr12)
                  clear hX12 hb12 hbr12 Hmb
                  refine Rest.region follows ?_
                  refine Rest.tame 10 (fun W => Below w12.heap.size w12 W) (by kernel_rfl) ((Below.refl _ _).drew) ?_
                  simp only [Nat.reduceSub, List.drop_zero, List.take_succ_cons, List.take_zero]
                  iterate 10 first
                    | (refine TW.cons_n rfl _ (by
                        intro wT hT RR hRR K hK
                        simp only [Act.put, lsA, lsB, lsC] at hK
                        have yt : agg? wT X 0 9 = some TT.arr := (HX12.out.below hT).agg 0 9 (by rw [Tt.size_arr]; decide)
                        obtain ⟨z1, z2, -, z3, -, -, -⟩ := HX.out wT (HR12.out.2.trans (hT.mono HR12.out.2.size))
                        go_step
                        first
                          | exact hK _ _ (hRR _ hT)
                          | (go_at_call 22; refine (HBad.out _).mono ?_; rintro e w' ⟨rfl, hb'⟩; exact hK _ _ (hRR _ (hT.trans (hb'.mono hT.size))))
                          | (go_at_call 21; refine (HPd.out _).mono ?_; rintro e w' ⟨rfl, hw'⟩; subst hw'; exact hK _ _ (hRR _ hT))) ?_; try simp only [Act.put, lsA, lsB, lsC])
                  refine TW.nil fun w13 h13 => ?_
                  refine Rest.done ?_
                  have hr13 : Below wr.heap.size wr w13 := HR12.out.2.trans (h13.mono HR12.out.2.size)
                  have HR13 := Lib.hid hr13
                  have hsame := same_any pa T.boxA qa 0 ca qb 0 T.boxC ah pg.box w13 ((HN10.out.below HR12.out.1).below h13) (HX.out w13 hr13).2.2.2.2.2.1
                  rw [Hna.out] at hsame
                  have HP9 := Lib.hid (show Lg = (pre ++ [x]) ++ r by rw [Hpre.out]; simp)
                  have e23 : ((x.1 : Int) == (L.length : Int)) = false := by simpa using (show ¬ ((x.1 : Int) = (L.length : Int)) by omega)
                  obtain ⟨z1, z2, z4, -, -, -, -⟩ := HX.out w13 hr13
                  obtain ⟨sb, hsb⟩ : ∃ s, decide (ah = pg.box) = s := ⟨_, rfl⟩
                  rw [hsb] at hsame
                  have HSame := Lib.hid hsame
                  have hU := HU.out
                  clear hsame hr13 h13 HBad HPd HX12 HU
                  rcases hU with ⟨u1, u2, u3⟩ | ⟨u1, u2, u3⟩
                  · have hs1 : sb = true := by rw [← hsb]; exact decide_eq_true u1
                    subst hs1
                    have e27 : (cst == pg.cost) = true := by simpa using u2
                    clear u1 u2 hsb
                    by_cases f1 : cst = 1073741823
                    · have e31 : (cst == 1073741823) = true := by simpa using f1
                      clear f1 u3
                      go_wp2_with (go_at_call 16; refine HSame.out.mono ?_; rintro e w14 ⟨rfl, nz, rfl⟩; obtain ⟨z1, z2, z4, -, -, -, -⟩ := HX.out (w13.drewN nz) (HR13.out.trans ((below_drewN_refl _ _ nz).mono HR13.out.size)))
                      go_ret
                      exact ⟨rfl, below_drewN (HX.out w13 HR13.out).2.2.2.2.2.2 nz⟩
                    · have e31 : (cst == 1073741823) = false := by simpa using f1
                      by_cases f2 : x.2 ≤ -10000
                      · have e32 : decide (x.2 ≤ -10000) = true := decide_eq_true f2
                        clear f1 u3
                        go_wp2_with (go_at_call 16; refine HSame.out.mono ?_; rintro e w14 ⟨rfl, nz, rfl⟩; obtain ⟨z1, z2, z4, -, -, -, -⟩ := HX.out (w13.drewN nz) (HR13.out.trans ((below_drewN_refl _ _ nz).mono HR13.out.size)))
                        go_ret
                        exact ⟨rfl, below_drewN (HX.out w13 HR13.out).2.2.2.2.2.2 nz⟩
                      · have e32 : decide (x.2 ≤ -10000) = false := decide_eq_false f2
                        have HU := Lib.hid (u3.resolve_left (by rintro (e | e); exact f1 e; exact f2 e)).2
                        clear f1 u3
                        go_wp2_with (go_at_call 16; refine HSame.out.mono ?_; rintro e w14 ⟨rfl, nz, rfl⟩; obtain ⟨z1, z2, z4, -, -, -, -⟩ := HX.out (w13.drewN nz) (HR13.out.trans ((below_drewN_refl _ _ nz).mono HR13.out.size)))
                        go_roundg (r.length + 1)
                        case measure => simp
                        case rel => exact ⟨true, pre ++ [x], r, rfl, rfl, by rw [List.length_append, List.length_singleton]; go_num, HP9.out, HU.out, Hbr.out.trans ((below_drewN HR13.out nz).mono Hbr.out.size)⟩
                  · have hs1 : sb = false := by rw [← hsb]; exact decide_eq_false u1
                    subst hs1
                    have e29 : decide (cst < pg.cost) = false := decide_eq_false fun e => u2 (.inl e)
                    have e30 : (met && (decide (cst ≤ pg.cost) && decide (cst < 1073741823))) = false := by
                      cases hm : met
                      · rfl
                      · cases h1 : decide (cst ≤ pg.cost)
                        · rfl
                        · cases h2 : decide (cst < 1073741823)
                          · rfl
                          · exact absurd (.inr ⟨hm, of_decide_eq_true h1, of_decide_eq_true h2⟩) u2
                    clear u1 u2 hsb
                    cases met
                    · have hu := u3.resolve_left fun e => by cases e.2
                      have HU := Lib.hid hu.2
                      have e31 : (cst == 1073741823) = false := by simpa using fun e => hu.1 (.inl e)
                      have e32 : decide (x.2 ≤ -10000) = false := decide_eq_false fun e => hu.1 (.inr e)
                      clear hu u3 e30
                      go_wp2_with (go_at_call 16; refine HSame.out.mono ?_; rintro e w14 ⟨rfl, nz, rfl⟩; obtain ⟨z1, z2, z4, -, -, -, -⟩ := HX.out (w13.drewN nz) (HR13.out.trans ((below_drewN_refl _ _ nz).mono HR13.out.size)))
                      go_roundg (r.length + 1)
                      case measure => simp
                      case rel => exact ⟨false, pre ++ [x], r, rfl, rfl, by rw [List.length_append, List.length_singleton]; go_num, HP9.out, HU.out, Hbr.out.trans ((below_drewN HR13.out nz).mono Hbr.out.size)⟩
                    · cases e33 : decide (cst ≤ pg.cost)
                      · have g33 : ¬ cst ≤ pg.cost := of_decide_eq_false e33
                        by_cases f1 : cst = 1073741823
                        · have e31 : (cst == 1073741823) = true := by simpa using f1
                          clear f1 u3 e30
                          go_wp2_with (go_at_call 16; refine HSame.out.mono ?_; rintro e w14 ⟨rfl, nz, rfl⟩; obtain ⟨z1, z2, z4, -, -, -, -⟩ := HX.out (w13.drewN nz) (HR13.out.trans ((below_drewN_refl _ _ nz).mono HR13.out.size)))
                          go_ret
                          exact ⟨rfl, below_drewN (HX.out w13 HR13.out).2.2.2.2.2.2 nz⟩
                        · have e31 : (cst == 1073741823) = false := by simpa using f1
                          by_cases f2 : x.2 ≤ -10000
                          · have e32 : decide (x.2 ≤ -10000) = true := decide_eq_true f2
                            clear f1 u3 e30
                            go_wp2_with (go_at_call 16; refine HSame.out.mono ?_; rintro e w14 ⟨rfl, nz, rfl⟩; obtain ⟨z1, z2, z4, -, -, -, -⟩ := HX.out (w13.drewN nz) (HR13.out.trans ((below_drewN_refl _ _ nz).mono HR13.out.size)))
                            go_ret
                            exact ⟨rfl, below_drewN (HX.out w13 HR13.out).2.2.2.2.2.2 nz⟩
                          · have e32 : decide (x.2 ≤ -10000) = false := decide_eq_false f2
                            have HU := Lib.hid (u3.resolve_left (by rintro ⟨e | e, _⟩; exact f1 e; exact f2 e)).2
                            clear f1 u3 e30
                            go_wp2_with (go_at_call 16; refine HSame.out.mono ?_; rintro e w14 ⟨rfl, nz, rfl⟩; obtain ⟨z1, z2, z4, -, -, -, -⟩ := HX.out (w13.drewN nz) (HR13.out.trans ((below_drewN_refl _ _ nz).mono HR13.out.size)))
                            go_roundg (r.length + 1)
                            case measure => simp
                            case rel => exact ⟨true, pre ++ [x], r, rfl, rfl, by rw [List.length_append, List.length_singleton]; go_num, HP9.out, HU.out, Hbr.out.trans ((below_drewN HR13.out nz).mono Hbr.out.size)⟩
                      · have e34 : decide (cst < 1073741823) = false := by
                          rw [e33, Bool.true_and, Bool.true_and] at e30
                          exact e30
                        by_cases f1 : cst = 1073741823
                        · have e31 : (cst == 1073741823) = true := by simpa using f1
                          clear f1 u3 e30
                          go_wp2_with (go_at_call 16; refine HSame.out.mono ?_; rintro e w14 ⟨rfl, nz, rfl⟩; obtain ⟨z1, z2, z4, -, -, -, -⟩ := HX.out (w13.drewN nz) (HR13.out.trans ((below_drewN_refl _ _ nz).mono HR13.out.size)))
                          go_ret
                          exact ⟨rfl, below_drewN (HX.out w13 HR13.out).2.2.2.2.2.2 nz⟩
                        · have e31 : (cst == 1073741823) = false := by simpa using f1
                          by_cases f2 : x.2 ≤ -10000
                          · have e32 : decide (x.2 ≤ -10000) = true := decide_eq_true f2
                            clear f1 u3 e30
                            go_wp2_with (go_at_call 16; refine HSame.out.mono ?_; rintro e w14 ⟨rfl, nz, rfl⟩; obtain ⟨z1, z2, z4, -, -, -, -⟩ := HX.out (w13.drewN nz) (HR13.out.trans ((below_drewN_refl _ _ nz).mono HR13.out.size)))
                            go_ret
                            exact ⟨rfl, below_drewN (HX.out w13 HR13.out).2.2.2.2.2.2 nz⟩
                          · have e32 : decide (x.2 ≤ -10000) = false := decide_eq_false f2
                            have HU := Lib.hid (u3.resolve_left (by rintro ⟨e | e, _⟩; exact f1 e; exact f2 e)).2
                            clear f1 u3 e30
                            go_wp2_with (go_at_call 16; refine HSame.out.mono ?_; rintro e w14 ⟨rfl, nz, rfl⟩; obtain ⟨z1, z2, z4, -, -, -, -⟩ := HX.out (w13.drewN nz) (HR13.out.trans ((below_drewN_refl _ _ nz).mono HR13.out.size)))
                            go_roundg (r.length + 1)
                            case measure => simp
                            case rel => exact ⟨true, pre ++ [x], r, rfl, rfl, by rw [List.length_append, List.length_singleton]; go_num, HP9.out, HU.out, Hbr.out.trans ((below_drewN HR13.out nz).mono Hbr.out.size)⟩
                · have huse2 : lawB L g pg.box pg.cost r met = true := by
                    rcases Huse.out with e | e
                    · exact e.2
                    · exact absurd (Hsk.out.2 rfl) e.1
                  have HU := Lib.hid huse2
                  have HP9 := Lib.hid (show Lg = (pre ++ [x]) ++ r by rw [Hpre.out]; simp)
                  clear huse2 Huse
                  go_wp2_with fail
                  go_roundg (r.length + 1)
                  case measure => simp
                  case rel => exact ⟨met, pre ++ [x], r, rfl, rfl, by rw [List.length_append, List.length_singleton]; go_num, HP9.out, HU.out, Hbr.out.trans (Hb910.out.mono Hbr.out.size)⟩
      · have hc0 : (C == 0) = false := by simpa using hC0
        go_wp2_with (first
          | (go_at_call 11; refine (HNum.out _ _).mono ?_; rintro e wf ⟨rfl, hf⟩; rw [hf]; clear hf)
          | (go_at_call 12; refine (HCk.out _ Hbw.out).mono ?_; rintro e w5 ⟨rfl, hb5⟩)
          | (go_at_call 13; refine (HKn.out _).mono ?_; rintro e w6 ⟨rfl, hb6⟩))
        go_ret
        exact ⟨rfl, (Hbw.out.trans (hb5.mono Hbw.out.size)).trans (hb6.mono (Nat.le_trans Hbw.out.size hb5.size))⟩
end Go.Proofs.YtomehdepjenilaaGreat
