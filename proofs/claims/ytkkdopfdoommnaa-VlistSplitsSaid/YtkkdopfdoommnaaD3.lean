/-
  The document's Split.
-/
import Derived.Test.YtkkdopfdoommnaaD2
import Derived.Test.YtkkdopfdoommnaaK5
namespace Go.Proofs.Ytkkdopfdoommnaa
open Go.ChangeShapes Go.WideShapes Go.ChangeAt Go.RowKit Go.Shelf
attribute [local go_sem ↓] Go.wp_at_zero Go.wp_at_succ
set_option maxRecDepth 100000 in
set_option maxHeartbeats 4000000 in
theorem qsplit (p0 : Option Addr) (b off cap : Nat) (L : List Nd) (s : List Nat) (g : Gl) (height depth : Int) (hs : checkC L = 0 → Items L 0 s) (w : World) (hN : NIn w p0 b off cap L) :
    Calls Try.prog 47 #[.slice p0 L.length cap, .int .i64 height, .int .i64 depth, .agg g.arr] w (SplitPost w L s g height depth) := by
  have hlen := hN.len
  have d0 := heap_alloc_new w (.cells g.arr 23)
  have hb0 : Below w.heap.size w (w.alloc (.cells g.arr 23)) := (Below.refl _ _).alloc (Nat.le_refl _) _
  have HC := Lib.hid (qcolumn p0 b off cap L s hs _ (hN.below hb0))
  have H := Lib.hid hN
  have Hs := Lib.hid hs
  clear hN hs
  go_enter Try.func47, Try.ntmps47
  go_upto_region 1 with (fail)
  generalize w.alloc (.cells g.arr 23) = w1 at d0 hb0 HC ⊢
  go_wp2_with fail
  refine HC.out.mono ?_
  clear HC
  rintro e w2 ⟨rfl, hb2⟩
  have d2 := (hb2.block w.heap.size (Array.getElem?_eq_some_iff.1 d0).1).trans d0
  have hbw := hb0.trans (hb2.mono hb0.size)
  have a2 : agg? w2 w.heap.size 0 5 = some g.arr := by rw [agg?_blk' d2 0 5 (by simp [Gl.size_arr])]; simp [Gl.arr, Gl.cells]
  clear d0 hb0 hb2
  by_cases hck : colP L s = 0
  · rw [hck]
    have HD := Lib.hid (qdimen11 height w2)
    have HE := Lib.hid (qdimen11 depth w2)
    by_cases hdm : (dimenB height && dimenB depth) = true
    · obtain ⟨hd1, hd2⟩ := Bool.and_eq_true_iff.1 hdm
      rw [hd1] at HD
      rw [hd2] at HE
      have HT := Lib.hid (qtop g w2)
      cases ht : topB g with
      | false =>
        have HpC := Lib.hid (show splitC L s g height depth = 30 by unfold splitC; rw [if_pos hck, if_pos hdm, ht]; rfl)
        rw [ht] at HT
        clear ht hck hdm Hs hd1 hd2
        go_wp2_with (first | (go_at_call_has 71 (Value.int IntKind.i64 height); refine HD.out.mono ?_; rintro e w5 ⟨rfl, rfl⟩) | (go_at_call_has 71 (Value.int IntKind.i64 depth); refine HE.out.mono ?_; rintro e w5 ⟨rfl, rfl⟩) | (go_at_call 65; refine HT.out.mono ?_; rintro e w3 ⟨rfl, hb3⟩))
        go_ret3
        exact split_out HpC.out (by decide) (hbw.trans (hb3.mono hbw.size))
      | true =>
        have hg : g.good = true := by simp [topB] at ht; exact ht.1
        obtain ⟨hat, hba, hch⟩ := splitP_at L s height depth
        have htl := tail_col hck (Hs.out (colP_check hck)) hat
        have hti := itemsP_spec (colP_check htl)
        have hkd := items_kind0 hti (colP_check htl)
        have hr := check_right (colP_check htl)
        have hll := (checkC_zero (colP_check htl)).1
        have hl := (checkC_zero (colP_check hck)).1
        have hsC : splitC L s g height depth = if 2000 < (restP L (splitP L s height depth) g).length then 6 else 0 := by
          unfold splitC
          rw [if_pos hck, if_pos hdm, if_pos ht]
        have hle : splitP L s height depth ≤ L.length := by
          rcases hat with h | h
          · exact Nat.le_of_lt ((Hs.out (colP_check hck)).lt _ h).2
          · omega
        have HCh : Hid (∀ W, Below w.heap.size w W → _) := Lib.hid (fun W hb => qchosen p0 b off cap L s hck (Hs.out (colP_check hck)) height depth hdm W (H.out.below hb))
        rw [hch] at HCh
        have HPr : Hid (∀ W (p : Option Addr) (o : Nat) (c : Nat), NIn W p b o c (L.drop (splitP L s height depth)) → Calls Try.prog 66 #[.slice p (L.length - splitP L s height depth) c, .agg g.arr] W fun e w' => (∃ v, e = .returned v ∧ NRow W v (restP L (splitP L s height depth) g) w') ∧ Below W.heap.size W w') := Lib.hid fun W p o c hn => by
          have := qpruned p b o c (L.drop (splitP L s height depth)) (itemsP (L.drop (splitP L s height depth))) g hti (fun x hx => (hkd x hx).1) hr hll hg W hn
          rwa [List.length_drop] at this
        obtain ⟨k, hk⟩ : ∃ k, splitP L s height depth = k := ⟨_, rfl⟩
        have Hk := Lib.hid hk
        rw [hk] at HCh HPr hsC hle
        have HsC := Lib.hid hsC
        rw [ht] at HT
        generalize (chosF L s height depth true 0 1073741823 (legalP L s)).2 = cc at HCh
        clear hk hsC hat hba hch htl hti hkd hr hll hg hck hdm ht Hs hd1 hd2
        obtain ⟨R, hR⟩ : ∃ R, restP L k g = R := ⟨_, rfl⟩
        have HR := Lib.hid hR
        rw [hR] at HPr HsC
        clear hR
        have hdl := (Array.getElem?_eq_some_iff.1 d2).1
        go_wp2_with (first | (go_at_call_has 71 (Value.int IntKind.i64 height); refine HD.out.mono ?_; rintro e w5 ⟨rfl, rfl⟩) | (go_at_call_has 71 (Value.int IntKind.i64 depth); refine HE.out.mono ?_; rintro e w5 ⟨rfl, rfl⟩) | (go_at_call 65; refine HT.out.mono ?_; rintro e w3 ⟨rfl, hb3⟩) | (go_at_call 75; refine (HCh.out _ (hbw.trans (hb3.mono hbw.size))).mono ?_; rintro e w4 ⟨rfl, hb4⟩))
        have hb24 := hb3.trans (hb4.mono hb3.size)
        have hbw4 := hbw.trans (hb24.mono hbw.size)
        have a4 : agg? w4 w.heap.size 0 5 = some g.arr := ((bfacts hb24).2.2.1 _ _ _ hdl).trans a2
        have a5 : agg? w4.drew w.heap.size 0 5 = some g.arr := a4
        have hcap := H.out.cap'
        have hk1 : (0 : Int) ≤ (k : Int) := by omega
        have hk2 : (k : Int) ≤ (L.length : Int) := by omega
        have hk3 : (L.length : Int) ≤ (cap : Int) := by omega
        have hk4 : (k : Int) ≤ (cap : Int) := by omega
        clear a2 a4 HCh HD HE HT hb3 hb4 hb24 hbw d2
        go_cut [14] from 38 to 51 (fun s14 wx => NRow w4 s14 R wx ∧ Below w4.heap.size w4 wx)
        case first =>
          have hbd : Below w4.heap.size w4 w4.drew := (Below.refl _ _).drew
          by_cases hL : L = []
          · subst hL
            obtain rfl : k = 0 := by simpa using hle
            have HP0 : Hid (∀ (p : Option Addr) (c : Nat), Calls Try.prog 66 #[.slice p 0 c, .agg g.arr] w4.drew fun e w' => (∃ v, e = .returned v ∧ NRow w4.drew v R w') ∧ Below w4.drew.heap.size w4.drew w') := Lib.hid fun p c => HPr.out _ p off c ⟨fun e => absurd rfl e, fun e => absurd rfl e, fun j hj => by simp at hj, by simp, by simp⟩
            clear HPr
            cases p0
            all_goals
              simp only [List.length_nil]
              go_region_with (go_at_call 66; refine (HP0.out _ _).mono ?_; rintro e w5 ⟨⟨v, rfl, h1⟩, hb5⟩; (have h3 := Lib.hid h1); clear h1)
              all_goals
                go_wp2_with fail
                go_meet
                exact ⟨h3.out, hbd.trans hb5⟩
          · obtain rfl := H.out.hp hL
            by_cases hck : cap = k
            · have hdn : L.drop k = [] := by apply List.drop_eq_nil_of_le; omega
              have HP0 : Hid (∀ (p : Option Addr) (c : Nat), Calls Try.prog 66 #[.slice p 0 c, .agg g.arr] w4.drew fun e w' => (∃ v, e = .returned v ∧ NRow w4.drew v R w') ∧ Below w4.drew.heap.size w4.drew w') := Lib.hid fun p c => by
                have := HPr.out w4.drew p off c (by rw [hdn]; exact ⟨fun e => absurd rfl e, fun e => absurd rfl e, fun j hj => by simp at hj, by simp, by simp⟩)
                rwa [show L.length - k = 0 by omega] at this
              clear HPr hdn
              subst hck
              go_region_with (go_at_call 66; refine (HP0.out _ _).mono ?_; rintro e w5 ⟨⟨v, rfl, h1⟩, hb5⟩; (have h3 := Lib.hid h1); clear h1)
              all_goals
                go_wp2_with fail
                go_meet
                exact ⟨h3.out, hbd.trans hb5⟩
            · have hn := (H.out.below (hbw4.trans (hbd.mono hbw4.size))).drop k hle
              have HP0 := Lib.hid (HPr.out _ _ _ _ hn)
              clear HPr hn
              go_region_with (go_at_call 66; refine HP0.out.mono ?_; rintro e w5 ⟨⟨v, rfl, h1⟩, hb5⟩; (have h3 := Lib.hid h1); clear h1)
              all_goals
                go_wp2_with fail
                go_meet
                exact ⟨h3.out, hbd.trans hb5⟩
        case rest =>
          obtain ⟨hrow, hb5⟩ := hcut
          have hbw5 := hbw4.trans (hb5.mono hbw4.size)
          have hwz : w.heap.size ≤ w4.heap.size := hbw4.size
          obtain ⟨pu, cu, rfl⟩ := nrow_form hrow
          have Hrow := Lib.hid hrow
          clear hrow HPr a5 hbw4
          by_cases hbig : 2000 < R.length
          · have hbg : (2000 : Int) < (R.length : Int) := by omega
            have HpC := Lib.hid (HsC.out.trans (if_pos hbig))
            clear hbig HsC
            go_wp2_with fail
            go_ret3
            exact split_out HpC.out (by decide) hbw5
          · have hbg : (R.length : Int) ≤ (2000 : Int) := by omega
            have HpC := Lib.hid (HsC.out.trans (if_neg hbig))
            clear hbig HsC
            obtain ⟨i0, hi0', hz0, hz1, hz2⟩ := info_parts info_node
            have r0 := owns_empty wc
            have hbA : Below wc.heap.size wc (wc.alloc (.cells #[] 25)) := (Below.refl _ _).alloc (Nat.le_refl _) _
            have hrA := Lib.hid (ownsRow_below Hrow.out hbA)
            have hbwA := hbw5.trans (hbA.mono hbw5.size)
            by_cases hk0 : k = 0
            · subst hk0
              have R0 := Lib.hid r0
              clear r0
              cases p0
              all_goals
                go_wp2_with fail
                go_ret3
                refine split_ok HpC.out (by rw [Hk.out]; exact nrow_base (w := wc) R0.out hbw5.size) (by rw [Hk.out, HR.out]; exact nrow_base hrA.out hwz) (fun q e => ?_) hbwA
                cases e
                exact fun e2 => by have h9 : wc.heap.size < wc.heap.size := (Hrow.out.lt _ e2).2; omega
            · have hL : L ≠ [] := by intro e; rw [e] at hle; simp at hle; exact hk0 hle
              obtain rfl := H.out.hp hL
              have hpos : 0 < k := by omega
              have htl : (L.take k).length = k := by simp; omega
              have hnews := (((H.out.below hbwA).take k : NIn _ _ _ _ _ _)).news
              have hfl : ((L.take k).flatMap Nd.cells).length = k * 19 := by rw [flat_len, htl]
              have Hn := Lib.hid hnews
              have Hfl := Lib.hid hfl
              have Htl := Lib.hid htl
              clear hnews hfl htl
              go_wp2_with (at_builtin; refine wpList_append_lies _ rfl _ _ _ rfl wc.heap.size 25 i0 (.agg Nd.zero.arr) 19 160 Try.underlying26 hi0' hz0 hz1 hz2 rfl (by decide) (.slice (some ⟨wc.heap.size, 0, none⟩) 0 0) 0 [] rfl r0 ⟨b, off, none⟩ k cap ((L.take k).flatMap Nd.cells) rfl Hfl.out Hn.out (nodes_one _) hpos (by unfold maxLen; omega) (by omega) (by simp) _ rfl ?_; intro g1 cap1 w1 hown1 hgrow1 hat1 hlt1)
              go_ret3
              have hg1 : wc.heap.size ≤ g1 := by
                rcases hat1 with h | h
                · cases h; exact Nat.le_refl _
                · rw [h]; simp
              have hb1 : Below wc.heap.size wc w1 := Below.grown hbA hgrow1 hbA.size (fun q e => by cases e; exact Nat.le_refl _)
              rw [Nat.zero_add, List.nil_append] at hown1
              refine split_ok HpC.out ?_ ?_ (fun q e => ?_) (hbw5.trans (hb1.mono hbw5.size))
              · rw [Hk.out]; exact nrow_base (w := wc) (by unfold NRow; rw [Htl.out]; exact hown1) hbw5.size
              · rw [Hk.out, HR.out]; exact nrow_base (ownsRow_below Hrow.out hb1) hwz
              · cases e
                exact fun e2 => by have h9 : g1 < wc.heap.size := (Hrow.out.lt _ e2).2; omega
    · have HpC := Lib.hid (show splitC L s g height depth = 11 by unfold splitC; rw [if_pos hck, if_neg hdm])
      have hways : dimenB height = false ∨ (dimenB height = true ∧ dimenB depth = false) := by
        cases h1 : dimenB height
        · exact .inl rfl
        · refine .inr ⟨rfl, ?_⟩
          rw [h1] at hdm
          simpa using hdm
      clear hck hdm Hs
      rcases hways with h1 | ⟨h1, h2⟩
      · rw [h1] at HD
        clear h1
        go_wp2_with (go_at_call 71; refine HD.out.mono ?_; rintro e w5 ⟨rfl, rfl⟩)
        go_ret3
        exact split_out HpC.out (by decide) hbw
      · rw [h1] at HD
        rw [h2] at HE
        clear h1 h2
        go_wp2_with (first | (go_at_call_has 71 (Value.int IntKind.i64 height); refine HD.out.mono ?_; rintro e w5 ⟨rfl, rfl⟩) | (go_at_call_has 71 (Value.int IntKind.i64 depth); refine HE.out.mono ?_; rintro e w5 ⟨rfl, rfl⟩))
        go_ret3
        exact split_out HpC.out (by decide) hbw
  · have HpC := Lib.hid (show splitC L s g height depth = colP L s by unfold splitC; rw [if_neg hck])
    have hck' : ((colP L s : Int) != 0) = true := by simpa using hck
    have H0 := Lib.hid hck
    clear hck Hs
    generalize colP L s = k at HpC hck' H0 ⊢
    go_wp2_with fail
    go_ret3
    exact split_out HpC.out H0.out hbw
end Go.Proofs.Ytkkdopfdoommnaa
