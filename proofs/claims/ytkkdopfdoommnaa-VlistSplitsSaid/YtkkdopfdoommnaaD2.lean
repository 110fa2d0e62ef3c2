/-
  vlist.Split: the two parts of a column that is split.
-/
import Derived.Test.YtkkdopfdoommnaaD1
import Derived.Test.YtkkdopfdoommnaaC11
import Derived.Test.YtkkdopfdoommnaaC13
import Derived.Test.YtkkdopfdoommnaaQ13
import Derived.Test.YtkkdopfdoommnaaV11
import Derived.StillTailTactics
namespace Go.Proofs.Ytkkdopfdoommnaa
open Go.ChangeShapes Go.WideShapes Go.ChangeAt Go.RowKit Go.Shelf
attribute [local go_sem ↓] Go.wp_at_zero Go.wp_at_succ
/-- a region that draws: what reads first, then the rest in its order; the world behind the draw is w.drew -/
theorem wpS_tail {P : Program} {id : Nat} {Q : Exit → Act → World → Prop} {a : Act} {w : World} {l : List Oper} (n : Nat) (hm : P.follows .mixedOrders = true) (hB : Region.lexTailB .any l.toArray n = true)
    (h : wpStill P l.toArray w.drew (fun a' => wpList P l.toArray Q (l.drop n) a' w.drew) (l.take n) a) : (Code.region id l.toArray true).wp P Q a w := wp_region_still_tail n hm hB h
/-- where a column is split -/
def splitP (L : List Nd) (s : List Nat) (h d : Int) : Nat := match bestO L s h d with | none => 0 | some y => y.1
theorem splitP_at (L : List Nd) (s : List Nat) (h d : Int) : (splitP L s h d ∈ s ∨ splitP L s h d = L.length) ∧ bA (bestO L s h d) = (splitP L s h d : Int) ∧ (chosF L s h d true 0 1073741823 (legalP L s)).1 = splitP L s h d := by
  obtain ⟨y, h1, h2, _, h4⟩ := bestO_chos L s h d
  unfold splitP
  rw [h1, h4]
  exact ⟨h2, rfl, rfl⟩
/-- what is left behind the break -/
noncomputable def restP (L : List Nd) (k : Nat) (g : Gl) : List Nd := prunF (L.drop k) g (itemsP (L.drop k)) []
noncomputable def splitC (L : List Nd) (s : List Nat) (g : Gl) (h d : Int) : Int :=
  if colP L s = 0 then (if (dimenB h && dimenB d) = true then (if topB g then (if 2000 < (restP L (splitP L s h d) g).length then 6 else 0) else 30) else 11) else colP L s
structure SplitPost (w : World) (L : List Nd) (s : List Nat) (g : Gl) (h d : Int) (e : Ending) (w' : World) : Prop where
  ex : ∃ v u, e = .returned (.tuple #[v, u, .int .i64 (splitC L s g h d)]) ∧ (splitC L s g h d = 0 → NRow w v (L.take (splitP L s h d)) w' ∧ NRow w u (restP L (splitP L s h d) g) w' ∧ ∀ q, v.ownBlock = some q → u.ownBlock ≠ some q) ∧ (splitC L s g h d ≠ 0 → v = .slice none 0 0 ∧ u = .slice none 0 0)
  below : Below w.heap.size w w'
theorem split_out {w w' : World} {L : List Nd} {s : List Nat} {g : Gl} {h d k : Int} (hk : splitC L s g h d = k) (h0 : k ≠ 0) (hb : Below w.heap.size w w') : SplitPost w L s g h d (.returned (.tuple #[.slice none 0 0, .slice none 0 0, .int .i64 k])) w' :=
  ⟨⟨_, _, by rw [hk], fun e => absurd (hk.symm.trans e) h0, fun _ => ⟨rfl, rfl⟩⟩, hb⟩
theorem split_ok {w w' : World} {L : List Nd} {s : List Nat} {g : Gl} {h d : Int} {v u : Value} (hk : splitC L s g h d = 0) (h1 : NRow w v (L.take (splitP L s h d)) w') (h2 : NRow w u (restP L (splitP L s h d) g) w') (h3 : ∀ q, v.ownBlock = some q → u.ownBlock ≠ some q) (hb : Below w.heap.size w w') : SplitPost w L s g h d (.returned (.tuple #[v, u, .int .i64 0])) w' :=
  ⟨⟨_, _, by rw [hk], fun _ => ⟨h1, h2, h3⟩, fun e => absurd hk e⟩, hb⟩
theorem row_empty (w w' : World) : NRow w (.slice none 0 0) [] w' := World.ownsRow_nil _ _ _ _
set_option maxRecDepth 100000 in
set_option maxHeartbeats 8000000 in
theorem vsplit (p0 : Option Addr) (b off cap : Nat) (L : List Nd) (s : List Nat) (g : Gl) (height depth : Int) (hs : checkC L = 0 → Items L 0 s) (w : World) (hN : NIn w p0 b off cap L) :
    Calls Try.prog 46 #[.slice p0 L.length cap, .int .i64 height, .int .i64 depth, .agg g.arr] w (SplitPost w L s g height depth) := by
  have hlen := hN.len
  have d0 := heap_alloc_new w (.cells g.arr 23)
  have hb0 : Below w.heap.size w (w.alloc (.cells g.arr 23)) := (Below.refl _ _).alloc (Nat.le_refl _) _
  have HB := Lib.hid (vBest p0 b off cap L s hs height depth _ (hN.below hb0))
  have H := Lib.hid hN
  have Hs := Lib.hid hs
  clear hN hs
  go_enter Try.func46, Try.ntmps46
  go_upto_region 1 with (fail)
  generalize w.alloc (.cells g.arr 23) = w1 at d0 hb0 HB ⊢
  by_cases hck : colP L s = 0
  · by_cases hdm : (dimenB height && dimenB depth) = true
    · have hbr : bestR L s height depth = (bestO L s height depth, 0) := by unfold bestR; rw [if_pos hck, if_pos hdm]
      obtain ⟨hat, hba, _⟩ := splitP_at L s height depth
      rw [hbr] at HB
      simp only [hba] at HB
      have htl := tail_col hck (Hs.out (colP_check hck)) hat
      have hsC : splitC L s g height depth = prunC (L.drop (splitP L s height depth)) (itemsP (L.drop (splitP L s height depth))) g := by
        unfold splitC prunC restP
        rw [if_pos hck, if_pos hdm, if_pos htl]
      have hl := (checkC_zero (colP_check hck)).1
      have hle : splitP L s height depth ≤ L.length := by
        rcases hat with h | h
        · exact Nat.le_of_lt ((Hs.out (colP_check hck)).lt _ h).2
        · omega
      have HsC := Lib.hid hsC
      have Hrest : Hid (restP L (splitP L s height depth) g = prunF (L.drop (splitP L s height depth)) g (itemsP (L.drop (splitP L s height depth))) []) := Lib.hid rfl
      have Hspec : Hid (checkC (L.drop (splitP L s height depth)) = 0 → Items (L.drop (splitP L s height depth)) 0 (itemsP (L.drop (splitP L s height depth)))) := Lib.hid fun h => itemsP_spec h
      obtain ⟨k, hk⟩ : ∃ k, splitP L s height depth = k := ⟨_, rfl⟩
      have Hk := Lib.hid hk
      rw [hk] at HB HsC Hrest Hspec hle
      clear hk hsC hbr hat hba htl hck hdm Hs
      generalize bS (bestO L s height depth) = q1 at HB
      generalize bL (bestO L s height depth) = q2 at HB
      go_wp2_with fail
      refine HB.out.mono ?_
      clear HB
      rintro e w2 ⟨rfl, hb2⟩
      have d2 := (hb2.block w.heap.size (Array.getElem?_eq_some_iff.1 d0).1).trans d0
      have hbw := hb0.trans (hb2.mono hb0.size)
      have a2 : agg? w2.drew w.heap.size 0 5 = some g.arr := by rw [agg?_blk' (w := w2.drew) d2 0 5 (by simp [Gl.size_arr])]; simp [Gl.arr, Gl.cells]
      have hcap := H.out.cap'
      have hk1 : (0 : Int) ≤ (k : Int) := by omega
      have hk2 : (k : Int) ≤ (L.length : Int) := by omega
      have hk3 : (L.length : Int) ≤ (cap : Int) := by omega
      have hk4 : (k : Int) ≤ (cap : Int) := by omega
      clear d0 hb0 hb2 d2
      have HPr : Hid (∀ W, Below w2.heap.size w2 W → ∀ (p : Option Addr) (o : Nat) (c : Nat), NIn W p b o c (L.drop k) → Calls Try.prog 29 #[.slice p (L.length - k) c, .agg g.arr] W (PrunPost W (L.drop k) (itemsP (L.drop k)) g)) := Lib.hid fun W hb p o c hn => by
        have := vprune p b o c (L.drop k) (itemsP (L.drop k)) g Hspec.out W hn
        rwa [List.length_drop] at this
      go_upto_region 4 with (fail)
      go_cut [9, 10] from 14 to 42 (fun s9 s10 wx => (prunC (L.drop k) (itemsP (L.drop k)) g = 0 → NRow w2 s9 (prunF (L.drop k) g (itemsP (L.drop k)) []) wx) ∧ (prunC (L.drop k) (itemsP (L.drop k)) g ≠ 0 → s9 = .slice none 0 0) ∧ s10 = .int .i64 (prunC (L.drop k) (itemsP (L.drop k)) g) ∧ Below w2.heap.size w2 wx)
      case first =>
        have hbd : Below w2.heap.size w2 w2.drew := (Below.refl _ _).drew
        by_cases hL : L = []
        · subst hL
          obtain rfl : k = 0 := by simpa using hle
          have HP0 : Hid (∀ (p : Option Addr) (c : Nat), Calls Try.prog 29 #[.slice p 0 c, .agg g.arr] w2.drew (PrunPost w2.drew (([] : List Nd).drop 0) (itemsP (([] : List Nd).drop 0)) g)) := Lib.hid fun p c => HPr.out _ hbd p off c ⟨fun e => absurd rfl e, fun e => absurd rfl e, fun j hj => by simp at hj, by simp, by simp⟩
          clear HPr
          cases p0
          all_goals
            simp only [List.length_nil]
            go_region_with (go_at_call 29; refine (HP0.out _ _).mono ?_; rintro e w3 ⟨⟨v, rfl, h1, h2⟩, hb3⟩; (have h3 := Lib.hid h1); (have h4 := Lib.hid h2); clear h1 h2)
            all_goals
              go_wp2_with fail
              go_meet
              exact ⟨h3.out, h4.out, rfl, hbd.trans hb3⟩
        · obtain rfl := H.out.hp hL
          by_cases hck : cap = k
          · have hdn : L.drop k = [] := by apply List.drop_eq_nil_of_le; omega
            have HP0 : Hid (∀ (p : Option Addr) (c : Nat), Calls Try.prog 29 #[.slice p 0 c, .agg g.arr] w2.drew (PrunPost w2.drew (L.drop k) (itemsP (L.drop k)) g)) := Lib.hid fun p c => by
              have := HPr.out _ hbd p off c (by rw [hdn]; exact ⟨fun e => absurd rfl e, fun e => absurd rfl e, fun j hj => by simp at hj, by simp, by simp⟩)
              rwa [show L.length - k = 0 by omega] at this
            clear HPr hdn
            subst hck
            go_region_with (go_at_call 29; refine (HP0.out _ _).mono ?_; rintro e w3 ⟨⟨v, rfl, h1, h2⟩, hb3⟩; (have h3 := Lib.hid h1); (have h4 := Lib.hid h2); clear h1 h2)
            all_goals
              go_wp2_with fail
              go_meet
              exact ⟨h3.out, h4.out, rfl, hbd.trans hb3⟩
          · have hn := (H.out.below (hbw.trans (hbd.mono hbw.size))).drop k hle
            have HP0 := Lib.hid (HPr.out _ hbd _ _ _ hn)
            clear HPr hn
            go_region_with (go_at_call 29; refine HP0.out.mono ?_; rintro e w3 ⟨⟨v, rfl, h1, h2⟩, hb3⟩; (have h3 := Lib.hid h1); (have h4 := Lib.hid h2); clear h1 h2)
            all_goals
              go_wp2_with fail
              go_meet
              exact ⟨h3.out, h4.out, rfl, hbd.trans hb3⟩
      case rest =>
        obtain ⟨h1, h2, rfl, hb3⟩ := hcut
        have hbw3 := hbw.trans (hb3.mono hbw.size)
        have hwz : w.heap.size ≤ w2.heap.size := hbw.size
        have Hh1 := Lib.hid h1
        have Hh2 := Lib.hid h2
        clear h1 h2 HPr Hspec hbw a2
        obtain ⟨pc, hpc⟩ : ∃ pc, prunC (L.drop k) (itemsP (L.drop k)) g = pc := ⟨_, rfl⟩
        have HpC := Lib.hid (HsC.out.trans hpc)
        have Hpc := Lib.hid hpc
        rw [hpc]
        clear hpc HsC
        by_cases h0 : pc = 0
        · subst h0
          have hrow := Hh1.out Hpc.out
          rw [← Hrest.out] at hrow
          obtain ⟨pu, cu, rfl⟩ := nrow_form hrow
          have Hrow := Lib.hid hrow
          clear hrow Hh1 Hh2
          by_cases hk0 : k = 0
          · subst hk0
            cases p0
            all_goals
              go_wp2_with fail
              go_ret3
              exact split_ok HpC.out (by rw [Hk.out]; exact row_empty _ _) (by rw [Hk.out]; exact nrow_base Hrow.out hwz) (fun q e => by cases e) hbw3
          · have hL : L ≠ [] := by intro e; rw [e] at hle; simp at hle; exact hk0 hle
            obtain rfl := H.out.hp hL
            have hpos : 0 < k := by omega
            obtain ⟨i0, hi0', hz0, hz1, hz2⟩ := info_parts info_node
            have htl : (L.take k).length = k := by simp; omega
            have hnews := (((H.out.below hbw3).take k : NIn _ _ _ _ _ _)).news
            have hfl : ((L.take k).flatMap Nd.cells).length = k * 19 := by rw [flat_len, htl]
            have Hn := Lib.hid hnews
            have Hfl := Lib.hid hfl
            have Htl := Lib.hid htl
            clear hnews hfl htl
            go_wp2_with (at_builtin; refine wpList_append_lies _ rfl _ _ _ rfl w.heap.size 25 i0 (.agg Nd.zero.arr) 19 160 Try.underlying26 hi0' hz0 hz1 hz2 rfl (by decide) (.slice none 0 0) 0 [] rfl (World.ownsRow_nil _ _ _ _) ⟨b, off, none⟩ k cap ((L.take k).flatMap Nd.cells) rfl Hfl.out Hn.out (nodes_one _) hpos (by unfold maxLen; omega) (by omega) hbw3.size _ rfl ?_; intro g1 cap1 w1 hown1 hgrow1 hat1 hlt1)
            go_ret3
            have hbA : Below wc.heap.size wc w1 := Below.grown (Below.refl _ _) hgrow1 (Nat.le_refl _) (fun q e => by cases e)
            have hg1 : g1 = wc.heap.size := by
              rcases hat1 with h | h
              · cases h
              · exact h
            rw [Nat.zero_add, List.nil_append] at hown1
            refine split_ok HpC.out ?_ ?_ (fun q e => ?_) (hbw3.trans (hbA.mono hbw3.size))
            · rw [Hk.out]; unfold NRow; rw [Htl.out]; exact hown1
            · rw [Hk.out]; exact nrow_base (ownsRow_below Hrow.out hbA) hwz
            · cases e
              exact fun e2 => by have h9 : g1 < wc.heap.size := (Hrow.out.lt _ e2).2; omega
        · have h0' : ((pc : Int) != 0) = true := by simpa using h0
          obtain rfl := Hh2.out (by rw [Hpc.out]; exact h0)
          have H0 := Lib.hid h0
          clear h0
          go_wp2_with fail
          go_ret3
          exact split_out HpC.out H0.out hbw3
    · have hbr : bestR L s height depth = (none, 11) := by unfold bestR; rw [if_pos hck, if_neg hdm]
      have HpC := Lib.hid (show splitC L s g height depth = 11 by unfold splitC; rw [if_pos hck, if_neg hdm])
      rw [hbr] at HB
      simp only [bA, bS, bL] at HB
      clear hbr hck hdm Hs
      go_wp2_with fail
      refine HB.out.mono ?_
      clear HB
      rintro e w2 ⟨rfl, hb2⟩
      have hbw := hb0.trans (hb2.mono hb0.size)
      go_wp2_with fail
      go_ret3
      exact split_out HpC.out (by decide) hbw
  · have hbr : bestR L s height depth = (none, colP L s) := by unfold bestR; rw [if_neg hck]
    have HpC := Lib.hid (show splitC L s g height depth = colP L s by unfold splitC; rw [if_neg hck])
    rw [hbr] at HB
    simp only [bA, bS, bL] at HB
    have hck' : ((colP L s : Int) != 0) = true := by simpa using hck
    have H0 := Lib.hid hck
    clear hbr hck Hs
    generalize colP L s = k at HB HpC hck' H0
    go_wp2_with fail
    refine HB.out.mono ?_
    clear HB
    rintro e w2 ⟨rfl, hb2⟩
    have hbw := hb0.trans (hb2.mono hb0.size)
    go_wp2_with fail
    go_ret3
    exact split_out HpC.out H0.out hbw
end Go.Proofs.Ytkkdopfdoommnaa
