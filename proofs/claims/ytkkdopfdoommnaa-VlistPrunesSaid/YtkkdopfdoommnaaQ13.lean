/-
  The document's side: Prune.
-/
import Derived.Test.YtkkdopfdoommnaaQ12
namespace Go.Proofs.Ytkkdopfdoommnaa
open Go.ChangeShapes Go.WideShapes Go.ChangeAt Go.RowKit
attribute [local go_sem ↓] Go.wp_at_zero Go.wp_at_succ

def prunC (L : List Nd) (s : List Nat) (g : Gl) : Int := if colP L s = 0 then (if topB g then (if 2000 < (prunF L g s []).length then 6 else 0) else 30) else colP L s
structure PrunPost (w : World) (L : List Nd) (s : List Nat) (g : Gl) (e : Ending) (w' : World) : Prop where
  ex : ∃ v, e = .returned (.tuple #[v, .int .i64 (prunC L s g)]) ∧ (prunC L s g = 0 → NRow w v (prunF L g s []) w') ∧ (prunC L s g ≠ 0 → v = .slice none 0 0)
  below : Below w.heap.size w w'
theorem nrow_form {w w' : World} {v : Value} {R : List Nd} (h : NRow w v R w') : ∃ p c, v = .slice p R.length c := by
  unfold NRow at h
  obtain ⟨_, ⟨rfl, h0⟩ | ⟨g, cap, cur, rfl, _⟩⟩ := h
  · exact ⟨none, 0, by rw [h0]⟩
  · exact ⟨_, cap, rfl⟩
theorem nrow_base {w w0 w' : World} {v : Value} {R : List Nd} (h : NRow w v R w') (hb : w0.heap.size ≤ w.heap.size) : NRow w0 v R w' := ownsRow_base h hb
set_option maxHeartbeats 4000000 in
theorem qprune (p0 : Option Addr) (b off cap : Nat) (L : List Nd) (s : List Nat) (g : Gl) (hs : checkC L = 0 → Items L 0 s) (w : World) (hN : NIn w p0 b off cap L) :
    Calls Try.prog 31 #[.slice p0 L.length cap, .agg g.arr] w (PrunPost w L s g) := by
  have d0 := heap_alloc_new w (.cells g.arr 23)
  have hb0 : Below w.heap.size w (w.alloc (.cells g.arr 23)) := (Below.refl _ _).alloc (Nat.le_refl _) _
  have HC := Lib.hid (qcolumn p0 b off cap L s hs _ (hN.below hb0))
  have H := Lib.hid hN
  have Hs := Lib.hid hs
  clear hN hs
  go_enter Try.func31, Try.ntmps31
  go_upto_region 1 with (fail)
  generalize w.alloc (.cells g.arr 23) = w1 at d0 hb0 HC ⊢
  go_wp2_with fail
  refine HC.out.mono ?_
  clear HC
  rintro e w2 ⟨rfl, hb2⟩
  have d2 := (hb2.block w.heap.size (Array.getElem?_eq_some_iff.1 d0).1).trans d0
  have hbw := hb0.trans (hb2.mono hb0.size)
  have a2 : agg? w2 w.heap.size 0 5 = some g.arr := by rw [agg?_blk' d2 0 5 (by simp [Gl.size_arr])]; simp [Gl.arr, Gl.cells]
  have h2 := (Array.getElem?_eq_some_iff.1 d2).1
  clear d0 hb0 hb2
  by_cases hck : colP L s = 0
  · have hs := Hs.out (colP_check hck)
    have hkd := items_kind0 hs (colP_check hck)
    have hl := (checkC_zero (colP_check hck)).1
    have hr := check_right (colP_check hck)
    have Hck := Lib.hid hck
    rw [hck]
    clear hck Hs
    have HT := Lib.hid (qtop g w2)
    cases ht : topB g
    · have Hc := Lib.hid (show prunC L s g = 30 by unfold prunC; rw [if_pos Hck.out, ht]; rfl)
      rw [ht] at HT
      clear ht hs hkd hr
      go_wp2_with fail
      refine HT.out.mono ?_
      clear HT
      rintro e w3 ⟨rfl, hb3⟩
      go_wp2_with fail
      go_ret2
      exact ⟨⟨.slice none 0 0, by rw [Hc.out]; rfl, fun h => absurd (Hc.out.symm.trans h) (by decide), fun _ => rfl⟩, hbw.trans (hb3.mono hbw.size)⟩
    · have hg : g.good = true := by simp [topB] at ht; exact ht.1
      have HP : Hid (∀ W, Below w2.heap.size w2 W → Calls Try.prog 66 #[.slice p0 L.length cap, .agg g.arr] W fun e w' => (∃ v, e = .returned v ∧ NRow W v (prunF L g s []) w') ∧ Below W.heap.size W w') := Lib.hid fun W hb => qpruned p0 b off cap L s g hs (fun x hx => (hkd x hx).1) hr hl hg W (H.out.below (hbw.trans (hb.mono hbw.size)))
      have Hc : Hid (prunC L s g = if 2000 < (prunF L g s []).length then 6 else 0) := Lib.hid (by unfold prunC; rw [if_pos Hck.out, ht]; rfl)
      rw [ht] at HT
      clear ht hs hkd hr hg
      go_wp2_with fail
      refine HT.out.mono ?_
      clear HT
      rintro e w3 ⟨rfl, hb3⟩
      have a3 : agg? w3 w.heap.size 0 5 = some g.arr := ((bfacts hb3).2.2.1 _ _ _ h2).trans a2
      clear a2 d2
      have HP3 := Lib.hid (HP.out w3 hb3)
      clear HP
      go_wp2_with fail
      refine HP3.out.mono ?_
      clear HP3
      rintro e w4 ⟨⟨v, rfl, hrow⟩, hb4⟩
      obtain ⟨p, c, rfl⟩ := nrow_form hrow
      have hb34 := hb3.trans (hb4.mono hb3.size)
      have hrow2 := nrow_base (w0 := w) hrow (Nat.le_trans hbw.size hb3.size)
      obtain ⟨R, hR⟩ : ∃ R, prunF L g s [] = R := ⟨_, rfl⟩
      have HR := Lib.hid hR
      rw [hR] at hrow2
      have Hrow := Lib.hid hrow2
      rw [hR] at Hc
      rw [hR]
      clear hrow hrow2 a3 hR
      by_cases hbig : 2000 < R.length
      · have hbg : (2000 : Int) < (R.length : Int) := by omega
        have Hc2 := Lib.hid (Hc.out.trans (if_pos hbig))
        clear hbig
        go_wp2_with fail
        go_ret2
        exact ⟨⟨.slice none 0 0, by rw [Hc2.out]; rfl, fun h => absurd (Hc2.out.symm.trans h) (by decide), fun _ => rfl⟩, hbw.trans (hb34.mono hbw.size)⟩
      · have hbg : (R.length : Int) ≤ (2000 : Int) := by omega
        have Hc2 := Lib.hid (Hc.out.trans (if_neg hbig))
        clear hbig
        go_wp2_with fail
        go_ret2
        exact ⟨⟨_, by rw [Hc2.out]; rfl, fun _ => by rw [HR.out]; exact Hrow.out, fun h => absurd Hc2.out h⟩, hbw.trans (hb34.mono hbw.size)⟩
  · have hck' : ((colP L s : Int) != 0) = true := by simpa using hck
    have Hc := Lib.hid (show prunC L s g = colP L s by unfold prunC; rw [if_neg hck])
    have Hck := Lib.hid hck
    clear hck
    go_wp2_with fail
    go_ret2
    exact ⟨⟨.slice none 0 0, by rw [Hc.out]; rfl, fun h => absurd (Hc.out.symm.trans h) Hck.out, fun _ => rfl⟩, hbw⟩
end Go.Proofs.Ytkkdopfdoommnaa
