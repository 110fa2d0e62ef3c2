/-
  The laws' own functions over lists of nodes: a marker; a lent list.
-/
import Derived.Test.YtkkdopfdoommnaaV11b
import Derived.Test.YtkkdopfdoommnaaVBs
namespace Go.Proofs.Ytkkdopfdoommnaa
open Go.ChangeShapes Go.WideShapes Go.ChangeAt Go.RowKit Go.Shelf
def markN (k : Int) : Nd := { Nd.zero with kind := -k, text := ⟨#[114, 111, 111, 109]⟩ }
set_option maxRecDepth 100000 in
set_option maxHeartbeats 4000000 in
theorem marker_any (k : Int) (h1 : 0 ≤ k) (h2 : k ≤ 100) (w : World) : Calls Try.prog 59 #[.int .i64 k] w fun e w' => e = .returned (.agg (markN k).arr) ∧ Below w.heap.size w w' := by
  have hw : IntKind.i64.wrap (-k) = -k := Go.IntWalk.i64_in _ (by omega)
  go_enter Try.func59, Try.ntmps59
  go_wp2_with fail
  exact ret_row _ _ _ u_nd rfl i_nd rfl w.heap.size 0 _ rfl (agg?_nd _ _ _ _ _ rfl) rfl ⟨rfl, (Below.refl _ _).alloc (Nat.le_refl _) _⟩
theorem owns_empty (W : World) : (W.alloc (.cells #[] 25)).ownsRow W.heap.size 25 19 (.slice (some ⟨W.heap.size, 0, none⟩) 0 0) 0 [] :=
  ⟨rfl, .inr ⟨W.heap.size, 0, #[], rfl, Nat.le_refl _, heap_alloc_new _ _, Nat.le_refl _, by unfold maxLen; omega, rfl, rfl⟩⟩
theorem owns_cap {W : World} {B size n c : Nat} {e : TypeId} {a : Addr} {xs : List Value} (h : W.ownsRow B e size (.slice (some a) n c) n xs) : n ≤ c := by
  obtain ⟨_, ⟨h, _⟩ | ⟨g, c2, cur, h, _, _, h1, _⟩⟩ := h
  · cases h
  · cases h; exact h1
theorem lcf_zero (a : Addr) (i : Nat) (acc : Array Value) : loadCellsFrom a i 0 acc = pure acc := rfl
theorem sc_nil (a : Addr) : storeCells a [] = pure () := rfl
set_option maxRecDepth 100000 in
set_option maxHeartbeats 4000000 in
theorem lent_any (p0 : Option Addr) (b off cap : Nat) (L : List Nd) (w : World) (hN : NIn w p0 b off cap L) : Calls Try.prog 28 #[.slice p0 L.length cap] w fun e w' =>
    (∃ g c, e = .returned (.slice (some ⟨g, 0, none⟩) L.length c) ∧ L.length + 2 ≤ c ∧ w'.ownsRow w.heap.size 25 19 (.slice (some ⟨g, 0, none⟩) (L.length + 2) c) (L.length + 2) ((L ++ [markN 7, markN 8]).flatMap Nd.cells)) ∧ Below w.heap.size w w' := by
  have HM : Hid (∀ (k : Int) W, 0 ≤ k → k ≤ 100 → Calls Try.prog 59 #[.int .i64 k] W fun e w' => e = .returned (.agg (markN k).arr) ∧ Below W.heap.size W w') := Lib.hid fun k W h1 h2 => marker_any k h1 h2 W
  have hl := hN.len
  obtain ⟨i0, hi0', hz0, hz1, hz2⟩ := info_parts info_node
  have r0 := owns_empty w
  have hb0 : Below w.heap.size w (w.alloc (.cells #[] 25)) := (Below.refl _ _).alloc (Nat.le_refl _) _
  go_enter Try.func28, Try.ntmps28
  go_upto_region 1 with (fail)
  go_cut [3] from 3 (fun s3 wx => ∃ g c, s3 = .slice (some ⟨g, 0, none⟩) L.length c ∧ wx.ownsRow w.heap.size 25 19 s3 L.length (L.flatMap Nd.cells) ∧ Below w.heap.size w wx)
  case first =>
    by_cases hL : L = []
    · subst hL
      cases p0
      all_goals
        simp only [List.length_nil]
        go_wp2_with fail
        go_meet
        exact ⟨_, _, rfl, r0, hb0⟩
    · have hpos : 0 < L.length := List.length_pos_iff.2 hL
      obtain rfl := hN.hp hL
      have Hnews := Lib.hid (fun W h => (NIn.below hN h : NIn W _ _ _ _ _).news)
      have hcap := hN.cap'
      go_wp2_with (at_builtin; refine wpList_append_lies _ rfl _ _ _ rfl w.heap.size 25 i0 (.agg Nd.zero.arr) 19 160 Try.underlying26 hi0' hz0 hz1 hz2 rfl (by decide) (.slice (some ⟨w.heap.size, 0, none⟩) 0 0) 0 [] rfl r0 ⟨b, off, none⟩ L.length cap (L.flatMap Nd.cells) rfl (flat_len _) (Hnews.out _ hb0) (nodes_one _) hpos (by unfold maxLen; omega) (by omega) (by simp) _ rfl ?_; intro g1 cap1 w1 hown1 hgrow1 hat1 hlt1)
      go_meet
      rw [Nat.zero_add, List.nil_append] at hown1
      exact ⟨_, _, rfl, hown1, Below.grown hb0 hgrow1 (by simp) (fun q hq => by cases hq; exact Nat.le_refl _)⟩
  case rest =>
    obtain ⟨g, c, rfl, hown, hb⟩ := hcut
    have HB := Lib.hid hb
    have HO := Lib.hid hown
    have hsz : w.heap.size ≤ wc.heap.size := hb.size
    have hone : Hid (∀ u ∈ (markN 7).cells ++ (markN 8).cells, u.oneCell' = true) := Lib.hid (by have := nodes_one [markN 7, markN 8]; simpa using this)
    clear hown hb r0 hb0 hN
    go_wp2_with (first | (at_builtin; refine wpList_append_lies _ rfl _ _ _ rfl w.heap.size 25 i0 (.agg Nd.zero.arr) 19 160 Try.underlying26 hi0' hz0 hz1 hz2 rfl (by decide) (.slice (some ⟨g, 0, none⟩) L.length c) L.length (L.flatMap Nd.cells) rfl hown4 ⟨w4.heap.size, 0, none⟩ 2 2 ((markN 7).cells ++ (markN 8).cells) rfl rfl (World.news_of_block (cs := ((markN 7).cells ++ (markN 8).cells).toArray) (heap_alloc_new _ _)) hone.out (by decide) (by unfold maxLen; omega) (by omega) (by simp; omega) _ rfl ?_; intro g1 cap1 w1 hown1 hgrow1 hat1 hlt1; (have hc1 := owns_cap hown1); (have hc2 : (L.length : Int) ≤ (cap1 : Int) := by omega); (have hc3 : ¬ cap1 = 0 := by omega); (have hc4 : L.length ≤ cap1 := by omega); (have hc5 : ¬ (cap1 : Int) < (L.length : Int) := by omega)) | (go_at_call 59; first | (refine (HM.out 7 _ (by decide) (by decide)).mono ?_; rintro e w3 ⟨rfl, hb3⟩) | (refine (HM.out 8 _ (by decide) (by decide)).mono ?_; rintro e w4 ⟨rfl, hb4⟩; (have hown4 := (ownsRow_below (ownsRow_below HO.out hb3) hb4).alloc (.cells ((markN 7).cells ++ (markN 8).cells).toArray 25)); (have hsz4 : w.heap.size ≤ w4.heap.size := Nat.le_trans hsz (Nat.le_trans hb3.size hb4.size)))))
    go_ret
    have hbA : Below w.heap.size w (w4.alloc (.cells ((markN 7).cells ++ (markN 8).cells).toArray 25)) := ((HB.out.trans (hb3.mono hsz)).trans (hb4.mono (Nat.le_trans hsz hb3.size))).alloc hsz4 _
    refine ⟨⟨g1, cap1, rfl, hc1, ?_⟩, Below.grown hbA hgrow1 (by simp; omega) (fun q hq => (HO.out.lt q hq).1)⟩
    exact hown1
end Go.Proofs.Ytkkdopfdoommnaa
