/-
  Layer 20, the document's side: the class of a kind.
-/
import Derived.Test.YtkkdopfdoommnaaR3
namespace Go.Proofs.Ytkkdopfdoommnaa
open Go.ChangeShapes Go.WideShapes Go.ChangeAt Go.RowKit
attribute [local go_sem ↓] Go.wp_at_zero Go.wp_at_succ

set_option maxHeartbeats 1000000 in
theorem rraw_any (k : Int) (w : World) : Calls Try.prog 84 #[.int .i64 k] w fun e w' => e = .returned (.int .i64 (classI k)) ∧ w = w' := by
  go_enter Try.func84, Try.ntmps84
  go_wp2
  all_goals go_ret
  all_goals refine ⟨ret_int ?_, rfl⟩
  all_goals unfold classI
  all_goals first | (simp_all; done) | (simp_all; omega)

/-- a field is read: D fields may still stand in one another -/
def RFieldOK (D : Nat) : Prop := ∀ (R b off cap i deep : Nat) (p : Option Addr) (L : List Sn) (w : World), deep + D = 20 → RRdr w R b off cap p L i deep false → i ≤ L.length →
  Calls Try.prog 131 #[.pointer (some ⟨R, 0, none⟩)] w fun e w' => (∃ x : Pr, e = .returned (.agg x.arr)) ∧ RTo w R b off cap p L deep (fieldP D (L.drop i)) w'
structure RScriptPost (w : World) (R b off cap : Nat) (p : Option Addr) (L : List Sn) (deep : Nat) (r : Option (List Sn)) (e : Ending) (w' : World) : Prop where
  ex : ∃ x : Pr, e = .returned (.agg x.arr)
  rd : RTo w R b off cap p L deep r w'
set_option maxRecDepth 100000 in
set_option maxHeartbeats 4000000 in
theorem rscript_no (R b off cap i deep : Nat) (p : Option Addr) (L : List Sn) (w : World) (h : RRdr w R b off cap p L i deep false) (hi : i < L.length) (hd : deep ≤ 20) (s : Sn) (hs : L[i] = s) (hg : plainB s false false = false) :
    Calls Try.prog 133 #[.pointer (some ⟨R, 0, none⟩)] w (RScriptPost w R b off cap p L deep none) := by
  have h1 := h.alloc0 (.cells Pr.zero.arr 150)
  have hlt := h.ltR
  have Hltb := Lib.hid h.ltb
  have cs := h.sg i hi
  rw [hs] at cs
  have c0 := h.c0
  have c1 := h.c1
  have hbl := h.ltb (by intro e; rw [e] at hi; simp at hi)
  rw [h.hp (by intro e; rw [e] at hi; simp at hi)] at c0
  have hcap := h.cap'
  have hl := h.len
  have hi1 : (0 : Int) ≤ (i : Int) := by omega
  have hi2 : (i : Int) < (L.length : Int) := by omega
  have HP : Hid (∀ W, Calls Try.prog 144 #[.agg s.arr, .bool false, .bool false] W fun e w' => e = .returned (.bool false) ∧ Below W.heap.size W w') := Lib.hid fun W => (rplain_any s false false W).mono fun e w' ⟨h1, h2⟩ => ⟨h1.trans (ret_bool hg), h2⟩
  clear hs hg
  go_enter Try.func133, Try.ntmps133
  go_wp2_with fail
  refine wp_still_tail 10 (by kernel_rfl) (by kernel_rfl) ?_
  simp only [List.take_succ_cons, List.take_zero, List.drop_succ_cons, List.drop_zero]
  repeat still_step
  refine wpStill_nil ?_
  change wpList _ _ _ _ _ (w.alloc (.cells Pr.zero.arr 150)).drew
  have h2 : RRdr (w.alloc (.cells Pr.zero.arr 150)).drew R b off cap p L i deep false := h1.drewN 1
  have hq : (w.alloc (.cells Pr.zero.arr 150)).drew.heap[w.heap.size]? = some (.cells Pr.zero.arr 150 (0, 0)) := heap_alloc_new _ _
  have ht : Turned w.heap.size R w (w.alloc (.cells Pr.zero.arr 150)).drew := ((Turned.refl _ _ _).alloc (Nat.le_refl _) _).drew
  clear h1 cs c0 c1
  generalize (w.alloc (.cells Pr.zero.arr 150)).drew = w1 at h2 hq ht ⊢
  have hz : w.heap.size < w1.heap.size := (Array.getElem?_eq_some_iff.1 hq).1
  have hQR : w.heap.size ≠ R := by omega
  go_wp2_with (go_at_call 144; refine (HP.out _).mono ?_; rintro e w4 ⟨rfl, hb4⟩; (have h4 := h2.below hb4); (have c3 := h4.c3); (have cf := h4.fr 3); (have hq5 : (w4.setCell ⟨R, 3, none⟩ (.bool true)).heap[w.heap.size]? = some (.cells Pr.zero.arr 150 (0, 0)) := (Below.heap_setCell _ _ _ _ hQR).trans ((hb4.block _ hz).trans hq)); (have hth := there_blk hq5 0 2 (by simp [Pr.size_arr])); (have h5 := h4.brk true); clear hq5)
  refine ret_Pr rfl w.heap.size 0 (Pr.mk 0 (-1)) rfl (agg?_setAgg_same (c := (Pr.mk 0 (-1)).arr) hth) rfl ⟨⟨_, rfl⟩, ⟨?_, (fun l e => by cases e), fun _ => ⟨i, by omega, ?_⟩⟩⟩
  · exact ((ht.trans (.of_below (hb4.mono (by omega)))).setCell (p := ⟨R, 3, none⟩) (.inl rfl) _).trans (.of_below (Below.setAgg (Below.refl _ _) (Nat.le_refl _) _ _))
  · exact h5.far hQR fun e => by have := Hltb.out e; omega
set_option maxRecDepth 100000 in
set_option maxHeartbeats 4000000 in
theorem rscript_yes (D : Nat) (hF : RFieldOK D) (R b off cap i deep : Nat) (p : Option Addr) (L : List Sn) (w : World) (h : RRdr w R b off cap p L i deep false) (hi : i < L.length) (hd : deep + D = 20) (s : Sn) (hs : L[i] = s) (hg : plainB s false false = true)
    (r : Option (List Sn)) (Hr : Hid (fieldP D (L.drop (i + 1)) = r)) :
    Calls Try.prog 133 #[.pointer (some ⟨R, 0, none⟩)] w (RScriptPost w R b off cap p L deep r) := by
  have h1 := h.alloc0 (.cells Pr.zero.arr 150)
  have hlt := h.ltR
  have Hltb := Lib.hid h.ltb
  have cs := h.sg i hi
  rw [hs] at cs
  have c0 := h.c0
  have c1 := h.c1
  have hbl := h.ltb (by intro e; rw [e] at hi; simp at hi)
  rw [h.hp (by intro e; rw [e] at hi; simp at hi)] at c0
  have hcap := h.cap'
  have hl := h.len
  have hi1 : (0 : Int) ≤ (i : Int) := by omega
  have hi2 : (i : Int) < (L.length : Int) := by omega
  have HP : Hid (∀ W, Calls Try.prog 144 #[.agg s.arr, .bool false, .bool false] W fun e w' => e = .returned (.bool true) ∧ Below W.heap.size W w') := Lib.hid fun W => (rplain_any s false false W).mono fun e w' ⟨h1, h2⟩ => ⟨h1.trans (ret_bool hg), h2⟩
  clear hs hg
  go_enter Try.func133, Try.ntmps133
  go_wp2_with fail
  refine wp_still_tail 10 (by kernel_rfl) (by kernel_rfl) ?_
  simp only [List.take_succ_cons, List.take_zero, List.drop_succ_cons, List.drop_zero]
  repeat still_step
  refine wpStill_nil ?_
  change wpList _ _ _ _ _ (w.alloc (.cells Pr.zero.arr 150)).drew
  have h2 : RRdr (w.alloc (.cells Pr.zero.arr 150)).drew R b off cap p L i deep false := h1.drewN 1
  have hq : (w.alloc (.cells Pr.zero.arr 150)).drew.heap[w.heap.size]? = some (.cells Pr.zero.arr 150 (0, 0)) := heap_alloc_new _ _
  have ht : Turned w.heap.size R w (w.alloc (.cells Pr.zero.arr 150)).drew := ((Turned.refl _ _ _).alloc (Nat.le_refl _) _).drew
  clear h1 cs c0 c1
  generalize (w.alloc (.cells Pr.zero.arr 150)).drew = w1 at h2 hq ht ⊢
  have hz : w.heap.size < w1.heap.size := (Array.getElem?_eq_some_iff.1 hq).1
  have hQR : w.heap.size ≠ R := by omega
  go_wp2_with (go_at_call 144; refine (HP.out _).mono ?_; rintro e w4 ⟨rfl, hb4⟩; (have h4 := h2.below hb4); (have c1 := h4.c1); (have cf := h4.fr 1); (have h5 := h4.next1); (have hq5 : (w4.setCell ⟨R, 1, none⟩ (.int .i64 ((i : Int) + 1))).heap[w.heap.size]? = some (.cells Pr.zero.arr 150 (0, 0)) := (Below.heap_setCell _ _ _ _ hQR).trans ((hb4.block _ hz).trans hq)))
  have ht5 := (ht.trans (.of_below (hb4.mono (by omega)))).setCell (p := ⟨R, 1, none⟩) (.inl rfl) (.int .i64 ((i : Int) + 1))
  have hc := hF R b off cap (i + 1) deep p L _ hd h5 hi
  rw [Hr.out] at hc
  have hz5 : w.heap.size < (w4.setCell ⟨R, 1, none⟩ (.int .i64 ((i : Int) + 1))).heap.size := (Array.getElem?_eq_some_iff.1 hq5).1
  refine hc.mono ?_
  clear hc
  rintro e w6 ⟨⟨x, rfl⟩, ht6, hy, hn⟩
  have hq6 := (ht6.block _ hz5 hQR).trans hq5
  have hth := there_blk hq6 0 2 (by simp [Pr.size_arr])
  have HY := Lib.hid hy
  have HN := Lib.hid hn
  have ht7 := ht5.trans (ht6.mono (Nat.le_of_lt hz5))
  clear hy hn hq5 hq6 ht5 ht6
  go_wp2_with fail
  refine ret_Pr rfl w.heap.size 0 x rfl (agg?_setAgg_same (c := x.arr) hth) rfl ⟨⟨_, rfl⟩, ⟨?_, fun l e => ?_, fun e => ?_⟩⟩
  · exact ht7.trans (.of_below (Below.setAgg (Below.refl _ _) (Nat.le_refl _) _ _))
  · obtain ⟨j, h1, h2, h3⟩ := HY.out l e
    exact ⟨j, h1, h2, h3.far hQR fun e => by have := Hltb.out e; omega⟩
  · obtain ⟨j, h1, h2⟩ := HN.out e
    exact ⟨j, h1, h2.far hQR fun e => by have := Hltb.out e; omega⟩
end Go.Proofs.Ytkkdopfdoommnaa
