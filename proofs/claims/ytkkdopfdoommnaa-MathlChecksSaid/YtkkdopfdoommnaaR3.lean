/-
  Layer 20, the document's side: a fence is read.
-/
import Derived.Test.YtkkdopfdoommnaaR2
import Derived.Test.YtkkdopfdoommnaaRItem
import Derived.Test.YtkkdopfdoommnaaM5
import Derived.Deep.RegionHeld3
import Derived.Deep.DeepCutAuto
namespace Go.Proofs.Ytkkdopfdoommnaa
open Go.ChangeShapes Go.WideShapes Go.ChangeAt Go.RowKit
attribute [local go_sem ↓] Go.wp_at_zero Go.wp_at_succ

/-- what a function that reads on leaves: on to what r says, or broken -/
structure RTo (w : World) (R b off cap : Nat) (p : Option Addr) (L : List Sn) (deep : Nat) (r : Option (List Sn)) (w' : World) : Prop where
  turned : Turned w.heap.size R w w'
  yes : ∀ l, r = some l → ∃ j, j ≤ L.length ∧ l = L.drop j ∧ RRdr w' R b off cap p L j deep false
  no : r = none → ∃ j, j + deep ≤ L.length + 20 ∧ RRdr w' R b off cap p L j deep true
def fenceP (k : Int) : List Sn → Option (List Sn)
  | s :: l => if s.kind = k ∧ goodB s = true then some l else none
  | [] => none
theorem fenceP_right : fenceP 14 = rightP := by
  funext l; cases l <;> rfl
structure FencePost (w : World) (R b off cap : Nat) (p : Option Addr) (L : List Sn) (i deep : Nat) (r : Option (List Sn)) (e : Ending) (w' : World) : Prop where
  ex : ∃ s : Sn, e = .returned (.agg s.arr) ∧ (∀ l, r = some l → L[i]? = some s)
  rd : RTo w R b off cap p L deep r w'

theorem RRdr.far {w : World} {R b off cap i deep : Nat} {p : Option Addr} {L : List Sn} {broken : Bool} (h : RRdr w R b off cap p L i deep broken) {Q o : Nat} {c : Array Value} (hR : Q ≠ R) (hb : L ≠ [] → b ≠ Q) : RRdr (setAgg w Q o c) R b off cap p L i deep broken :=
  h.of ((heap_setCells_other Q R (Ne.symm hR) _ _ _).trans h.blk) (by simp) fun e => heap_setCells_other Q b (hb e) _ _ _
theorem there_blk {w : World} {X : Nat} {c : Array Value} {t : TypeId} (h : w.heap[X]? = some (.cells c t (0, 0))) (o n : Nat) (hn : o + n ≤ c.size) : there? w X o n = true := by
  unfold there?; rw [h]; simpa using hn
set_option maxRecDepth 100000 in
set_option maxHeartbeats 2000000 in
theorem fence_no (k : Int) (R b off cap i deep : Nat) (p : Option Addr) (L : List Sn) (w : World) (h : RRdr w R b off cap p L i deep false) (hi : i ≤ L.length) (hd : deep ≤ 20) (hk : ((kindAt L i : Int) != k) = true) :
    Calls Try.prog 130 #[.pointer (some ⟨R, 0, none⟩), .int .i64 k] w (FencePost w R b off cap p L i deep none) := by
  have h1 := h.alloc0 (.cells Sn.zero.arr 105)
  have hK := Lib.hid (rkind_any R b off cap i deep p L false _ h1)
  have c3 := h1.c3
  have cf := h1.fr 3
  have hlt := h.ltR
  go_enter Try.func130, Try.ntmps130
  go_wp2_with fail
  refine hK.out.mono ?_
  rintro e w' ⟨rfl, m, rfl⟩
  have h2 := h1.drewN m
  have hq : ((w.alloc (.cells Sn.zero.arr 105)).drewN m).heap[w.heap.size]? = some (.cells Sn.zero.arr 105 (0, 0)) := heap_alloc_new _ _
  have ht : Turned w.heap.size R w ((w.alloc (.cells Sn.zero.arr 105)).drewN m) := ((Turned.refl _ _ _).alloc (Nat.le_refl _) _).drewN m
  clear hK h1 c3 cf
  generalize ((w.alloc (.cells Sn.zero.arr 105)).drewN m) = w1 at h2 hq ht ⊢
  have c3 := h2.c3
  have cf := h2.fr 3
  have hne : w.heap.size ≠ R := by omega
  have hq2 : (w1.setCell ⟨R, 3, none⟩ (.bool true)).heap[w.heap.size]? = some (.cells Sn.zero.arr 105 (0, 0)) := (Below.heap_setCell _ _ _ _ hne).trans hq
  have hth := there_blk hq2 0 9 (by simp [Sn.size_arr])
  have h3 := h2.brk true
  clear hq
  go_wp2_with fail
  refine ret_RSn rfl w.heap.size 0 Sn.zero rfl (agg?_setAgg_same (c := Sn.zero.arr) hth) rfl ⟨⟨Sn.zero, rfl, fun l e => by cases e⟩, ⟨?_, (fun l e => by cases e), fun _ => ⟨i, by omega, ?_⟩⟩⟩
  · exact (ht.setCell (p := ⟨R, 3, none⟩) (.inl rfl) _).trans (.of_below (Below.setAgg (Below.refl _ _) (Nat.le_refl _) _ _))
  · exact h3.far hne fun e => by have := h.ltb e; omega

theorem agg?_setCell_ne {w : World} {a : Addr} {v : Value} {X o n : Nat} (h : X ≠ a.block) : agg? (w.setCell a v) X o n = agg? w X o n := by unfold agg?; rw [Below.heap_setCell _ _ _ _ h]
theorem there?_setCell_ne {w : World} {a : Addr} {v : Value} {X o n : Nat} (h : X ≠ a.block) : there? (w.setCell a v) X o n = there? w X o n := by unfold there?; rw [Below.heap_setCell _ _ _ _ h]
theorem RRdr.next1 {w : World} {R b off cap i deep : Nat} {p : Option Addr} {L : List Sn} {broken : Bool} (h : RRdr w R b off cap p L i deep broken) : RRdr (w.setCell ⟨R, 1, none⟩ (.int .i64 ((i : Int) + 1))) R b off cap p L (i + 1) deep broken := h.next (i + 1)
set_option maxRecDepth 100000 in
set_option maxHeartbeats 4000000 in
theorem fence_yes (k : Int) (hk1 : k = 13 ∨ k = 14) (R b off cap i deep : Nat) (p : Option Addr) (L : List Sn) (w : World) (h : RRdr w R b off cap p L i deep false) (hi : i < L.length) (hd : deep ≤ 20) (hk : ((kindAt L i : Int) != k) = false)
    (r : Option (List Sn)) (Hr : Hid ((if goodB L[i] = true then some (L.drop (i + 1)) else none) = r)) :
    Calls Try.prog 130 #[.pointer (some ⟨R, 0, none⟩), .int .i64 k] w (FencePost w R b off cap p L i deep r) := by
  have h1 := h.alloc0 (.cells Sn.zero.arr 105)
  have hK := Lib.hid (rkind_any R b off cap i deep p L false _ h1)
  have hlt := h.ltR
  have Hltb := Lib.hid h.ltb
  have Hs : Hid (L[i]? = some L[i]) := Lib.hid (List.getElem?_eq_getElem hi)
  have Hg : Hid (fenceB L[i] = goodB L[i]) := Lib.hid (fence_good (by have : L[i].kind = k := by simpa [kindAt, hi] using hk
                                                                      rcases hk1 with h | h <;> simp [this, h]))
  have hsg := h.sg i hi
  clear hk1
  go_enter Try.func130, Try.ntmps130
  go_wp2_with fail
  refine hK.out.mono ?_
  rintro e w' ⟨rfl, m, rfl⟩
  have h2 := h1.drewN m
  have hq : ((w.alloc (.cells Sn.zero.arr 105)).drewN m).heap[w.heap.size]? = some (.cells Sn.zero.arr 105 (0, 0)) := heap_alloc_new _ _
  have ht : Turned w.heap.size R w ((w.alloc (.cells Sn.zero.arr 105)).drewN m) := ((Turned.refl _ _ _).alloc (Nat.le_refl _) _).drewN m
  have hz : ((w.alloc (.cells Sn.zero.arr 105)).drewN m).heap.size = w.heap.size + 1 := by show (w.alloc _).heap.size = _; simp
  clear hK h1 hsg
  generalize ((w.alloc (.cells Sn.zero.arr 105)).drewN m) = w1 at h2 hq ht hz ⊢
  have c0 := h2.c0
  have c1 := h2.c1
  have cs := h2.sg i hi
  rw [h2.hp (by intro e; rw [e] at hi; simp at hi)] at c0
  have hcap := h2.cap'
  have hl := h2.len
  have hi1 : (0 : Int) ≤ (i : Int) := by omega
  have hi2 : (i : Int) < (L.length : Int) := by omega
  generalize L[i] = s at cs Hs Hg Hr
  have Hz := Lib.hid hz
  clear hz
  go_wp2_with fail
  go_region_held3 (fun w' => w'.cell? ⟨R, 0, none⟩ = some (.slice (some ⟨b, off, none⟩) L.length cap) ∧ w'.cell? ⟨R, 1, none⟩ = some (.int .i64 i) ∧ agg? w' b (off + i * 9) 9 = some s.arr) (simp [*, World.cell?_alloc_some, agg?_drew, agg?_alloc_some]) (fail)
  have h3 : RRdr (w1.alloc (.cells s.arr 105)).drew R b off cap p L i deep false := (h2.alloc0 _).drewN 1
  have hx : (w1.alloc (.cells s.arr 105)).drew.heap[w1.heap.size]? = some (.cells s.arr 105 (0, 0)) := heap_alloc_new _ _
  have ht3 : Turned w.heap.size R w (w1.alloc (.cells s.arr 105)).drew := (ht.alloc (by rw [Hz.out]; omega) _).drew
  have hq3 : (w1.alloc (.cells s.arr 105)).drew.heap[w.heap.size]? = some (.cells Sn.zero.arr 105 (0, 0)) := (Below.heap_alloc _ _ _ (by rw [Hz.out]; omega)).trans hq
  have hX : w.heap.size < w1.heap.size := by rw [Hz.out]; omega
  clear h2 hq ht c0 c1 cs Hz
  generalize (w1.alloc (.cells s.arr 105)).drew = w2 at h3 hx ht3 hq3 ⊢
  generalize w1.heap.size = X at hx hX ⊢
  have c1 := h3.c1
  have cf := h3.fr 1
  have h4 := h3.next1
  have hx4 : (w2.setCell ⟨R, 1, none⟩ (.int .i64 ((i : Int) + 1))).heap[X]? = some (.cells s.arr 105 (0, 0)) := (Below.heap_setCell _ _ _ _ (by simp only; omega)).trans hx
  have hq4 : (w2.setCell ⟨R, 1, none⟩ (.int .i64 ((i : Int) + 1))).heap[w.heap.size]? = some (.cells Sn.zero.arr 105 (0, 0)) := (Below.heap_setCell _ _ _ _ (by simp only; omega)).trans hq3
  have ht4 := ht3.setCell (p := ⟨R, 1, none⟩) (.inl rfl) (.int .i64 ((i : Int) + 1))
  clear hx hq3 ht3 h3
  go_upto_region 6 with (fail)
  generalize w2.setCell ⟨R, 1, none⟩ (.int .i64 ((i : Int) + 1)) = w3 at h4 hx4 hq4 ht4 ⊢
  clear c1 cf
  go_cut [59] (fun s59 wx => s59 = .bool (!fenceB s) ∧ wx.heap[X]? = some (.cells s.arr 105 (0, 0)) ∧ wx.heap[w.heap.size]? = some (.cells Sn.zero.arr 105 (0, 0)) ∧ RRdr wx R b off cap p L (i + 1) deep false ∧ Turned w.heap.size R w wx)
  case first =>
    have ax : agg? w3 X 0 9 = some s.arr := by rw [agg?_blk hx4 0 9 (by simp [Sn.size_arr])]; simp [Sn.arr, Sn.cells]
    have e1 : w3.cell? ⟨X, 1, none⟩ = some (.int .i64 s.fam) := by rw [cell?_blk hx4]; rfl
    have e2 : w3.cell? ⟨X, 2, none⟩ = some (.int .u8 s.char) := by rw [cell?_blk hx4]; rfl
    have e3 : w3.cell? ⟨X, 3, none⟩ = some (.int .i64 s.n) := by rw [cell?_blk hx4]; rfl
    have hXl : X < w3.heap.size := (Array.getElem?_eq_some_iff.1 hx4).1
    have fin : ∀ wx, Below w3.heap.size w3 wx → wx.heap[X]? = some (.cells s.arr 105 (0, 0)) ∧ wx.heap[w.heap.size]? = some (.cells Sn.zero.arr 105 (0, 0)) ∧ RRdr wx R b off cap p L (i + 1) deep false ∧ Turned w.heap.size R w wx := fun wx hb =>
      ⟨(hb.block X hXl).trans hx4, (hb.block _ (by omega)).trans hq4, h4.below hb, ht4.trans (.of_below (hb.mono (by omega)))⟩
    have Fin := Lib.hid fin
    clear fin hx4 hq4 h4 ht4 h Hltb Hs Hg Hr
    go_wp2_with (first | (go_at_call 54; refine (rwithin_any _ _ _ _).mono ?_; rintro e w' ⟨rfl, rfl⟩) | (go_at_call 144; refine (rplain_any _ _ _ _).mono ?_; rintro e w4 ⟨rfl, hb4⟩; obtain ⟨hc4, _, ha4, _⟩ := bfacts hb4; (have hXl4 : X < w4.heap.size := Nat.lt_of_lt_of_le hXl hb4.size)) | (go_at_call 145; refine (rfam_any _ _).mono ?_; rintro e w5 ⟨rfl, hb5⟩; obtain ⟨hc5, _, ha5, _⟩ := bfacts hb5))
    all_goals go_meet
    all_goals first
      | refine ⟨?_, Fin.out _ (hb4.trans (hb5.mono hb4.size))⟩
      | refine ⟨?_, Fin.out _ hb4⟩
    all_goals congr 1
    all_goals first
      | (simp [fenceB, *]; done)
      | (simp [fenceB, *]; simp [withinB]; rfl)
  case rest =>
    obtain ⟨rfl, hx5, hq5, h5, ht5⟩ := hcut
    have hQX : w.heap.size ≠ R := by omega
    have hXR : X ≠ R := by omega
    clear hx4 hq4 h4 ht4
    cases hf : fenceB s
    · have hg := Lib.hid (show r = none by rw [← Hr.out, Hg.out.symm.trans hf]; rfl)
      have hx6 : (wc.setCell ⟨R, 3, none⟩ (.bool true)).heap[X]? = some (.cells s.arr 105 (0, 0)) := (Below.heap_setCell _ _ _ _ hXR).trans hx5
      have hq6 : (wc.setCell ⟨R, 3, none⟩ (.bool true)).heap[w.heap.size]? = some (.cells Sn.zero.arr 105 (0, 0)) := (Below.heap_setCell _ _ _ _ hQX).trans hq5
      have ax : agg? (wc.setCell ⟨R, 3, none⟩ (.bool true)) X 0 9 = some s.arr := by rw [agg?_blk hx6 0 9 (by simp [Sn.size_arr])]; simp [Sn.arr, Sn.cells]
      have hth := there_blk hq6 0 9 (by simp [Sn.size_arr])
      have c3 := h5.c3
      have cf := h5.fr 3
      have h6 := h5.brk true
      have ht6 := ht5.setCell (p := ⟨R, 3, none⟩) (.inl rfl) (.bool true)
      clear hx5 hq5 hx6 hq6
      go_wp2_with fail
      refine ret_RSn rfl w.heap.size 0 s rfl (agg?_setAgg_same (c := s.arr) hth) rfl ?_
      rw [hg.out]
      exact ⟨⟨s, rfl, fun l e => by cases e⟩, ⟨ht6.trans (.of_below (Below.setAgg (Below.refl _ _) (Nat.le_refl _) _ _)), (fun l e => by cases e), fun _ => ⟨i + 1, by omega, h6.far hQX fun e => by have := Hltb.out e; omega⟩⟩⟩
    · have hg := Lib.hid (show r = some (L.drop (i + 1)) by rw [← Hr.out, Hg.out.symm.trans hf]; rfl)
      have ax : agg? wc X 0 9 = some s.arr := by rw [agg?_blk hx5 0 9 (by simp [Sn.size_arr])]; simp [Sn.arr, Sn.cells]
      have hth := there_blk hq5 0 9 (by simp [Sn.size_arr])
      clear hx5 hq5
      go_wp2_with fail
      refine ret_RSn rfl w.heap.size 0 s rfl (agg?_setAgg_same (c := s.arr) hth) rfl ?_
      rw [hg.out]
      exact ⟨⟨s, rfl, fun l e => Hs.out⟩, ⟨ht5.trans (.of_below (Below.setAgg (Below.refl _ _) (Nat.le_refl _) _ _)), (fun l e => ⟨i + 1, hi, (Option.some.inj e).symm, h5.far hQX fun e => by have := Hltb.out e; omega⟩), fun e => by cases e⟩⟩
end Go.Proofs.Ytkkdopfdoommnaa
