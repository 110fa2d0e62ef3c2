/-
  (*vlist.meter).size: so far.
-/
import Derived.Test.YtaehkbbdmamfpaaGreatDoorS3
namespace Go.Proofs.YtaehkbbdmamfpaaGreatDoor
open Go.ChangeShapes Go.WideShapes Go.ChangeAt Go.RowKit
theorem results_tt2 {fn : Func} {p t : Tmp} (h : fn.results = #[.cell p 43, .tmp t]) (tmps : Array Value) (w : World) (b : Nat) (T : Tt) (hp : tmps.getD p undef = .pointer (some ⟨b, 0, none⟩)) (hc : agg? w b 0 9 = some T.arr) :
    (results fn tmps).run Tryz.prog w = .ok (.tuple #[.agg T.arr, tmps.getD t undef]) w := by
  have hl : (loadVar 43 ⟨b, 0, none⟩).run Tryz.prog w = .ok (.agg T.arr) w := by
    have := run_loadAt_row (P := Tryz.prog) 43 9 _ u_tt rfl i_tt b 0 w
    rw [hc, ldRow_some] at this
    simpa [Instr.loadAt, Instr.sureAddr] using this
  have hp' : tmps[p]?.getD undef = .pointer (some ⟨b, 0, none⟩) := by simpa using hp
  simp [results, h, hp', asAddr, hl]
theorem results_tt3 {fn : Func} {p t u : Tmp} (h : fn.results = #[.cell p 43, .tmp t, .tmp u]) (tmps : Array Value) (w : World) (b : Nat) (T : Tt) (hp : tmps.getD p undef = .pointer (some ⟨b, 0, none⟩)) (hc : agg? w b 0 9 = some T.arr) :
    (results fn tmps).run Tryz.prog w = .ok (.tuple #[.agg T.arr, tmps.getD t undef, tmps.getD u undef]) w := by
  have hl : (loadVar 43 ⟨b, 0, none⟩).run Tryz.prog w = .ok (.agg T.arr) w := by
    have := run_loadAt_row (P := Tryz.prog) 43 9 _ u_tt rfl i_tt b 0 w
    rw [hc, ldRow_some] at this
    simpa [Instr.loadAt, Instr.sureAddr] using this
  have hp' : tmps[p]?.getD undef = .pointer (some ⟨b, 0, none⟩) := by simpa using hp
  simp [results, h, hp', asAddr, hl]
def TAt (W : World) (b : Nat) (T : Tt) : Prop := W.heap[b]? = some (.cells T.arr 43 (0, 0))
theorem TAt.lt {W : World} {b : Nat} {T : Tt} (h : TAt W b T) : b < W.heap.size := (Array.getElem?_eq_some_iff.1 h).1
theorem TAt.agg {W : World} {b : Nat} {T : Tt} (h : TAt W b T) : agg? W b 0 9 = some T.arr := by rw [agg?_blk' h 0 9 (by simp [Tt.size_arr])]; simp [Tt.arr, Tt.cells]
theorem TAt.there {W : World} {b : Nat} {T : Tt} (h : TAt W b T) : there? W b 0 9 = true := there_blk h 0 9 (by simp [Tt.size_arr])
theorem TAt.store {W : World} {b : Nat} {T U : Tt} (h : TAt W b T) : TAt (setAgg W b 0 U.arr) b U := by
  have := heap_setCells_same b _ (0, 0) U.arr.toList 0 T.arr W h
  rw [show U.arr.toList = U.cells from rfl, setMany_Tt] at this
  exact this
set_option maxRecDepth 100000 in
set_option maxHeartbeats 8000000 in
theorem msize (m : Mt) (K : Int) (mb : Nat) (W : World) (hm : MAt W mb m) (hB : MtB K m) (hK : K ≤ 1152921504606846976) (hd : -1073741823 ≤ m.depth ∧ m.depth ≤ 1073741823) :
    Calls Tryz.prog 104 #[.pointer (some ⟨mb, 0, none⟩)] W fun e W' => e = .returned (.tuple #[.agg (sizeM m).1.arr, .int .i64 (sizeM m).2]) ∧ Below W.heap.size W W' := by
  have hlt := hm.lt
  obtain ⟨d1, d2⟩ := hd
  obtain ⟨b1, b2⟩ := hB.nat
  obtain ⟨b3, b4⟩ := hB.d
  have n1 : -1152921504606846976 ≤ m.t.nat := by omega
  have n2 : m.t.nat ≤ 1152921504606846976 := by omega
  clear hB b1 b2
  go_enter Tryz.func104, Tryz.ntmps104
  go_upto_region 1 with (fail)
  have hM1 : MAt (W.alloc (.cells (Tt.mk 0 0 0 0 0 0 0 0 0).arr 43)) mb m := (Below.heap_alloc _ _ _ hlt).trans hm
  have h1 : Below W.heap.size W (W.alloc (.cells (Tt.mk 0 0 0 0 0 0 0 0 0).arr 43)) := (Below.refl _ _).alloc (Nat.le_refl _) _
  have dZ := heap_alloc_new W (.cells (Tt.mk 0 0 0 0 0 0 0 0 0).arr 43)
  have hsz : (W.alloc (.cells (Tt.mk 0 0 0 0 0 0 0 0 0).arr 43)).heap.size = W.heap.size + 1 := by simp
  have hlt1 : mb < W.heap.size + 1 := by omega
  have HSz := Lib.hid hsz
  clear hsz
  generalize W.alloc (.cells (Tt.mk 0 0 0 0 0 0 0 0 0).arr 43) = A1 at hM1 h1 dZ HSz ⊢
  have a0 : agg? A1 mb 0 9 = some m.t.arr := by rw [agg?_blk' hM1 0 9 (by simp [Mt.size_arr])]; rfl
  have c9 := hM1.cell 9 _ (Mt.get9 m)
  have c10 := hM1.cell 10 _ (Mt.get10 m)
  have hltA : mb < A1.heap.size := hM1.lt
  go_region
  have hM2 : MAt (A1.alloc (.cells m.t.arr 43)).drew mb m := (Below.heap_alloc _ _ _ hltA).trans hM1
  have hT2 : TAt (A1.alloc (.cells m.t.arr 43)).drew A1.heap.size m.t := heap_alloc_new A1 _
  have hX : W.heap.size < A1.heap.size := (Array.getElem?_eq_some_iff.1 dZ).1
  have hZ2 : TAt (A1.alloc (.cells m.t.arr 43)).drew W.heap.size ⟨0, 0, 0, 0, 0, 0, 0, 0, 0⟩ := (Below.heap_alloc _ _ _ hX).trans dZ
  have h2 : Below W.heap.size W (A1.alloc (.cells m.t.arr 43)).drew := (h1.alloc (by omega) _).drew
  clear a0 c9 c10 h1 hM1 dZ hltA HSz hm hlt1
  generalize (A1.alloc (.cells m.t.arr 43)).drew = A2 at hM2 hT2 hZ2 h2 ⊢
  generalize A1.heap.size = X at hT2 hX ⊢
  have c10 := hM2.cell 10 _ (Mt.get10 m)
  have hne : W.heap.size ≠ X := by omega
  have hXm : X ≠ mb := by omega
  have t0 : A2.cell? ⟨X, 0, none⟩ = some (.int .i64 m.t.nat) := by rw [cell?_blk' hT2]; rfl
  have f0 : A2.frozen? ⟨X, 0, none⟩ = false := frozen_of_row A2 X 0 _ _ hT2
  have aX := hT2.agg
  have thZ := hZ2.there
  by_cases hd : m.depth < m.d
  · have Hs := Lib.hid (show sizeM m = ({ m.t with nat := m.t.nat + (m.d - m.depth) }, m.depth) by unfold sizeM; rw [if_pos hd])
    go_wp2_with fail
    go_region
    have hM3 : MAt (A2.setCell ⟨X, 0, none⟩ (.int .i64 (m.t.nat + (m.d - m.depth)))).drew mb m := (Below.heap_setCell _ _ _ _ (fun e => hXm e.symm)).trans hM2
    have hT3 : TAt (A2.setCell ⟨X, 0, none⟩ (.int .i64 (m.t.nat + (m.d - m.depth)))).drew X { m.t with nat := m.t.nat + (m.d - m.depth) } := by
      have := heap_setCell_same A2 X 0 _ _ (.int .i64 (m.t.nat + (m.d - m.depth))) hT2
      rw [Tt.set0] at this
      exact this
    have hZ3 : TAt (A2.setCell ⟨X, 0, none⟩ (.int .i64 (m.t.nat + (m.d - m.depth)))).drew W.heap.size ⟨0, 0, 0, 0, 0, 0, 0, 0, 0⟩ := (Below.heap_setCell _ _ _ _ hne).trans hZ2
    have h3 : Below W.heap.size W (A2.setCell ⟨X, 0, none⟩ (.int .i64 (m.t.nat + (m.d - m.depth)))).drew := (h2.setCell (p := ⟨X, 0, none⟩) (by simp only; omega) _).drew
    clear hM2 hT2 hZ2 h2 t0 f0 c10 aX thZ
    generalize (A2.setCell ⟨X, 0, none⟩ (.int .i64 (m.t.nat + (m.d - m.depth)))).drew = A3 at hM3 hT3 hZ3 h3 ⊢
    have c10 := hM3.cell 10 _ (Mt.get10 m)
    have aX := hT3.agg
    have thZ := hZ3.there
    go_wp2_with fail
    refine ⟨rfl, _, results_tt2 rfl _ _ W.heap.size _ rfl hZ3.store.agg, ?_, Below.setAgg h3 (Nat.le_refl _) _ _⟩
    rw [Hs.out]; rfl
  · have Hs := Lib.hid (show sizeM m = (m.t, m.d) by unfold sizeM; rw [if_neg hd])
    have hd2 : m.d ≤ m.depth := by omega
    go_wp2_with fail
    refine ⟨rfl, _, results_tt2 rfl _ _ W.heap.size _ rfl hZ2.store.agg, ?_, Below.setAgg h2 (Nat.le_refl _) _ _⟩
    rw [Hs.out]; rfl
end Go.Proofs.YtaehkbbdmamfpaaGreatDoor
