/-
  The document's Along, light, Sum.
-/
import Derived.Test.YtomehdepjenilaaGreatS7
import Derived.Test.YtomehdepjenilaaGreatK3
import Derived.Deep.CutBlock
set_option maxHeartbeats 16000000
namespace Go.Proofs.YtomehdepjenilaaGreat
open Go.ChangeShapes Go.WideShapes Go.ChangeAt Go.RowKit
attribute [local go_sem ↓] Go.wp_at_zero Go.wp_at_succ
theorem qalong (n : Nd) (hn : NdB n) (w : World) : Calls Tryz.prog 67 #[.agg n.arr] w fun e w' => e = .returned (.int .i64 (alongN n)) ∧ Below w.heap.size w w' := by
  cases k3 : (n.kind == 3)
  rotate_left
  · obtain ⟨⟨s1, s2⟩, s3, s4⟩ := hn.solid (by simp [solidK, k3])
    have he : alongN n = n.h + n.d := by unfold alongN; simp [solidK, k3]
    have He := Lib.hid he
    clear he
    go_enter Tryz.func67, Tryz.ntmps67
    go_wp2_with fail
    go_ret
    exact ⟨ret_int (by rw [He.out]), (Below.refl _ _).alloc (Nat.le_refl _) _⟩
  cases k4 : (n.kind == 4)
  rotate_left
  · obtain ⟨⟨s1, s2⟩, s3, s4⟩ := hn.solid (by simp [solidK, k4])
    have he : alongN n = n.h + n.d := by unfold alongN; simp [solidK, k4]
    have He := Lib.hid he
    clear he
    go_enter Tryz.func67, Tryz.ntmps67
    go_wp2_with fail
    go_ret
    exact ⟨ret_int (by rw [He.out]), (Below.refl _ _).alloc (Nat.le_refl _) _⟩
  cases k5 : (n.kind == 5)
  rotate_left
  · obtain ⟨⟨s1, s2⟩, s3, s4⟩ := hn.solid (by simp [solidK, k5])
    have he : alongN n = n.h + n.d := by unfold alongN; simp [solidK, k5]
    have He := Lib.hid he
    clear he
    go_enter Tryz.func67, Tryz.ntmps67
    go_wp2_with fail
    go_ret
    exact ⟨ret_int (by rw [He.out]), (Below.refl _ _).alloc (Nat.le_refl _) _⟩
  cases k8 : (n.kind == 8)
  rotate_left
  · have he : alongN n = n.w := by unfold alongN; simp [solidK, k3, k4, k5, k8]
    have He := Lib.hid he
    clear he
    go_enter Tryz.func67, Tryz.ntmps67
    go_wp2_with fail
    go_ret
    exact ⟨ret_int (by rw [He.out]), (Below.refl _ _).alloc (Nat.le_refl _) _⟩
  cases k7 : (n.kind == 7)
  rotate_left
  · have he : alongN n = n.glue.nat := by unfold alongN; simp [solidK, k3, k4, k5, k8, k7]
    have He := Lib.hid he
    clear he
    go_enter Tryz.func67, Tryz.ntmps67
    go_wp2_with fail
    go_ret
    exact ⟨ret_int (by rw [He.out]), (Below.refl _ _).alloc (Nat.le_refl _) _⟩
  have he : alongN n = 0 := by unfold alongN; simp [solidK, k3, k4, k5, k8, k7]
  have He := Lib.hid he
  clear he
  go_enter Tryz.func67, Tryz.ntmps67
  go_wp2_with fail
  go_ret
  exact ⟨ret_int (by rw [He.out]), (Below.refl _ _).alloc (Nat.le_refl _) _⟩
theorem qlight (n : Nd) (w : World) : Calls Tryz.prog 48 #[.agg n.arr] w fun e w' => e = .returned (.bool (lightK n.kind)) ∧ Below w.heap.size w w' := by
  cases k12 : (n.kind == 12)
  rotate_left
  · have He := Lib.hid (show lightK n.kind = true by simp [lightK, k12])
    go_enter Tryz.func48, Tryz.ntmps48
    go_wp2_with fail
    go_ret
    exact ⟨ret_bool (by rw [He.out]), (Below.refl _ _).alloc (Nat.le_refl _) _⟩
  cases k14 : (n.kind == 14)
  rotate_left
  · have He := Lib.hid (show lightK n.kind = true by simp [lightK, k14])
    go_enter Tryz.func48, Tryz.ntmps48
    go_wp2_with fail
    go_ret
    exact ⟨ret_bool (by rw [He.out]), (Below.refl _ _).alloc (Nat.le_refl _) _⟩
  cases k13 : (n.kind == 13)
  rotate_left
  · have He := Lib.hid (show lightK n.kind = true by simp [lightK, k13])
    go_enter Tryz.func48, Tryz.ntmps48
    go_wp2_with fail
    go_ret
    exact ⟨ret_bool (by rw [He.out]), (Below.refl _ _).alloc (Nat.le_refl _) _⟩
  cases k9 : (n.kind == 9)
  rotate_left
  · have He := Lib.hid (show lightK n.kind = true by simp [lightK, k9])
    go_enter Tryz.func48, Tryz.ntmps48
    go_wp2_with fail
    go_ret
    exact ⟨ret_bool (by rw [He.out]), (Below.refl _ _).alloc (Nat.le_refl _) _⟩
  have He := Lib.hid (show lightK n.kind = false by simp [lightK, k12, k14, k13, k9])
  go_enter Tryz.func48, Tryz.ntmps48
  go_wp2_with fail
  go_ret
  exact ⟨ret_bool (by rw [He.out]), (Below.refl _ _).alloc (Nat.le_refl _) _⟩
theorem tt_get_st (T : Tt) : ∀ j, j ≤ 3 → T.arr[1 + j]? = some (.int .i64 (T.st j))
  | 0, _ | 1, _ | 2, _ | 3, _ => rfl
theorem tt_get_sh (T : Tt) : ∀ j, j ≤ 3 → T.arr[5 + j]? = some (.int .i64 (T.sh j))
  | 0, _ | 1, _ | 2, _ | 3, _ => rfl
theorem tt_set_st (T : Tt) (x : Int) : ∀ j, j ≤ 3 → T.arr.setIfInBounds (1 + j) (.int .i64 x) = (T.setS j x).arr
  | 0, _ | 1, _ | 2, _ | 3, _ => rfl
theorem tt_set_sh (T : Tt) (x : Int) : ∀ j, j ≤ 3 → T.arr.setIfInBounds (5 + j) (.int .i64 x) = (T.setH j x).arr
  | 0, _ | 1, _ | 2, _ | 3, _ => rfl
theorem TAt.cell {W : World} {b : Nat} {T : Tt} (h : TAt W b T) (k : Nat) (v : Value) (hv : T.arr[k]? = some v) : W.cell? ⟨b, k, none⟩ = some v := by rw [cell?_blk' h, hv]
theorem TAt.frozen {W : World} {b : Nat} {T : Tt} (h : TAt W b T) (k : Nat) : W.frozen? ⟨b, k, none⟩ = false := frozen_of_row W b k _ _ h
theorem TAt.set {W : World} {b : Nat} {T T' : Tt} (h : TAt W b T) (k : Nat) (v : Value) (hm : T.arr.setIfInBounds k v = T'.arr) : TAt (W.setCell ⟨b, k, none⟩ v) b T' := by
  have := heap_setCell_same W b k _ _ v h
  rw [hm] at this
  exact this
theorem irow_cell {W : World} {B n : Nat} {v : Value} {s : List Nat} (h : W.ownsRow B 3 1 v n (ints (ofN s))) {i : Nat} (hi : i < s.length) : ∃ g c, v = .slice (some ⟨g, 0, none⟩) n c ∧ n = s.length ∧ n ≤ c ∧ W.cell? ⟨g, i, none⟩ = some (.int .i64 (s[i] : Nat)) := by
  have hn : s.length = n := by have := h.1; rw [ints_len, ofN_len] at this; omega
  obtain ⟨g, c, rfl, _, _⟩ := h.form (by omega)
  refine ⟨g, c, rfl, hn.symm, owns_cap h, ?_⟩
  have := h.cells (g := g) rfl i (.int .i64 (s[i] : Nat)) (by rw [ints_idx]; simp [ofN, hi])
  rwa [show (⟨g, 0, none⟩ : Addr).add i = ⟨g, i, none⟩ by unfold Addr.add; split <;> simp_all] at this
theorem sum_bound {L : List Nd} {s : List Nat} (hn : ∀ i ∈ s, NdB (nth L i)) (hl : s.length ≤ 2001) : (-8900000000000 ≤ (sumP L s).nat ∧ (sumP L s).nat ≤ 8900000000000) ∧ (∀ j, -8800000000000 ≤ (sumP L s).st j ∧ (sumP L s).st j ≤ 8800000000000) ∧ (∀ j, -8800000000000 ≤ (sumP L s).sh j ∧ (sumP L s).sh j ≤ 8800000000000) := by
  have h := foldM_ok (depth := 0) hn hl
  rw [sum_all L 0]
  have h1 := h.nat
  have h2 := h.d
  refine ⟨⟨by show _ ≤ (foldM L 0 s).t.nat + (foldM L 0 s).d; omega, by show (foldM L 0 s).t.nat + (foldM L 0 s).d ≤ _; omega⟩, fun j => ?_, fun j => ?_⟩
  · have := h.st j
    have e : (foldM L 0 s).all.st j = (foldM L 0 s).t.st j := by match j with | 0 | 1 | 2 | _ + 3 => rfl
    rw [e]; exact this
  · have := h.sh j
    have e : (foldM L 0 s).all.sh j = (foldM L 0 s).t.sh j := by match j with | 0 | 1 | 2 | _ + 3 => rfl
    rw [e]; exact this
set_option maxRecDepth 100000 in
theorem qsum (p0 : Option Addr) (b off cap : Nat) (L : List Nd) (s : List Nat) (hs : Items L 0 s) (hk : ∀ x ∈ s, (nth L x).kind ≠ 6) (hnb : ∀ x ∈ s, NdB (nth L x)) (hlen : L.length ≤ 2000) (w : World) (hN : NIn w p0 b off cap L) :
    Calls Tryz.prog 47 #[.slice p0 L.length cap, .bool true] w fun e w' => e = .returned (.agg (sumP L s).arr) ∧ Below w.heap.size w w' := by
  have H := Lib.hid hN
  have HS := Lib.hid hs
  have HNb := Lib.hid hnb
  have hsl := hs.len
  have hb0 : Below w.heap.size w ((w.alloc (.cells (Tt.mk 0 0 0 0 0 0 0 0 0).arr 57)).alloc (.cells (Tt.mk 0 0 0 0 0 0 0 0 0).arr 57)) := ((Below.refl _ _).alloc (Nat.le_refl _) _).alloc (by simp) _
  have bR : TAt ((w.alloc (.cells (Tt.mk 0 0 0 0 0 0 0 0 0).arr 57)).alloc (.cells (Tt.mk 0 0 0 0 0 0 0 0 0).arr 57)) w.heap.size ⟨0, 0, 0, 0, 0, 0, 0, 0, 0⟩ := (Below.heap_alloc _ _ _ (by simp)).trans (heap_alloc_new w _)
  have bT : TAt ((w.alloc (.cells (Tt.mk 0 0 0 0 0 0 0 0 0).arr 57)).alloc (.cells (Tt.mk 0 0 0 0 0 0 0 0 0).arr 57)) (w.heap.size + 1) ⟨0, 0, 0, 0, 0, 0, 0, 0, 0⟩ := by have := heap_alloc_new (w.alloc (.cells (Tt.mk 0 0 0 0 0 0 0 0 0).arr 57)) (.cells (Tt.mk 0 0 0 0 0 0 0 0 0).arr 57); rwa [World.size_alloc] at this
  have HSt : Hid (∀ W, Below w.heap.size w W → Calls Tryz.prog 35 #[.slice p0 L.length cap] W fun e w' => (∃ v, e = .returned v ∧ IRow W v s w') ∧ Below W.heap.size W w') := Lib.hid fun W hb => qstarts p0 b off cap L s W (hN.below hb) hs hk
  clear hN hs hk hnb
  go_enter Tryz.func47, Tryz.ntmps47
  go_upto_region 2 with (fail)
  generalize (w.alloc (.cells (Tt.mk 0 0 0 0 0 0 0 0 0).arr 57)).alloc (.cells (Tt.mk 0 0 0 0 0 0 0 0 0).arr 57) = w1 at hb0 bR bT ⊢
  obtain ⟨Z, hZ⟩ : ∃ Z, w.heap.size + 1 = Z := ⟨_, rfl⟩
  rw [hZ] at bT ⊢
  have hZ1 : w.heap.size < Z := by omega
  clear hZ
  go_wp2_with fail
  refine (HSt.out _ hb0).mono ?_
  clear HSt
  rintro e w2 ⟨⟨v, rfl, hrow⟩, hb2⟩
  have hZw := bT.lt
  have cR : TAt w2 w.heap.size ⟨0, 0, 0, 0, 0, 0, 0, 0, 0⟩ := (hb2.block _ bR.lt).trans bR
  have cT : TAt w2 Z (sumP L (s.take 0)) := (hb2.block _ bT.lt).trans bT
  have hbw := hb0.trans (hb2.mono hb0.size)
  have hrw : w2.ownsRow w1.heap.size 3 1 v s.length (ints (ofN s)) := hrow
  obtain ⟨pv, cv, rfl⟩ := owns_form hrw
  clear hrow bR bT hb0
  go_wp2_with fail
  go_loopg [7, 8] (s.length + 1) (fun gg t7 t8 wr => ∃ i : Nat, gg = s.length + 1 - i ∧ i ≤ s.length ∧ t7 = .int .i64 i ∧ TAt wr Z (sumP L (s.take i)) ∧ TAt wr w.heap.size ⟨0, 0, 0, 0, 0, 0, 0, 0, 0⟩ ∧ wr.ownsRow w1.heap.size 3 1 (.slice pv s.length cv) s.length (ints (ofN s)) ∧ Below w.heap.size w wr ∧ w1.heap.size ≤ wr.heap.size)
  case atStart => exact ⟨0, rfl, Nat.zero_le _, rfl, cT, cR, hrw, hbw, hb2.size⟩
  case round =>
    obtain ⟨i, rfl, hi, rfl, hT, hR, hrow, hbl, hzr⟩ := hrel
    clear cT cR hrw hbw hb2
    have hi1 : (0 : Int) ≤ (i : Int) := by omega
    by_cases hin : i < s.length
    · have hi2 : (i : Int) < (s.length : Int) := by omega
      obtain ⟨gi, c, hv, _, hcap, cI⟩ := irow_cell hrow hin
      simp only [Value.slice.injEq] at hv
      obtain ⟨rfl, _, rfl⟩ := hv
      have hxm := List.getElem_mem hin
      have hxl := (HS.out.lt _ hxm).2
      have hxn := HNb.out _ hxm
      have hsn := sumP_snoc L (s.take i) s[i]
      rw [← List.take_succ_eq_append_getElem hin] at hsn
      have hN := H.out.below hbl
      obtain ⟨k, hk⟩ : ∃ k, s[i] = k := ⟨_, rfl⟩
      rw [hk] at cI hxl hxn hsn
      have xa := hN.nth hxl
      obtain rfl := hN.at_ hxl
      have hx1 : (0 : Int) ≤ (k : Int) := by omega
      have hx2 : (k : Int) < (L.length : Int) := by omega
      obtain ⟨n, hn⟩ : ∃ n, nth L k = n := ⟨_, rfl⟩
      rw [hn] at xa hxn hsn
      obtain ⟨⟨u1, u2⟩, u3, u4⟩ := sum_bound (L := L) (s := s.take i) (fun j hj => HNb.out j (List.mem_of_mem_take hj)) (by rw [List.length_take]; omega)
      obtain ⟨T, hTe⟩ : ∃ T, sumP L (s.take i) = T := ⟨_, rfl⟩
      rw [hTe] at hT hsn u1 u2 u3 u4
      have HSn := Lib.hid hsn
      have HU3 := Lib.hid u3
      have HU4 := Lib.hid u4
      have Hin := Lib.hid hin
      have HHR := Lib.hid hR
      have HHrow := Lib.hid hrow
      have HHbl := Lib.hid hbl
      clear hsn u3 u4 hin hR hrow hbl hTe hn hk hxm hN
      go_upto_block 2 with (fail)
      have dX := heap_alloc_new wr (.cells n.arr 49)
      have hbX : Below wr.heap.size wr (wr.alloc (.cells n.arr 49)) := (Below.refl _ wr).alloc (Nat.le_refl _) _
      have hTX : TAt (wr.alloc (.cells n.arr 49)) Z T := (Below.heap_alloc _ _ _ hT.lt).trans hT
      have hXZ : wr.heap.size ≠ Z := by have := hT.lt; omega
      clear xa cI
      generalize wr.alloc (.cells n.arr 49) = A1 at dX hbX hTX ⊢
      have aX := agg_nd dX
      have t0 := hTX.cell 0 _ (Tt.get0 T)
      have HA := Lib.hid (qalong n hxn A1.drew)
      have ha1 : -2147483646 ≤ alongN n ∧ alongN n ≤ 2147483646 := by
        unfold alongN
        split
        · rename_i h; have := hxn.solid h; omega
        · split
          · rename_i h; have := hxn.kern (by simpa using h); omega
          · split
            · rename_i h; have := hxn.nat (by simpa using h); omega
            · omega
      obtain ⟨al, hal⟩ : ∃ al, alongN n = al := ⟨_, rfl⟩
      rw [hal] at HA ha1
      have Hal := Lib.hid hal
      obtain ⟨a1, a2⟩ := ha1
      clear hal
      have hwr : IntKind.i64.wrap (T.nat + al) = T.nat + al := Go.IntWalk.i64_in _ (by omega)
      have HKp : Hid (∀ w8, Below A1.drew.heap.size A1.drew w8 → w8.cell? ⟨Z, 0, none⟩ = some (.int .i64 T.nat) ∧ agg? w8 wr.heap.size 0 19 = some n.arr) := Lib.hid fun w8 h => ⟨(h.cell (p := ⟨Z, 0, none⟩) hTX.lt).trans t0, ((bfacts h).2.2.1 _ _ _ (Array.getElem?_eq_some_iff.1 dX).1).trans aX⟩
      have HF0 : Hid (∀ w8, Below A1.drew.heap.size A1.drew w8 → w8.frozen? ⟨Z, 0, none⟩ = false) := Lib.hid fun w8 h => (h.frozen (p := ⟨Z, 0, none⟩) hTX.lt).trans (hTX.frozen 0)
      have HC : Hid (∀ w8, Below A1.drew.heap.size A1.drew w8 → TAt (w8.setCell ⟨Z, 0, none⟩ (.int .i64 (IntKind.i64.wrap (T.nat + al)))) Z { T with nat := T.nat + al } ∧ (w8.setCell ⟨Z, 0, none⟩ (.int .i64 (IntKind.i64.wrap (T.nat + al)))).heap[wr.heap.size]? = some (.cells n.arr 49 (0, 0)) ∧ A1.grownBy (w8.setCell ⟨Z, 0, none⟩ (.int .i64 (IntKind.i64.wrap (T.nat + al)))) (some Z)) := Lib.hid fun w8 h => by
        have hT8 : TAt w8 Z T := (h.block Z hTX.lt).trans hTX
        have d8 := (h.block wr.heap.size (Array.getElem?_eq_some_iff.1 dX).1).trans dX
        rw [hwr]
        exact ⟨hT8.set 0 _ rfl, (Below.heap_setCell _ _ _ _ hXZ).trans d8, ⟨h.os, h.tape, h.output, Nat.le_trans h.size (KeepsWalks.setCell w8 _ _).size, fun j hj hne => (Below.heap_setCell _ _ _ _ (fun e => hne (by rw [e]))).trans (h.block j hj)⟩⟩
      have HTX := Lib.hid hTX
      have HD := Lib.hid dX
      clear hTX dX hwr
      go_cut [] from 24 to 54 (fun wx => TAt wx Z { T with nat := T.nat + al } ∧ wx.heap[wr.heap.size]? = some (.cells n.arr 49 (0, 0)) ∧ A1.grownBy wx (some Z))
      case first =>
        go_wp2_with fail
        go_region_with (go_at_call 67; refine HA.out.mono ?_; rintro e w8 ⟨rfl, hb8⟩; (have f8 := HF0.out _ hb8); (obtain ⟨c8, g8⟩ := HKp.out _ hb8))
        all_goals
          have HCo := Lib.hid (HC.out _ hb8)
          go_wp2_with fail
          go_meet
          exact HCo.out
      case rest =>
        obtain ⟨hTc, hDc, hGc⟩ := hcut
        have x0 : wc.cell? ⟨wr.heap.size, 0, none⟩ = some (.int .i64 n.kind) := by rw [cell?_blk' hDc]; rfl
        clear aX t0 HKp HF0 HC HA
        -- what the world keeps, whatever is stored in the sum
        have HEnd : Hid (∀ A2, A1.grownBy A2 (some Z) → TAt A2 w.heap.size ⟨0, 0, 0, 0, 0, 0, 0, 0, 0⟩ ∧ A2.ownsRow w1.heap.size 3 1 (.slice (some ⟨gi, 0, none⟩) s.length cv) s.length (ints (ofN s)) ∧ Below w.heap.size w A2 ∧ w1.heap.size ≤ A2.heap.size) := Lib.hid fun A2 hg => by
          have hbA := HHbl.out.trans (hbX.mono HHbl.out.size)
          have hz1 := hbX.size
          refine ⟨(hg.block _ (Nat.lt_of_lt_of_le HHR.out.lt hz1) (fun e => by cases e; omega)).trans ((hbX.block _ HHR.out.lt).trans HHR.out), (ownsRow_below HHrow.out hbX).kept hg (.inr fun e => ?_), hbA.grown hg hbA.size (fun q e => by cases e; omega), Nat.le_trans (Nat.le_trans hzr hz1) hg.size⟩
          have := (HHrow.out.lt _ e).1
          omega
        cases k7 : (n.kind == 7)
        · have hse : sumP L (s.take (i + 1)) = { T with nat := T.nat + al } := by
            rw [HSn.out]; unfold sumN; rw [k7, Hal.out]; rfl
          have HSe := Lib.hid hse
          have HE2 := Lib.hid (HEnd.out _ hGc)
          have HTc := Lib.hid hTc
          clear hse hTc hGc HEnd
          go_wp2_with fail
          obtain ⟨r1, r2, r3, r4⟩ := HE2.out
          go_roundg (s.length + 1 - (i + 1))
          case measure => have := Hin.out; omega
          case rel => exact ⟨i + 1, rfl, Hin.out, by go_num, by rw [HSe.out]; exact HTc.out, r1, r2, r3, r4⟩
        · have k7' : n.kind = 7 := by simpa using k7
          obtain ⟨s1, s2⟩ := hxn.str k7'
          obtain ⟨s3, s4⟩ := hxn.shr k7'
          have b1 := hxn.so k7'
          have b2 := hxn.ho k7'
          have hse : sumP L (s.take (i + 1)) = ({ T with nat := T.nat + al } : Tt).glue n.glue := by
            rw [HSn.out]; unfold sumN; rw [k7, Hal.out]; rfl
          have HSe := Lib.hid hse
          obtain ⟨j, hj⟩ : ∃ j : Nat, n.glue.so = (j : Int) := ⟨n.glue.so.toNat, by omega⟩
          obtain ⟨h, hh⟩ : ∃ h : Nat, n.glue.ho = (h : Int) := ⟨n.glue.ho.toNat, by omega⟩
          have hj3 : j ≤ 3 := by omega
          have hh3 : h ≤ 3 := by omega
          have hj4 : (0 : Int) ≤ (j : Int) := by omega
          have hj5 : (j : Int) < 4 := by omega
          have hh4 : (0 : Int) ≤ (h : Int) := by omega
          have hh5 : (h : Int) < 4 := by omega
          have Hj := Lib.hid hj
          have Hh := Lib.hid hh
          have x8 : wc.cell? ⟨wr.heap.size, 8, none⟩ = some (.int .i64 n.glue.str) := by rw [cell?_blk' hDc]; rfl
          have x10 : wc.cell? ⟨wr.heap.size, 10, none⟩ = some (.int .i64 (j : Nat)) := by rw [cell?_blk' hDc, ← hj]; rfl
          have cj' : wc.cell? ⟨Z, 1 + j, none⟩ = some (.int .i64 (T.st j)) := hTc.cell (1 + j) _ (tt_get_st _ j hj3)
          have fj := hTc.frozen (1 + j)
          obtain ⟨bj1, bj2⟩ := HU3.out j
          clear hse hj hh b1 b2 k7'
          go_wp2_with fail
          go_region
          have hT5 : TAt (wc.setCell ⟨Z, 1 + j, none⟩ (.int .i64 (T.st j + n.glue.str))).drew Z (({ T with nat := T.nat + al } : Tt).setS j (T.st j + n.glue.str)) := hTc.set (1 + j) _ (tt_set_st _ _ j hj3)
          have hD5 : (wc.setCell ⟨Z, 1 + j, none⟩ (.int .i64 (T.st j + n.glue.str))).drew.heap[wr.heap.size]? = some (.cells n.arr 49 (0, 0)) := (Below.heap_setCell _ _ _ _ hXZ).trans hDc
          have hG5 : A1.grownBy (wc.setCell ⟨Z, 1 + j, none⟩ (.int .i64 (T.st j + n.glue.str))).drew (some Z) := ⟨hGc.os, hGc.tape, hGc.output, Nat.le_trans hGc.size (KeepsWalks.setCell wc _ _).size, fun q hq hne => (Below.heap_setCell _ _ _ _ (fun e => hne (by rw [e]))).trans (hGc.block q hq hne)⟩
          clear hTc hDc hGc x0 x8 x10 cj' fj bj1 bj2
          generalize (wc.setCell ⟨Z, 1 + j, none⟩ (.int .i64 (T.st j + n.glue.str))).drew = A5 at hT5 hD5 hG5 ⊢
          have x9 : A5.cell? ⟨wr.heap.size, 9, none⟩ = some (.int .i64 n.glue.shr) := by rw [cell?_blk' hD5]; rfl
          have x11 : A5.cell? ⟨wr.heap.size, 11, none⟩ = some (.int .i64 (h : Nat)) := by rw [cell?_blk' hD5, ← Hh.out]; rfl
          have ci := hT5.cell (5 + h) _ (tt_get_sh _ h hh3)
          have fi := hT5.frozen (5 + h)
          have hsh : (({ T with nat := T.nat + al } : Tt).setS j (T.st j + n.glue.str)).sh h = T.sh h := sh_setS _ _ _ _
          rw [hsh] at ci
          obtain ⟨bi1, bi2⟩ := HU4.out h
          clear hsh
          go_wp2_with fail
          go_region
          have hT6 : TAt (A5.setCell ⟨Z, 5 + h, none⟩ (.int .i64 (T.sh h + n.glue.shr))).drew Z ((({ T with nat := T.nat + al } : Tt).setS j (T.st j + n.glue.str)).setH h (T.sh h + n.glue.shr)) := hT5.set (5 + h) _ (tt_set_sh _ _ h hh3)
          have hG6 : A1.grownBy (A5.setCell ⟨Z, 5 + h, none⟩ (.int .i64 (T.sh h + n.glue.shr))).drew (some Z) := ⟨hG5.os, hG5.tape, hG5.output, Nat.le_trans hG5.size (KeepsWalks.setCell A5 _ _).size, fun q hq hne => (Below.heap_setCell _ _ _ _ (fun e => hne (by rw [e]))).trans (hG5.block q hq hne)⟩
          clear hT5 hD5 hG5 x9 x11 ci fi bi1 bi2
          generalize (A5.setCell ⟨Z, 5 + h, none⟩ (.int .i64 (T.sh h + n.glue.shr))).drew = A6 at hT6 hG6 ⊢
          have hg : ({ T with nat := T.nat + al } : Tt).glue n.glue = (({ T with nat := T.nat + al } : Tt).setS j (T.st j + n.glue.str)).setH h (T.sh h + n.glue.shr) := by
            unfold Tt.glue
            rw [Hj.out, Hh.out]
            simp only [Int.toNat_natCast]
            rw [show (({ T with nat := T.nat + al } : Tt).setS j (({ T with nat := T.nat + al } : Tt).st j + n.glue.str)) = (({ T with nat := T.nat + al } : Tt).setS j (T.st j + n.glue.str)) from rfl, sh_setS]
            rfl
          have Hg := Lib.hid hg
          have HE2 := Lib.hid (HEnd.out _ hG6)
          clear hg hG6 HEnd
          go_wp2_with fail
          obtain ⟨r1, r2, r3, r4⟩ := HE2.out
          go_roundg (s.length + 1 - (i + 1))
          case measure => have := Hin.out; omega
          case rel => exact ⟨i + 1, rfl, Hin.out, by go_num, by rw [HSe.out, Hg.out]; exact hT6, r1, r2, r3, r4⟩
    · obtain rfl : i = s.length := by omega
      have hi2 : ¬ (s.length : Int) < (s.length : Int) := by omega
      rw [List.take_length] at hT
      have aT := hT.agg
      have thR := hR.there
      have hRs := hR.store (U := sumP L s)
      clear hrow
      go_wp2_with fail
      exact ret_tt rfl w.heap.size 0 _ rfl hRs.agg rfl ⟨rfl, Below.setAgg hbl (Nat.le_refl _) _ _⟩
end Go.Proofs.YtomehdepjenilaaGreat
