/-
  The document's Along, light, Sum.
-/
import Derived.Test.YtaehkbbdmamfpaaGreatDoorS7
import Derived.Test.YtaehkbbdmamfpaaGreatDoorK6
import Derived.Deep.CutBlock
set_option maxRecDepth 100000
set_option maxHeartbeats 16000000
namespace Go.Proofs.YtaehkbbdmamfpaaGreatDoor
open Go.ChangeShapes Go.WideShapes Go.ChangeAt Go.RowKit
section
attribute [local go_sem ↓] Go.wp_at_zero Go.wp_at_succ
theorem qalong (n : Nd) (hn : NdB n) (w : World) : Calls Tryz.prog 139 #[.agg n.arr] w fun e w' => e = .returned (.int .i64 (zaP n)) /\ Below w.heap.size w w' := by
 cases k3 : (n.kind == 3)
 rotate_left
 ·
  obtain ⟨⟨s1, s2⟩, s3, s4⟩ := hn.solid (by simp [zaq, k3])
  have he : zaP n = n.h + n.d := by unfold zaP; simp [zaq, k3]
  have He := zzh he
  clear he
  go_enter Tryz.func139, Tryz.ntmps139
  go_wp2_with fail
  go_ret
  exact ⟨zaD (by rw [He.out]), (Below.refl _ _).alloc (Nat.le_refl _) _⟩
 cases k4 : (n.kind == 4)
 rotate_left
 ·
  obtain ⟨⟨s1, s2⟩, s3, s4⟩ := hn.solid (by simp [zaq, k4])
  have he : zaP n = n.h + n.d := by unfold zaP; simp [zaq, k4]
  have He := zzh he
  clear he
  go_enter Tryz.func139, Tryz.ntmps139
  go_wp2_with fail
  go_ret
  exact ⟨zaD (by rw [He.out]), (Below.refl _ _).alloc (Nat.le_refl _) _⟩
 cases k5 : (n.kind == 5)
 rotate_left
 ·
  obtain ⟨⟨s1, s2⟩, s3, s4⟩ := hn.solid (by simp [zaq, k5])
  have he : zaP n = n.h + n.d := by unfold zaP; simp [zaq, k5]
  have He := zzh he
  clear he
  go_enter Tryz.func139, Tryz.ntmps139
  go_wp2_with fail
  go_ret
  exact ⟨zaD (by rw [He.out]), (Below.refl _ _).alloc (Nat.le_refl _) _⟩
 cases k8 : (n.kind == 8)
 rotate_left
 ·
  have he : zaP n = n.w := by unfold zaP; simp [zaq, k3, k4, k5, k8]
  have He := zzh he
  clear he
  go_enter Tryz.func139, Tryz.ntmps139
  go_wp2_with fail
  go_ret
  exact ⟨zaD (by rw [He.out]), (Below.refl _ _).alloc (Nat.le_refl _) _⟩
 cases k7 : (n.kind == 7)
 rotate_left
 ·
  have he : zaP n = n.glue.nat := by unfold zaP; simp [zaq, k3, k4, k5, k8, k7]
  have He := zzh he
  clear he
  go_enter Tryz.func139, Tryz.ntmps139
  go_wp2_with fail
  go_ret
  exact ⟨zaD (by rw [He.out]), (Below.refl _ _).alloc (Nat.le_refl _) _⟩
 have he : zaP n = 0 := by unfold zaP; simp [zaq, k3, k4, k5, k8, k7]
 have He := zzh he
 clear he
 go_enter Tryz.func139, Tryz.ntmps139
 go_wp2_with fail
 go_ret
 exact ⟨zaD (by rw [He.out]), (Below.refl _ _).alloc (Nat.le_refl _) _⟩
theorem qlight (n : Nd) (w : World) : Calls Tryz.prog 134 #[.agg n.arr] w fun e w' => e = .returned (.bool (zaW n.kind)) /\ Below w.heap.size w w' := by
 cases k12 : (n.kind == 12)
 rotate_left
 ·
  have He := zzh (show zaW n.kind = true by simp [zaW, k12])
  go_enter Tryz.func134, Tryz.ntmps134
  go_wp2_with fail
  go_ret
  exact ⟨zaa (by rw [He.out]), (Below.refl _ _).alloc (Nat.le_refl _) _⟩
 cases k14 : (n.kind == 14)
 rotate_left
 ·
  have He := zzh (show zaW n.kind = true by simp [zaW, k14])
  go_enter Tryz.func134, Tryz.ntmps134
  go_wp2_with fail
  go_ret
  exact ⟨zaa (by rw [He.out]), (Below.refl _ _).alloc (Nat.le_refl _) _⟩
 cases k13 : (n.kind == 13)
 rotate_left
 ·
  have He := zzh (show zaW n.kind = true by simp [zaW, k13])
  go_enter Tryz.func134, Tryz.ntmps134
  go_wp2_with fail
  go_ret
  exact ⟨zaa (by rw [He.out]), (Below.refl _ _).alloc (Nat.le_refl _) _⟩
 cases k9 : (n.kind == 9)
 rotate_left
 ·
  have He := zzh (show zaW n.kind = true by simp [zaW, k9])
  go_enter Tryz.func134, Tryz.ntmps134
  go_wp2_with fail
  go_ret
  exact ⟨zaa (by rw [He.out]), (Below.refl _ _).alloc (Nat.le_refl _) _⟩
 have He := zzh (show zaW n.kind = false by simp [zaW, k12, k14, k13, k9])
 go_enter Tryz.func134, Tryz.ntmps134
 go_wp2_with fail
 go_ret
 exact ⟨zaa (by rw [He.out]), (Below.refl _ _).alloc (Nat.le_refl _) _⟩
theorem tt_get_st (T : Tt) : ∀ j, j <= 3 -> T.arr[1 + j]? = some (.int .i64 (T.st j))
 | 0, _ | 1, _ | 2, _ | 3, _ => rfl
theorem tt_get_sh (T : Tt) : ∀ j, j <= 3 -> T.arr[5 + j]? = some (.int .i64 (T.sh j))
 | 0, _ | 1, _ | 2, _ | 3, _ => rfl
theorem tt_set_st (T : Tt) (x : Int) : ∀ j, j <= 3 -> T.arr.setIfInBounds (1 + j) (.int .i64 x) = (T.setS j x).arr
 | 0, _ | 1, _ | 2, _ | 3, _ => rfl
theorem tt_set_sh (T : Tt) (x : Int) : ∀ j, j <= 3 -> T.arr.setIfInBounds (5 + j) (.int .i64 x) = (T.setH j x).arr
 | 0, _ | 1, _ | 2, _ | 3, _ => rfl
theorem TAt.cell {W : World} {b : Nat} {T : Tt} (h : TAt W b T) (k : Nat) (v : Value) (hv : T.arr[k]? = some v) : W.cell? ⟨b, k, none⟩ = some v := by rw [cell?_blk' h, hv]
theorem TAt.frozen {W : World} {b : Nat} {T : Tt} (h : TAt W b T) (k : Nat) : W.frozen? ⟨b, k, none⟩ = false := frozen_of_row W b k _ _ h
theorem TAt.set {W : World} {b : Nat} {T T' : Tt} (h : TAt W b T) (k : Nat) (v : Value) (hm : T.arr.setIfInBounds k v = T'.arr) : TAt (W.setCell ⟨b, k, none⟩ v) b T' := by
 have := heap_setCell_same W b k _ _ v h
 rw [hm] at this
 exact this
theorem irow_cell {W : World} {B n : Nat} {v : Value} {s : List Nat} (h : W.ownsRow B 3 1 v n (ints (ofN s))) {i : Nat} (hi : i < s.length) : ∃ g c, v = .slice (some ⟨g, 0, none⟩) n c /\ n = s.length /\ n <= c /\ W.cell? ⟨g, i, none⟩ = some (.int .i64 (s[i] : Nat)) := by
 have hn : s.length = n := by have := h.1; rw [ints_len, ofN_len] at this; omega
 obtain ⟨g, c, rfl, _, _⟩ := h.form (by omega)
 refine ⟨g, c, rfl, hn.symm, owns_cap h, ?_⟩
 have := h.cells (g := g) rfl i (.int .i64 (s[i] : Nat)) (by rw [ints_idx]; simp [ofN, hi])
 rwa [show (⟨g, 0, none⟩ : Addr).add i = ⟨g, i, none⟩ by unfold Addr.add; split <;> simp_all] at this
theorem sum_bound {L : List Nd} {s : List Nat} (hn : ∀ i ∈ s, NdB (nth L i)) (hl : s.length <= 2001) : (-8900000000000 <= (sumP L s).nat /\ (sumP L s).nat <= 8900000000000) /\ (∀ j, -8800000000000 <= (sumP L s).st j /\ (sumP L s).st j <= 8800000000000) /\ (∀ j, -8800000000000 <= (sumP L s).sh j /\ (sumP L s).sh j <= 8800000000000) := by
 have h := foldM_ok (depth := 0) hn hl
 rw [sum_all L 0]
 have h1 := h.nat
 have h2 := h.d
 refine ⟨⟨by show _ <= (zbn L 0 s).t.nat + (zbn L 0 s).d; omega, by show (zbn L 0 s).t.nat + (zbn L 0 s).d <= _; omega⟩, fun j => ?_, fun j => ?_⟩
 ·
  have := h.st j
  have e : (zbn L 0 s).all.st j = (zbn L 0 s).t.st j := by match j with | 0 | 1 | 2 | _ + 3 => rfl
  rw [e]; exact this
 ·
  have := h.sh j
  have e : (zbn L 0 s).all.sh j = (zbn L 0 s).t.sh j := by match j with | 0 | 1 | 2 | _ + 3 => rfl
  rw [e]; exact this
theorem qsum (p0 : Option Addr) (b off cap : Nat) (L : List Nd) (s : List Nat) (hs : Items L 0 s) (hk : ∀ x ∈ s, (nth L x).kind ≠ 6) (hnb : ∀ x ∈ s, NdB (nth L x)) (hlen : L.length <= 2000) (w : World) (hN : NIn w p0 b off cap L) :
 Calls Tryz.prog 122 #[.slice p0 L.length cap, .bool true] w fun e w' => e = .returned (.agg (sumP L s).arr) /\ Below w.heap.size w w' := by
 have H := zzh hN
 have HS := zzh hs
 have HNb := zzh hnb
 have hsl := hs.len
 have hb0 : Below w.heap.size w ((w.alloc (.cells (Tt.mk 0 0 0 0 0 0 0 0 0).arr 43)).alloc (.cells (Tt.mk 0 0 0 0 0 0 0 0 0).arr 43)) := ((Below.refl _ _).alloc (Nat.le_refl _) _).alloc (by simp) _
 have bR : TAt ((w.alloc (.cells (Tt.mk 0 0 0 0 0 0 0 0 0).arr 43)).alloc (.cells (Tt.mk 0 0 0 0 0 0 0 0 0).arr 43)) w.heap.size ⟨0, 0, 0, 0, 0, 0, 0, 0, 0⟩ := (Below.heap_alloc _ _ _ (by simp)).trans (heap_alloc_new w _)
 have bT : TAt ((w.alloc (.cells (Tt.mk 0 0 0 0 0 0 0 0 0).arr 43)).alloc (.cells (Tt.mk 0 0 0 0 0 0 0 0 0).arr 43)) (w.heap.size + 1) ⟨0, 0, 0, 0, 0, 0, 0, 0, 0⟩ := by have := heap_alloc_new (w.alloc (.cells (Tt.mk 0 0 0 0 0 0 0 0 0).arr 43)) (.cells (Tt.mk 0 0 0 0 0 0 0 0 0).arr 43); rwa [World.size_alloc] at this
 have HSt : Hid (∀ W, Below w.heap.size w W -> Calls Tryz.prog 21 #[.slice p0 L.length cap] W fun e w' => (∃ v, e = .returned v /\ IRow W v s w') /\ Below W.heap.size W w') := zzh fun W hb => zdb p0 b off cap L s W (hN.below hb) hs hk
 clear hN hs hk hnb
 go_enter Tryz.func122, Tryz.ntmps122
 go_upto_region 2 with (fail)
 generalize (w.alloc (.cells (Tt.mk 0 0 0 0 0 0 0 0 0).arr 43)).alloc (.cells (Tt.mk 0 0 0 0 0 0 0 0 0).arr 43) = w1 at hb0 bR bT ⊢
 obtain ⟨Z, hZ⟩ : ∃ Z, w.heap.size + 1 = Z := ⟨_, rfl⟩
 rw [hZ] at bT ⊢
 have hZ1 : w.heap.size < Z := by omega
 clear hZ
 go_wp2_with fail
 refine (HSt.out _ hb0).mono ?_
 clear HSt
 rintro e w2 ⟨⟨v, rfl, hrow⟩, hb2⟩
 have hZw := bT.lt
 have cR : TAt w2 w.heap.size ⟨0, 0, 0, 0, 0, 0, 0, 0, 0⟩ := (hb2.block _ bR.lt).trans bR
 have cT : TAt w2 Z (sumP L (s.take 0)) := (hb2.block _ bT.lt).trans bT
 have hbw := hb0.trans (hb2.mono hb0.size)
 have hrw : w2.ownsRow w1.heap.size 3 1 v s.length (ints (ofN s)) := hrow
 obtain ⟨pv, cv, rfl⟩ := zaf hrw
 clear hrow bR bT hb0
 go_wp2_with fail
 go_loopg [7, 8] (s.length + 1) (fun gg t7 t8 wr => ∃ i : Nat, gg = s.length + 1 - i /\ i <= s.length /\ t7 = .int .i64 i /\ TAt wr Z (sumP L (s.take i)) /\ TAt wr w.heap.size ⟨0, 0, 0, 0, 0, 0, 0, 0, 0⟩ /\ wr.ownsRow w1.heap.size 3 1 (.slice pv s.length cv) s.length (ints (ofN s)) /\ Below w.heap.size w wr /\ w1.heap.size <= wr.heap.size)
 case atStart => exact ⟨0, rfl, Nat.zero_le _, rfl, cT, cR, hrw, hbw, hb2.size⟩
 case round =>
  obtain ⟨i, rfl, hi, rfl, hT, hR, hrow, hbl, hzr⟩ := hrel
  clear cT cR hrw hbw hb2
  have hi1 : (0 : Int) <= (i : Int) := by omega
  by_cases hin : i < s.length
  ·
   have hi2 : (i : Int) < (s.length : Int) := by omega
   obtain ⟨gi, c, hv, _, hcap, cI⟩ := irow_cell hrow hin
   simp only [Value.slice.injEq] at hv
   obtain ⟨rfl, _, rfl⟩ := hv
   have hxm := List.getElem_mem hin
   have hxl := (HS.out.lt _ hxm).2
   have hxn := HNb.out _ hxm
   have hsn := sumP_snoc L (s.take i) s[i]
   rw [<- List.take_succ_eq_append_getElem hin] at hsn
   have hN := H.out.below hbl
   obtain ⟨k, hk⟩ : ∃ k, s[i] = k := ⟨_, rfl⟩
   rw [hk] at cI hxl hxn hsn
   have xa := hN.nth hxl
   obtain rfl := hN.at_ hxl
   have hx1 : (0 : Int) <= (k : Int) := by omega
   have hx2 : (k : Int) < (L.length : Int) := by omega
   obtain ⟨n, hn⟩ : ∃ n, nth L k = n := ⟨_, rfl⟩
   rw [hn] at xa hxn hsn
   obtain ⟨⟨u1, u2⟩, u3, u4⟩ := sum_bound (L := L) (s := s.take i) (fun j hj => HNb.out j (List.mem_of_mem_take hj)) (by rw [List.length_take]; omega)
   obtain ⟨T, hTe⟩ : ∃ T, sumP L (s.take i) = T := ⟨_, rfl⟩
   rw [hTe] at hT hsn u1 u2 u3 u4
   have HSn := zzh hsn
   have HU3 := zzh u3
   have HU4 := zzh u4
   have Hin := zzh hin
   have HHR := zzh hR
   have HHrow := zzh hrow
   have HHbl := zzh hbl
   clear hsn u3 u4 hin hR hrow hbl hTe hn hk hxm hN
   go_upto_block 2 with (fail)
   have dX := heap_alloc_new wr (.cells n.arr 53)
   have hbX : Below wr.heap.size wr (wr.alloc (.cells n.arr 53)) := (Below.refl _ wr).alloc (Nat.le_refl _) _
   have hTX : TAt (wr.alloc (.cells n.arr 53)) Z T := (Below.heap_alloc _ _ _ hT.lt).trans hT
   have hXZ : wr.heap.size ≠ Z := by have := hT.lt; omega
   clear xa cI
   generalize wr.alloc (.cells n.arr 53) = A1 at dX hbX hTX ⊢
   have aX := agg_nd dX
   have t0 := hTX.cell 0 _ (Tt.get0 T)
   have HA := zzh (qalong n hxn A1.drew)
   have ha1 : -2147483646 <= zaP n /\ zaP n <= 2147483646 := by
    unfold zaP
    split
    · rename_i h; have := hxn.solid h; omega
    ·
     split
     · rename_i h; have := hxn.kern (by simpa using h); omega
     ·
      split
      · rename_i h; have := hxn.nat (by simpa using h); omega
      · omega
   obtain ⟨al, hal⟩ : ∃ al, zaP n = al := ⟨_, rfl⟩
   rw [hal] at HA ha1
   have Hal := zzh hal
   obtain ⟨a1, a2⟩ := ha1
   clear hal
   have hwr : IntKind.i64.wrap (T.nat + al) = T.nat + al := Go.IntWalk.i64_in _ (by omega)
   have HKp : Hid (∀ w8, Below A1.drew.heap.size A1.drew w8 -> w8.cell? ⟨Z, 0, none⟩ = some (.int .i64 T.nat) /\ agg? w8 wr.heap.size 0 19 = some n.arr) := zzh fun w8 h => ⟨(h.cell (p := ⟨Z, 0, none⟩) hTX.lt).trans t0, ((zbc h).2.2.1 _ _ _ (Array.getElem?_eq_some_iff.1 dX).1).trans aX⟩
   have HF0 : Hid (∀ w8, Below A1.drew.heap.size A1.drew w8 -> w8.frozen? ⟨Z, 0, none⟩ = false) := zzh fun w8 h => (h.frozen (p := ⟨Z, 0, none⟩) hTX.lt).trans (hTX.frozen 0)
   have HC : Hid (∀ w8, Below A1.drew.heap.size A1.drew w8 -> TAt (w8.setCell ⟨Z, 0, none⟩ (.int .i64 (IntKind.i64.wrap (T.nat + al)))) Z { T with nat := T.nat + al } /\ (w8.setCell ⟨Z, 0, none⟩ (.int .i64 (IntKind.i64.wrap (T.nat + al)))).heap[wr.heap.size]? = some (.cells n.arr 53 (0, 0)) /\ A1.grownBy (w8.setCell ⟨Z, 0, none⟩ (.int .i64 (IntKind.i64.wrap (T.nat + al)))) (some Z)) := zzh fun w8 h => by
    have hT8 : TAt w8 Z T := (h.block Z hTX.lt).trans hTX
    have d8 := (h.block wr.heap.size (Array.getElem?_eq_some_iff.1 dX).1).trans dX
    rw [hwr]
    exact ⟨hT8.set 0 _ rfl, (Below.heap_setCell _ _ _ _ hXZ).trans d8, ⟨h.os, h.tape, h.output, Nat.le_trans h.size (KeepsWalks.setCell w8 _ _).size, fun j hj hne => (Below.heap_setCell _ _ _ _ (fun e => hne (by rw [e]))).trans (h.block j hj)⟩⟩
   have HTX := zzh hTX
   have HD := zzh dX
   clear hTX dX hwr
   go_cut [] from 24 to 54 (fun wx => TAt wx Z { T with nat := T.nat + al } /\ wx.heap[wr.heap.size]? = some (.cells n.arr 53 (0, 0)) /\ A1.grownBy wx (some Z))
   case first =>
    go_wp2_with fail
    go_region_with (go_at_call 139; refine HA.out.mono ?_; rintro e w8 ⟨rfl, hb8⟩; (have f8 := HF0.out _ hb8); (obtain ⟨c8, g8⟩ := HKp.out _ hb8))
    all_goals
     have HCo := zzh (HC.out _ hb8)
     go_wp2_with fail
     go_meet
     exact HCo.out
   case rest =>
    obtain ⟨hTc, hDc, hGc⟩ := hcut
    have x0 : wc.cell? ⟨wr.heap.size, 0, none⟩ = some (.int .i64 n.kind) := by rw [cell?_blk' hDc]; rfl
    clear aX t0 HKp HF0 HC HA
    -- what the world keeps, whatever is stored in the sum
    have HEnd : Hid (∀ A2, A1.grownBy A2 (some Z) -> TAt A2 w.heap.size ⟨0, 0, 0, 0, 0, 0, 0, 0, 0⟩ /\ A2.ownsRow w1.heap.size 3 1 (.slice (some ⟨gi, 0, none⟩) s.length cv) s.length (ints (ofN s)) /\ Below w.heap.size w A2 /\ w1.heap.size <= A2.heap.size) := zzh fun A2 hg => by
     have hbA := HHbl.out.trans (hbX.mono HHbl.out.size)
     have hz1 := hbX.size
     refine ⟨(hg.block _ (Nat.lt_of_lt_of_le HHR.out.lt hz1) (fun e => by cases e; omega)).trans ((hbX.block _ HHR.out.lt).trans HHR.out), (zad HHrow.out hbX).kept hg (.inr fun e => ?_), hbA.grown hg hbA.size (fun q e => by cases e; omega), Nat.le_trans (Nat.le_trans hzr hz1) hg.size⟩
     have := (HHrow.out.lt _ e).1
     omega
    cases k7 : (n.kind == 7)
    ·
     have hse : sumP L (s.take (i + 1)) = { T with nat := T.nat + al } := by
      rw [HSn.out]; unfold sumN; rw [k7, Hal.out]; rfl
     have HSe := zzh hse
     have HE2 := zzh (HEnd.out _ hGc)
     have HTc := zzh hTc
     clear hse hTc hGc HEnd
     go_wp2_with fail
     obtain ⟨r1, r2, r3, r4⟩ := HE2.out
     go_roundg (s.length + 1 - (i + 1))
     case measure => have := Hin.out; omega
     case rel => exact ⟨i + 1, rfl, Hin.out, by go_num, by rw [HSe.out]; exact HTc.out, r1, r2, r3, r4⟩
    ·
     have k7' : n.kind = 7 := by simpa using k7
     obtain ⟨s1, s2⟩ := hxn.str k7'
     obtain ⟨s3, s4⟩ := hxn.shr k7'
     have b1 := hxn.so k7'
     have b2 := hxn.ho k7'
     have hse : sumP L (s.take (i + 1)) = ({ T with nat := T.nat + al } : Tt).glue n.glue := by
      rw [HSn.out]; unfold sumN; rw [k7, Hal.out]; rfl
     have HSe := zzh hse
     obtain ⟨j, hj⟩ : ∃ j : Nat, n.glue.so = (j : Int) := ⟨n.glue.so.toNat, by omega⟩
     obtain ⟨h, hh⟩ : ∃ h : Nat, n.glue.ho = (h : Int) := ⟨n.glue.ho.toNat, by omega⟩
     have hj3 : j <= 3 := by omega
     have hh3 : h <= 3 := by omega
     have hj4 : (0 : Int) <= (j : Int) := by omega
     have hj5 : (j : Int) < 4 := by omega
     have hh4 : (0 : Int) <= (h : Int) := by omega
     have hh5 : (h : Int) < 4 := by omega
     have Hj := zzh hj
     have Hh := zzh hh
     have x8 : wc.cell? ⟨wr.heap.size, 8, none⟩ = some (.int .i64 n.glue.str) := by rw [cell?_blk' hDc]; rfl
     have x10 : wc.cell? ⟨wr.heap.size, 10, none⟩ = some (.int .i64 (j : Nat)) := by rw [cell?_blk' hDc, <- hj]; rfl
     have cj' : wc.cell? ⟨Z, 1 + j, none⟩ = some (.int .i64 (T.st j)) := hTc.cell (1 + j) _ (tt_get_st _ j hj3)
     have fj := hTc.frozen (1 + j)
     obtain ⟨bj1, bj2⟩ := HU3.out j
     clear hse hj hh b1 b2 k7'
     go_wp2_with fail
     go_region
     have hT5 : TAt (wc.setCell ⟨Z, 1 + j, none⟩ (.int .i64 (T.st j + n.glue.str))).drew Z (({ T with nat := T.nat + al } : Tt).setS j (T.st j + n.glue.str)) := hTc.set (1 + j) _ (tt_set_st _ _ j hj3)
     have hD5 : (wc.setCell ⟨Z, 1 + j, none⟩ (.int .i64 (T.st j + n.glue.str))).drew.heap[wr.heap.size]? = some (.cells n.arr 53 (0, 0)) := (Below.heap_setCell _ _ _ _ hXZ).trans hDc
     have hG5 : A1.grownBy (wc.setCell ⟨Z, 1 + j, none⟩ (.int .i64 (T.st j + n.glue.str))).drew (some Z) := ⟨hGc.os, hGc.tape, hGc.output, Nat.le_trans hGc.size (KeepsWalks.setCell wc _ _).size, fun q hq hne => (Below.heap_setCell _ _ _ _ (fun e => hne (by rw [e]))).trans (hGc.block q hq hne)⟩
     clear hTc hDc hGc x0 x8 x10 cj' fj bj1 bj2
     generalize (wc.setCell ⟨Z, 1 + j, none⟩ (.int .i64 (T.st j + n.glue.str))).drew = A5 at hT5 hD5 hG5 ⊢
     have x9 : A5.cell? ⟨wr.heap.size, 9, none⟩ = some (.int .i64 n.glue.shr) := by rw [cell?_blk' hD5]; rfl
     have x11 : A5.cell? ⟨wr.heap.size, 11, none⟩ = some (.int .i64 (h : Nat)) := by rw [cell?_blk' hD5, <- Hh.out]; rfl
     have ci := hT5.cell (5 + h) _ (tt_get_sh _ h hh3)
     have fi := hT5.frozen (5 + h)
     have hsh : (({ T with nat := T.nat + al } : Tt).setS j (T.st j + n.glue.str)).sh h = T.sh h := zcB _ _ _ _
     rw [hsh] at ci
     obtain ⟨bi1, bi2⟩ := HU4.out h
     clear hsh
     go_wp2_with fail
     go_region
     have hT6 : TAt (A5.setCell ⟨Z, 5 + h, none⟩ (.int .i64 (T.sh h + n.glue.shr))).drew Z ((({ T with nat := T.nat + al } : Tt).setS j (T.st j + n.glue.str)).setH h (T.sh h + n.glue.shr)) := hT5.set (5 + h) _ (tt_set_sh _ _ h hh3)
     have hG6 : A1.grownBy (A5.setCell ⟨Z, 5 + h, none⟩ (.int .i64 (T.sh h + n.glue.shr))).drew (some Z) := ⟨hG5.os, hG5.tape, hG5.output, Nat.le_trans hG5.size (KeepsWalks.setCell A5 _ _).size, fun q hq hne => (Below.heap_setCell _ _ _ _ (fun e => hne (by rw [e]))).trans (hG5.block q hq hne)⟩
     clear hT5 hD5 hG5 x9 x11 ci fi bi1 bi2
     generalize (A5.setCell ⟨Z, 5 + h, none⟩ (.int .i64 (T.sh h + n.glue.shr))).drew = A6 at hT6 hG6 ⊢
     have hg : ({ T with nat := T.nat + al } : Tt).glue n.glue = (({ T with nat := T.nat + al } : Tt).setS j (T.st j + n.glue.str)).setH h (T.sh h + n.glue.shr) := by
      unfold Tt.glue
      rw [Hj.out, Hh.out]
      simp only [Int.toNat_natCast]
      rw [show (({ T with nat := T.nat + al } : Tt).setS j (({ T with nat := T.nat + al } : Tt).st j + n.glue.str)) = (({ T with nat := T.nat + al } : Tt).setS j (T.st j + n.glue.str)) from rfl, zcB]
      rfl
     have Hg := zzh hg
     have HE2 := zzh (HEnd.out _ hG6)
     clear hg hG6 HEnd
     go_wp2_with fail
     obtain ⟨r1, r2, r3, r4⟩ := HE2.out
     go_roundg (s.length + 1 - (i + 1))
     case measure => have := Hin.out; omega
     case rel => exact ⟨i + 1, rfl, Hin.out, by go_num, by rw [HSe.out, Hg.out]; exact hT6, r1, r2, r3, r4⟩
  ·
   obtain rfl : i = s.length := by omega
   have hi2 : ¬ (s.length : Int) < (s.length : Int) := by omega
   rw [List.take_length] at hT
   have aT := hT.agg
   have thR := hR.there
   have hRs := hR.store (U := sumP L s)
   clear hrow
   go_wp2_with fail
   exact ret_tt rfl w.heap.size 0 _ rfl hRs.agg rfl ⟨rfl, Below.setAgg hbl (Nat.le_refl _) _ _⟩
end
section
attribute [local go_sem ↓] Go.wp_at_zero Go.wp_at_succ
theorem lastD_light (L : List Nd) : ∀ (r q : List Nat), (∀ x ∈ r, zaW (nth L x).kind = true) -> lastD L (r ++ q) = lastD L q
 | [], _, _ => rfl
 | x :: r, q, h => by
  rw [List.cons_append]
  show (if zaW (nth L x).kind then lastD L (r ++ q) else _) = _
  rw [if_pos (h x List.mem_cons_self)]
  exact lastD_light L r q (fun y hy => h y (List.mem_cons_of_mem _ hy))
theorem lastD_take {L : List Nd} {s : List Nat} {k : Nat} (h : ∀ j, k <= j -> (hj : j < s.length) -> zaW (nth L s[j]).kind = true) : lastD L s.reverse = lastD L (s.take k).reverse := by
 have e : s.reverse = (s.drop k).reverse ++ (s.take k).reverse := by rw [<- List.reverse_append, List.take_append_drop]
 rw [e, lastD_light]
 intro x hx
 rw [List.mem_reverse] at hx
 obtain ⟨i, hi, rfl⟩ := List.getElem_of_mem hx
 rw [List.getElem_drop]
 exact h _ (by omega) _
theorem lastD_at {L : List Nd} {s : List Nat} {j : Nat} (hj : j < s.length) (hl : zaW (nth L s[j]).kind = false) : lastD L (s.take (j + 1)).reverse = if zaq (nth L s[j]).kind then (nth L s[j]).d else 0 := by
 rw [List.take_succ_eq_append_getElem hj, List.reverse_append]
 show lastD L (s[j] :: (s.take j).reverse) = _
 show (if zaW (nth L s[j]).kind then _ else if zaq (nth L s[j]).kind then (nth L s[j]).d else 0) = _
 rw [if_neg (by rw [hl]; simp)]
theorem zcq {s : List Nat} {t : Nat} : ∀ x ∈ zaF s t, x ∈ s := fun _ hx => (List.takeWhile_prefix _).subset hx
theorem qsized (p0 : Option Addr) (b off cap : Nat) (L : List Nd) (s : List Nat) (hs : Items L 0 s) (hk : ∀ x ∈ s, (nth L x).kind ≠ 6) (hnb : ∀ x ∈ s, NdB (nth L x)) (hlen : L.length <= 2000) (t : Nat) (ht : t ∈ s \/ t = L.length) (depth : Int) (hd : -1073741823 <= depth /\ depth <= 1073741823) (w : World) (hN : NIn w p0 b off cap L) :
 Calls Tryz.prog 117 #[.slice p0 L.length cap, .int .i64 (t : Nat), .int .i64 depth] w fun e w' => e = .returned (.tuple #[.agg (zap L s t depth).1.arr, .int .i64 (zap L s t depth).2]) /\ Below w.heap.size w w' := by
 obtain ⟨d1, d2⟩ := hd
 have htl : t <= L.length := by
  rcases ht with h | h
  · exact Nat.le_of_lt (hs.lt t h).2
  · omega
 have hcap := hN.cap'
 have hlt2 : (L.take t).length = t := by rw [List.length_take]; omega
 have hs2 := zbL hs ht
 have hin : ∀ x ∈ zaF s t, x < t := fun x hx => by have := (hs2.lt x hx).2; omega
 have hnt : ∀ x ∈ zaF s t, nth (L.take t) x = nth L x := fun x hx => nth_take (hin x hx)
 have hsu : sumP (L.take t) (zaF s t) = sumP L (zaF s t) := sumP_congr hnt
 have HSum : Hid (∀ W, Below w.heap.size w W -> Calls Tryz.prog 122 #[.slice p0 t cap, .bool true] W fun e w' => e = .returned (.agg (sumP L (zaF s t)).arr) /\ Below W.heap.size W w') := zzh fun W hb => by
  have := qsum p0 b off cap (L.take t) (zaF s t) hs2 (fun x hx => by rw [hnt x hx]; exact hk x (zcq x hx)) (fun x hx => by rw [hnt x hx]; exact hnb x (zcq x hx)) (by omega) W ((hN.below hb).take t)
  rw [hlt2, hsu] at this
  exact this
 have HSt : Hid (∀ W, Below w.heap.size w W -> Calls Tryz.prog 21 #[.slice p0 t cap] W fun e w' => (∃ v, e = .returned v /\ IRow W v (zaF s t) w') /\ Below W.heap.size W w') := zzh fun W hb => by
  have := zdb p0 b off cap (L.take t) (zaF s t) W ((hN.below hb).take t) hs2 (fun x hx => by rw [hnt x hx]; exact hk x (zcq x hx))
  rw [hlt2] at this
  exact this
 have hsl := hs2.len
 have H := zzh hN
 have HIn := zzh hin
 have HNb := zzh (fun x (hx : x ∈ zaF s t) => hnb x (zcq x hx))
 have HMs := zzh (meas_sized L s t depth)
 obtain ⟨⟨u1, u2⟩, _, _⟩ := sum_bound (L := L) (s := zaF s t) (fun x hx => hnb x (zcq x hx)) (by omega)
 obtain ⟨T, hT⟩ : ∃ T, sumP L (zaF s t) = T := ⟨_, rfl⟩
 rw [hT] at HSum u1 u2 HMs
 obtain ⟨s', hs'⟩ : ∃ s', zaF s t = s' := ⟨_, rfl⟩
 rw [hs'] at HSt hsl HIn HNb HMs
 have ht1 : (0 : Int) <= (t : Int) := by omega
 have ht2 : (t : Int) <= (cap : Int) := by omega
 have ht3 : (t : Int) <= (L.length : Int) := by omega
 have hb0 : Below w.heap.size w (w.alloc (.cells (Tt.mk 0 0 0 0 0 0 0 0 0).arr 43)) := (Below.refl _ _).alloc (Nat.le_refl _) _
 have bR : TAt (w.alloc (.cells (Tt.mk 0 0 0 0 0 0 0 0 0).arr 43)) w.heap.size ⟨0, 0, 0, 0, 0, 0, 0, 0, 0⟩ := heap_alloc_new w _
 rw [hlt2] at hsl
 clear hs hk hnb ht hs2 hin hnt hsu hT hs' hN hlt2
 go_enter Tryz.func117, Tryz.ntmps117
 go_upto_region 1 with (fail)
 generalize w.alloc (.cells (Tt.mk 0 0 0 0 0 0 0 0 0).arr 43) = w1 at hb0 bR ⊢
 go_wp2_with fail
 refine (HSum.out _ hb0).mono ?_
 clear HSum
 rintro e w2 ⟨rfl, hb2⟩
 go_upto_region 2 with (fail)
 have cX := heap_alloc_new w2 (.cells T.arr 43)
 have cR : TAt w2 w.heap.size ⟨0, 0, 0, 0, 0, 0, 0, 0, 0⟩ := (hb2.block _ bR.lt).trans bR
 have eR : TAt (w2.alloc (.cells T.arr 43)) w.heap.size ⟨0, 0, 0, 0, 0, 0, 0, 0, 0⟩ := (Below.heap_alloc _ _ _ cR.lt).trans cR
 have eb := (hb0.trans (hb2.mono hb0.size)).alloc (hb0.trans (hb2.mono hb0.size)).size (.cells T.arr 43)
 have hXR : w.heap.size < w2.heap.size := cR.lt
 clear bR hb0 hb2 cR
 have eX : TAt (w2.alloc (.cells T.arr 43)) w2.heap.size T := cX
 clear cX
 generalize w2.alloc (.cells T.arr 43) = w3 at eX eR eb ⊢
 generalize w2.heap.size = X at eX hXR ⊢
 go_wp2_with fail
 refine (HSt.out _ eb).mono ?_
 clear HSt
 rintro e w4 ⟨⟨v, rfl, hrow⟩, hb4⟩
 have fX : TAt w4 X T := (hb4.block _ eX.lt).trans eX
 have fR : TAt w4 w.heap.size ⟨0, 0, 0, 0, 0, 0, 0, 0, 0⟩ := (hb4.block _ eR.lt).trans eR
 have fb := eb.trans (hb4.mono eb.size)
 have hrw : w4.ownsRow w3.heap.size 3 1 v s'.length (ints (ofN s')) := hrow
 obtain ⟨pv, cv, rfl⟩ := zaf hrw
 clear hrow eX eR eb hb4
 have hln : IntKind.i64.wrap ((s'.length : Int) - 1) = (s'.length : Int) - 1 := Go.IntWalk.i64_in _ (by omega)
 go_wp2_with fail
 clear hln
 go_loopg [11] (s'.length + 1) (fun gg t11 wr => ∃ k : Nat, gg = k + 1 /\ k <= s'.length /\ t11 = .int .i64 ((k : Int) - 1) /\ (∀ j, k <= j -> (hj : j < s'.length) -> zaW (nth L s'[j]).kind = true) /\ Below w4.heap.size w4 wr)
 case atStart => exact ⟨s'.length, rfl, Nat.le_refl _, rfl, fun j h1 h2 => by omega, .refl _ _⟩
 case round =>
  obtain ⟨k, rfl, hk, rfl, hlt, hbl⟩ := hrel
  have HLt := zzh hlt
  have gX : TAt wr X T := (hbl.block _ fX.lt).trans fX
  have gR : TAt wr w.heap.size ⟨0, 0, 0, 0, 0, 0, 0, 0, 0⟩ := (hbl.block _ fR.lt).trans fR
  have gb := fb.trans (hbl.mono fb.size)
  have grow := zad hrw hbl
  have GX := zzh gX
  have GR := zzh gR
  have hFin : ∀ (A : World) (U : Tt) (d : Int), TAt A X U -> TAt A w.heap.size ⟨0, 0, 0, 0, 0, 0, 0, 0, 0⟩ -> Below w.heap.size w A -> agg? A X 0 9 = some U.arr /\ there? A w.heap.size 0 9 = true /\ agg? (setAgg A w.heap.size 0 U.arr) w.heap.size 0 9 = some U.arr /\ Below w.heap.size w (setAgg A w.heap.size 0 U.arr) := fun A U d h1 h2 h3 => ⟨h1.agg, h2.there, h2.store.agg, Below.setAgg h3 (Nat.le_refl _) _ _⟩
  have HFin := zzh hFin
  clear hlt gX gR hFin
  cases k with
  | zero =>
   have hl0 : lastD L s'.reverse = 0 := by rw [lastD_take (k := 0) (fun j h1 h2 => HLt.out j h1 h2)]; rfl
   have hneg : ¬ (0 : Int) <= ((0 : Nat) : Int) - 1 := by omega
   have hms : zap L s t depth = capD T 0 depth := by rw [HMs.out, hl0]
   have HRs := zzh hms
   have t0 := GX.out.cell 0 _ (Tt.get0 T)
   have f0 := GX.out.frozen 0
   clear hms hl0
   by_cases hdd : depth < 0
   ·
    have Hc := zzh (show capD T 0 depth = ({ T with nat := T.nat - depth }, depth) by
     unfold capD; rw [if_pos hdd]
     rw [show T.nat - 0 + (0 - depth) = T.nat - depth by omega])
    go_upto_region 13 with (fail)
    have hT7 : TAt (wr.setCell ⟨X, 0, none⟩ (.int .i64 (T.nat - depth))) X { T with nat := T.nat - depth } := GX.out.set 0 _ rfl
    have hR7 : TAt (wr.setCell ⟨X, 0, none⟩ (.int .i64 (T.nat - depth))) w.heap.size ⟨0, 0, 0, 0, 0, 0, 0, 0, 0⟩ := (Below.heap_setCell _ _ _ _ (by simp only; omega)).trans GR.out
    have hB7 : Below w.heap.size w (wr.setCell ⟨X, 0, none⟩ (.int .i64 (T.nat - depth))) := gb.setCell (p := ⟨X, 0, none⟩) (by simp only; omega) _
    generalize wr.setCell ⟨X, 0, none⟩ (.int .i64 (T.nat - depth)) = A7 at hT7 hR7 hB7 ⊢
    clear t0 f0
    obtain ⟨aX9, th9, ag9, hb9⟩ := HFin.out A7 { T with nat := T.nat - depth } 0 hT7 hR7 hB7
    go_wp2_with fail
    exact ⟨rfl, _, zbf rfl _ _ w.heap.size _ rfl ag9, by rw [HRs.out, Hc.out]; rfl, hb9⟩
   ·
    have Hc := zzh (show capD T 0 depth = (T, 0) by
     unfold capD; rw [if_neg hdd]
     rw [show T.nat - 0 = T.nat by omega])
    have hdd2 : 0 <= depth := by omega
    go_upto_region 13 with (fail)
    obtain ⟨aX9, th9, ag9, hb9⟩ := HFin.out wr T 0 GX.out GR.out gb
    go_wp2_with fail
    exact ⟨rfl, _, zbf rfl _ _ w.heap.size _ rfl ag9, by rw [HRs.out, Hc.out]; rfl, hb9⟩
  | succ j =>
   have hjl : j < s'.length := by omega
   have hj0 : ((j + 1 : Nat) : Int) - 1 = (j : Int) := by omega
   rw [hj0]
   clear hj0
   have hj1 : (0 : Int) <= (j : Int) := by omega
   have hj2 : (j : Int) < (s'.length : Int) := by omega
   obtain ⟨gi, c, hv, _, hcp, cI⟩ := irow_cell grow hjl
   simp only [Value.slice.injEq] at hv
   obtain ⟨rfl, _, rfl⟩ := hv
   have hxm := List.getElem_mem hjl
   have hxt := HIn.out _ hxm
   have hxn := HNb.out _ hxm
   have hN := H.out.below gb
   have hLD : zaW (nth L s'[j]).kind = false -> lastD L s'.reverse = if zaq (nth L s'[j]).kind then (nth L s'[j]).d else 0 := fun h => by rw [lastD_take (k := j + 1) (fun i h1 h2 => HLt.out i h1 h2), lastD_at hjl h]
   have hLt2 : zaW (nth L s'[j]).kind = true -> ∀ i, j <= i -> (hi : i < s'.length) -> zaW (nth L s'[i]).kind = true := fun h i h1 h2 => by
    by_cases e : i = j
    · subst e; exact h
    · exact HLt.out i (by omega) h2
   obtain ⟨x, hx⟩ : ∃ x, s'[j] = x := ⟨_, rfl⟩
   rw [hx] at cI hxt hxn hLD hLt2
   have hxl : x < L.length := by omega
   have xa := hN.nth hxl
   obtain rfl := hN.at_ hxl
   have hx1 : (0 : Int) <= (x : Int) := by omega
   have hx2 : (x : Int) < (L.length : Int) := by omega
   obtain ⟨n, hn⟩ : ∃ n, nth L x = n := ⟨_, rfl⟩
   rw [hn] at xa hxn hLD hLt2
   have HLD := zzh hLD
   have HLt2 := zzh hLt2
   have HLi := zzh (qlight n wr)
   have hblt := hN.lt hxl
   clear hLD hLt2 hx hxm hn hN
   cases hli : zaW n.kind
   ·
    rw [hli] at HLi
    have hld := HLD.out hli
    have hgl : gi < wr.heap.size := (grow.lt gi rfl).2
    cases hso : zaq n.kind
    ·
     have hl0 : lastD L s'.reverse = 0 := by rw [hld, hso]; rfl
     have hms : zap L s t depth = capD T 0 depth := by rw [HMs.out, hl0]
     have HRs := zzh hms
     have Hso := zzh hso
     clear hms hl0 hld hli HLD HLt2 hso
     have hsoC : ∀ w5, Calls Tryz.prog 135 #[.agg n.arr] w5 fun e w' => e = .returned (.bool false) /\ Below w5.heap.size w5 w' := fun w5 => by have := qsolid n w5; rwa [Hso.out] at this
     have HSo := zzh hsoC
     clear hsoC
     go_upto_region 10 with (first | (go_at_call 134; refine HLi.out.mono ?_; rintro e w5 ⟨rfl, hb5⟩; (have xa5 := ((zbc hb5).2.2.1 _ _ _ hblt).trans xa); (have cI5 := (hb5.cell (p := ⟨gi, j, none⟩) hgl).trans cI)) | (go_at_call 135; refine (HSo.out _).mono ?_; rintro e w6 ⟨rfl, hb6⟩))
     have hb56 := hb5.trans (hb6.mono hb5.size)
     have kX : TAt w6 X T := (hb56.block _ GX.out.lt).trans GX.out
     have kR : TAt w6 w.heap.size ⟨0, 0, 0, 0, 0, 0, 0, 0, 0⟩ := (hb56.block _ GR.out.lt).trans GR.out
     have kb := gb.trans (hb56.mono gb.size)
     have t0 := kX.cell 0 _ (Tt.get0 T)
     have f0 := kX.frozen 0
     clear xa xa5 cI cI5 hb5 hb6 hb56
     by_cases hdd : depth < 0
     ·
      have Hc := zzh (show capD T 0 depth = ({ T with nat := T.nat - depth }, depth) by
       unfold capD; rw [if_pos hdd]
       rw [show T.nat - 0 + (0 - depth) = T.nat - depth by omega])
      go_upto_region 13 with (fail)
      have hT7 : TAt (w6.setCell ⟨X, 0, none⟩ (.int .i64 (T.nat - depth))) X { T with nat := T.nat - depth } := kX.set 0 _ rfl
      have hR7 : TAt (w6.setCell ⟨X, 0, none⟩ (.int .i64 (T.nat - depth))) w.heap.size ⟨0, 0, 0, 0, 0, 0, 0, 0, 0⟩ := (Below.heap_setCell _ _ _ _ (by simp only; omega)).trans kR
      have hB7 : Below w.heap.size w (w6.setCell ⟨X, 0, none⟩ (.int .i64 (T.nat - depth))) := kb.setCell (p := ⟨X, 0, none⟩) (by simp only; omega) _
      generalize w6.setCell ⟨X, 0, none⟩ (.int .i64 (T.nat - depth)) = A7 at hT7 hR7 hB7 ⊢
      clear t0 f0
      obtain ⟨aX9, th9, ag9, hb9⟩ := HFin.out A7 { T with nat := T.nat - depth } 0 hT7 hR7 hB7
      go_wp2_with fail
      exact ⟨rfl, _, zbf rfl _ _ w.heap.size _ rfl ag9, by rw [HRs.out, Hc.out]; rfl, hb9⟩
     ·
      have Hc := zzh (show capD T 0 depth = (T, 0) by
       unfold capD; rw [if_neg hdd]
       rw [show T.nat - 0 = T.nat by omega])
      have hdd2 : 0 <= depth := by omega
      go_upto_region 13 with (fail)
      obtain ⟨aX9, th9, ag9, hb9⟩ := HFin.out w6 T 0 kX kR kb
      go_wp2_with fail
      exact ⟨rfl, _, zbf rfl _ _ w.heap.size _ rfl ag9, by rw [HRs.out, Hc.out]; rfl, hb9⟩
    ·
     have hl0 : lastD L s'.reverse = n.d := by rw [hld, hso]; rfl
     have hms : zap L s t depth = capD T n.d depth := by rw [HMs.out, hl0]
     have HRs := zzh hms
     have Hso := zzh hso
     obtain ⟨_, e1, e2⟩ := hxn.solid hso
     clear hms hl0 hld hli HLD HLt2 hso
     have hsoC : ∀ w5, Calls Tryz.prog 135 #[.agg n.arr] w5 fun e w' => e = .returned (.bool true) /\ Below w5.heap.size w5 w' := fun w5 => by have := qsolid n w5; rwa [Hso.out] at this
     have HSo := zzh hsoC
     have HGX := zzh GX.out
     clear hsoC
     go_upto_region 8 with (first | (go_at_call 134; refine HLi.out.mono ?_; rintro e w5 ⟨rfl, hb5⟩; (have xa5 := ((zbc hb5).2.2.1 _ _ _ hblt).trans xa); (have cI5 := (hb5.cell (p := ⟨gi, j, none⟩) hgl).trans cI)) | (go_at_call 135; refine (HSo.out _).mono ?_; rintro e w6 ⟨rfl, hb6⟩))
     have hb56 := hb5.trans (hb6.mono hb5.size)
     have kX : TAt w6 X T := (hb56.block _ GX.out.lt).trans GX.out
     have kR : TAt w6 w.heap.size ⟨0, 0, 0, 0, 0, 0, 0, 0, 0⟩ := (hb56.block _ GR.out.lt).trans GR.out
     have kb := gb.trans (hb56.mono gb.size)
     have cI6 := (hb56.cell (p := ⟨gi, j, none⟩) hgl).trans cI
     have xa6 := ((zbc hb56).2.2.1 _ _ _ hblt).trans xa
     have x5 : w6.cell? ⟨b, off + x * 19 + 5, none⟩ = some (.int .i64 n.d) := zau xa6 5 (.int .i64 n.d) rfl
     have t0 := kX.cell 0 _ (Tt.get0 T)
     have f0 := kX.frozen 0
     clear xa xa5 xa6 cI cI5 hb5 hb6 hb56
     go_upto_region 10 with (fail)
     have hT7 : TAt (w6.setCell ⟨X, 0, none⟩ (.int .i64 (T.nat - n.d))) X { T with nat := T.nat - n.d } := kX.set 0 _ rfl
     have hR7 : TAt (w6.setCell ⟨X, 0, none⟩ (.int .i64 (T.nat - n.d))) w.heap.size ⟨0, 0, 0, 0, 0, 0, 0, 0, 0⟩ := (Below.heap_setCell _ _ _ _ (by simp only; omega)).trans kR
     have hB7 : Below w.heap.size w (w6.setCell ⟨X, 0, none⟩ (.int .i64 (T.nat - n.d))) := kb.setCell (p := ⟨X, 0, none⟩) (by simp only; omega) _
     generalize w6.setCell ⟨X, 0, none⟩ (.int .i64 (T.nat - n.d)) = A7 at hT7 hR7 hB7 ⊢
     clear t0 f0 cI6 x5
     have t0 := hT7.cell 0 _ (Tt.get0 _)
     have f0 := hT7.frozen 0
     by_cases hdd : depth < n.d
     ·
      have Hc := zzh (show capD T n.d depth = ({ T with nat := T.nat - depth }, depth) by
       unfold capD; rw [if_pos hdd]
       rw [show T.nat - n.d + (n.d - depth) = T.nat - depth by omega])
      go_upto_region 13 with (fail)
      have hT8 : TAt (A7.setCell ⟨X, 0, none⟩ (.int .i64 (T.nat - depth))) X { T with nat := T.nat - depth } := hT7.set 0 _ rfl
      have hR8 : TAt (A7.setCell ⟨X, 0, none⟩ (.int .i64 (T.nat - depth))) w.heap.size ⟨0, 0, 0, 0, 0, 0, 0, 0, 0⟩ := (Below.heap_setCell _ _ _ _ (by simp only; omega)).trans hR7
      have hB8 : Below w.heap.size w (A7.setCell ⟨X, 0, none⟩ (.int .i64 (T.nat - depth))) := hB7.setCell (p := ⟨X, 0, none⟩) (by simp only; omega) _
      generalize A7.setCell ⟨X, 0, none⟩ (.int .i64 (T.nat - depth)) = A8 at hT8 hR8 hB8 ⊢
      clear t0 f0
      obtain ⟨aX9, th9, ag9, hb9⟩ := HFin.out A8 { T with nat := T.nat - depth } 0 hT8 hR8 hB8
      go_wp2_with fail
      exact ⟨rfl, _, zbf rfl _ _ w.heap.size _ rfl ag9, by rw [HRs.out, Hc.out]; rfl, hb9⟩
     ·
      have Hc := zzh (show capD T n.d depth = ({ T with nat := T.nat - n.d }, n.d) by unfold capD; rw [if_neg hdd])
      have hdd2 : n.d <= depth := by omega
      go_upto_region 13 with (fail)
      obtain ⟨aX9, th9, ag9, hb9⟩ := HFin.out A7 { T with nat := T.nat - n.d } 0 hT7 hR7 hB7
      go_wp2_with fail
      exact ⟨rfl, _, zbf rfl _ _ w.heap.size _ rfl ag9, by rw [HRs.out, Hc.out]; rfl, hb9⟩
   ·
    rw [hli] at HLi
    have HL3 := zzh (HLt2.out hli)
    have hw1 : IntKind.i64.wrap ((j : Int) - 1) = (j : Int) - 1 := Go.IntWalk.i64_in _ (by omega)
    clear hli HLD HLt2
    go_wp2_with (go_at_call 134; refine HLi.out.mono ?_; rintro e w5 ⟨rfl, hb5⟩)
    go_roundg (j + 1)
    case measure => omega
    case rel => exact ⟨j, rfl, by omega, by go_num, HL3.out, hbl.trans (hb5.mono hbl.size)⟩
end
section
attribute [local go_sem ↓] Go.wp_at_zero Go.wp_at_succ
theorem qdimen11 (x : Int) (w : World) : Calls Tryz.prog 147 #[.int .i64 x] w fun e w' => e = .returned (.bool (zac x)) /\ w = w' := by
 by_cases h : -1073741823 <= x /\ x <= 1073741823
 ·
  obtain ⟨h1, h2⟩ := h
  have H := zzh (show zac x = true by simp [zac, h1, h2])
  go_enter Tryz.func147, Tryz.ntmps147
  go_wp2
  go_ret
  exact ⟨zaa (by rw [H.out]), rfl⟩
 ·
  have H := zzh (show zac x = false by simp only [zac, decide_eq_false_iff_not]; exact h)
  by_cases h1 : -1073741823 <= x
  ·
   have h2 : ¬ x <= 1073741823 := fun h2 => h ⟨h1, h2⟩
   clear h
   go_enter Tryz.func147, Tryz.ntmps147
   go_wp2
   go_ret
   exact ⟨zaa (by rw [H.out]), rfl⟩
  ·
   clear h
   go_enter Tryz.func147, Tryz.ntmps147
   go_wp2
   go_ret
   exact ⟨zaa (by rw [H.out]), rfl⟩
end
end Go.Proofs.YtaehkbbdmamfpaaGreatDoor
