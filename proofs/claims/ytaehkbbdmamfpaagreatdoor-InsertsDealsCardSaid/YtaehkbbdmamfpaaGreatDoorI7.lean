/-
  Inserts: an Ins that does not fit is split: the program's.
-/
import Derived.Test.YtaehkbbdmamfpaaGreatDoorQ13
import Derived.Test.YtaehkbbdmamfpaaGreatDoorI6
import Derived.Test.YtaehkbbdmamfpaaGreatDoorC11
import Derived.Test.YtaehkbbdmamfpaaGreatDoorC13
import Derived.Test.YtaehkbbdmamfpaaGreatDoorI8
namespace Go.Proofs.YtaehkbbdmamfpaaGreatDoor
open Go.ChangeShapes Go.WideShapes Go.ChangeAt Go.RowKit
attribute [local go_sem ↓] Go.wp_at_zero Go.wp_at_succ
/-! ### Plain: how great the numbers are -/
theorem meas_nb {L : List Nd} {s : List Nat} (hc : zao L = 0) (hs : Items L 0 s) (t : Nat) (depth : Int) (hd : zac depth = true) :
 (-8900000000000 <= (zap L s t depth).1.nat /\ (zap L s t depth).1.nat <= 8900000000000) /\ (-1073741823 <= (zap L s t depth).2 /\ (zap L s t depth).2 <= 1073741823) /\ (-8900000000000 <= (zap L s t depth).1.h0 /\ (zap L s t depth).1.h0 <= 8900000000000) := by
 have hr := zaQ hc
 have hll := (zaj hc).1
 have hsl := hs.len
 have hsub : ∀ i ∈ zaF s t, i ∈ s := fun i hi => (List.takeWhile_sublist _).subset hi
 have hf := foldM_ok (L := L) (depth := depth) (pre := zaF s t) (fun i hi => by
  have hlt := (hs.lt i (hsub i hi)).2
  rw [zaV hlt]
  exact nb_of (hr _ (List.getElem_mem hlt))) (by have := (List.takeWhile_sublist (fun x : Nat => x != t) (l := s)).length_le; unfold zaF; omega)
 have hdp : (zbn L depth (zaF s t)).depth = depth := zcH _ _ _
 have h1 := hf.nat
 have h2 := hf.sh 0
 have h3 := hf.d
 have h4 : (zbn L depth (zaF s t)).t.sh 0 = (zbn L depth (zaF s t)).t.h0 := rfl
 have h5 : -1073741823 <= depth /\ depth <= 1073741823 := by simpa [zac] using hd
 rw [h4] at h2
 unfold zap sizeM
 rw [hdp]
 split
 · exact ⟨by simp only; omega, by simp only; omega, by simp only; omega⟩
 · exact ⟨by simp only; omega, by simp only; omega, by simp only; omega⟩
theorem best_nb {L : List Nd} {s : List Nat} (hc : zao L = 0) (hs : Items L 0 s) (h d : Int) (hd : zac d = true) : (-8910000000000 <= bS (bestO L s h d) /\ bS (bestO L s h d) <= 8910000000000) /\ ∃ y : Nat × Int × Int, bestO L s h d = some y /\ (y.1 ∈ s \/ y.1 = L.length) := by
 obtain ⟨y, h1, h2, h3, _⟩ := bestO_chos L s h d
 obtain ⟨m1, m2, _⟩ := meas_nb hc hs y.1 d hd
 rw [h1]
 simp only [bS]
 exact ⟨by omega, y, rfl, h2⟩
theorem ins_nb {L : List Nd} {x : Nat} (hc : zao L = 0) (hlt : x < L.length) (hk : (nth L x).kind = 13) :
 (0 <= (nth L x).sub /\ (nth L x).sub <= 254) /\ zac (nth L x).h = true /\ zac (nth L x).d = true /\ (-2147483647 <= (nth L x).pen /\ (nth L x).pen <= 2147483647) /\ (nth L x).glue.good = true := by
 have hr : zaX (nth L x) = true := by rw [zaV hlt]; exact zaQ hc _ (List.getElem_mem hlt)
 have := good_at (k := 13) hr hk
 simp [zbP, insB, dims2, zab] at this
 exact ⟨this.1.1.1, this.1.1.2.1, this.1.1.2.2, this.1.2, this.2⟩
theorem pen_nb {X : List Nd} (hc : zao X = 0) (a : Nat) : -2147483647 <= penI X a /\ penI X a <= 2147483647 := by
 unfold penI
 split
 · omega
 split
 ·
  rename_i hk
  rw [Int.toNat_natCast] at hk ⊢
  by_cases hlt : a < X.length
  ·
   have hr : zaX (nth X a) = true := by rw [zaV hlt]; exact zaQ hc _ (List.getElem_mem hlt)
   have := good_at (k := 9) hr hk
   simp [zbP, penB, zab] at this
   exact this
  ·
   have e : nth X a = Nd.zero := by unfold nth; rw [List.getElem?_eq_none (by omega)]; rfl
   rw [e] at hk
   cases hk
 · omega
theorem wide_nb (k : Cl) (room size : Int) : -1073741823 <= zbw k room size /\ zbw k room size <= 1073741823 := by unfold zbw; omega
/-! ### The program's -/
set_option maxRecDepth 100000 in
set_option maxHeartbeats 8000000 in
theorem ipart (A : Ac) (k : Cl) (hk : ClB k) (h : Ho) (room : Int) (hrm : -1152921504606846976 <= room /\ room <= 1152921504606846976) (hhs : -1152921504606846976 <= h.size /\ h.size <= 1152921504606846976) (hps : -1152921504606846976 <= A.pens /\ A.pens <= 1152921504606846976)
 (Z mb : Nat) (W : World) (hA : AAt W Z A) (L : List Nd) (b off : Nat) (hc : zao L = 0) (x : Nat) (hx : x ∈ itsP L) (hk13 : (nth L x).kind = 13) (hX : colQ (insP L x) = 0) (hl : A.lA = some ⟨b, off, none⟩) (hl2 : A.lN = L.length) (hN : NIn W (some ⟨b, off, none⟩) b off A.lC L) :
 Calls Tryz.prog 73 #[.pointer (some ⟨Z, 0, none⟩), .int .i64 x, .agg k.arr, .int .i64 room, .agg h.arr] W fun e W' =>
  e = .returned (.tuple #[.int .i64 (bS (zbX (insP L x) (zbw k room h.size) (nth L x).d)), .int .i64 (bA (zbX (insP L x) (zbw k room h.size) (nth L x).d))]) /\
  AAt W' Z { A with pens := A.pens + penI (insP L x) (bA (zbX (insP L x) (zbw k room h.size) (nth L x).d)) } /\ By2 Z mb W W' := by
 have hs := zaO hc
 have hlt := (hs.lt x hx).2
 obtain ⟨_, nh, nd, _, _⟩ := ins_nb hc hlt hk13
 have HIn : Hid (∀ W', Below W.heap.size W W' -> Calls Tryz.prog 56 #[.slice (some ⟨b, off, none⟩) L.length A.lC, .int .i64 x] W' fun e w' => (∃ v, e = .returned (.tuple #[v, .int .i64 0]) /\ NRow W' v (insP L x) w') /\ Below W'.heap.size W' w') := zzh fun W' hb => inside9 _ b off A.lC L _ hc hs x hx hk13 W' (hN.below hb)
 have HNd : Hid (∀ W', Below W.heap.size W W' -> W'.cell? ⟨b, off + x * 19 + 5, none⟩ = some (.int .i64 (nth L x).d)) := zzh fun W' hb => zau ((hN.below hb).nth hlt) 5 _ (Nd.get5 _)
 have hrm1 := hrm.1
 have hrm2 := hrm.2
 have ks := hk.scale
 have km := hk.most
 obtain ⟨hs1, hs2⟩ := hhs
 obtain ⟨pp1, pp2⟩ := hps
 obtain ⟨km1, km2⟩ := km
 obtain ⟨X, hXX⟩ : ∃ X, insP L x = X := ⟨_, rfl⟩
 rw [hXX] at HIn hX ⊢
 have hXl := insP_le (L := L) x
 rw [hXX] at hXl
 have hLl := (zaj hc).1
 have HL := zzh (And.intro hl hl2)
 clear hl hl2
 have hXc := zam hX
 have HX := zzh (And.intro hX hXc)
 obtain ⟨nD, hnD⟩ : ∃ nD, (nth L x).d = nD := ⟨_, rfl⟩
 rw [hnD] at HNd nd ⊢
 have Hnd := zzh nd
 have hx1 : (0 : Int) <= (x : Int) := by omega
 have hx2 : (x : Int) < (L.length : Int) := by omega
 obtain ⟨wd, hwd⟩ : ∃ wd, zbw k room h.size = wd := ⟨_, rfl⟩
 have hwb := wide_nb k room h.size
 rw [hwd] at hwb ⊢
 have Hwd := zzh hwd
 have Hwb := zzh hwb
 obtain ⟨bo, hbo⟩ : ∃ bo, zbX X wd nD = bo := ⟨_, rfl⟩
 obtain ⟨sb, y, hby, hys⟩ := best_nb hXc (zaO hXc) wd nD nd
 have hbe : bestO X (itsP X) wd nD = bo := hbo
 rw [hbe] at sb hby
 have hbr : zbW X (itsP X) wd nD = (bo, 0) := by
  unfold zbW
  rw [if_pos (show colP X (itsP X) = 0 from hX), if_pos (by rw [nd, Bool.and_true]; simp [zac]; omega), hbe]
 have hya : bA bo = (y.1 : Int) := by rw [hby]; rfl
 have hyl : y.1 <= X.length := by
  rcases hys with h9 | h9
  · exact Nat.le_of_lt ((zaO hXc).lt _ h9).2
  · omega
 rw [hbo]
 obtain ⟨ya, hya'⟩ : ∃ ya : Nat, y.1 = ya := ⟨_, rfl⟩
 rw [hya'] at hya hyl
 have hpb := pen_nb hXc ya
 rw [hya]
 obtain ⟨sz, hsz⟩ : ∃ sz, bS bo = sz := ⟨_, rfl⟩
 rw [hsz] at sb ⊢
 have HBst : Hid (∀ W p g c, NIn W p g 0 c X -> Calls Tryz.prog 124 #[.slice p X.length c, .int .i64 wd, .int .i64 nD] W fun e w' => e = .returned (.tuple #[.int .i64 (ya : Nat), .int .i64 sz, .int .i64 (bL bo), .int .i64 0]) /\ Below W.heap.size W w') := zzh fun W p g c hn => by
  have := vBest p g 0 c X (itsP X) zaO wd nD W hn
  rw [hbr] at this
  simp only [hya, hsz] at this
  exact this
 have hAlt := hA.lt
 have hA0 : AAt ((W.alloc (.cells k.arr 55)).alloc (.cells h.arr 138)) Z A := (Below.heap_alloc _ _ _ (by simp; omega)).trans ((Below.heap_alloc _ _ _ hAlt).trans hA)
 have dK : ((W.alloc (.cells k.arr 55)).alloc (.cells h.arr 138)).heap[W.heap.size]? = some (.cells k.arr 55 (0, 0)) := (Below.heap_alloc _ _ _ (by simp)).trans (heap_alloc_new _ _)
 have dH : ((W.alloc (.cells k.arr 55)).alloc (.cells h.arr 138)).heap[W.heap.size + 1]? = some (.cells h.arr 138 (0, 0)) := by have := heap_alloc_new (W.alloc (.cells k.arr 55)) (.cells h.arr 138); rwa [World.size_alloc] at this
 have hb1 : Below W.heap.size W ((W.alloc (.cells k.arr 55)).alloc (.cells h.arr 138)) := ((Below.refl _ _).alloc (Nat.le_refl _) _).alloc (by simp) _
 clear hX hXX hc hx hk13 hN hA hs hlt nh nd hnD hwd hbo hbe hby hys hya hya' hbr hsz hXc hk hwb hrm
 go_enter Tryz.func73, Tryz.ntmps73
 go_upto_region 1 with (fail)
 generalize (W.alloc (.cells k.arr 55)).alloc (.cells h.arr 138) = w1 at hA0 dK dH hb1 ⊢
 obtain ⟨Q, hQ⟩ : ∃ Q, W.heap.size = Q := ⟨_, rfl⟩
 have HQ := zzh hQ
 rw [hQ] at dK dH hAlt ⊢
 clear hQ
 have c0 : w1.cell? ⟨Z, 0, none⟩ = some (.slice (some ⟨b, off, none⟩) L.length A.lC) := by rw [hA0.cell 0 _ (Ac.get0 A), HL.out.1, HL.out.2]
 have HI1 := zzh (HIn.out w1 hb1)
 have HA1 := zzh hA0
 have Hb1 := zzh hb1
 have HdK := zzh dK
 have HdH := zzh dH
 clear HIn hA0 hb1 dK dH
 go_upto_region 2 with (go_at_call 56; refine HI1.out.mono ?_; clear HI1; rintro e w2 ⟨⟨v, rfl, hv⟩, hb2⟩; obtain ⟨_, p4, g4, c4, rfl, hN4, _⟩ := zbS hv (by omega))
 have hA2 := HA1.out.below hb2
 have dK2 := (hb2.block Q (Array.getElem?_eq_some_iff.1 HdK.out).1).trans HdK.out
 have dH2 := (hb2.block (Q + 1) (Array.getElem?_eq_some_iff.1 HdH.out).1).trans HdH.out
 have Hb2 := zzh (Hb1.out.trans (hb2.mono Hb1.out.size))
 have HN4 := zzh hN4
 clear c0 hv hN4 hb2 HA1 Hb1 HdK HdH
 have k0 : w2.cell? ⟨Q, 0, none⟩ = some (.int .i64 k.scale) := by rw [cell?_blk' dK2]; rfl
 have k1 : w2.cell? ⟨Q, 1, none⟩ = some (.int .i64 k.most) := by rw [cell?_blk' dK2]; rfl
 have h0 : w2.cell? ⟨Q + 1, 0, none⟩ = some (.int .i64 h.size) := by rw [cell?_blk' dH2]; rfl
 have HA2 := zzh hA2
 clear dK2 dH2 hA2
 obtain ⟨w0, hw0⟩ : ∃ w0, (if k.scale = 0 then 1073741823 else if k.scale = 1000 then room else wrap64 (room.tdiv k.scale * 1000)) = w0 := ⟨_, rfl⟩
 have hwd0 : wd = max (-1073741823) (min (min w0 (k.most - h.size)) 1073741823) := by rw [<- Hwd.out, <- hw0]; rfl
 have Hw0 := zzh hw0
 have Hwd0 := zzh hwd0
 clear hw0 hwd0
 go_upto_block 0 with (fail)
 go_cut [14] from 25 to 35 (fun s14 wx => s14 = .int .i64 w0 /\ w2 = wx)
 case first =>
  clear HA2 Hb2 HN4 HBst HX Hnd HQ
  have hw0 := Hw0.out
  by_cases e0 : k.scale = 0
  ·
   rw [if_pos e0] at hw0
   have e0' : (k.scale == 0) = true := by simpa using e0
   clear e0
   go_wp2_with fail
   go_meet
   exact ⟨by rw [hw0], rfl⟩
  rw [if_neg e0] at hw0
  have e0' : (k.scale == 0) = false := by simpa using e0
  by_cases e1 : k.scale = 1000
  ·
   rw [if_pos e1] at hw0
   have e1' : (k.scale == 1000) = true := by simpa using e1
   clear e0 e1
   go_wp2_with fail
   go_meet
   exact ⟨by rw [hw0], rfl⟩
  rw [if_neg e1] at hw0
  have e1' : (k.scale == 1000) = false := by simpa using e1
  have ht := zcx room k.scale 1152921504606846976 (by omega) (by omega) (by omega)
  obtain ⟨t, htt⟩ : ∃ t, room.tdiv k.scale = t := ⟨_, rfl⟩
  rw [htt] at hw0 ht
  have htw : wrap64 t = t := by unfold wrap64; omega
  obtain ⟨u, hu⟩ : ∃ u, wrap64 (t * 1000) = u := ⟨_, rfl⟩
  have hu2 : u = w0 := by rw [<- hu, <- hw0]
  clear e1 hw0
  go_wp2_with fail
  go_meet
  exact ⟨by rw [hu, hu2], rfl⟩
 case rest =>
  obtain ⟨rfl, rfl⟩ := hcut
  obtain ⟨w8, hw8⟩ : ∃ w8, min w0 (k.most - h.size) = w8 := ⟨_, rfl⟩
  have hwd8 := Hwd0.out
  rw [hw8] at hwd8
  have Hwd8 := zzh hwd8
  have Hw8 := zzh hw8
  clear hwd8 hw8 Hwd0
  go_upto_region 8 with (fail)
  go_cut [14] from 36 to 42 (fun s14 wx => s14 = .int .i64 w8 /\ w2 = wx)
  case first =>
   have hw8 := Hw8.out
   clear HA2 Hb2 HN4 HBst HX Hnd HQ
   go_wp2_with fail
   all_goals
    go_meet
    exact ⟨by congr 1; omega, rfl⟩
  case rest =>
   obtain ⟨rfl, rfl⟩ := hcut
   go_upto_region 9 with (fail)
   go_cut [14] from 43 to 45 (fun s14 wx => s14 = .int .i64 wd /\ w2 = wx)
   case first =>
    have hw8 := Hwd8.out
    clear HA2 Hb2 HN4 HBst HX Hnd HQ
    go_wp2_with fail
    all_goals
     go_meet
     exact ⟨by congr 1; omega, rfl⟩
   case rest =>
    obtain ⟨rfl, rfl⟩ := hcut
    clear k0 k1 h0 Hw8 Hwd8 Hw0
    have c0 : w2.cell? ⟨Z, 0, none⟩ = some (.slice (some ⟨b, off, none⟩) L.length A.lC) := by rw [HA2.out.cell 0 _ (Ac.get0 A), HL.out.1, HL.out.2]
    have x5 := HNd.out w2 Hb2.out
    have HB2 := zzh (HBst.out w2 p4 g4 c4 HN4.out)
    clear HBst HNd
    go_upto_region 11 with (go_at_call 124; refine HB2.out.mono ?_; clear HB2; rintro e w3 ⟨rfl, hb3⟩)
    have hA3 := HA2.out.below hb3
    have hN3 := HN4.out.below hb3
    have Hb3 := zzh (Hb2.out.trans (hb3.mono Hb2.out.size))
    have h4 : By2 Z mb W w3 := .of Hb3.out
    have c4 := hA3.cell 4 _ (Ac.get4 A)
    have f4 := hA3.frozen 4
    clear c0 x5 HA2 Hb2 HN4
    by_cases eL : ya = X.length
    ·
     have hpe := zzh (show penI X (ya : Nat) = -10000 by unfold penI; rw [if_pos (by rw [eL])])
     have eL1 : (ya : Int) = (X.length : Int) := by omega
     have eL2 : decide (ya = X.length) = true := decide_eq_true eL
     have hA4 := hA3.set 4 (.int .i64 (A.pens - 10000)) { A with pens := A.pens - 10000 } rfl
     have h5 := h4.set 4 (.int .i64 (A.pens - 10000))
     have H5 := zzh (And.intro hA4 h5)
     clear hA4 h5 hA3 h4 hN3
     subst eL
     go_wp2_with fail
     go_ret2
     refine ⟨rfl, ?_, H5.out.2⟩
     rw [hpe.out, <- Int.sub_eq_add_neg]
     exact H5.out.1
    ·
     have hyx : ya < X.length := by omega
     have eL1 : ¬ (ya : Int) = (X.length : Int) := by omega
     have eL2 : decide (ya = X.length) = false := decide_eq_false eL
     have ha := hN3.nth hyx
     have k0 : w3.cell? ⟨g4, ya * 19, none⟩ = some (.int .i64 (nth X ya).kind) := by have := zau ha 0 _ (Nd.get0 _); simpa using this
     have k16 : w3.cell? ⟨g4, ya * 19 + 16, none⟩ = some (.int .i64 (nth X ya).pen) := by have := zau ha 16 _ (Nd.get16 _); simpa using this
     obtain rfl := hN3.at_ hyx
     have hy1 : (0 : Int) <= (ya : Int) := by omega
     have hy2 : (ya : Int) < (X.length : Int) := by omega
     have hpe : penI X (ya : Nat) = if (nth X ya).kind = 9 then (nth X ya).pen else 0 := by unfold penI; rw [if_neg eL1, Int.toNat_natCast]
     by_cases e9 : (nth X ya).kind = 9
     ·
      rw [if_pos e9] at hpe
      rw [e9] at k0
      rw [hpe] at hpb
      obtain ⟨pb1, pb2⟩ := hpb
      generalize (nth X ya).pen = q at k16 pb1 pb2 hpe
      have Hpe := zzh hpe
      have hA4 := hA3.set 4 (.int .i64 (A.pens + q)) { A with pens := A.pens + q } rfl
      have h5 := (h4.set 4 (.int .i64 (A.pens + q))).drew
      have H5 := zzh (And.intro hA4 h5)
      clear hA4 h5 hA3 h4 hN3 ha e9 hpe eL
      go_wp2_with fail
      go_region
      go_wp2_with fail
      go_ret2
      rw [Hpe.out]
      exact ⟨rfl, H5.out.1, H5.out.2⟩
     ·
      rw [if_neg e9] at hpe
      have e9' : ((nth X ya).kind == 9) = false := by simpa using e9
      have Hpe := zzh hpe
      generalize (nth X ya).kind = q at k0 e9'
      have H5 := zzh (And.intro hA3 h4)
      clear hA3 h4 hN3 ha e9 hpe k16 eL
      go_wp2_with fail
      go_ret2
      rw [Hpe.out]
      exact ⟨rfl, by rw [Int.add_zero]; exact H5.out.1, H5.out.2⟩
end Go.Proofs.YtaehkbbdmamfpaaGreatDoor
