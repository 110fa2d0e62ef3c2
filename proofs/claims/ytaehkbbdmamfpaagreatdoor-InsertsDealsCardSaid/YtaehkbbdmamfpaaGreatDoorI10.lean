/-
  Inserts: what becomes of an Ins: the program's.
-/
import Derived.Test.YtaehkbbdmamfpaaGreatDoorI9
namespace Go.Proofs.YtaehkbbdmamfpaaGreatDoor
open Go.ChangeShapes Go.WideShapes Go.ChangeAt Go.RowKit
attribute [local go_sem ↓] Go.wp_at_zero Go.wp_at_succ
set_option maxRecDepth 100000 in
set_option maxHeartbeats 16000000 in
theorem istep (L : List Nd) (p0 : Option Addr) (b off cap : Nat) (C : List Cl) (pc : Option Addr) (bc oc cc : Nat) (depth : Int) (st0 : As) (x : Nat) (Z mb B : Nat) (W : World) (hI : AccIn W Z mb B L p0 b off cap C pc bc oc cc depth st0)
 (hc : colQ L = 0) (hcc : clsC C = 0) (hd : zac depth = true) (hx : x ∈ itsP L) (hk : (nth L x).kind = 13) (hX : colQ (insP L x) = 0) (K9 : Int) (hK : 0 <= K9) (hK2 : K9 <= 600000000000000000) (hB : StB K9 st0) :
 Calls Tryz.prog 41 #[.pointer (some ⟨Z, 0, none⟩), .int .i64 x] W fun e W' => e = .returned (.agg (zbp L C depth st0 x).2.arr) /\ AccIn W' Z mb B L p0 b off cap C pc bc oc cc depth (zbp L C depth st0 x).1 /\ By2 Z mb W W' := by
 have hck := zam hc
 have hs := zaO hck
 have hlt := (hs.lt x hx).2
 have hll := (zaj hck).1
 obtain rfl := hI.nodes.at_ hlt
 obtain ⟨nsub, nh, nd, npen, ngl⟩ := ins_nb hck hlt hk
 obtain ⟨n, hn⟩ : ∃ n, nth L x = n := ⟨_, rfl⟩
 rw [hn] at nsub nh nd npen
 have hSt := step_end L C depth st0 x
 rw [hn] at hSt
 obtain ⟨sk, hsk⟩ : ∃ sk : Nat, n.sub = (sk : Int) := ⟨n.sub.toNat, by omega⟩
 have hsk6 : sk <= 1000000 := by omega
 have Hn := zzh hn
 have Hsk := zzh hsk
 have HI := zzh hI
 have hx1 : (0 : Int) <= (x : Int) := by omega
 have hx2 : (x : Int) < (L.length : Int) := by omega
 have HC := zzh (And.intro hc (And.intro hcc (And.intro hck (And.intro hx (And.intro hk hX)))))
 obtain ⟨k, hkk⟩ : ∃ k, zcv C (sk : Nat) = k := ⟨_, rfl⟩
 have hkb : ClB k := by rw [<- hkk]; exact clsAt_ok hcc _
 obtain ⟨h, hh⟩ : ∃ h, zcW st0 (sk : Nat) = h := ⟨_, rfl⟩
 obtain ⟨st, hst⟩ : ∃ st, metI st0 C (sk : Nat) = st := ⟨_, rfl⟩
 rw [hsk, hkk, hst] at hSt
 have HSt := zzh hSt
 have Hkk := zzh hkk
 have Hh := zzh hh
 have Hst := zzh hst
 have Hkb := zzh hkb
 have c0 : ∀ W', Below W.heap.size W W' -> W'.cell? ⟨Z, 0, none⟩ = some (.slice (some ⟨b, off, none⟩) L.length cap) := fun W' hb => (hI.a.below hb).cell 0 _ (Ac.get0 _)
 have HA0 := zzh c0
 have HX0 : Hid (∀ W', Below W.heap.size W W' -> agg? W' b (off + x * 19) 19 = some n.arr) := zzh fun W' hb => by have := (hI.nodes.below hb).nth hlt; rwa [hn] at this
 have e0 := HA0.out _ ((Below.refl W.heap.size W).alloc (Nat.le_refl _) (.cells (Sp.mk 0 0 0 0 0 0 0).arr 49))
 have e1 := HX0.out _ ((Below.refl W.heap.size W).alloc (Nat.le_refl _) (.cells (Sp.mk 0 0 0 0 0 0 0).arr 49))
 have dR0 : Blk ((W.alloc (.cells (Sp.mk 0 0 0 0 0 0 0).arr 49)).alloc (.cells n.arr 53)) W.heap.size (Sp.mk 0 0 0 0 0 0 0).arr 49 := (Below.heap_alloc _ _ _ (by simp)).trans (heap_alloc_new _ _)
 have dN0 : Blk ((W.alloc (.cells (Sp.mk 0 0 0 0 0 0 0).arr 49)).alloc (.cells n.arr 53)) (W.heap.size + 1) n.arr 53 := by have := heap_alloc_new (W.alloc (.cells (Sp.mk 0 0 0 0 0 0 0).arr 49)) (.cells n.arr 53); rwa [World.size_alloc] at this
 have hb1 : Below W.heap.size W ((W.alloc (.cells (Sp.mk 0 0 0 0 0 0 0).arr 49)).alloc (.cells n.arr 53)) := ((Below.refl _ _).alloc (Nat.le_refl _) _).alloc (by simp) _
 have hz1 : ((W.alloc (.cells (Sp.mk 0 0 0 0 0 0 0).arr 49)).alloc (.cells n.arr 53)).heap.size = W.heap.size + 2 := by simp
 clear hc hcc hck hs hlt hx hk hX hSt hkk hh hst hkb c0 hn hI nsub
 go_enter Tryz.func41, Tryz.ntmps41
 go_upto_region 2 with (fail)
 generalize (W.alloc (.cells (Sp.mk 0 0 0 0 0 0 0).arr 49)).alloc (.cells n.arr 53) = w2 at dR0 dN0 hb1 hz1 ⊢
 obtain ⟨R, hR⟩ : ∃ R, W.heap.size = R := ⟨_, rfl⟩
 have HR := zzh hR
 rw [hR] at dR0 dN0 hz1 ⊢
 have Hb1 := zzh hb1
 have HdR := zzh dR0
 have HdN := zzh dN0
 have Hz1 := zzh hz1
 clear e0 e1 hR hb1 dR0 dN0 hz1
 have HF : Hid (∀ w', Below w2.heap.size w2 w' -> w'.cell? ⟨Z, 1, none⟩ = some (.slice pc C.length cc) /\ w'.cell? ⟨R + 1, 17, none⟩ = some (.int .i64 (sk : Nat)) /\ CIn w' pc bc oc cc C) := zzh fun w' hb => by
  have hb2 := Hb1.out.trans (hb.mono Hb1.out.size)
  refine ⟨(HI.out.a.below hb2).cell 1 _ (Ac.get1 _), ?_, HI.out.cls.below hb2⟩
  have := (HdN.out.below hb).cell 17 _ (Nd.get17 n)
  rwa [Hsk.out] at this
 refine zaK [6, 7, 8] (fun w' => Below w2.heap.size w2 w') (JV w2 7 8 (fun _ => .agg k.arr) (Cl.mk 0 0 0 ⟨0, 0, 0, 0, 0⟩).arr k.arr 55) follows (by kernel_rfl) (fun m us w h => h.below) (fun us => JV.init _ _ _ _ _ _ _ us) ?_
 iterate 9 first
  | (refine TK.pass rfl ?_)
  | (refine TK.read rfl _ (by intro wT hT K hK; simp only [Act.put, lsA, lsB, lsC] at hK; obtain ⟨y1, y2, _⟩ := HF.out _ hT; go_step; exact hK _ rfl) ?_; try simp only [Act.put, lsA, lsB, lsC])
 refine TK.nil fun us => ?_
 refine KW.step _ rfl (fun m w hJ h6 hD R hR => ?_) ?_
 ·
  go_step
  refine (iclass pc bc oc cc C sk hsk6 w (HF.out w hJ.below).2.2).mono ?_
  rintro e w' ⟨rfl, hb⟩
  exact hR _ _ (hJ.pure (by decide) (by decide) hb (by rw [Hkk.out]))
 try simp only [Act.put, lsA, lsB, lsC]
 refine KW.step _ rfl (fun m w hJ h7 hD R hR => ?_) ?_
 ·
  go_step
  exact hR _ _ (hJ.alloc h7 (by decide))
 try simp only [Act.put, lsA, lsB, lsC]
 refine KW.step _ rfl (fun m w hJ h8 hD R hR => ?_) ?_
 ·
  have h6 : m 6 = true := hD 6 rfl (by kernel_rfl)
  have h7 : m 7 = true := hD 7 rfl (by kernel_rfl)
  obtain ⟨X, e1, e2, e3⟩ := hJ.box h7
  have v6 := hJ.vals 6 (by decide) (by decide) h6
  rw [h8] at e3
  simp only [Bool.false_eq_true, if_false] at e3
  have t3 := zbR e3 0 8 (by decide)
  simp only [Act.put] at hR
  simp only [e1, v6] at hR ⊢
  go_step
  exact hR undef _ (hJ.store h7 h8 (by decide) (setMany_Cl _ _) e1 undef)
 simp only [Act.put]
 refine KW.nil fun w3 hJ3 => ?_
 obtain ⟨K, e1, e2, e3⟩ := hJ3.box rfl
 have v6 := hJ3.vals 6 (by decide) (by decide) rfl
 have dK3 : Blk w3 K k.arr 55 := e3
 have Hb3 := zzh hJ3.below
 have HdK := zzh dK3
 have hKlt : R + 2 <= K := by rw [<- Hz1.out]; exact e2
 simp only [e1, v6]
 clear e1 e2 e3 v6 hJ3 dK3 HF us
 have HW3 := zzh (Hb1.out.trans (Hb3.out.mono Hb1.out.size))
 have HF3 : Hid (∀ w', Below w3.heap.size w3 w' -> w'.cell? ⟨Z, 5, none⟩ = some (.map (some mb)) /\ w'.cell? ⟨R + 1, 17, none⟩ = some (.int .i64 (sk : Nat)) /\ (Instr.lookup 91 (.map (some mb)) (.int .i64 (sk : Nat)) true).run Tryz.prog w' = .ok (.tuple #[.agg h.arr, .bool (getI st0.met (sk : Nat)).isSome]) w') := zzh fun w' hb => by
  have hb2 := HW3.out.trans (hb.mono HW3.out.size)
  refine ⟨(HI.out.a.below hb2).cell 5 _ (Ac.get5 _), ?_, ?_⟩
  ·
   have := (HdN.out.below (Hb3.out.trans (hb.mono Hb3.out.size))).cell 17 _ (Nd.get17 n)
   rwa [Hsk.out] at this
  ·
   have := run_lookHo (HI.out.m.same (hb2.block _ HI.out.m.lt)) HI.out.nd (sk : Nat)
   rw [show (getI st0.met (sk : Nat)).getD ⟨0, 0⟩ = h from Hh.out] at this
   exact this
 obtain ⟨sm, hsm⟩ : ∃ sm, (getI st0.met (sk : Nat)).isSome = sm := ⟨_, rfl⟩
 rw [hsm] at HF3
 have Hsm := zzh hsm
 clear hsm
 go_upto_region 3 with (fail)
 refine zaK [10, 11] (fun w' => Below w3.heap.size w3 w') (JV w3 10 11 (fun _ => undef) (Ho.mk 0 0).arr h.arr 138) follows (by kernel_rfl) (fun m us w h => h.below) (fun us => JV.init _ _ _ _ _ _ _ us) ?_
 iterate 13 first
  | (refine TK.pass rfl ?_)
  | (refine TK.read rfl _ (by intro wT hT K hK; simp only [Act.put, lsA, lsB, lsC] at hK; obtain ⟨y1, y2, y3⟩ := HF3.out _ hT; go_step; exact hK _ rfl) ?_; try simp only [Act.put, lsA, lsB, lsC])
 refine TK.nil fun us => ?_
 refine KW.step _ rfl (fun m w hJ h7 hD R hR => ?_) ?_
 ·
  go_step
  exact hR _ _ (hJ.alloc h7 (by decide))
 try simp only [Act.put, lsA, lsB, lsC]
 refine KW.step _ rfl (fun m w hJ h8 hD R hR => ?_) ?_
 ·
  have h7 : m 10 = true := hD 10 rfl (by kernel_rfl)
  obtain ⟨X, e1, e2, e3⟩ := hJ.box h7
  rw [h8] at e3
  simp only [Bool.false_eq_true, if_false] at e3
  have t3 := zbR e3 0 2 (by decide)
  simp only [Act.put] at hR
  simp only [e1] at hR ⊢
  go_step
  exact hR undef _ (hJ.store h7 h8 (by decide) (setMany_Ho _ _) e1 undef)
 simp only [Act.put]
 refine KW.nil fun w4 hJ4 => ?_
 obtain ⟨H, e1, e2, e3⟩ := hJ4.box rfl
 have dH4 : Blk w4 H h.arr 138 := e3
 have HdH := zzh dH4
 have hHlt : K < H := Nat.lt_of_lt_of_le HdK.out.lt e2
 have HW4 := zzh (HW3.out.trans (hJ4.below.mono HW3.out.size))
 have HdK4 := zzh (HdK.out.below hJ4.below)
 have HdN4 := zzh (HdN.out.below (Hb3.out.trans (hJ4.below.mono Hb3.out.size)))
 have HdR4 := zzh (HdR.out.below (Hb3.out.trans (hJ4.below.mono Hb3.out.size)))
 simp only [e1]
 clear e1 e2 e3 hJ4 dH4 HF3 us HdK HdN HdR Hb3 HW3
 have hRR := HR.out
 have hZR : Z < R := by rw [<- hRR]; exact HI.out.a.lt
 have hmR : mb < R := by rw [<- hRR]; exact HI.out.m.lt
 have a4 : agg? w4 K 0 8 = some k.arr := by rw [agg?_blk' HdK4.out 0 8 (by rw [Cl.size_arr]; decide)]; simp [Cl.arr, Cl.cells]
 go_upto_if 41 with (fail)
 go_cut [] from 42 to 44 (fun wx => (AAt wx Z (Ac.mk (some ⟨b, off, none⟩) L.length cap pc C.length cc st.goal depth st.pens mb st.t) /\ MapV wx mb (intM (hoM st0.met)) /\ Blk wx R (Sp.mk 0 0 0 0 0 0 0).arr 49 /\ Blk wx (R + 1) n.arr 53 /\ Blk wx K k.arr 55 /\ Blk wx H h.arr 138) /\ By2 Z mb W wx)
 case first =>
  cases sm
  ·
   have hst2 : st = firstI st0 k := by
    rw [<- Hst.out]; unfold metI; rw [Hsm.out, Hkk.out]; rfl
   have HA4 : AAt w4 Z (Ac.mk (some ⟨b, off, none⟩) L.length cap pc C.length cc st0.goal depth st0.pens mb st0.t) := HI.out.a.below HW4.out
   have HFi := zzh (ifirst _ k Hkb.out Z Z w4 HA4 ⟨by have := hB.goal; simp only; omega, by have := hB.goal; simp only; omega⟩ ⟨by have := hB.nat; simp only; omega, by have := hB.nat; simp only; omega⟩ (fun j => by have := hB.s j; simp only; omega) (fun j => by have := hB.h j; simp only; omega))
   have Hst2 := zzh hst2
   clear hst2 HA4 HC HX0 HA0 HSt hB
   go_wp2_with (go_at_call 72; refine HFi.out.mono ?_; clear HFi; rintro e w5 ⟨rfl, hA5, hb5⟩)
   go_meet
   have hn1 : R + 1 < w4.heap.size := HdN4.out.lt
   have hbl : ∀ {q : Nat} {c : Array Value} {t : TypeId}, Blk w4 q c t -> Z ≠ q -> Blk w5 q c t := fun h1 h2 => (hb5.block _ h1.lt (Ne.symm h2) (Ne.symm h2)).trans h1
   refine ⟨⟨?_, HI.out.m.same ((hb5.block mb (by have := HdN4.out.lt; omega) (Ne.symm HI.out.ne) (Ne.symm HI.out.ne)).trans (HW4.out.block _ HI.out.m.lt)), hbl HdR4.out (by omega), hbl HdN4.out (by omega), hbl HdK4.out (by omega), hbl HdH.out (by omega)⟩, (By2.of HW4.out).trans ⟨hb5.os, hb5.tape, hb5.output, hb5.size, fun q hq h1 _ => hb5.block q hq h1 h1⟩⟩
   rw [Hst2.out]
   exact hA5
  ·
   have hst2 : st = st0 := by
    rw [<- Hst.out]; unfold metI; rw [Hsm.out]; rfl
   have Hst2 := zzh hst2
   clear hst2
   go_wp2_with fail
   go_meet
   refine ⟨⟨?_, HI.out.m.same (HW4.out.block _ HI.out.m.lt), HdR4.out, HdN4.out, HdK4.out, HdH.out⟩, By2.of HW4.out⟩
   rw [Hst2.out]
   exact HI.out.a.below HW4.out
 case rest =>
  obtain ⟨⟨hA, hM, dR, dN, dK, dH⟩, hb⟩ := hcut
  rename_i u42 u43 u44
  generalize wc = w5 at *
  have hJ5 : AccIn w5 Z mb B L (some ⟨b, off, none⟩) b off cap C pc bc oc cc depth st := HI.out.next hA (by rw [<- Hst.out, metI_met]; exact hM) (by rw [<- Hst.out, metI_met]; exact HI.out.nd) hb
  have HJ5 := zzh hJ5
  have c17 := dN.cell 17 _ (Nd.get17 n)
  rw [Hsk.out] at c17
  have hba := (Below.refl w5.heap.size w5).alloc (Nat.le_refl _) (.cells (Sp.mk x (sk : Nat) 0 0 0 0 0).arr 49)
  have dS6 : Blk (w5.alloc (.cells (Sp.mk x (sk : Nat) 0 0 0 0 0).arr 49)) w5.heap.size (Sp.mk x (sk : Nat) 0 0 0 0 0).arr 49 := heap_alloc_new _ _
  have HS6 := zzh (And.intro dS6 (And.intro (hJ5.still hba) (And.intro (dR.below hba) (And.intro (dN.below hba) (And.intro (dK.below hba) (dH.below hba))))))
  have Hb6 := zzh (hb.trans (.of hba))
  have hS1 : H < w5.heap.size := dH.lt
  clear hJ5 hA hM dR dN dK dH hb hba dS6 a4
  go_upto_region 7 with (fail)
  generalize w5.alloc (.cells (Sp.mk x (sk : Nat) 0 0 0 0 0).arr 49) = w6 at HS6 Hb6 ⊢
  obtain ⟨S, hS⟩ : ∃ S, w5.heap.size = S := ⟨_, rfl⟩
  rw [hS] at HS6 hS1 ⊢
  clear hS c17
  obtain ⟨t, ht⟩ : ∃ t, (zap L (itsP L) x depth).1 = t := ⟨_, rfl⟩
  obtain ⟨d, hdd⟩ : ∃ d, (zap L (itsP L) x depth).2 = d := ⟨_, rfl⟩
  have htb := meas_nb HC.out.2.2.1 (zaO HC.out.2.2.1) x depth hd
  rw [ht, hdd] at htb
  have HTD := zzh (And.intro ht hdd)
  have HSz : Hid (∀ w', Below w6.heap.size w6 w' -> Calls Tryz.prog 26 #[.slice (some ⟨b, off, none⟩) L.length cap, .int .i64 x, .int .i64 depth] w' fun e w'' => e = .returned (.tuple #[.agg t.arr, .int .i64 d, .int .i64 0]) /\ Below w'.heap.size w' w'') := zzh fun w' hb => by
   have h1 := vsize (some ⟨b, off, none⟩) b off cap L (itsP L) zaO x depth w' ((HS6.out.2.1.still hb).nodes)
   have h2 : sizeR L (itsP L) x depth = (t, d, 0) := by
    unfold sizeR
    rw [if_pos (show colP L (itsP L) = 0 from HC.out.1), if_pos (show foundB L (itsP L) x = true by unfold foundB; simp only [Bool.or_eq_true, List.any_eq_true]; exact .inr ⟨x, HC.out.2.2.2.1, by simp⟩), hd, Int.toNat_natCast, ht, hdd]
    rfl
   rw [h2] at h1
   exact h1
  have HF6 : Hid (∀ w', Below w6.heap.size w6 w' -> w'.cell? ⟨Z, 0, none⟩ = some (.slice (some ⟨b, off, none⟩) L.length cap) /\ w'.cell? ⟨Z, 3, none⟩ = some (.int .i64 depth)) := zzh fun w' hb => by
   have h1 := (HS6.out.2.1.still hb).a
   exact ⟨h1.cell 0 _ (Ac.get0 _), h1.cell 3 _ (Ac.get3 _)⟩
  clear ht hdd
  refine zaK [9, 10, 11, 12, 13, 14, 15, 16, 17] (fun w' => Below w6.heap.size w6 w') (JV w6 14 15 (fun j => if j = 11 then .agg t.arr else if j = 12 \/ j = 16 then .int .i64 d else if j = 13 \/ j = 17 then .int .i64 0 else .tuple #[.agg t.arr, .int .i64 d, .int .i64 0]) (Tt.mk 0 0 0 0 0 0 0 0 0).arr t.arr 43) follows (by kernel_rfl) (fun m us w h => h.below) (fun us => JV.init _ _ _ _ _ _ _ us) ?_
  iterate 18 first
   | (refine TK.pass rfl ?_)
   | (refine TK.read rfl _ (by intro wT hT K hK; simp only [Act.put, lsA, lsB, lsC] at hK; obtain ⟨y1, y2⟩ := HF6.out _ hT; go_step; exact hK _ rfl) ?_; try simp only [Act.put, lsA, lsB, lsC])
  refine TK.nil fun us => ?_
  refine KW.step _ rfl (fun m w hJ h9 hD R hR => ?_) ?_
  ·
   go_step
   refine (HSz.out w hJ.below).mono ?_
   rintro e w' ⟨rfl, hb⟩
   exact hR _ _ (hJ.pure (by decide) (by decide) hb rfl)
  try simp only [Act.put, lsA, lsB, lsC]
  refine KW.step _ rfl (fun m w hJ h10 hD R hR => ?_) ?_
  ·
   have v9 := hJ.vals 9 (by decide) (by decide) (hD 9 rfl (by kernel_rfl))
   simp only [v9] at hR ⊢
   go_step
   exact hR _ _ (hJ.pure (by decide) (by decide) (Below.refl _ _) rfl)
  try simp only [Act.put, lsA, lsB, lsC]
  refine KW.step _ rfl (fun m w hJ h9 hD R hR => ?_) ?_
  ·
   have v9 := hJ.vals 10 (by decide) (by decide) (hD 10 rfl (by kernel_rfl))
   simp only [v9] at hR ⊢
   go_step
   exact hR _ _ (hJ.pure (by decide) (by decide) (Below.refl _ _) rfl)
  try simp only [Act.put, lsA, lsB, lsC]
  refine KW.step _ rfl (fun m w hJ h9 hD R hR => ?_) ?_
  ·
   have v9 := hJ.vals 10 (by decide) (by decide) (hD 10 rfl (by kernel_rfl))
   simp only [v9] at hR ⊢
   go_step
   exact hR _ _ (hJ.pure (by decide) (by decide) (Below.refl _ _) rfl)
  try simp only [Act.put, lsA, lsB, lsC]
  refine KW.step _ rfl (fun m w hJ h9 hD R hR => ?_) ?_
  ·
   have v9 := hJ.vals 10 (by decide) (by decide) (hD 10 rfl (by kernel_rfl))
   simp only [v9] at hR ⊢
   go_step
   exact hR _ _ (hJ.pure (by decide) (by decide) (Below.refl _ _) rfl)
  try simp only [Act.put, lsA, lsB, lsC]
  refine KW.step _ rfl (fun m w hJ h9 hD R hR => ?_) ?_
  ·
   go_step
   exact hR _ _ (hJ.alloc h9 (by decide))
  try simp only [Act.put, lsA, lsB, lsC]
  refine KW.step _ rfl (fun m w hJ h9 hD R hR => ?_) ?_
  ·
   have h11 : m 11 = true := hD 11 rfl (by kernel_rfl)
   have h14 : m 14 = true := hD 14 rfl (by kernel_rfl)
   obtain ⟨X, e1, e2, e3⟩ := hJ.box h14
   have v11 := hJ.vals 11 (by decide) (by decide) h11
   rw [h9] at e3
   simp only [Bool.false_eq_true, if_false] at e3
   have t3 := zbR e3 0 9 (by decide)
   simp only [Act.put] at hR
   simp only [e1, v11, if_true] at hR ⊢
   go_step
   exact hR undef _ (hJ.store h14 h9 (by decide) (setMany_Tt _ _) e1 undef)
  simp only [Act.put]
  refine KW.step _ rfl (fun m w hJ h9 hD R hR => ?_) ?_
  ·
   have v9 := hJ.vals 12 (by decide) (by decide) (hD 12 rfl (by kernel_rfl))
   simp only [v9] at hR ⊢
   go_step
   exact hR _ _ (hJ.pure (by decide) (by decide) (Below.refl _ _) rfl)
  try simp only [Act.put, lsA, lsB, lsC]
  refine KW.step _ rfl (fun m w hJ h9 hD R hR => ?_) ?_
  ·
   have v9 := hJ.vals 13 (by decide) (by decide) (hD 13 rfl (by kernel_rfl))
   simp only [v9] at hR ⊢
   go_step
   exact hR _ _ (hJ.pure (by decide) (by decide) (Below.refl _ _) rfl)
  simp only [Act.put]
  refine KW.nil fun w7 hJ7 => ?_
  obtain ⟨T, e1, e2, e3⟩ := hJ7.box rfl
  have v9 : us 9 = .tuple #[.agg t.arr, .int .i64 d, .int .i64 0] := hJ7.vals 9 (by decide) (by decide) rfl
  have v10 : us 10 = .tuple #[.agg t.arr, .int .i64 d, .int .i64 0] := hJ7.vals 10 (by decide) (by decide) rfl
  have v11 : us 11 = .agg t.arr := hJ7.vals 11 (by decide) (by decide) rfl
  have v12 : us 12 = .int .i64 d := hJ7.vals 12 (by decide) (by decide) rfl
  have v13 : us 13 = .int .i64 0 := hJ7.vals 13 (by decide) (by decide) rfl
  have v16 : us 16 = .int .i64 d := hJ7.vals 16 (by decide) (by decide) rfl
  have v17 : us 17 = .int .i64 0 := hJ7.vals 17 (by decide) (by decide) rfl
  have hAcc7 := HS6.out.2.1.still hJ7.below
  have dT7 : Blk w7 T t.arr 43 := e3
  have hSix : Six W Z mb R (R + 1) K H S T (Ac.mk (some ⟨b, off, none⟩) L.length cap pc C.length cc st.goal depth st.pens mb st.t) st.met (Sp.mk 0 0 0 0 0 0 0) n k h (Sp.mk x (sk : Nat) 0 0 0 0 0) t w7 :=
   ⟨hAcc7.a, hAcc7.m, HS6.out.2.2.1.below hJ7.below, HS6.out.2.2.2.1.below hJ7.below, HS6.out.2.2.2.2.1.below hJ7.below, HS6.out.2.2.2.2.2.below hJ7.below, HS6.out.1.below hJ7.below, dT7, Hb6.out.trans (.of hJ7.below), HI.out.ne, ⟨HI.out.a.lt, HI.out.m.lt⟩, by omega, by omega, by omega, by omega, hS1, Nat.lt_of_lt_of_le HS6.out.1.lt e2⟩
  have HSix := zzh hSix
  have HN7 := zzh (And.intro hAcc7.nodes hAcc7.nd)
  clear hSix hAcc7 dT7 e2 e3 HS6 Hb6 HSz HF6 hJ7 HJ5
  simp only [e1, v9, v10, v11, v12, v13, v16, v17]
  clear e1 v9 v10 v11 v12 v13 v16 v17
  have hBst : StB (K9 + 140737488355328) st := by have := hB.met1 HC.out.2.1 (sk : Nat); rwa [Hst.out] at this
  obtain ⟨⟨t1, t2⟩, ⟨t3, t4⟩, ⟨t5, t6⟩⟩ := htb
  have g12 := hBst.goal
  have gh := hBst.h 0
  rw [show st.t.sh 0 = st.t.h0 from rfl] at gh
  obtain ⟨rm, hrm⟩ : ∃ rm, st.goal - t.nat - d = rm := ⟨_, rfl⟩
  obtain ⟨xs, hxs⟩ : ∃ xs, t.h0 + st.t.h0 = xs := ⟨_, rfl⟩
  have hrb : -1152921504606846976 <= rm /\ rm <= 1152921504606846976 := by omega
  have hxb : -1152921504606846976 <= xs /\ xs <= 1152921504606846976 := by omega
  have Hrm := zzh (And.intro hrm hxs)
  have HFa : Hid (∀ m, (w7.drewN m).cell? ⟨Z, 2, none⟩ = some (.int .i64 st.goal) /\ (w7.drewN m).cell? ⟨Z, 11, none⟩ = some (.int .i64 st.t.h0) /\ (w7.drewN m).cell? ⟨T, 0, none⟩ = some (.int .i64 t.nat) /\ (w7.drewN m).cell? ⟨T, 5, none⟩ = some (.int .i64 t.h0)) := zzh fun m => by
   have y := HSix.out.drewN m
   exact ⟨y.a.cell 2 _ (Ac.get2 _), y.a.cell 11 _ (Ac.get11 _), y.t.cell 0 _ (Tt.get0 _), y.t.cell 5 _ (Tt.get5 _)⟩
  obtain ⟨g1, g2⟩ := g12
  obtain ⟨gh1, gh2⟩ := gh
  go_upto_region 8 with (fail)
  refine Rest.region follows ?_
  refine Rest.tame 10 (fun W => ∃ m, W = w7.drewN m) (by kernel_rfl) (by first | exact isd9 ⟨_, rfl⟩ | exact isd9 ⟨0, rfl⟩) ?_
  simp only [Nat.reduceSub, List.drop_zero, List.take_succ_cons, List.take_zero]
  iterate 10 first
   | (refine TW.cons_n rfl _ (by intro wT hT R hR K hK; simp only [Act.put, lsA, lsB, lsC] at hK; obtain ⟨nt, rfl⟩ := hT; obtain ⟨y1, y2, y3, y4⟩ := HFa.out nt; go_step; exact hK _ _ (hR _ ⟨_, rfl⟩)) ?_; try simp only [Act.put, lsA, lsB, lsC])
  refine TW.nil fun w8 h8 => ?_
  obtain ⟨n8, rfl⟩ := h8
  refine Rest.done ?_
  go_upto_region 9 with (fail)
  refine Rest.region follows ?_
  refine Rest.tame 11 (fun W => ∃ m, W = w7.drewN m) (by kernel_rfl) (by first | exact isd9 ⟨_, rfl⟩ | exact isd9 ⟨0, rfl⟩) ?_
  simp only [Nat.reduceSub, List.drop_zero, List.take_succ_cons, List.take_zero]
  iterate 11 first
   | (refine TW.cons_n rfl _ (by intro wT hT R hR K hK; simp only [Act.put, lsA, lsB, lsC] at hK; obtain ⟨nt, rfl⟩ := hT; obtain ⟨y1, y2, y3, y4⟩ := HFa.out nt; go_step; exact hK _ _ (hR _ ⟨_, rfl⟩)) ?_; try simp only [Act.put, lsA, lsB, lsC])
  refine TW.nil fun w9 h9 => ?_
  obtain ⟨n9, rfl⟩ := h9
  refine Rest.done ?_
  have HS9 := zzh (HSix.out.drewN n9)
  have HN9 := zzh (And.intro (HN7.out.1.drewN n9) HN7.out.2)
  clear HFa HSix HN7 hrm hxs g1 g2 gh1 gh2 t1 t2 t3 t4 t5 t6
  generalize w7.drewN n9 = w9 at HS9 HN9 ⊢
  have hnh : -1073741823 <= n.h /\ n.h <= 1073741823 := by simpa [zac] using nh
  have hks := Hkb.out.scale
  have HSc : Hid (∀ w', Calls Tryz.prog 19 #[.int .i64 n.h, .int .i64 k.scale] w' fun e w'' => e = .returned (.int .i64 (zaT n.h k.scale)) /\ w' = w'') := zzh fun w' => iscaled_any _ _ (by omega) (by omega) (by omega) (by omega) w'
  obtain ⟨tk, htk⟩ : ∃ tk, zaT n.h k.scale = tk := ⟨_, rfl⟩
  rw [htk] at HSc
  have y4 := HS9.out.n.cell 4 _ (Nd.get4 n)
  have y0 := HS9.out.k.cell 0 _ (Cl.get0 k)
  go_upto_region 10 with (fail)
  go_upto_block 0 with (go_at_call 19; refine (HSc.out _).mono ?_; clear HSc; rintro e w' ⟨rfl, rfl⟩)
  obtain ⟨ft, hft⟩ : ∃ ft, fitI L depth st x k h.size = ft := ⟨_, rfl⟩
  have hfit : ft = ((decide (tk <= 0) || decide (tk <= rm + xs)) && decide (n.h + h.size <= k.most)) := by
   rw [<- hft]; unfold fitI zbE; rw [Hn.out, HTD.out.1, HTD.out.2, htk, Hrm.out.1, Hrm.out.2]
  obtain ⟨bo, hbo⟩ : ∃ bo, zbX (insP L x) (zbw k rm h.size) n.d = bo := ⟨_, rfl⟩
  obtain ⟨sp, hp, pp, hmid⟩ : ∃ sp hp pp, midI L C depth st0 x = (sp, hp, pp) := ⟨_, _, _, rfl⟩
  have hmd : (sp, hp, pp) = if 0 < h.split then ((⟨x, (sk : Nat), 3, 0, 0, 0, 0⟩ : Sp), h, st.pens + n.pen) else if ft = true then (⟨x, (sk : Nat), 1, n.h, 0, 0, 0⟩, h, st.pens) else (⟨x, (sk : Nat), 2, bS bo, bA bo, 0, 0⟩, ⟨h.size, 1⟩, st.pens + penI (insP L x) (bA bo)) := by
   have hrr : zbE L depth st x = rm := by unfold zbE; rw [HTD.out.1, HTD.out.2, Hrm.out.1]
   rw [<- hmid, <- hbo, <- hft, <- hrr]
   unfold midI
   simp only [Hn.out, Hsk.out, Hkk.out, Hh.out, Hst.out]
  have Hfit := zzh hfit
  have Hmd := zzh hmd
  have Hmid := zzh hmid
  have Hbo := zzh hbo
  have Htk := zzh htk
  clear hft hfit hbo hmid hmd htk y4 y0
  go_cut [] from 87 to 137 (fun wx => Six W Z mb R (R + 1) K H S T (Ac.mk (some ⟨b, off, none⟩) L.length cap pc C.length cc st.goal depth pp mb st.t) st.met (Sp.mk 0 0 0 0 0 0 0) n k hp sp t wx)
  case first =>
   have y1 := HS9.out.h.cell 1 _ (Ho.get1 h)
   by_cases h0 : 0 < h.split
   ·
    have hmd := Hmd.out
    rw [if_pos h0] at hmd
    simp only [Prod.mk.injEq] at hmd
    have HE := zzh hmd
    have h0' : decide (0 < h.split) = true := decide_eq_true h0
    have f2 := HS9.out.s.frozen 2
    have c2 := HS9.out.s.cell 2 _ (Sp.get2 _)
    have hpe := HS9.out.n.cell 16 _ (Nd.get16 n)
    have HS10 := zzh (HS9.out.setS 2 (.int .i64 3) (s' := Sp.mk x (sk : Nat) 3 0 0 0 0) rfl)
    clear hmd h0
    go_upto_region 16 with (fail)
    generalize w9.setCell ⟨S, 2, none⟩ (.int .i64 3) = w10 at HS10 ⊢
    clear f2 c2 hpe y1 HS9 HN9
    have c4 := HS10.out.a.cell 4 _ (Ac.get4 _)
    have f4 := HS10.out.a.frozen 4
    have hpe := HS10.out.n.cell 16 _ (Nd.get16 n)
    obtain ⟨np1, np2⟩ := npen
    have gp1 := hBst.pens.1
    have gp2 := hBst.pens.2
    have H11 := zzh ((HS10.out.setA (A' := Ac.mk (some ⟨b, off, none⟩) L.length cap pc C.length cc st.goal depth (st.pens + n.pen) mb st.t) 4 (.int .i64 (st.pens + n.pen)) rfl).drew)
    clear HS10
    go_region
    go_wp2_with fail
    go_meet
    rw [HE.out.1, HE.out.2.1, HE.out.2.2]
    exact H11.out
   ·
    have hmd := Hmd.out
    rw [if_neg h0] at hmd
    have h0' : decide (0 < h.split) = false := decide_eq_false h0
    have Hmd2 := zzh hmd
    have z4 := HS9.out.n.cell 4 _ (Nd.get4 n)
    have z0 := HS9.out.h.cell 0 _ (Ho.get0 h)
    have z1 := HS9.out.k.cell 1 _ (Cl.get1 k)
    have hhb := hB.held hK (sk : Nat)
    rw [Hh.out] at hhb
    obtain ⟨hh1, hh2⟩ := hhb
    have hkm := Hkb.out.most
    clear hmd h0 Hmd
    go_upto_region 17 with (fail)
    go_cut [114] from 115 to 133 (fun s9 wx => s9 = .bool ft /\ w9 = wx)
    case first =>
     have hf := Hfit.out
     clear Hfit Hmd2 HC HSt
     by_cases q1 : tk <= 0
     ·
      have q1' : decide (tk <= 0) = true := decide_eq_true q1
      rw [q1', Bool.true_or, Bool.true_and] at hf
      by_cases q3 : n.h + h.size <= k.most
      ·
       have q3' : decide (n.h + h.size <= k.most) = true := decide_eq_true q3
       rw [q3'] at hf
       have HE := zzh hf
       clear hf q1 q3
       go_wp2_with fail
       go_meet
       exact ⟨by rw [HE.out], rfl⟩
      ·
       have q3' : decide (n.h + h.size <= k.most) = false := decide_eq_false q3
       rw [q3'] at hf
       have HE := zzh hf
       clear hf q1 q3
       go_wp2_with fail
       go_meet
       exact ⟨by rw [HE.out], rfl⟩
     ·
      have q1' : decide (tk <= 0) = false := decide_eq_false q1
      rw [q1', Bool.false_or] at hf
      by_cases q2 : tk <= rm + xs
      ·
       have q2' : decide (tk <= rm + xs) = true := decide_eq_true q2
       rw [q2', Bool.true_and] at hf
       by_cases q3 : n.h + h.size <= k.most
       ·
        have q3' : decide (n.h + h.size <= k.most) = true := decide_eq_true q3
        rw [q3'] at hf
        have HE := zzh hf
        clear hf q1 q2 q3
        go_wp2_with fail
        go_meet
        exact ⟨by rw [HE.out], rfl⟩
       ·
        have q3' : decide (n.h + h.size <= k.most) = false := decide_eq_false q3
        rw [q3'] at hf
        have HE := zzh hf
        clear hf q1 q2 q3
        go_wp2_with fail
        go_meet
        exact ⟨by rw [HE.out], rfl⟩
      ·
       have q2' : decide (tk <= rm + xs) = false := decide_eq_false q2
       rw [q2', Bool.false_and] at hf
       have HE := zzh hf
       clear hf q1 q2
       go_wp2_with fail
       go_meet
       exact ⟨by rw [HE.out], rfl⟩
    case rest =>
     obtain ⟨rfl, rfl⟩ := hcut
     cases ft
     ·
      have hmd := Hmd2.out
      rw [if_neg (by decide)] at hmd
      simp only [Prod.mk.injEq] at hmd
      have HE := zzh hmd
      have f2 := HS9.out.s.frozen 2
      have c2 := HS9.out.s.cell 2 _ (Sp.get2 _)
      have HS10 := zzh (HS9.out.setS 2 (.int .i64 2) (s' := Sp.mk x (sk : Nat) 2 0 0 0 0) rfl)
      have HN10 : Hid (NIn (w9.setCell ⟨S, 2, none⟩ (.int .i64 2)) (some ⟨b, off, none⟩) b off cap L) := zzh (HN9.out.1.kept HI.out.lb (By2.below HS10.out.by2 HI.out.far.1 HI.out.far.2 HI.out.bw |> fun k => (⟨rfl, rfl, rfl, (KeepsWalks.setCell w9 _ _).size, fun q hq => Below.heap_setCell _ _ _ _ (by have := HI.out.bw; simp only; omega)⟩ : Below B w9 (w9.setCell ⟨S, 2, none⟩ (.int .i64 2)))))
      clear hmd Hmd2 Hfit y1 z4 z0 z1
      go_upto_region 12 with (fail)
      generalize w9.setCell ⟨S, 2, none⟩ (.int .i64 2) = w10 at HS10 HN10 ⊢
      clear f2 c2 HS9 HN9
      have hgp := hBst.pens
      have hP := ipart (Ac.mk (some ⟨b, off, none⟩) L.length cap pc C.length cc st.goal depth st.pens mb st.t) k Hkb.out h rm hrb ⟨by omega, by omega⟩ ⟨by simp only; omega, by simp only; omega⟩ Z Z w10 HS10.out.a L b off HC.out.2.2.1 x HC.out.2.2.2.1 HC.out.2.2.2.2.1 HC.out.2.2.2.2.2 rfl rfl HN10.out
      rw [Hn.out, Hbo.out] at hP
      have HP := zzh hP
      have a8 : agg? w10 K 0 8 = some k.arr := by rw [agg?_blk' HS10.out.k 0 8 (by rw [Cl.size_arr]; decide)]; simp [Cl.arr, Cl.cells]
      have a2 : agg? w10 H 0 2 = some h.arr := by rw [agg?_blk' HS10.out.h 0 2 (by rw [Ho.size_arr]; decide)]; simp [Ho.arr, Ho.cells]
      clear hP HN10
      go_upto_region 13 with (go_at_call 73; refine HP.out.mono ?_; clear HP; rintro e w11 ⟨rfl, hA11, hb11⟩; have hS11 := HS10.out.acc hA11 ⟨hb11.os, hb11.tape, hb11.output, hb11.size, fun q hq h1 _ => hb11.block q hq h1 h1⟩ (hb11.block mb HS10.out.m.lt (Ne.symm HI.out.ne) (Ne.symm HI.out.ne)); have HS11 := zzh hS11; have f3 := hS11.s.frozen 3; have c3 := hS11.s.cell 3 _ (Sp.get3 _); have hS12 := hS11.setS 3 (.int .i64 (bS bo)) (s' := Sp.mk x (sk : Nat) 2 (bS bo) 0 0 0) rfl; have f4 := hS12.s.frozen 4; have c4 := hS12.s.cell 4 _ (Sp.get4 _); have HS13 := zzh (hS12.setS 4 (.int .i64 (bA bo)) (s' := Sp.mk x (sk : Nat) 2 (bS bo) (bA bo) 0 0) rfl); clear hS11 hS12)
      clear f3 c3 f4 c4 HS11 hA11 hb11 HS10 a8 a2
      generalize (w11.setCell ⟨S, 3, none⟩ (.int .i64 (bS bo))).setCell ⟨S, 4, none⟩ (.int .i64 (bA bo)) = w13 at HS13 ⊢
      have f1 := HS13.out.h.frozen 1
      have c1 := HS13.out.h.cell 1 _ (Ho.get1 _)
      have HS14 := zzh (HS13.out.setH 1 (.int .i64 1) (h' := Ho.mk h.size 1) rfl)
      clear HS13
      go_wp2_with fail
      go_meet
      rw [HE.out.1, HE.out.2.1, HE.out.2.2]
      exact HS14.out
     ·
      have hmd := Hmd2.out
      rw [if_pos rfl] at hmd
      simp only [Prod.mk.injEq] at hmd
      have HE := zzh hmd
      clear hmd Hmd2 Hfit y1 z4 z0 z1 HN9
      go_upto_region 18 with (fail)
      refine zaK [3, 5] (fun w' => ∃ s', Six W Z mb R (R + 1) K H S T (Ac.mk (some ⟨b, off, none⟩) L.length cap pc C.length cc st.goal depth st.pens mb st.t) st.met (Sp.mk 0 0 0 0 0 0 0) n k h s' t w') (fun m _ w' => Six W Z mb R (R + 1) K H S T (Ac.mk (some ⟨b, off, none⟩) L.length cap pc C.length cc st.goal depth st.pens mb st.t) st.met (Sp.mk 0 0 0 0 0 0 0) n k h (Sp.mk x (sk : Nat) (if m 3 = true then 1 else 0) (if m 5 = true then n.h else 0) 0 0 0) t w') follows (by kernel_rfl) (fun m us w h => ⟨_, h⟩) (fun us => by simpa using HS9.out.drew) ?_
      iterate 6 first
       | (refine TK.pass rfl ?_)
       | (refine TK.read rfl _ (by intro wT hT K hK; simp only [Act.put, lsA, lsB, lsC] at hK; obtain ⟨s', hT⟩ := hT; have y4 := hT.n.cell 4 _ (Nd.get4 n); go_step; exact hK _ rfl) ?_; try simp only [Act.put, lsA, lsB, lsC])
      refine TK.nil fun us => ?_
      refine KW.step _ rfl (fun m w hJ h9 hD R hR => ?_) ?_
      ·
       have f2 := hJ.s.frozen 2
       have c2 := hJ.s.cell 2 _ (Sp.get2 _)
       have h2 := hJ.setS 2 (.int .i64 1) (s' := Sp.mk x (sk : Nat) 1 (if m 5 = true then n.h else 0) 0 0 0) rfl
       simp only [Act.put] at hR
       go_step
       exact hR undef _ (by simpa using h2)
      simp only [Act.put]
      refine KW.step _ rfl (fun m w hJ h9 hD R hR => ?_) ?_
      ·
       have f2 := hJ.s.frozen 3
       have c2 := hJ.s.cell 3 _ (Sp.get3 _)
       have h2 := hJ.setS 3 (.int .i64 n.h) (s' := Sp.mk x (sk : Nat) (if m 3 = true then 1 else 0) n.h 0 0 0) rfl
       simp only [Act.put] at hR
       go_step
       exact hR undef _ (by simpa using h2)
      simp only [Act.put]
      refine KW.nil fun w11 hJ11 => ?_
      have HJ := zzh hJ11
      clear hJ11
      go_wp2_with fail
      go_meet
      rw [HE.out.1, HE.out.2.1, HE.out.2.2]
      exact HJ.out
  case rest =>
   have HS := zzh hcut
   have hmd := Hmd.out
   have hsb : -8910000000000 <= bS bo /\ bS bo <= 8910000000000 := by
    rw [<- Hbo.out]
    exact (best_nb (zam HC.out.2.2.2.2.2) (zaO (zam HC.out.2.2.2.2.2)) _ _ nd).1
   have hsp : sp.at_ = x /\ sp.cls = (sk : Nat) /\ (-8910000000000 <= sp.size /\ sp.size <= 8910000000000) /\ hp.size = h.size := by
    clear hcut HS
    by_cases h0 : 0 < h.split
    ·
     rw [if_pos h0] at hmd
     simp only [Prod.mk.injEq] at hmd
     obtain ⟨rfl, rfl, rfl⟩ := hmd
     exact ⟨rfl, rfl, by simp, rfl⟩
    ·
     rw [if_neg h0] at hmd
     by_cases h1 : ft = true
     ·
      rw [if_pos h1] at hmd
      simp only [Prod.mk.injEq] at hmd
      obtain ⟨rfl, rfl, rfl⟩ := hmd
      exact ⟨rfl, rfl, by simp only; omega, rfl⟩
     ·
      rw [if_neg h1] at hmd
      simp only [Prod.mk.injEq] at hmd
      obtain ⟨rfl, rfl, rfl⟩ := hmd
      exact ⟨rfl, rfl, hsb, rfl⟩
   obtain ⟨p1, p2, p3, p4⟩ := hsp
   have HSt2 : Hid (zbp L C depth st0 x = endI st k (sp, hp, pp)) := zzh (by rw [HSt.out, Hmid.out])
   have Hp := zzh (And.intro p1 p2)
   have hhb := hB.held hK (sk : Nat)
   rw [Hh.out, <- p4] at hhb
   obtain ⟨hh1, hh2⟩ := hhb
   obtain ⟨z1, z2⟩ := p3
   obtain ⟨g1, g2⟩ := hBst.goal
   have hsb2 := zbK sp.size k.scale
   obtain ⟨gg, hgg⟩ : ∃ gg, (if sp.what = 3 then st.goal else st.goal - zaT sp.size k.scale) = gg := ⟨_, rfl⟩
   obtain ⟨h2, hh2e⟩ : ∃ h2, (if sp.what = 3 then hp else ⟨hp.size + sp.size, hp.split⟩ : Ho) = h2 := ⟨_, rfl⟩
   have Hg := zzh (And.intro hgg hh2e)
   clear hgg hh2e hmd Hmd Hmid Hbo HSt hcut p1 p2 p4 hsb Htk Hfit HS9 hBst hB
   have c2 := HS.out.s.cell 2 _ (Sp.get2 sp)
   have HS1 := HS
   clear HS
   go_upto_region 19 with (fail)
   go_upto_if 140 with (fail)
   go_cut [] from 141 to 158 (fun wx => Six W Z mb R (R + 1) K H S T (Ac.mk (some ⟨b, off, none⟩) L.length cap pc C.length cc gg depth pp mb st.t) st.met (Sp.mk 0 0 0 0 0 0 0) n k h2 sp t wx)
   case first =>
    by_cases w3 : sp.what = 3
    ·
     have w3' : (sp.what != 3) = false := by simp [w3]
     have hg := Hg.out
     rw [if_pos w3, if_pos w3] at hg
     have HE := zzh hg
     clear w3 hg
     go_wp2_with fail
     go_meet
     rw [<- HE.out.1, <- HE.out.2]
     exact HS1.out
    ·
     have w3' : (sp.what != 3) = true := by simp [w3]
     have hg := Hg.out
     rw [if_neg w3, if_neg w3] at hg
     have HE := zzh hg
     have HSc : Hid (∀ w', Calls Tryz.prog 19 #[.int .i64 sp.size, .int .i64 k.scale] w' fun e w'' => e = .returned (.int .i64 (zaT sp.size k.scale)) /\ w' = w'') := zzh fun w' => iscaled_any _ _ (by omega) (by omega) (by omega) (by omega) w'
     obtain ⟨tq, htq⟩ : ∃ tq, zaT sp.size k.scale = tq := ⟨_, rfl⟩
     rw [htq] at HSc hsb2
     have Htq := zzh htq
     obtain ⟨tq1, tq2⟩ := hsb2
     have HFb : Hid (∀ m, (wc.drewN m).cell? ⟨Z, 2, none⟩ = some (.int .i64 st.goal) /\ (wc.drewN m).cell? ⟨S, 3, none⟩ = some (.int .i64 sp.size) /\ (wc.drewN m).cell? ⟨K, 0, none⟩ = some (.int .i64 k.scale)) := zzh fun m => by
      have y := HS1.out.drewN m
      exact ⟨y.a.cell 2 _ (Ac.get2 _), y.s.cell 3 _ (Sp.get3 _), y.k.cell 0 _ (Cl.get0 _)⟩
     clear w3 hg c2 htq
     go_upto_region 20 with (fail)
     refine Rest.region follows ?_
     refine Rest.tame 12 (fun W => ∃ m, W = wc.drewN m) (by kernel_rfl) (by first | exact isd9 ⟨_, rfl⟩ | exact isd9 ⟨0, rfl⟩) ?_
     simp only [Nat.reduceSub, List.drop_zero, List.take_succ_cons, List.take_zero]
     iterate 12 first
      | (refine TW.cons_n rfl _ (by intro wT hT R hR K hK; simp only [Act.put, lsA, lsB, lsC] at hK; obtain ⟨nt, rfl⟩ := hT; obtain ⟨y1, y2, y3⟩ := HFb.out nt; go_step; first | (refine (HSc.out _).mono ?_; rintro e w' ⟨rfl, rfl⟩; exact hK _ _ (hR _ ⟨_, rfl⟩)) | exact hK _ _ (hR _ ⟨_, rfl⟩)) ?_; try simp only [Act.put, lsA, lsB, lsC])
     refine TW.nil fun w12 h12 => ?_
     obtain ⟨n12, rfl⟩ := h12
     refine Rest.seq (by kernel_rfl) ?_
     simp only [List.drop_succ_cons, List.drop_zero]
     have HS12 := zzh (HS1.out.drewN n12)
     clear HFb HS1
     generalize wc.drewN n12 = w12 at HS12 ⊢
     have f2 := HS12.out.a.frozen 2
     have c2 := HS12.out.a.cell 2 _ (Ac.get2 _)
     have HS13 := zzh (HS12.out.setA (A' := Ac.mk (some ⟨b, off, none⟩) L.length cap pc C.length cc (st.goal - tq) depth pp mb st.t) 2 (.int .i64 (st.goal - tq)) rfl)
     clear HS12
     go_upto_region 21 with (fail)
     generalize w12.setCell ⟨Z, 2, none⟩ (.int .i64 (st.goal - tq)) = w13 at HS13 ⊢
     clear f2 c2
     have f0 := HS13.out.h.frozen 0
     have c0 := HS13.out.h.cell 0 _ (Ho.get0 _)
     have c3 := HS13.out.s.cell 3 _ (Sp.get3 _)
     have HS14 := zzh (HS13.out.setH (h' := Ho.mk (hp.size + sp.size) hp.split) 0 (.int .i64 (hp.size + sp.size)) rfl)
     clear HS13
     go_wp2_with fail
     go_meet
     rw [<- HE.out.1, <- HE.out.2, Htq.out]
     exact HS14.out
   case rest =>
    have HS := zzh hcut
    clear hcut HS1 c2
    have HFb : Hid (∀ m, (wc.drewN m).cell? ⟨Z, 5, none⟩ = some (.map (some mb)) /\ (wc.drewN m).cell? ⟨R + 1, 17, none⟩ = some (.int .i64 (sk : Nat))) := zzh fun m => by
     have y := HS.out.drewN m
     have y17 := y.n.cell 17 _ (Nd.get17 n)
     rw [Hsk.out] at y17
     exact ⟨y.a.cell 5 _ (Ac.get5 _), y17⟩
    go_upto_region 22 with (fail)
    refine Rest.region follows ?_
    refine Rest.tame 6 (fun W => ∃ m, W = wc.drewN m) (by kernel_rfl) (by first | exact isd9 ⟨_, rfl⟩ | exact isd9 ⟨0, rfl⟩) ?_
    simp only [Nat.reduceSub, List.drop_zero, List.take_succ_cons, List.take_zero]
    iterate 6 first
     | (refine TW.cons_n rfl _ (by intro wT hT R hR K hK; simp only [Act.put, lsA, lsB, lsC] at hK; obtain ⟨nt, rfl⟩ := hT; obtain ⟨y1, y2⟩ := HFb.out nt; go_step; exact hK _ _ (hR _ ⟨_, rfl⟩)) ?_; try simp only [Act.put, lsA, lsB, lsC])
    refine TW.nil fun w22 h22 => ?_
    obtain ⟨n22, rfl⟩ := h22
    refine Rest.seq (by kernel_rfl) ?_
    simp only [List.drop_succ_cons, List.drop_zero]
    have HS22 := zzh (HS.out.drewN n22)
    clear HFb HS
    generalize wc.drewN n22 = w22 at HS22 ⊢
    refine wpList_delHo w22 rfl _ _ rfl mb st.met rfl HS22.out.m HN9.out.2 (sk : Nat) rfl ?_
    intro w23 hm23 hg23 u23
    have HS23 := zzh (HS22.out.map hg23 hm23)
    clear HS22 hm23 hg23
    have HFc : Hid (∀ m, (w23.drewN m).cell? ⟨Z, 5, none⟩ = some (.map (some mb)) /\ (w23.drewN m).cell? ⟨R + 1, 17, none⟩ = some (.int .i64 (sk : Nat)) /\ agg? (w23.drewN m) H 0 2 = some h2.arr) := zzh fun m => by
     have y := HS23.out.drewN m
     have y17 := y.n.cell 17 _ (Nd.get17 n)
     rw [Hsk.out] at y17
     exact ⟨y.a.cell 5 _ (Ac.get5 _), y17, by rw [agg?_blk' y.h 0 2 (by rw [Ho.size_arr]; decide)]; simp [Ho.arr, Ho.cells]⟩
    go_upto_region 23 with (fail)
    refine Rest.region follows ?_
    refine Rest.tame 7 (fun W => ∃ m, W = w23.drewN m) (by kernel_rfl) (by first | exact isd9 ⟨_, rfl⟩ | exact isd9 ⟨0, rfl⟩) ?_
    simp only [Nat.reduceSub, List.drop_zero, List.take_succ_cons, List.take_zero]
    iterate 7 first
     | (refine TW.cons_n rfl _ (by intro wT hT R hR K hK; simp only [Act.put, lsA, lsB, lsC] at hK; obtain ⟨nt, rfl⟩ := hT; obtain ⟨y1, y2, y3⟩ := HFc.out nt; go_step; exact hK _ _ (hR _ ⟨_, rfl⟩)) ?_; try simp only [Act.put, lsA, lsB, lsC])
    refine TW.nil fun w24 h24 => ?_
    obtain ⟨n24, rfl⟩ := h24
    refine Rest.seq (by kernel_rfl) ?_
    simp only [List.drop_succ_cons, List.drop_zero]
    have HS24 := zzh (HS23.out.drewN n24)
    clear HFc HS23
    generalize w23.drewN n24 = w24 at HS24 ⊢
    refine wpList_update_int w24 rfl _ _ _ 91 rfl 3 138 Tryz.underlying91 Tryz.underlying3 mb (hoM (delI st.met (sk : Nat))) rfl HS24.out.m (sk : Nat) (.agg h2.arr) rfl rfl (fun p hp => by obtain ⟨q, hq, rfl⟩ := List.mem_map.1 hp; exact del_not _ _ q hq) ?_
    intro w25 hm25 hg25
    have HS25 := zzh (HS24.out.map (M' := putI st.met (sk : Nat) h2) hg25 (by rw [show hoM (putI st.met (sk : Nat) h2) = hoM (delI st.met (sk : Nat)) ++ [((sk : Int), .agg h2.arr)] by simp [hoM, putI]]; exact hm25))
    clear HS24 hm25 hg25
    go_upto_region 24 with (fail)
    refine zaK [9, 11] (fun w' => ∃ s', Six W Z mb R (R + 1) K H S T (Ac.mk (some ⟨b, off, none⟩) L.length cap pc C.length cc gg depth pp mb st.t) (putI st.met (sk : Nat) h2) (Sp.mk 0 0 0 0 0 0 0) n k h2 s' t w') (fun m _ w' => Six W Z mb R (R + 1) K H S T (Ac.mk (some ⟨b, off, none⟩) L.length cap pc C.length cc gg depth pp mb st.t) (putI st.met (sk : Nat) h2) (Sp.mk 0 0 0 0 0 0 0) n k h2 (Sp.mk sp.at_ sp.cls sp.what sp.size sp.split (if m 9 = true then gg else sp.goal) (if m 11 = true then pp else sp.pens)) t w') follows (by kernel_rfl) (fun m us w h => ⟨_, h⟩) (fun us => by simpa using HS25.out.drew) ?_
    iterate 12 first
     | (refine TK.pass rfl ?_)
     | (refine TK.read rfl _ (by intro wT hT K hK; simp only [Act.put, lsA, lsB, lsC] at hK; obtain ⟨s', hT⟩ := hT; have y2 := hT.a.cell 2 _ (Ac.get2 _); have y4 := hT.a.cell 4 _ (Ac.get4 _); go_step; exact hK _ rfl) ?_; try simp only [Act.put, lsA, lsB, lsC])
    refine TK.nil fun us => ?_
    refine KW.step _ rfl (fun m w hJ h9 hD R hR => ?_) ?_
    ·
     have f2 := hJ.s.frozen 5
     have c2 := hJ.s.cell 5 _ (Sp.get5 _)
     have h2 := hJ.setS 5 (.int .i64 gg) (s' := Sp.mk sp.at_ sp.cls sp.what sp.size sp.split gg (if m 11 = true then pp else sp.pens)) rfl
     simp only [Act.put] at hR
     go_step
     exact hR undef _ (by simpa using h2)
    simp only [Act.put]
    refine KW.step _ rfl (fun m w hJ h9 hD R hR => ?_) ?_
    ·
     have f2 := hJ.s.frozen 6
     have c2 := hJ.s.cell 6 _ (Sp.get6 _)
     have h2 := hJ.setS 6 (.int .i64 pp) (s' := Sp.mk sp.at_ sp.cls sp.what sp.size sp.split (if m 9 = true then gg else sp.goal) pp) rfl
     simp only [Act.put] at hR
     go_step
     exact hR undef _ (by simpa using h2)
    simp only [Act.put]
    refine KW.nil fun w26 hJ26 => ?_
    have hJ27 : Six W Z mb R (R + 1) K H S T (Ac.mk (some ⟨b, off, none⟩) L.length cap pc C.length cc gg depth pp mb st.t) (putI st.met (sk : Nat) h2) (Sp.mk 0 0 0 0 0 0 0) n k h2 (Sp.mk sp.at_ sp.cls sp.what sp.size sp.split gg pp) t w26 := hJ26
    have HJ := zzh hJ27
    clear hJ26 hJ27 HS25
    have as7 : agg? w26 S 0 7 = some (Sp.mk sp.at_ sp.cls sp.what sp.size sp.split gg pp).arr := by rw [agg?_blk' HJ.out.s 0 7 (by rw [Sp.size_arr]; decide)]; simp [Sp.arr, Sp.cells]
    have tr := zbR HJ.out.r 0 7 (by rw [Sp.size_arr]; decide)
    go_wp2_with fail
    have hfin := zaL R 49 (0, 0) (Sp.mk sp.at_ sp.cls sp.what sp.size sp.split gg pp).arr.toList 0 (Sp.mk 0 0 0 0 0 0 0).arr w26 HJ.out.r
    refine ret_sp rfl R 0 (Sp.mk sp.at_ sp.cls sp.what sp.size sp.split gg pp) rfl ?_ rfl ?_
    ·
     have hb9 : (setAgg w26 R 0 (Sp.mk sp.at_ sp.cls sp.what sp.size sp.split gg pp).arr).heap[R]? = some (.cells (Sp.mk sp.at_ sp.cls sp.what sp.size sp.split gg pp).arr 49 (0, 0)) := by
      have h9 := hfin
      rw [show (Sp.mk sp.at_ sp.cls sp.what sp.size sp.split gg pp).arr.toList = (Sp.mk sp.at_ sp.cls sp.what sp.size sp.split gg pp).cells from rfl, setMany_Sp] at h9
      exact h9
     rw [agg?_blk' hb9 0 7 (by rw [Sp.size_arr]; decide)]
     simp [Sp.arr, Sp.cells]
    ·
     have hbR : Below R w26 (setAgg w26 R 0 (Sp.mk sp.at_ sp.cls sp.what sp.size sp.split gg pp).arr) := Below.setAgg (Below.refl R w26) (Nat.le_refl _) _ _
     have hx := HJ.out.by2
     have hby : By2 Z mb W (setAgg w26 R 0 (Sp.mk sp.at_ sp.cls sp.what sp.size sp.split gg pp).arr) := ⟨hbR.os.trans hx.os, hbR.tape.trans hx.tape, hbR.output.trans hx.output, Nat.le_trans hx.size hbR.size, fun q hq q1 q2 => (hbR.block q (by omega)).trans (hx.block q hq q1 q2)⟩
     have he : zbp L C depth st0 x = (⟨gg, pp, putI st.met (sk : Nat) h2, st.t⟩, Sp.mk sp.at_ sp.cls sp.what sp.size sp.split gg pp) := by
      rw [HSt2.out]
      unfold endI
      simp only
      rw [Hg.out.1, Hg.out.2, Hp.out.2]
     rw [he]
     exact ⟨rfl, HI.out.next ((hbR.block Z hZR).trans HJ.out.a) (HJ.out.m.same (hbR.block mb hmR)) (put_keys _ _ _ HN9.out.2) hby, hby⟩
end Go.Proofs.YtaehkbbdmamfpaaGreatDoor
