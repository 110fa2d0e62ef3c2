/-
  The program's Best, walked.
-/
import Derived.Test.YtaehkbbdmamfpaaGreatDoorV11b
import Derived.Test.YtaehkbbdmamfpaaGreatDoorC13
namespace Go.Proofs.YtaehkbbdmamfpaaGreatDoor
open Go.ChangeShapes Go.WideShapes Go.ChangeAt Go.RowKit Go.Shelf
attribute [local go_sem] Oper.semAt_some
structure BeA (w W C : World) (Z S Bs : Nat) (v : Value) (h d : Int) (o : Option (Nat × Int × Int)) : Prop where
 six : SixB C Z v h d o
 some_ : Boxed C S 4 (.bool o.isSome)
 it : Boxed C Bs 22 v
 others : KeepsOthers W C
 below : Below w.heap.size W C
 frame : ∀ k, k < W.heap.size -> S < k -> C.heap[k]? = W.heap[k]?
theorem BeA.still {w W C : World} {Z S Bs : Nat} {v : Value} {h d : Int} {o : Option (Nat × Int × Int)} (h6 : SixB W Z v h d o) (hS : Boxed W S 4 (.bool o.isSome)) (hB : Boxed W Bs 22 v) (hw : w.heap.size <= W.heap.size) (hb : Below W.heap.size W C) : BeA w W C Z S Bs v h d o :=
 ⟨h6.below hb, (hb.block _ hS.lt).trans hS, (hb.block _ hB.lt).trans hB, zbk hb, hb.mono hw, fun k hk _ => hb.block k hk⟩
theorem BeA.take {w W C : World} {Z S Bs : Nat} {v : Value} {h d : Int} {o p : Option (Nat × Int × Int)} (x : BeA w W C Z S Bs v h d o) (hZ : w.heap.size <= Z) (h1 : Z + 5 < S) (h2 : S < Bs) (hp : p.isSome = true) :
 BeA w W ((((C.drew.setCell ⟨Z + 3, 0, none⟩ (.int .i64 (bA p))).setCell ⟨Z + 4, 0, none⟩ (.int .i64 (bS p))).setCell ⟨Z + 5, 0, none⟩ (.int .i64 (bL p))).setCell ⟨S, 0, none⟩ (.bool true)) Z S Bs v h d p := by
 have hc : Below C.heap.size C C.drew := (Below.refl _ C).drew
 have y : SixB C.drew Z v h d o := x.six.below hc
 have z := y.put (p := p)
 have e : ∀ k, S < k -> ((((C.drew.setCell ⟨Z + 3, 0, none⟩ (.int .i64 (bA p))).setCell ⟨Z + 4, 0, none⟩ (.int .i64 (bS p))).setCell ⟨Z + 5, 0, none⟩ (.int .i64 (bL p))).setCell ⟨S, 0, none⟩ (.bool true)).heap[k]? = C.heap[k]? := fun k hk =>
  (((Below.heap_setCell _ _ _ _ (by simp only; omega)).trans (Below.heap_setCell _ _ _ _ (by simp only; omega))).trans (Below.heap_setCell _ _ _ _ (by simp only; omega))).trans (Below.heap_setCell _ _ _ _ (by simp only; omega))
 refine ⟨⟨z.k0.other (by omega) _, z.k1.other (by omega) _, z.k2.other (by omega) _, z.k3.other (by omega) _, z.k4.other (by omega) _, z.k5.other (by omega) _⟩, ?_, ?_, ?_, ?_, fun k hk hk2 => (e k hk2).trans (x.frame k hk hk2)⟩
 ·
  rw [hp]
  have q : Boxed C.drew S 4 (.bool o.isSome) := x.some_
  exact Boxed.set _ (((q.other (by omega) _).other (by omega) _).other (by omega) _)
 ·
  have q : Boxed C.drew Bs 22 v := x.it
  exact (((q.other (by omega) _).other (by omega) _).other (by omega) _).other (by omega) _
 · exact ((((x.others.trans (KeepsOthers.drew _)).trans (KeepsOthers.setCell _ _ _)).trans (KeepsOthers.setCell _ _ _)).trans (KeepsOthers.setCell _ _ _)).trans (KeepsOthers.setCell _ _ _)
 · exact ((((x.below.drew).setCell (p := ⟨Z + 3, 0, none⟩) (by simp only; omega) _).setCell (p := ⟨Z + 4, 0, none⟩) (by simp only; omega) _).setCell (p := ⟨Z + 5, 0, none⟩) (by simp only; omega) _).setCell (p := ⟨S, 0, none⟩) (by simp only; omega) _
theorem BeA.stop {w W C : World} {Z S Bs : Nat} {v : Value} {h d : Int} {L : List Nd} {s : List Nat} {pre : List (Br L s)} {x : Br L s} {o : Option (Nat × Int × Int)} (y : BeA w W C Z S Bs v h d o) (hb : Below w.heap.size w W) (hno : ∀ y ∈ pre, zcR L s h d y.1 = false) (ho : metB L s h d (pre ++ [x]) = o) (h1 : zcR L s h d x.1 = true) :
 KeepsOthers W C /\ BeX w Z v h d (.exit 0) (pre ++ [x]) C := ⟨y.others, ⟨rfl, pre, x, rfl, hno, h1⟩, by rw [ho]; exact y.six, hb.trans y.below⟩
theorem BeA.on {w W C : World} {Z S Bs : Nat} {v : Value} {h d : Int} {L : List Nd} {s : List Nat} {pre : List (Br L s)} {x : Br L s} {o : Option (Nat × Int × Int)} (y : BeA w W C Z S Bs v h d o) (hb : Below w.heap.size w W) (hno : ∀ y ∈ pre, zcR L s h d y.1 = false) (ho : metB L s h d (pre ++ [x]) = o) (h1 : zcR L s h d x.1 = false) {X : Nat} (hB : Bs < W.heap.size) (hS : S < Bs) (hX : S < X) (hX2 : X + 3 <= W.heap.size) :
 KeepsOthers W C /\ KpL w.heap.size Bs X W C /\ BeI w Z S Bs v h d (pre ++ [x]) C := by
 refine ⟨y.others, ⟨y.below, y.frame _ hB hS, fun r h1 h2 => y.frame r (by omega) (by omega), y.others.from _⟩, by rw [ho]; exact y.six, by rw [ho]; exact y.some_, y.it, hb.trans y.below, fun z hz => ?_⟩
 rcases List.mem_append.1 hz with hz | hz
 · exact hno z hz
 · simp only [List.mem_singleton] at hz; rw [hz]; exact h1
set_option maxRecDepth 100000 in
set_option maxHeartbeats 4000000 in
theorem vBest (p0 : Option Addr) (b off cap : Nat) (L : List Nd) (s : List Nat) (hs : zao L = 0 -> Items L 0 s) (height depth : Int) (w : World) (hN : NIn w p0 b off cap L) :
 Calls Tryz.prog 124 #[.slice p0 L.length cap, .int .i64 height, .int .i64 depth] w fun e w' => e = .returned (.tuple #[.int .i64 (bA (zbW L s height depth).1), .int .i64 (bS (zbW L s height depth).1), .int .i64 (bL (zbW L s height depth).1), .int .i64 (zbW L s height depth).2]) /\ Below w.heap.size w w' := by
 have HN := zzh hN
 have Hs := zzh hs
 have HC : Hid (∀ W, Below w.heap.size w W -> Calls Tryz.prog 50 #[.slice p0 L.length cap] W fun e w' => e = .returned (.int .i64 (colP L s)) /\ Below W.heap.size W w') := zzh fun W hb => column_any p0 b off cap L s Hs.out W (HN.out.below hb)
 have h6 := six3_boxed w (.slice p0 L.length cap) height depth
 have hb1 := six3_below w (.slice p0 L.length cap) height depth
 unfold six3 at h6 hb1
 clear hN hs
 refine (callsIn_wide (n := 8)).1 ?_
 refine callsIn_of_wp_marks Tryz.func124 rfl trivial ?_ rfl
 simp only [Tryz.ntmps124, List.size_toArray, List.length_cons, List.length_nil, Nat.reduceAdd, Nat.reduceSub, Array.replicate_succ, Array.replicate_zero, List.push_toArray, List.append_toArray, List.nil_append, List.cons_append]
 gi_upto_region 1 with (fail)
 simp only [Nat.add_assoc, Nat.reduceAdd]
 generalize (((((w.alloc (.cells #[.slice p0 L.length cap] 22)).alloc (.cells #[.int .i64 height] 3)).alloc (.cells #[.int .i64 depth] 3)).alloc (.cells #[.int .i64 0] 3)).alloc (.cells #[.int .i64 0] 3)).alloc (.cells #[.int .i64 0] 3) = w1 at h6 hb1 ⊢
 have c0 := h6.k0.cell
 have f0 := h6.k0.frozen
 gi_wp2
 refine ⟨trivial, (callsIn_wide.2 (HC.out _ hb1)).mono ?_⟩
 rintro e w2 ⟨rfl, hb2⟩
 have g6 := h6.below hb2
 have hbw := hb1.trans (hb2.mono hb1.size)
 clear c0 f0 h6 hb1 hb2 HC
 have HD := zzh (fun W => vdimen_any height W)
 have HE := zzh (fun W => vdimen_any depth W)
 by_cases hck : colP L s = 0
 ·
  have hs := Hs.out (zav hck)
  have hl := (zaj (zav hck)).1
  have Hck := zzh hck
  rw [hck]
  clear hck Hs
  have c1 := g6.k1.cell
  have c2 := g6.k2.cell
  cases hd1 : zac height
  ·
   have HV := zzh (show zbW L s height depth = (none, 11) by unfold zbW; rw [if_pos Hck.out]; simp [hd1])
   have c3 := g6.k3.cell
   have c4 := g6.k4.cell
   have c5 := g6.k5.cell
   have f3 := g6.k3.frozen
   have f4 := g6.k4.frozen
   have f5 := g6.k5.frozen
   have hd := HD.out w2
   rw [hd1] at hd
   clear hd1
   gi_wp2
   refine ⟨trivial, (callsIn_wide.2 hd).mono ?_⟩
   rintro e w' ⟨rfl, rfl⟩
   gi_wp2
   refine ⟨trivial, ?_⟩
   gi_wp2
   have g6p := g6.put (p := none)
   have q3 := g6p.k3.cell
   have q4 := g6p.k4.cell
   have q5 := g6p.k5.cell
   refine ⟨.tuple #[.int .i64 0, .int .i64 0, .int .i64 0, .int .i64 11], ?_, by rw [HV.out]; rfl, ((hbw.setCell (p := ⟨w.heap.size + 3, 0, none⟩) (by simp only; omega) _).setCell (p := ⟨w.heap.size + 4, 0, none⟩) (by simp only; omega) _).setCell (p := ⟨w.heap.size + 5, 0, none⟩) (by simp only; omega) _⟩
   simp only [bA, bS, bL] at q3 q4 q5
   simp [results, Tryz.f124, go_sem, q3, q4, q5]
  ·
   have hd := HD.out w2
   rw [hd1] at hd
   cases hd2 : zac depth
   ·
    have HV := zzh (show zbW L s height depth = (none, 11) by unfold zbW; rw [if_pos Hck.out]; simp [hd1, hd2])
    have c3 := g6.k3.cell
    have c4 := g6.k4.cell
    have c5 := g6.k5.cell
    have f3 := g6.k3.frozen
    have f4 := g6.k4.frozen
    have f5 := g6.k5.frozen
    have he := HE.out w2
    rw [hd2] at he
    clear hd1 hd2
    gi_wp2
    refine ⟨trivial, (callsIn_wide.2 hd).mono ?_⟩
    rintro e w' ⟨rfl, rfl⟩
    gi_wp2
    refine ⟨trivial, (callsIn_wide.2 he).mono ?_⟩
    rintro e w' ⟨rfl, rfl⟩
    gi_wp2
    have g6p := g6.put (p := none)
    have q3 := g6p.k3.cell
    have q4 := g6p.k4.cell
    have q5 := g6p.k5.cell
    refine ⟨.tuple #[.int .i64 0, .int .i64 0, .int .i64 0, .int .i64 11], ?_, by rw [HV.out]; rfl, ((hbw.setCell (p := ⟨w.heap.size + 3, 0, none⟩) (by simp only; omega) _).setCell (p := ⟨w.heap.size + 4, 0, none⟩) (by simp only; omega) _).setCell (p := ⟨w.heap.size + 5, 0, none⟩) (by simp only; omega) _⟩
    simp only [bA, bS, bL] at q3 q4 q5
    simp [results, Tryz.f124, go_sem, q3, q4, q5]
   ·
    have he := HE.out w2
    rw [hd2] at he
    have HO := zzh (show zbW L s height depth = (bestO L s height depth, 0) by unfold zbW; rw [if_pos Hck.out]; simp [hd1, hd2])
    have r1 : -1073741823 <= height /\ height <= 1073741823 := by simpa [zac] using hd1
    have r2 : -1073741823 <= depth /\ depth <= 1073741823 := by simpa [zac] using hd2
    have hrt := zaQ (zav Hck.out)
    have hnb : ∀ y ∈ s, NdB (nth L y) := fun y hy => nb_of (hrt _ (by rw [zaV (hs.lt y hy).2]; exact List.getElem_mem _))
    have HM : Hid (∀ (W : World) (x : Br L s), Below w.heap.size w W -> Calls Tryz.prog 53 #[.slice p0 L.length cap, .int .i64 (x.1.1 : Nat), .int .i64 depth] W fun e w' => e = .returned (.tuple #[.agg (zap L s x.1.1 depth).1.arr, .int .i64 (zap L s x.1.1 depth).2]) /\ Below W.heap.size W w') := zzh fun W x hb =>
     vmeasured p0 b off cap L s hs hl hrt x.1.1 depth r2 W (HN.out.below hb)
    have HB : Hid (∀ x : Br L s, ((-9000000000000 <= (zap L s x.1.1 depth).1.nat /\ (zap L s x.1.1 depth).1.nat <= 9000000000000) /\ -1073741823 <= (zap L s x.1.1 depth).2 /\ (zap L s x.1.1 depth).2 <= 1073741823) /\ x.1.2 <= 10000) := zzh fun x =>
     ⟨meas_bound (L := L) x.1.1 hnb (by have := hs.len; omega) r2, by
      rcases x.2 with h | h
      · have := h.2.1; omega
      · rw [h]; show (-10000 : Int) <= 10000; decide⟩
    have HK : Hid (∀ (x : Br L s) (A : World), Calls Tryz.prog 142 #[.agg (zap L s x.1.1 depth).1.arr, .int .i64 height, .int .i64 x.1.2] A fun e w' => e = .returned (.int .i64 (zdg (zap L s x.1.1 depth).1 height x.1.2)) /\ Below A.heap.size A w') := zzh fun x A => by
     obtain ⟨⟨⟨m1, m2⟩, _⟩, hq⟩ := HB.out x
     exact vcost (zap L s x.1.1 depth).1 height x.1.2 A r1.1 r1.2 (by omega) (by omega) hq
    clear hd1 hd2 r1 r2 hnb hrt
    gi_wp2
    refine ⟨trivial, (callsIn_wide.2 hd).mono ?_⟩
    rintro e w' ⟨rfl, rfl⟩
    gi_wp2
    refine ⟨trivial, (callsIn_wide.2 he).mono ?_⟩
    rintro e w' ⟨rfl, rfl⟩
    clear hd he HD HE
    gi_upto_region 7 with (fail)
    have e6 := g6.below ((Below.refl w2.heap.size w2).alloc (Nat.le_refl _) (.cells #[.bool false] 4))
    have eB := hbw.alloc hbw.size (.cells #[.bool false] 4)
    have eS := Boxed.new w2 4 (.bool false)
    have hlt5 := g6.k5.lt
    clear c1 c2 g6 hbw
    generalize w2.alloc (.cells #[.bool false] 4) = w3 at e6 eB eS ⊢
    generalize w2.heap.size = S at eS hlt5 ⊢
    have c0 := e6.k0.cell
    have HI := zzh (legal_any p0 L.length cap w3)
    gi_wp2
    refine ⟨trivial, (callsIn_wide.2 HI.out).mono ?_⟩
    clear HI c0
    rintro e w4 ⟨rfl, rfl⟩
    have i6 := e6.below ((Below.refl w3.heap.size w3).alloc (Nat.le_refl _) (.cells #[.slice p0 L.length cap] 22))
    have iB := eB.alloc eB.size (.cells #[.slice p0 L.length cap] 22)
    have iS := eS.alloc (.cells #[.slice p0 L.length cap] 22)
    have iL := Boxed.new w3 22 (.slice p0 L.length cap)
    have hltS := eS.lt
    clear e6 eB eS
    gi_wp2
    generalize w3.alloc (.cells #[.slice p0 L.length cap] 22) = w5 at i6 iB iS iL ⊢
    generalize w3.heap.size = Bs at iL hltS ⊢
    have hBs := iL.lt
    refine wpIn_range_cells rfl (by decide) (gf := 131) (lb := #[.pointer (some ⟨Bs, 0, none⟩)]) rfl trivial (enters_of Tryz.func131 (by kernel_rfl) rfl)
     (legal_seq 7 rfl Bs w.heap.size b off cap p0 L s hs hl w5 iL (HN.out.below iB) (fun e => HN.out.hb e) iB.size) kpL_t ?hKb (Below.refl _ _) (fun _ => rfl)
     (BeI w w.heap.size S Bs (.slice p0 L.length cap) height depth) (BeX w w.heap.size (.slice p0 L.length cap) height depth) (beI_abides (by omega) (by omega) hBs iB.size) (fun c => beX_abides c (by omega) iB.size)
     ⟨i6, iS, iL, iB, fun x hx => by cases hx⟩ ?a₁ ?assign ?body ?done ?stop
    case assign =>
     intro l x W K hK
     gi_wp2
     exact hK
    case body =>
     rintro l pre x W ⟨h6, hS, hB, hb, hpre⟩ hsz hlt
     have c0 := h6.k0.cell
     have c2 := h6.k2.cell
     have HM' := zzh (HM.out W x hb)
     obtain ⟨⟨⟨m1, m2⟩, m3, m4⟩, _⟩ := HB.out x
     have HKx := zzh (HK.out x)
     have Hsn := zzh (metB_snoc L s height depth pre x)
     have Hat := zzh (show atB L s height depth x.1 = (x.1.1, (zap L s x.1.1 depth).1.nat + (zap L s x.1.1 depth).2, zdg (zap L s x.1.1 depth).1 height x.1.2) from rfl)
     have Hst := zzh (show zcR L s height depth x.1 = (decide (x.1.2 <= -10000) || zdg (zap L s x.1.1 depth).1 height x.1.2 == 1073741823) from rfl)
     generalize zap L s x.1.1 depth = mm at HM' HKx Hat Hst m1 m2 m3 m4
     obtain ⟨T, dd⟩ := mm
     simp only at HM' HKx Hat Hst m1 m2 m3 m4
     generalize zdg T height x.1.2 = c at HKx Hat Hst
     have H6 := zzh h6
     have HS := zzh hS
     have HBx := zzh hB
     have HPre := zzh hpre
     clear hpre h6 hS hB
     gi_wp2
     refine ⟨trivial, ((callsIn_wide.2 HM'.out).inRound l).mono ?_⟩
     clear HM'
     rintro e w6 ⟨rfl, hb6⟩
     gi_upto_region 11 with (fail)
     have aT : TAt (w6.alloc (.cells T.arr 43)) w6.heap.size T := heap_alloc_new w6 _
     have hb7 := hb6.alloc hb6.size (.cells T.arr 43)
     have j7 := H6.out.below hb7
     have hX5 : w.heap.size + 5 < w6.heap.size := by have := hb6.size; omega
     clear hb6 c0 c2
     generalize w6.alloc (.cells T.arr 43) = w7 at aT j7 hb7 ⊢
     generalize w6.heap.size = X at aT hX5 ⊢
     have a0 := aT.agg
     have c1 := j7.k1.cell
     have AT := zzh aT
     clear aT
     gi_wp2
     refine ⟨trivial, ((callsIn_wide.2 (HKx.out _)).inRound l).mono ?_⟩
     rintro e w8 ⟨rfl, hb8⟩
     have a1 : w8.cell? ⟨X, 0, none⟩ = some (.int .i64 T.nat) := zau (TAt.agg (W := w8) (T := T) ((hb8.block _ AT.out.lt).trans AT.out)) 0 _ rfl
     have hA := BeA.still (w := w) H6.out HS.out HBx.out hb.size (hb7.trans (hb8.mono hb7.size))
     clear a0 c1 j7 hb7 hb8 HKx AT H6 HS HBx
     generalize metB L s height depth pre = o at hA Hsn
     have c3 := hA.six.k3.cell
     have c4 := hA.six.k4.cell
     have f3 := hA.six.k3.frozen
     have f4 := hA.six.k4.frozen
     have f5 := hA.six.k5.frozen
     have cS := hA.some_.cell
     have fS := hA.some_.frozen
     have HA := zzh hA
     cases o with
     | none =>
      have c5 := hA.six.k5.cell
      have hT := zzh (hA.take (p := some (x.1.1, T.nat + dd, c)) (Nat.le_refl _) (by omega) (by omega) rfl)
      have Hn := zzh (Hsn.out.trans (show stepB L s height depth none x.1 = some (x.1.1, T.nat + dd, c) by rw [<- Hat.out]; rfl))
      clear hA
      gi_wp2
      refine wpIn_region_any (by kernel_rfl) (zce (by kernel_rfl) _ _ _ _ ?_)
      change wpAny _ _ _ _ _ _ _ w8.drew
      refine wpAny_take (i := 0) (v := ?_) rfl (by kernel_rfl) (by kernel_rfl) (by kernel_rfl) (fun _ _ _ h => h) (Or.inl ⟨by rfl, ?_⟩) ?_
      rotate_left
      ·
       intro w
       go_simp
       with_reducible rfl
      refine wpAny_take (i := 1) (v := ?_) rfl (by kernel_rfl) (by kernel_rfl) (by kernel_rfl) (fun _ _ _ h => h) (Or.inl ⟨by rfl, ?_⟩) ?_
      rotate_left
      ·
       intro w
       go_simp
       with_reducible rfl
      refine wpAny_take (i := 3) (v := ?_) rfl (by kernel_rfl) (by kernel_rfl) (by kernel_rfl) (fun _ _ _ h => h) (Or.inl ⟨by rfl, ?_⟩) ?_
      rotate_left
      ·
       intro w
       go_simp
       with_reducible rfl
      refine wpAny_take (i := 5) (v := ?_) rfl (by kernel_rfl) (by kernel_rfl) (by kernel_rfl) (fun _ _ _ h => h) (Or.inl ⟨by rfl, ?_⟩) ?_
      rotate_left
      ·
       intro w
       go_simp
       with_reducible rfl
      refine wpAny_ready (rs := [2, 6]) (by kernel_rfl) (by simp) ?_
      refine AllReady.cons rfl (fun K hK => ?_) (AllReady.cons rfl (fun K hK => ?_) AllReady.nil)
      rotate_left
      ·
       go_simp
       refine hK _ _ ?_
       clear hK K
       refine wpAny_ready (rs := [2]) (by kernel_rfl) (by simp) ?_
       refine AllReady.cons rfl (fun K hK => ?_) AllReady.nil
       go_simp
       refine hK _ _ ?_
       clear hK K
       refine wpAny_take (i := 4) (v := ?_) rfl (by kernel_rfl) (by kernel_rfl) (by kernel_rfl) (fun _ _ _ h => h) (Or.inl ⟨by rfl, ?_⟩) ?_
       rotate_left
       ·
        intro w
        go_simp
        with_reducible rfl
       refine wpAny_ready (rs := [7]) (by kernel_rfl) (by simp) ?_
       refine AllReady.cons rfl (fun K hK => ?_) AllReady.nil
       go_simp
       refine hK _ _ ?_
       clear hK K
       refine wpAny_ready (rs := [8]) (by kernel_rfl) (by simp) ?_
       refine AllReady.cons rfl (fun K hK => ?_) AllReady.nil
       go_simp
       refine hK _ _ ?_
       clear hK K
       refine wpAny_ready (rs := [9]) (by kernel_rfl) (by simp) ?_
       refine AllReady.cons rfl (fun K hK => ?_) AllReady.nil
       go_simp
       refine hK _ _ ?_
       clear hK K
       refine wpAny_done (by kernel_rfl) ?_ _
       refine zcL ?_
       gi_wp2
       all_goals first
        | exact hT.out.stop hb HPre.out Hn.out (by rw [Hst.out]; first | (simp [*]; done) | (simp only [Bool.or_eq_true, decide_eq_true_eq]; assumption))
        | exact hT.out.on hb HPre.out Hn.out (by rw [Hst.out]; simp [*]) (by omega) (by omega) (by omega) (by omega)
      ·
       go_simp
       refine hK _ _ ?_
       clear hK K
       refine wpAny_take (i := 4) (v := ?_) rfl (by kernel_rfl) (by kernel_rfl) (by kernel_rfl) (fun _ _ _ h => h) (Or.inl ⟨by rfl, ?_⟩) ?_
       rotate_left
       ·
        intro w
        go_simp
        with_reducible rfl
       refine wpAny_ready (rs := [6]) (by kernel_rfl) (by simp) ?_
       refine AllReady.cons rfl (fun K hK => ?_) AllReady.nil
       go_simp
       refine hK _ _ ?_
       clear hK K
       refine wpAny_ready (rs := [7]) (by kernel_rfl) (by simp) ?_
       refine AllReady.cons rfl (fun K hK => ?_) AllReady.nil
       go_simp
       refine hK _ _ ?_
       clear hK K
       refine wpAny_ready (rs := [8]) (by kernel_rfl) (by simp) ?_
       refine AllReady.cons rfl (fun K hK => ?_) AllReady.nil
       go_simp
       refine hK _ _ ?_
       clear hK K
       refine wpAny_ready (rs := [9]) (by kernel_rfl) (by simp) ?_
       refine AllReady.cons rfl (fun K hK => ?_) AllReady.nil
       go_simp
       refine hK _ _ ?_
       clear hK K
       refine wpAny_done (by kernel_rfl) ?_ _
       refine zcL ?_
       gi_wp2
       all_goals first
        | exact hT.out.stop hb HPre.out Hn.out (by rw [Hst.out]; first | (simp [*]; done) | (simp only [Bool.or_eq_true, decide_eq_true_eq]; assumption))
        | exact hT.out.on hb HPre.out Hn.out (by rw [Hst.out]; simp [*]) (by omega) (by omega) (by omega) (by omega)
     | some y =>
      have c5 : w8.cell? ⟨w.heap.size + 5, 0, none⟩ = some (.int .i64 y.2.2) := hA.six.k5.cell
      clear hA
      by_cases hcy : c <= y.2.2
      ·
       have hT := zzh (HA.out.take (p := some (x.1.1, T.nat + dd, c)) (Nat.le_refl _) (by omega) (by omega) rfl)
       have Hn := zzh (Hsn.out.trans (show stepB L s height depth (some y) x.1 = some (x.1.1, T.nat + dd, c) by simp only [stepB]; rw [Hat.out]; exact if_pos hcy))
       gi_wp2
       refine wpIn_region_any (by kernel_rfl) (zce (by kernel_rfl) _ _ _ _ ?_)
       change wpAny _ _ _ _ _ _ _ w8.drew
       refine wpAny_take (i := 0) (v := ?_) rfl (by kernel_rfl) (by kernel_rfl) (by kernel_rfl) (fun _ _ _ h => h) (Or.inl ⟨by rfl, ?_⟩) ?_
       rotate_left
       ·
        intro w
        go_simp
        with_reducible rfl
       refine wpAny_take (i := 1) (v := ?_) rfl (by kernel_rfl) (by kernel_rfl) (by kernel_rfl) (fun _ _ _ h => h) (Or.inl ⟨by rfl, ?_⟩) ?_
       rotate_left
       ·
        intro w
        go_simp
        with_reducible rfl
       refine wpAny_take (i := 3) (v := ?_) rfl (by kernel_rfl) (by kernel_rfl) (by kernel_rfl) (fun _ _ _ h => h) (Or.inl ⟨by rfl, ?_⟩) ?_
       rotate_left
       ·
        intro w
        go_simp
        with_reducible rfl
       refine wpAny_take (i := 5) (v := ?_) rfl (by kernel_rfl) (by kernel_rfl) (by kernel_rfl) (fun _ _ _ h => h) (Or.inl ⟨by rfl, ?_⟩) ?_
       rotate_left
       ·
        intro w
        go_simp
        with_reducible rfl
       refine wpAny_ready (rs := [2, 6]) (by kernel_rfl) (by simp) ?_
       refine AllReady.cons rfl (fun K hK => ?_) (AllReady.cons rfl (fun K hK => ?_) AllReady.nil)
       rotate_left
       ·
        go_simp
        refine hK _ _ ?_
        clear hK K
        refine wpAny_ready (rs := [2]) (by kernel_rfl) (by simp) ?_
        refine AllReady.cons rfl (fun K hK => ?_) AllReady.nil
        go_simp
        refine hK _ _ ?_
        clear hK K
        refine wpAny_take (i := 4) (v := ?_) rfl (by kernel_rfl) (by kernel_rfl) (by kernel_rfl) (fun _ _ _ h => h) (Or.inl ⟨by rfl, ?_⟩) ?_
        rotate_left
        ·
         intro w
         go_simp
         with_reducible rfl
        refine wpAny_ready (rs := [7]) (by kernel_rfl) (by simp) ?_
        refine AllReady.cons rfl (fun K hK => ?_) AllReady.nil
        go_simp
        refine hK _ _ ?_
        clear hK K
        refine wpAny_ready (rs := [8]) (by kernel_rfl) (by simp) ?_
        refine AllReady.cons rfl (fun K hK => ?_) AllReady.nil
        go_simp
        refine hK _ _ ?_
        clear hK K
        refine wpAny_ready (rs := [9]) (by kernel_rfl) (by simp) ?_
        refine AllReady.cons rfl (fun K hK => ?_) AllReady.nil
        go_simp
        refine hK _ _ ?_
        clear hK K
        refine wpAny_done (by kernel_rfl) ?_ _
        refine zcL ?_
        gi_wp2
        all_goals first
         | exact hT.out.stop hb HPre.out Hn.out (by rw [Hst.out]; first | (simp [*]; done) | (simp only [Bool.or_eq_true, decide_eq_true_eq]; assumption))
         | exact hT.out.on hb HPre.out Hn.out (by rw [Hst.out]; simp [*]) (by omega) (by omega) (by omega) (by omega)
       ·
        go_simp
        refine hK _ _ ?_
        clear hK K
        refine wpAny_take (i := 4) (v := ?_) rfl (by kernel_rfl) (by kernel_rfl) (by kernel_rfl) (fun _ _ _ h => h) (Or.inl ⟨by rfl, ?_⟩) ?_
        rotate_left
        ·
         intro w
         go_simp
         with_reducible rfl
        refine wpAny_ready (rs := [6]) (by kernel_rfl) (by simp) ?_
        refine AllReady.cons rfl (fun K hK => ?_) AllReady.nil
        go_simp
        refine hK _ _ ?_
        clear hK K
        refine wpAny_ready (rs := [7]) (by kernel_rfl) (by simp) ?_
        refine AllReady.cons rfl (fun K hK => ?_) AllReady.nil
        go_simp
        refine hK _ _ ?_
        clear hK K
        refine wpAny_ready (rs := [8]) (by kernel_rfl) (by simp) ?_
        refine AllReady.cons rfl (fun K hK => ?_) AllReady.nil
        go_simp
        refine hK _ _ ?_
        clear hK K
        refine wpAny_ready (rs := [9]) (by kernel_rfl) (by simp) ?_
        refine AllReady.cons rfl (fun K hK => ?_) AllReady.nil
        go_simp
        refine hK _ _ ?_
        clear hK K
        refine wpAny_done (by kernel_rfl) ?_ _
        refine zcL ?_
        gi_wp2
        all_goals first
         | exact hT.out.stop hb HPre.out Hn.out (by rw [Hst.out]; first | (simp [*]; done) | (simp only [Bool.or_eq_true, decide_eq_true_eq]; assumption))
         | exact hT.out.on hb HPre.out Hn.out (by rw [Hst.out]; simp [*]) (by omega) (by omega) (by omega) (by omega)
      ·
       have hcy2 : y.2.2 < c := by omega
       have Hn := zzh (Hsn.out.trans (show stepB L s height depth (some y) x.1 = some y by simp only [stepB]; rw [Hat.out]; exact if_neg hcy))
       clear hcy
       gi_wp2
       all_goals first
        | exact HA.out.stop hb HPre.out Hn.out (by rw [Hst.out]; first | (simp [*]; done) | (simp only [Bool.or_eq_true, decide_eq_true_eq]; assumption))
        | exact HA.out.on hb HPre.out Hn.out (by rw [Hst.out]; simp [*]) (by omega) (by omega) (by omega) (by omega)
    case hKb =>
     intro A o hlt
     refine ⟨(Below.refl _ A).grown (grownBy_putObj' A _ o) (by have := iB.size; omega) (fun k e => by cases e; have := iB.size; omega), World.putObj_heap_other (by omega), fun r h1 h2 => World.putObj_heap_other (by omega), KeepsFrom.of_grownBy (grownBy_putObj' A _ o) (fun j e => by cases e; omega)⟩
    case done =>
     rintro ys W hys ⟨h6, hS, hB, hb, hno⟩ hK
     have HRz := zzh (HO.out.trans (congrArg (·, (0 : Int)) (metB_done hys hno)))
     have hlt3 := h6.k3.lt
     have hP := h6.put (p := metB L s height depth ys)
     clear hys hno hS hB
     have c3 := h6.k3.cell
     have c4 := h6.k4.cell
     have c5 := h6.k5.cell
     have f3 := h6.k3.frozen
     have f4 := h6.k4.frozen
     have f5 := h6.k5.frozen
     generalize metB L s height depth ys = o at HRz hP c3 c4 c5 h6 ⊢
     gi_wp2
     refine wpIn_wide.2 ?_
     go_region
     have hPd : SixB (((W.setCell ⟨w.heap.size + 3, 0, none⟩ (.int .i64 (bA o))).setCell ⟨w.heap.size + 4, 0, none⟩ (.int .i64 (bS o))).setCell ⟨w.heap.size + 5, 0, none⟩ (.int .i64 (bL o))).drew w.heap.size (.slice p0 L.length cap) height depth o := hP.below ((Below.refl _ _).drew)
     have hKo : KeepsOthers W (((W.setCell ⟨w.heap.size + 3, 0, none⟩ (.int .i64 (bA o))).setCell ⟨w.heap.size + 4, 0, none⟩ (.int .i64 (bS o))).setCell ⟨w.heap.size + 5, 0, none⟩ (.int .i64 (bL o))).drew := (((KeepsOthers.setCell _ _ _).trans (KeepsOthers.setCell _ _ _)).trans (KeepsOthers.setCell _ _ _)).trans (KeepsOthers.drew _)
     have hK' := hKo.same w5.heap.size _ hK rfl
     have hbE : Below w.heap.size w (((W.setCell ⟨w.heap.size + 3, 0, none⟩ (.int .i64 (bA o))).setCell ⟨w.heap.size + 4, 0, none⟩ (.int .i64 (bS o))).setCell ⟨w.heap.size + 5, 0, none⟩ (.int .i64 (bL o))).drew := (((hb.setCell (p := ⟨w.heap.size + 3, 0, none⟩) (by simp only; omega) _).setCell (p := ⟨w.heap.size + 4, 0, none⟩) (by simp only; omega) _).setCell (p := ⟨w.heap.size + 5, 0, none⟩) (by simp only; omega) _).drew
     generalize ((W.setCell ⟨w.heap.size + 3, 0, none⟩ (.int .i64 (bA o))).setCell ⟨w.heap.size + 4, 0, none⟩ (.int .i64 (bS o))).setCell ⟨w.heap.size + 5, 0, none⟩ (.int .i64 (bL o)) = W9 at hPd hK' hbE ⊢
     clear c3 c4 c5 f3 f4 f5 hKo hP hb
     gi_wp2
     refine ⟨by simp, .inl ⟨_, _, rfl, run_takeDeferred hK', ?_⟩⟩
     have q3 := cell_kept (W := W9.drew) hPd.k3.cell (grownBy_putObj' _ w5.heap.size (.deferred none)) (fun r e => by cases e; exact ⟨_, hK', rfl⟩)
     have q4 := cell_kept (W := W9.drew) hPd.k4.cell (grownBy_putObj' _ w5.heap.size (.deferred none)) (fun r e => by cases e; exact ⟨_, hK', rfl⟩)
     have q5 := cell_kept (W := W9.drew) hPd.k5.cell (grownBy_putObj' _ w5.heap.size (.deferred none)) (fun r e => by cases e; exact ⟨_, hK', rfl⟩)
     refine ⟨.tuple #[.int .i64 (bA o), .int .i64 (bS o), .int .i64 (bL o), .int .i64 0], ?_, by rw [HRz.out], hbE.trans (belowK_b (w := w) (Nat.le_refl _) _ w5.heap.size _ _ iB.size hK' rfl rfl)⟩
     simp [results, Tryz.f124, go_sem, q3, q4, q5]
    case stop =>
     rintro c pre W hpre ⟨⟨rfl, pre', x, rfl, hno, hx⟩, h6, hb⟩ hK
     have HRz := zzh (HO.out.trans (congrArg (·, (0 : Int)) (metB_stop hpre hno hx)))
     have hlt3 := h6.k3.lt
     have hP := h6.put (p := metB L s height depth (pre' ++ [x]))
     clear hpre hno hx
     have c3 := h6.k3.cell
     have c4 := h6.k4.cell
     have c5 := h6.k5.cell
     have f3 := h6.k3.frozen
     have f4 := h6.k4.frozen
     have f5 := h6.k5.frozen
     generalize metB L s height depth (pre' ++ [x]) = o at HRz hP c3 c4 c5 h6 ⊢
     gi_wp2
     refine wpIn_wide.2 ?_
     go_region
     have hPd : SixB (((W.setCell ⟨w.heap.size + 3, 0, none⟩ (.int .i64 (bA o))).setCell ⟨w.heap.size + 4, 0, none⟩ (.int .i64 (bS o))).setCell ⟨w.heap.size + 5, 0, none⟩ (.int .i64 (bL o))).drew w.heap.size (.slice p0 L.length cap) height depth o := hP.below ((Below.refl _ _).drew)
     have hKo : KeepsOthers W (((W.setCell ⟨w.heap.size + 3, 0, none⟩ (.int .i64 (bA o))).setCell ⟨w.heap.size + 4, 0, none⟩ (.int .i64 (bS o))).setCell ⟨w.heap.size + 5, 0, none⟩ (.int .i64 (bL o))).drew := (((KeepsOthers.setCell _ _ _).trans (KeepsOthers.setCell _ _ _)).trans (KeepsOthers.setCell _ _ _)).trans (KeepsOthers.drew _)
     have hK' := hKo.same w5.heap.size _ hK rfl
     have hbE : Below w.heap.size w (((W.setCell ⟨w.heap.size + 3, 0, none⟩ (.int .i64 (bA o))).setCell ⟨w.heap.size + 4, 0, none⟩ (.int .i64 (bS o))).setCell ⟨w.heap.size + 5, 0, none⟩ (.int .i64 (bL o))).drew := (((hb.setCell (p := ⟨w.heap.size + 3, 0, none⟩) (by simp only; omega) _).setCell (p := ⟨w.heap.size + 4, 0, none⟩) (by simp only; omega) _).setCell (p := ⟨w.heap.size + 5, 0, none⟩) (by simp only; omega) _).drew
     generalize ((W.setCell ⟨w.heap.size + 3, 0, none⟩ (.int .i64 (bA o))).setCell ⟨w.heap.size + 4, 0, none⟩ (.int .i64 (bS o))).setCell ⟨w.heap.size + 5, 0, none⟩ (.int .i64 (bL o)) = W9 at hPd hK' hbE ⊢
     clear c3 c4 c5 f3 f4 f5 hKo hP hb
     gi_wp2
     refine ⟨by simp, .inl ⟨_, _, rfl, run_takeDeferred hK', ?_⟩⟩
     have q3 := cell_kept (W := W9.drew) hPd.k3.cell (grownBy_putObj' _ w5.heap.size (.deferred none)) (fun r e => by cases e; exact ⟨_, hK', rfl⟩)
     have q4 := cell_kept (W := W9.drew) hPd.k4.cell (grownBy_putObj' _ w5.heap.size (.deferred none)) (fun r e => by cases e; exact ⟨_, hK', rfl⟩)
     have q5 := cell_kept (W := W9.drew) hPd.k5.cell (grownBy_putObj' _ w5.heap.size (.deferred none)) (fun r e => by cases e; exact ⟨_, hK', rfl⟩)
     refine ⟨.tuple #[.int .i64 (bA o), .int .i64 (bS o), .int .i64 (bL o), .int .i64 0], ?_, by rw [HRz.out], hbE.trans (belowK_b (w := w) (Nat.le_refl _) _ w5.heap.size _ _ iB.size hK' rfl rfl)⟩
     simp [results, Tryz.f124, go_sem, q3, q4, q5]
 ·
  have hck' : ((colP L s : Int) != 0) = true := by simpa using hck
  have HR := zzh (show zbW L s height depth = (none, colP L s) by unfold zbW; rw [if_neg hck])
  have c3 := g6.k3.cell
  have c4 := g6.k4.cell
  have c5 := g6.k5.cell
  have f3 := g6.k3.frozen
  have f4 := g6.k4.frozen
  have f5 := g6.k5.frozen
  clear hck
  gi_wp2
  have g6p := g6.put (p := none)
  have q3 := g6p.k3.cell
  have q4 := g6p.k4.cell
  have q5 := g6p.k5.cell
  refine ⟨.tuple #[.int .i64 0, .int .i64 0, .int .i64 0, .int .i64 (colP L s)], ?_, by rw [HR.out]; rfl, ((hbw.setCell (p := ⟨w.heap.size + 3, 0, none⟩) (by simp only; omega) _).setCell (p := ⟨w.heap.size + 4, 0, none⟩) (by simp only; omega) _).setCell (p := ⟨w.heap.size + 5, 0, none⟩) (by simp only; omega) _⟩
  simp only [bA, bS, bL] at q3 q4 q5
  simp [results, Tryz.f124, go_sem, q3, q4, q5]
end Go.Proofs.YtaehkbbdmamfpaaGreatDoor
