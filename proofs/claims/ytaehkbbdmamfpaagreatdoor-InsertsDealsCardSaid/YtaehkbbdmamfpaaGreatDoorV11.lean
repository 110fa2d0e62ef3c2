/-
  vlist.Prune: what holds between two rounds.
-/
import Derived.Test.YtaehkbbdmamfpaaGreatDoorV11b
import Derived.Test.YtaehkbbdmamfpaaGreatDoorVBs
import Derived.Test.YtaehkbbdmamfpaaGreatDoorQ13
import Derived.Stop.RegionWithIn
import Derived.Sort.CutIn
namespace Go.Proofs.YtaehkbbdmamfpaaGreatDoor
open Go.ChangeShapes Go.WideShapes Go.ChangeAt Go.RowKit Go.Shelf
section
attribute [local go_sem] Oper.semAt_some
def outP (L : List Nd) (pre : List Nat) : List Nd := pre.foldl (fun out i => if zbB (nth L i).kind then out else out ++ zby L i) []
theorem outP_snoc (L : List Nd) (pre : List Nat) (x : Nat) : outP L (pre ++ [x]) = if zbB (nth L x).kind then outP L pre else outP L pre ++ zby L x := by simp [outP]
theorem itemN_len (L : List Nd) (i : Nat) : (zby L i).length <= L.length := by unfold zby; simp; omega
theorem outP_acc (L : List Nd) : ∀ (pre : List Nat) (acc : List Nd), (pre.foldl (fun out i => if zbB (nth L i).kind then out else out ++ zby L i) acc).length <= acc.length + pre.length * L.length
 | [], acc => by simp
 | x :: r, acc => by
  rw [List.foldl_cons]
  refine Nat.le_trans (outP_acc L r _) ?_
  have := itemN_len L x
  rw [List.length_cons, Nat.add_mul, Nat.one_mul]
  split
  · omega
  · rw [List.length_append]; omega
theorem outP_len (L : List Nd) (pre : List Nat) : (outP L pre).length <= pre.length * L.length := by have := outP_acc L pre []; simpa [outP] using this
theorem prunF_pre (L : List Nd) (g : Gl) : ∀ (pre rest : List Nat) (acc : List Nd), (∀ x ∈ pre, zaq (nth L x).kind = false) -> zbU L g (pre ++ rest) acc = zbU L g rest (pre.foldl (fun out i => if zbB (nth L i).kind then out else out ++ zby L i) acc)
 | [], rest, acc, _ => rfl
 | x :: r, rest, acc, h => by
  rw [List.cons_append, List.foldl_cons, <- prunF_pre L g r rest _ (fun y hy => h y (List.mem_cons_of_mem _ hy))]
  show (if zaq (nth L x).kind then _ else zbU L g (r ++ rest) _) = _
  rw [h x List.mem_cons_self]; rfl
abbrev It (s : List Nat) := {i : Nat // i ∈ s}
def PrI (w : World) (Z B0 : Nat) (p0 : Option Addr) (cap : Nat) (L : List Nd) (g : Gl) (s : List Nat) (pre : List (It s)) (W : World) : Prop :=
 ((Boxed W w.heap.size 22 (.slice p0 L.length cap) /\ Boxed W (Z + 1) 22 (.slice p0 L.length cap) /\ W.heap[w.heap.size + 1]? = some (.cells g.arr 51 (0, 0)) /\ (∃ v, Boxed W Z 22 v /\ W.ownsRow B0 53 19 v (outP L (pre.map (·.1))).length ((outP L (pre.map (·.1))).flatMap Nd.cells) /\ True) /\ (∀ x ∈ pre, zaq (nth L x.1).kind = false)) /\ Below w.heap.size w W) /\ B0 <= W.heap.size
def PrX (w : World) (Z B0 : Nat) (L : List Nd) (g : Gl) (s : List Nat) (id : Nat) (c : Code) (prex : List (It s)) (W : World) : Prop :=
 (c = .exit id /\ ∃ (pre : List (It s)) (x : It s), prex = pre ++ [x] /\ (∀ y ∈ pre, zaq (nth L y.1).kind = false) /\ zaq (nth L x.1).kind = true /\
  ∃ v, Boxed W Z 22 v /\ W.ownsRow B0 53 19 v (outP L (pre.map (·.1)) ++ topN g (nth L x.1).h :: L.drop x.1).length ((outP L (pre.map (·.1)) ++ topN g (nth L x.1).h :: L.drop x.1).flatMap Nd.cells)) /\ Below w.heap.size w W
theorem prI_own {w : World} {Z B0 B : Nat} {p0 : Option Addr} {cap : Nat} {L : List Nd} {g : Gl} {s : List Nat} (hB : w.heap.size <= B) : OwnFrom B (PrI w Z B0 p0 cap L g s) :=
 OwnFrom.and (OwnFrom.and (OwnFrom.and (Own.from (boxed_own _ _ _) _) (OwnFrom.and (Own.from (boxed_own _ _ _) _) (OwnFrom.and (Own.from (blk_own _ _ _ _) _) (OwnFrom.and (Own.from (holdsRow_own _ _ _ _ _ _ _ (fun _ _ => True)) _) (ownFrom_pure _ _))))) (ownFrom_below (Nat.le_refl _) hB)) (fun _ _ _ _ hs hg _ => Nat.le_trans hs hg.size)
theorem prX_own {w : World} {Z B0 B : Nat} {L : List Nd} {g : Gl} {s : List Nat} {id : Nat} (hB : w.heap.size <= B) (c : Code) : OwnFrom B (PrX w Z B0 L g s id c) :=
 OwnFrom.and (OwnFrom.and (ownFrom_pure _ _) (Own.from (fun prex X Y row hs hg hrow => by
  obtain ⟨pre, x, h1, h2, h3, v, hv, hr⟩ := hs
  obtain ⟨v2, hv2, hr2, _⟩ := holdsRow_own (β := Unit) B0 Z 22 53 19 (fun _ => (outP L (pre.map (·.1)) ++ topN g (nth L x.1).h :: L.drop x.1).length) (fun _ => (outP L (pre.map (·.1)) ++ topN g (nth L x.1).h :: L.drop x.1).flatMap Nd.cells) (fun _ _ => True) () X Y row ⟨v, hv, hr, trivial⟩ hg hrow
  exact ⟨pre, x, h1, h2, h3, v2, hv2, hr2⟩) _)) (ownFrom_below (Nat.le_refl _) hB)
end
section
attribute [local go_sem] Oper.semAt_some
set_option maxRecDepth 100000 in
set_option maxHeartbeats 16000000 in
theorem vprune (p0 : Option Addr) (b off cap : Nat) (L : List Nd) (s : List Nat) (g : Gl) (hs : zao L = 0 -> Items L 0 s) (w : World) (hN : NIn w p0 b off cap L) :
 Calls Tryz.prog 59 #[.slice p0 L.length cap, .agg g.arr] w (PrunPost w L s g) := by
 have hlen := hN.len
 have HN := zzh hN
 have Hs := zzh hs
 have HC : Hid (∀ W, Below w.heap.size w W -> Calls Tryz.prog 50 #[.slice p0 L.length cap] W fun e w' => e = .returned (.int .i64 (colP L s)) /\ Below W.heap.size W w') := zzh fun W hb => column_any p0 b off cap L s Hs.out W (HN.out.below hb)
 have b0 : Boxed ((w.alloc (.cells #[.slice p0 L.length cap] 22)).alloc (.cells g.arr 51)) w.heap.size 22 (.slice p0 L.length cap) := (Boxed.new w _ _).alloc _
 have b1 : ((w.alloc (.cells #[.slice p0 L.length cap] 22)).alloc (.cells g.arr 51)).heap[w.heap.size + 1]? = some (.cells g.arr 51 (0, 0)) := by have := heap_alloc_new (w.alloc (.cells #[.slice p0 L.length cap] 22)) (.cells g.arr 51); simpa using this
 have hb1 : Below w.heap.size w ((w.alloc (.cells #[.slice p0 L.length cap] 22)).alloc (.cells g.arr 51)) := ((Below.refl _ _).alloc (Nat.le_refl _) _).alloc (by simp) _
 clear hN hs
 refine (callsIn_wide (n := 8)).1 ?_
 refine callsIn_of_wp_marks Tryz.func59 rfl trivial ?_ rfl
 simp only [Tryz.ntmps59, List.size_toArray, List.length_cons, List.length_nil, Nat.reduceAdd, Nat.reduceSub, Array.replicate_succ, Array.replicate_zero, List.push_toArray, List.append_toArray, List.nil_append, List.cons_append]
 have c0 := b0.cell
 gi_wp2
 refine ⟨trivial, (callsIn_wide.2 (HC.out _ hb1)).mono ?_⟩
 rintro e w2 ⟨rfl, hb2⟩
 have d0 : Boxed w2 w.heap.size 22 (.slice p0 L.length cap) := (hb2.block _ b0.lt).trans b0
 have d1 := (hb2.block _ (Array.getElem?_eq_some_iff.1 b1).1).trans b1
 have hbw := hb1.trans (hb2.mono hb1.size)
 clear b0 b1 hb1 hb2 HC c0
 have a1 : agg? w2 (w.heap.size + 1) 0 5 = some g.arr := by rw [agg?_blk' d1 0 5 (by simp [Gl.size_arr])]; simp [Gl.arr, Gl.cells]
 by_cases hck : colP L s = 0
 ·
  have hs := Hs.out (zav hck)
  have hl := (zaj (zav hck)).1
  have hr := zaQ (zav hck)
  have Hck := zzh hck
  rw [hck]
  clear hck Hs
  have HV := zzh (vright_any g w2)
  gi_upto_region 4 with (fail)
  refine wpIn_wide.2 ?_
  go_cut [26] from 14 to 26 (fun s26 wx => s26 = .bool (!topB g) /\ Below w2.heap.size w2 wx)
  case first =>
   cases hg : g.good
   ·
    have ht := zzh (show topB g = false by simp [topB, hg])
    rw [hg] at HV
    clear hg
    go_wp2_with (go_at_call 107; refine HV.out.mono ?_; rintro e w3 ⟨rfl, hb3⟩)
    go_meet
    exact ⟨by rw [ht.out]; rfl, hb3⟩
   ·
    rw [hg] at HV
    have hways : (0 < g.ho /\ (g.shr != 0) = true /\ topB g = false) \/ (0 < g.ho /\ (g.shr != 0) = false /\ topB g = true) \/ (g.ho <= 0 /\ topB g = true) := by
     have hho := (good_ho hg).2.1
     rcases Int.lt_or_le 0 g.ho with h | h
     ·
      cases k : (g.shr == 0)
      · exact .inl ⟨h, by rw [bne, k]; rfl, by simp [topB, hg, k]; omega⟩
      · exact .inr (.inl ⟨h, by rw [bne, k]; rfl, by simp [topB, hg, k]⟩)
     · exact .inr (.inr ⟨h, by simp [topB, hg]; omega⟩)
    have D1 := zzh d1
    clear hg
    rcases hways with ⟨q1, q2, q3⟩ | ⟨q1, q2, q3⟩ | ⟨q1, q3⟩
    all_goals
     have Q3 := zzh q3
     clear q3
     go_wp2_with (go_at_call 107; refine HV.out.mono ?_; rintro e w3 ⟨rfl, hb3⟩; (have f1 := (hb3.block _ (Array.getElem?_eq_some_iff.1 D1.out).1).trans D1.out); (have x2 : w3.cell? ⟨w.heap.size + 1, 2, none⟩ = some (.int .i64 g.shr) := by rw [cell?_blk' f1]; rfl); (have x4 : w3.cell? ⟨w.heap.size + 1, 4, none⟩ = some (.int .i64 g.ho) := by rw [cell?_blk' f1]; rfl))
     go_meet
     exact ⟨by rw [Q3.out]; rfl, hb3⟩
  case rest =>
   obtain ⟨rfl, hb3⟩ := hcut
   have hbw3 := hbw.trans (hb3.mono hbw.size)
   have f0 : Boxed wc w.heap.size 22 (.slice p0 L.length cap) := (hb3.block _ d0.lt).trans d0
   have f1 := (hb3.block _ (Array.getElem?_eq_some_iff.1 d1).1).trans d1
   clear d0 d1 hbw hb3 a1 HV
   cases ht : topB g
   ·
    have Hc := zzh (show zca L s g = 30 by unfold zca; rw [if_pos Hck.out, ht]; rfl)
    clear ht
    gi_wp2
    refine ⟨_, results_tmp2 rfl _ _ _, ⟨.slice none 0 0, by rw [Hc.out]; rfl, fun h => absurd (Hc.out.symm.trans h) (by decide), fun _ => rfl⟩, hbw3⟩
   ·
    have Hc := zzh (show zca L s g = if 2000 < (zbU L g s []).length then 6 else 0 by unfold zca; rw [if_pos Hck.out, ht]; rfl)
    have Hr := zzh hr
    have Hgn : Hid (-1073741823 <= g.nat /\ g.nat <= 1073741823) := zzh (by
     have hgd : g.good = true := by cases h : g.good <;> simp [topB, h] at ht ⊢
     simp [Gl.good, zac] at hgd; omega)
    have hz3 : w.heap.size + 1 < wc.heap.size := (Array.getElem?_eq_some_iff.1 f1).1
    have g0 := f0.alloc (.cells #[.slice none 0 0] 22)
    have g1 : (wc.alloc (.cells #[.slice none 0 0] 22)).heap[w.heap.size + 1]? = some (.cells g.arr 51 (0, 0)) := (Below.heap_alloc _ _ _ hz3).trans f1
    have gZ := Boxed.new wc 22 (.slice none 0 0)
    have hb4 := hbw3.alloc hbw3.size (.cells #[.slice none 0 0] 22)
    have cl := g0.cell
    have HI := zzh (items_any p0 L.length cap (wc.alloc (.cells #[.slice none 0 0] 22)))
    clear ht hr
    gi_wp2
    refine ⟨trivial, (callsIn_wide.2 HI.out).mono ?_⟩
    clear HI
    rintro e w4 ⟨rfl, rfl⟩
    have k0 := g0.alloc (.cells #[.slice p0 L.length cap] 22)
    have kZ := gZ.alloc (.cells #[.slice p0 L.length cap] 22)
    have k1 := (Below.heap_alloc (wc.alloc (.cells #[.slice none 0 0] 22)) (.cells #[.slice p0 L.length cap] 22) _ (Array.getElem?_eq_some_iff.1 g1).1).trans g1
    have kS := Boxed.new (wc.alloc (.cells #[.slice none 0 0] 22)) 22 (.slice p0 L.length cap)
    have kB := hb4.alloc hb4.size (.cells #[.slice p0 L.length cap] 22)
    rw [World.size_alloc] at kS
    clear g0 g1 gZ hb4 cl f0 f1 hbw3
    gi_wp2
    generalize (wc.alloc (.cells #[.slice none 0 0] 22)).alloc (.cells #[.slice p0 L.length cap] 22) = w5 at k0 kZ k1 kS kB ⊢
    generalize wc.heap.size = Z at kZ kS hz3 ⊢
    have hBs := kS.lt
    refine wpIn_rangeFunc_ownF rfl (by decide) (gf := 101) (lb := #[.pointer (some ⟨Z + 1, 0, none⟩)]) rfl trivial (enters_of Tryz.func101 (by kernel_rfl) rfl)
     (zcE 7 (by decide) (Z + 1) w.heap.size b off cap p0 L s hs w5 kS (HN.out.below kB) (fun e => HN.out.hb e)) kpI_t (kpI_b kB.size hBs) (Below.refl _ _) (fun _ => rfl)
     (PrI w Z w5.heap.size p0 cap L g s) (PrX w Z w5.heap.size L g s 0) (prI_own kB.size) (prX_own kB.size)
     ⟨⟨⟨k0, kS, k1, ⟨_, kZ, World.ownsRow_nil _ _ _ _, trivial⟩, fun _ h => by cases h⟩, kB⟩, Nat.le_refl _⟩ ?a₁ ?assign ?body ?done ?stop
    case assign =>
     intro l x W K hK
     gi_wp2
     exact hK
    case body =>
     rintro l pre x W ⟨⟨⟨i0, iS, i1, ⟨v, iv, ir, _⟩, i3⟩, i5⟩, i6⟩ hlt
     obtain ⟨hx1, hx2⟩ := hs.lt x.1 x.2
     obtain ⟨m, hm⟩ := hs.at_ x.1 x.2
     have hN := HN.out.below i5
     have xa := hN.nth hx2
     have hrn : zaX (nth L x.1) = true := Hr.out _ (by rw [zaV hx2]; exact List.getElem_mem _)
     obtain ⟨n, hn⟩ : ∃ n, nth L x.1 = n := ⟨_, rfl⟩
     rw [hn] at xa hrn
     have Hn := zzh hn
     obtain rfl := hN.at_ hx2
     have hx3 : (0 : Int) <= (x.1 : Int) := by omega
     have hx4 : (x.1 : Int) < (L.length : Int) := by omega
     have c0 := i0.cell
     have hblt := hN.lt hx2
     have HSo := zzh (vsolid n W)
     clear hn
     gi_wp2
     refine ⟨trivial, (CallsIn.inRound l (callsIn_wide.2 HSo.out)).mono ?_⟩
     clear HSo xa
     rintro e W2 ⟨rfl, hb2⟩
     have j0 : Boxed W2 w.heap.size 22 (.slice (some ⟨b, off, none⟩) L.length cap) := (hb2.block _ i0.lt).trans i0
     have jS : Boxed W2 (Z + 1) 22 (.slice (some ⟨b, off, none⟩) L.length cap) := (hb2.block _ iS.lt).trans iS
     have jZ : Boxed W2 Z 22 v := (hb2.block _ iv.lt).trans iv
     have j1 := (hb2.block _ (Array.getElem?_eq_some_iff.1 i1).1).trans i1
     have jr := zad ir hb2
     have hN2 := hN.below hb2
     have hz2 : w5.heap.size <= W2.heap.size := Nat.le_trans i6 hb2.size
     have hbn : Below w.heap.size W W2 := hb2.mono i5.size
     have hiS : Z + 1 < W.heap.size := iS.lt
     have c0 := j0.cell
     cases hsol : zaq n.kind
     ·
      have Hsol := zzh hsol
      have xa2 := hN2.nth hx2
      rw [Hn.out] at xa2
      have HF := zzh (vfalls n W2)
      clear hsol
      cases hfal : zbB n.kind
      ·
       rw [hfal] at HF
       have Hfal := zzh hfal
       clear hfal
       gi_wp2
       refine ⟨trivial, (CallsIn.inRound l (callsIn_wide.2 HF.out)).mono ?_⟩
       clear HF xa2
       rintro e W3 ⟨rfl, hb3⟩
       have m0 : Boxed W3 w.heap.size 22 (.slice (some ⟨b, off, none⟩) L.length cap) := (hb3.block _ j0.lt).trans j0
       have mS : Boxed W3 (Z + 1) 22 (.slice (some ⟨b, off, none⟩) L.length cap) := (hb3.block _ jS.lt).trans jS
       have mZ : Boxed W3 Z 22 v := (hb3.block _ jZ.lt).trans jZ
       have m1 := (hb3.block _ (Array.getElem?_eq_some_iff.1 j1).1).trans j1
       have mr := zad jr hb3
       have hN3 := hN2.below hb3
       have hz3' : w5.heap.size <= W3.heap.size := Nat.le_trans hz2 hb3.size
       have hb23 := hb2.trans (hb3.mono hb2.size)
       have hK23 := zbk hb23
       have hbn3 : Below w.heap.size W W3 := hb23.mono i5.size
       have hS3 : W3.heap[Z + 1]? = W.heap[Z + 1]? := hb23.block _ hiS
       have hbE := i5.trans hbn3
       have hm2 := zaw _ _ _ hm
       rw [List.length_drop] at hm2
       have hol := outP_len L (pre.map (·.1))
       rw [List.length_map] at hol
       have hpl : pre.length * L.length <= 2000 * 2000 := Nat.mul_le_mul (by have := hs.len; omega) hl
       obtain ⟨out, ho⟩ : ∃ out, outP L (pre.map (·.1)) = out := ⟨_, rfl⟩
       rw [ho] at mr hol
       have hil : (zby L x.1).length = m := by unfold zby; rw [hm]; simp; omega
       have ho2 : outP L ((pre ++ [x]).map (·.1)) = out ++ zby L x.1 := by rw [show (pre ++ [x]).map (·.1) = pre.map (·.1) ++ [x.1] by simp, outP_snoc, Hn.out, Hfal.out, ho]; rfl
       obtain ⟨pv, cv, rfl⟩ := zaf mr
       obtain ⟨t0, hi0', hz0, hz1, hz4⟩ := info_parts zbq
       have mr' : W3.drew.ownsRow w5.heap.size 53 19 (.slice pv out.length cv) out.length (out.flatMap Nd.cells) := zar mr fun _ _ _ => rfl
       have hN3d : NIn W3.drew (some ⟨b, off, none⟩) b off cap L := ⟨hN3.hp, hN3.hb, hN3.nd, hN3.cap', hN3.len⟩
       have cZ := mZ.cell
       have c0' := m0.cell
       have HBe := zzh (behind_any (some ⟨b, off, none⟩) b off cap L x.1 m W3.drew hN3d hm)
       have hcapL := hN3.cap'
       obtain ⟨q, hq⟩ : ∃ q, x.1 + m = q := ⟨_, rfl⟩
       rw [hq] at HBe
       have hkm1 : (x.1 : Int) <= (q : Int) := by omega
       have hkm2 : (q : Int) <= (cap : Int) := by omega
       have hkm3 : (0 : Int) <= (q : Int) := by omega
       have hkm4 : x.1 <= q := by omega
       have hck : ¬ cap = x.1 := by omega
       have hmq : (q - x.1 : Nat) = m := by omega
       have hnews : ∀ j u, ((zby L x.1).flatMap Nd.cells)[j]? = some u -> W3.drew.cell? ((⟨b, off + x.1 * 19, none⟩ : Addr).add j) = some u := ((hN3d.drop x.1 (Nat.le_of_lt hx2)).take _).news
       have hflat : ((zby L x.1).flatMap Nd.cells).length = m * 19 := by rw [zaA, hil]
       have Hq := zzh hq
       have Hnews := zzh hnews
       have Hflat := zzh hflat
       have Ho2 := zzh ho2
       clear hq hnews hflat ho2
       clear hm hN3 hN2 hN hN3d mr jr ir j0 jS jZ i0 iS iv i1 j1 hb2 hb3 hb23 ho
       gi_wp2
       refine zbQ 7 (by kernel_rfl) (by kernel_rfl) (by kernel_rfl) ?_
       simp only [List.take_succ_cons, List.take_zero, List.drop_succ_cons, List.drop_zero]
       repeat still_step
       still_call (HBe.out.mono fun _ _ h => ⟨h.1, h.2.symm⟩)
       repeat still_step
       refine wpStill_nil ?_
       change wpList _ _ _ _ _ W3.drew
       refine wpList_append_lies _ rfl (.tmp 62) (.tmp 68) 22 rfl w5.heap.size 53 t0 (.agg Nd.zero.arr) 19 160 Tryz.underlying22 hi0' hz0 hz1 hz4 rfl (by decide) (.slice pv out.length cv) out.length (out.flatMap Nd.cells) rfl mr' ⟨b, off + x.1 * 19, none⟩ m (cap - x.1) ((zby L x.1).flatMap Nd.cells) ?_ ?_ ?_ ?_ ?_ ?_ ?_ ?_ _ rfl ?_
       · rfl
       · exact Hflat.out
       · exact Hnews.out
       · exact zax _
       · exact hm2.1
       · unfold maxLen; omega
       · omega
       · exact hz3'
       rintro g8 cap8 W4 hown8 hgrow8 _ hg8
       have hb4 : Below w5.heap.size W3 W4 := Below.grown (Below.refl _ _).drew hgrow8 hz3' (fun q hq => (mr'.lt q hq).1)
       have nZ : Boxed W4 Z 22 (.slice pv out.length cv) := (hb4.block Z (by omega)).trans mZ
       have n0 : Boxed W4 w.heap.size 22 (.slice (some ⟨b, off, none⟩) L.length cap) := (hb4.block _ (by omega)).trans m0
       have nS : Boxed W4 (Z + 1) 22 (.slice (some ⟨b, off, none⟩) L.length cap) := (hb4.block _ (by omega)).trans mS
       have n1 := (hb4.block (w.heap.size + 1) (by omega)).trans m1
       have cZ4 := nZ.cell
       have fZ4 := nZ.frozen
       have hko : KeepsOthers W3.drew W4 := KeepsOthers.of_grownBy hgrow8 (zcT mr')
       have hKo : KeepsOthers W (W4.setCell ⟨Z, 0, none⟩ (.slice (some ⟨g8, 0, none⟩) (out.length + m) cap8)) := ((hK23.trans (KeepsOthers.drew _)).trans hko).trans (KeepsOthers.setCell _ _ _)
       have hbW : Below w.heap.size W W4 := hbn3.trans (hb4.mono kB.size)
       have hF : KeepsOthers W (W4.setCell ⟨Z, 0, none⟩ (.slice (some ⟨g8, 0, none⟩) (out.length + m) cap8)) /\ KpI w.heap.size (Z + 1) W (W4.setCell ⟨Z, 0, none⟩ (.slice (some ⟨g8, 0, none⟩) (out.length + m) cap8)) /\ PrI w Z w5.heap.size (some ⟨b, off, none⟩) cap L g s (pre ++ [x]) (W4.setCell ⟨Z, 0, none⟩ (.slice (some ⟨g8, 0, none⟩) (out.length + m) cap8)) :=
        ⟨hKo, ⟨hbW.setCell (p := ⟨Z, 0, none⟩) (by simp only; omega) _, (Below.heap_setCell _ _ _ _ (by simp only; omega)).trans ((hb4.block _ (by omega)).trans hS3)⟩, ⟨⟨⟨n0.other (by omega) _, nS.other (by omega) _, (Below.heap_setCell _ _ _ _ (by simp only; omega)).trans n1, ⟨_, Boxed.set _ nZ, by rw [Ho2.out, List.length_append, hil, List.flatMap_append]; exact ownsRow_setCell_below hown8 (by simp only; omega) _, trivial⟩, fun y hy => by
         rcases List.mem_append.1 hy with h | h
         · exact i3 y h
         · rw [List.mem_singleton.1 h, Hn.out]; exact Hsol.out⟩, (hbE.trans (hb4.mono kB.size)).setCell (p := ⟨Z, 0, none⟩) (by simp only; omega) _⟩, by simpa using Nat.le_trans hz3' hb4.size⟩⟩
       have HF2 := zzh hF
       clear hF hKo hko hbW
       go_wp2_with fail
       refine zcL ?_
       gi_wp2
       exact HF2.out
      ·
       rw [hfal] at HF
       have Hfal := zzh hfal
       clear hfal
       gi_wp2
       refine ⟨trivial, (CallsIn.inRound l (callsIn_wide.2 HF.out)).mono ?_⟩
       clear HF xa2
       rintro e W3 ⟨rfl, hb3⟩
       have hb23 := hb2.trans (hb3.mono hb2.size)
       have ho : outP L ((pre ++ [x]).map (·.1)) = outP L (pre.map (·.1)) := by rw [show (pre ++ [x]).map (·.1) = pre.map (·.1) ++ [x.1] by simp, outP_snoc, Hn.out, Hfal.out]; rfl
       have hF : KeepsOthers W W3 /\ KpI w.heap.size (Z + 1) W W3 /\ PrI w Z w5.heap.size (some ⟨b, off, none⟩) cap L g s (pre ++ [x]) W3 :=
        ⟨zbk hb23, ⟨hb23.mono i5.size, hb23.block _ hiS⟩, ⟨⟨⟨(hb3.block _ j0.lt).trans j0, (hb3.block _ jS.lt).trans jS, (hb3.block _ (Array.getElem?_eq_some_iff.1 j1).1).trans j1, ⟨v, (hb3.block _ jZ.lt).trans jZ, by rw [ho]; exact zad jr hb3, trivial⟩, fun y hy => by
         rcases List.mem_append.1 hy with h | h
         · exact i3 y h
         · rw [List.mem_singleton.1 h, Hn.out]; exact Hsol.out⟩, i5.trans (hb23.mono i5.size)⟩, Nat.le_trans i6 hb23.size⟩⟩
       have HF2 := zzh hF
       clear hF ho
       gi_wp2
       exact HF2.out
     ·
      have Hsol1 := zzh hsol
      have xa2 := hN2.nth hx2
      rw [Hn.out] at xa2
      clear hsol
      have c1 : W2.cell? ⟨w.heap.size + 1, 0, none⟩ = some (.int .i64 g.nat) := by rw [cell?_blk' j1]; rfl
      have fG : W2.frozen? ⟨w.heap.size + 1, 0, none⟩ = false := frozen_zero j1
      have x4 : W2.cell? ⟨b, off + x.1 * 19 + 4, none⟩ = some (.int .i64 n.h) := zau xa2 4 (.int .i64 n.h) rfl
      obtain ⟨hh1, hh2⟩ := solid_h hrn Hsol1.out
      obtain ⟨hg1, hg2⟩ := Hgn.out
      have hwr : IntKind.i64.wrap (g.nat - n.h) = g.nat - n.h := Go.IntWalk.i64_in _ (by omega)
      have hte := top_if g.nat n.h
      have Hte := zzh hte
      clear hte xa2
      gi_wp2
      refine zbQ 10 (by kernel_rfl) (by kernel_rfl) (by kernel_rfl) ?_
      simp only [List.take_succ_cons, List.take_zero, List.drop_succ_cons, List.drop_zero]
      repeat still_step
      refine wpStill_nil ?_
      change wpList _ _ _ _ _ W2.drew
      rw [Hte.out]
      generalize (if n.h < g.nat then g.nat - n.h else 0) = q33
      obtain ⟨tn, htn⟩ : ∃ tn, min 1073741823 (max 0 (g.nat - n.h)) = tn := ⟨_, rfl⟩
      rw [htn]
      have Htn := zzh htn
      clear htn
      go_wp2_with fail
      refine zcL ?_
      have e1 : (W2.setCell ⟨w.heap.size + 1, 0, none⟩ (.int .i64 tn)).drew.heap[w.heap.size + 1]? = some (.cells ({ g with nat := tn } : Gl).arr 51 (0, 0)) := heap_setCell_same _ _ _ _ _ _ j1
      have eZ : Boxed (W2.setCell ⟨w.heap.size + 1, 0, none⟩ (.int .i64 tn)).drew Z 22 v := jZ.other (by omega) _
      have e0 : Boxed (W2.setCell ⟨w.heap.size + 1, 0, none⟩ (.int .i64 tn)).drew w.heap.size 22 (.slice (some ⟨b, off, none⟩) L.length cap) := j0.other (by omega) _
      have hb6 : Below w.heap.size w (W2.setCell ⟨w.heap.size + 1, 0, none⟩ (.int .i64 tn)).drew := ((i5.trans hbn).setCell (p := ⟨w.heap.size + 1, 0, none⟩) (by simp only; omega) _).drew
      have r6 : (W2.setCell ⟨w.heap.size + 1, 0, none⟩ (.int .i64 tn)).drew.ownsRow w5.heap.size 53 19 v (outP L (pre.map (·.1))).length ((outP L (pre.map (·.1))).flatMap Nd.cells) := zar (ownsRow_setCell_below jr (by simp only; omega) _) fun _ _ _ => rfl
      have hko6 : KeepsOthers W (W2.setCell ⟨w.heap.size + 1, 0, none⟩ (.int .i64 tn)).drew := ((zbk hb2).trans (KeepsOthers.setCell _ _ _)).trans (KeepsOthers.drew _)
      have hz6 : w5.heap.size <= (W2.setCell ⟨w.heap.size + 1, 0, none⟩ (.int .i64 tn)).drew.heap.size := by simpa using hz2
      have hol := outP_len L (pre.map (·.1))
      rw [List.length_map] at hol
      have hpl : pre.length * L.length <= 2000 * 2000 := Nat.mul_le_mul (by have := hs.len; omega) hl
      clear c0 c1 fG x4 hN2 hN hb2 hbn j0 jS jZ j1 jr i0 iS iv i1 ir i5 Hte hwr
      generalize (W2.setCell ⟨w.heap.size + 1, 0, none⟩ (.int .i64 tn)).drew = W6 at e1 eZ e0 hb6 r6 hko6 hz6 ⊢
      obtain ⟨out, ho⟩ : ∃ out, outP L (pre.map (·.1)) = out := ⟨_, rfl⟩
      rw [ho] at r6 hol
      have Ho := zzh ho
      clear ho
      obtain ⟨tg, htg⟩ : ∃ tg : Gl, ({ g with nat := tn } : Gl) = tg := ⟨_, rfl⟩
      rw [htg] at e1
      have hsk : topN g n.h = { Nd.zero with kind := 7, glue := tg, sub := 10 } := by unfold topN topNat; rw [Htn.out, htg]
      have Hsk := zzh hsk
      clear htg hsk
      have aG : agg? W6 (w.heap.size + 1) 0 5 = some tg.arr := by rw [agg?_blk' e1 0 5 (by simp [Gl.size_arr])]; simp [Gl.arr, Gl.cells]
      obtain ⟨t0, hi0', hz0, hz1, hz4⟩ := info_parts zbq
      have hone : Hid (∀ u ∈ ({ Nd.zero with kind := 7, glue := tg, sub := 10 } : Nd).cells, u.oneCell' = true) := zzh (by have := Nd.one { Nd.zero with kind := 7, glue := tg, sub := 10 }; simpa [Nd.arr] using this)
      have cZ6 := eZ.cell
      have c06 := e0.cell
      have E0 := zzh e0
      have EZ := zzh eZ
      clear e1 e0 eZ
      gi_upto_region 12 with (gi_at_builtin; refine zbC _ rfl _ _ _ rfl w5.heap.size 53 t0 (.agg Nd.zero.arr) 19 160 Tryz.underlying22 hi0' hz0 hz1 hz4 rfl (by decide) v out.length (out.flatMap Nd.cells) rfl (r6.alloc _) ⟨W6.heap.size, 0, none⟩ 1 1 ({ Nd.zero with kind := 7, glue := tg, sub := 10 } : Nd).cells rfl rfl (World.news_of_block (cs := ({ Nd.zero with kind := 7, glue := tg, sub := 10 } : Nd).arr) (heap_alloc_new _ _)) hone.out (by decide) (by unfold maxLen; omega) (by omega) (by simp; omega) _ rfl ?_; intro g8 cap8 w8 hown8 hgrow8 hat8 hlt8; (have hb8 : Below w5.heap.size W6 w8 := Below.grown ((Below.refl _ _).alloc hz6 _) hgrow8 (by simp; omega) (fun q hq => (r6.lt q hq).1)); (have nZ : Boxed w8 Z 22 v := (hb8.block Z (by omega)).trans EZ.out); (have n0 : Boxed w8 w.heap.size 22 (.slice (some ⟨b, off, none⟩) L.length cap) := (hb8.block w.heap.size (by omega)).trans E0.out); (have fZ8 := nZ.frozen); (have cZ8 := nZ.cell))
      have pZ : Boxed (w8.setCell ⟨Z, 0, none⟩ (.slice (some ⟨g8, 0, none⟩) (out.length + 1) cap8)) Z 22 (.slice (some ⟨g8, 0, none⟩) (out.length + 1) cap8) := Boxed.set _ nZ
      have p0' : Boxed (w8.setCell ⟨Z, 0, none⟩ (.slice (some ⟨g8, 0, none⟩) (out.length + 1) cap8)) w.heap.size 22 (.slice (some ⟨b, off, none⟩) L.length cap) := n0.other (by omega) _
      have r9 : (w8.setCell ⟨Z, 0, none⟩ (.slice (some ⟨g8, 0, none⟩) (out.length + 1) cap8)).ownsRow w5.heap.size 53 19 (.slice (some ⟨g8, 0, none⟩) (out.length + 1) cap8) (out.length + 1) (out.flatMap Nd.cells ++ ({ Nd.zero with kind := 7, glue := tg, sub := 10 } : Nd).cells) := ownsRow_setCell_below hown8 (by simp only; omega) _
      have hb9 : Below w.heap.size w (w8.setCell ⟨Z, 0, none⟩ (.slice (some ⟨g8, 0, none⟩) (out.length + 1) cap8)) := (hb6.trans (hb8.mono kB.size)).setCell (p := ⟨Z, 0, none⟩) (by simp only; omega) _
      have hko9 : KeepsOthers W (w8.setCell ⟨Z, 0, none⟩ (.slice (some ⟨g8, 0, none⟩) (out.length + 1) cap8)) := ((hko6.trans (KeepsOthers.alloc _ _)).trans (KeepsOthers.of_grownBy hgrow8 (zcT (r6.alloc _)))).trans (KeepsOthers.setCell _ _ _)
      have hz9 : w5.heap.size <= (w8.setCell ⟨Z, 0, none⟩ (.slice (some ⟨g8, 0, none⟩) (out.length + 1) cap8)).heap.size := by simpa using Nat.le_trans hz6 hb8.size
      clear nZ n0 fZ8 cZ8 hown8 hgrow8 hat8 hlt8 hb8 cZ6 c06 aG r6 hb6 hko6 hz6 E0 EZ hone
      generalize w8.setCell ⟨Z, 0, none⟩ (.slice (some ⟨g8, 0, none⟩) (out.length + 1) cap8) = W9 at pZ p0' r9 hb9 hko9 hz9 ⊢
      have hN9 := HN.out.below hb9
      have hN9d : NIn W9.drew (some ⟨b, off, none⟩) b off cap L := ⟨hN9.hp, hN9.hb, hN9.nd, hN9.cap', hN9.len⟩
      have r9d : W9.drew.ownsRow w5.heap.size 53 19 (.slice (some ⟨g8, 0, none⟩) (out.length + 1) cap8) (out.length + 1) (out.flatMap Nd.cells ++ ({ Nd.zero with kind := 7, glue := tg, sub := 10 } : Nd).cells) := zar r9 fun _ _ _ => rfl
      have hcapL := hN9.cap'
      have Hnews := zzh (hN9d.drop x.1 (Nat.le_of_lt hx2)).news
      have hkc : (x.1 : Int) <= (L.length : Int) := by omega
      have hkc2 : (L.length : Int) <= (cap : Int) := by omega
      have hdl : (L.drop x.1).length = L.length - x.1 := by simp
      have Hdl := zzh hdl
      have hpos : 0 < L.length - x.1 := by omega
      have hck : ¬ cap = x.1 := by omega
      have cZ9 := pZ.cell
      have c09 := p0'.cell
      have P0 := zzh p0'
      have PZ := zzh pZ
      clear hdl hN9 hN9d p0' pZ r9
      gi_wp2
      refine zbQ 4 (by kernel_rfl) (by kernel_rfl) (by kernel_rfl) ?_
      simp only [List.take_succ_cons, List.take_zero, List.drop_succ_cons, List.drop_zero]
      repeat still_step
      refine wpStill_nil ?_
      change wpList _ _ _ _ _ W9.drew
      refine wpList_append_lies _ rfl (.tmp 51) (.tmp 54) 22 rfl w5.heap.size 53 t0 (.agg Nd.zero.arr) 19 160 Tryz.underlying22 hi0' hz0 hz1 hz4 rfl (by decide) (.slice (some ⟨g8, 0, none⟩) (out.length + 1) cap8) (out.length + 1) _ rfl r9d ⟨b, off + x.1 * 19, none⟩ (L.length - x.1) (cap - x.1) ((L.drop x.1).flatMap Nd.cells) ?_ ?_ ?_ ?_ ?_ ?_ ?_ ?_ _ rfl ?_
      · rfl
      · rw [zaA, Hdl.out]
      · exact Hnews.out
      · exact zax _
      · exact hpos
      · unfold maxLen; omega
      · omega
      · exact hz9
      rintro g9 cap9 w10 hown9 hgrow9 _ hg9
      have hb10 : Below w5.heap.size W9 w10 := Below.grown (Below.refl _ _).drew hgrow9 hz9 (fun q hq => (r9d.lt q hq).1)
      have qZ : Boxed w10 Z 22 (.slice (some ⟨g8, 0, none⟩) (out.length + 1) cap8) := (hb10.block Z (by omega)).trans PZ.out
      have cZ10 := qZ.cell
      have fZ10 := qZ.frozen
      have hko10 : KeepsOthers W9.drew w10 := KeepsOthers.of_grownBy hgrow9 (zcT r9d)
      have hKo : KeepsOthers W (w10.setCell ⟨Z, 0, none⟩ (.slice (some ⟨g9, 0, none⟩) (out.length + 1 + (L.length - x.1)) cap9)) := ((hko9.trans (KeepsOthers.drew _)).trans hko10).trans (KeepsOthers.setCell _ _ _)
      have hlen2 : (outP L (pre.map (·.1)) ++ topN g (nth L x.1).h :: L.drop x.1).length = out.length + 1 + (L.length - x.1) := by rw [Ho.out, List.length_append, List.length_cons, Hdl.out]; omega
      have hfl2 : (outP L (pre.map (·.1)) ++ topN g (nth L x.1).h :: L.drop x.1).flatMap Nd.cells = out.flatMap Nd.cells ++ ({ Nd.zero with kind := 7, glue := tg, sub := 10 } : Nd).cells ++ (L.drop x.1).flatMap Nd.cells := by rw [Ho.out, Hn.out, Hsk.out, List.flatMap_append, List.flatMap_cons, List.append_assoc]
      have hF : KeepsOthers W (w10.setCell ⟨Z, 0, none⟩ (.slice (some ⟨g9, 0, none⟩) (out.length + 1 + (L.length - x.1)) cap9)) /\ PrX w Z w5.heap.size L g s 0 (.exit 0) (pre ++ [x]) (w10.setCell ⟨Z, 0, none⟩ (.slice (some ⟨g9, 0, none⟩) (out.length + 1 + (L.length - x.1)) cap9)) :=
       ⟨hKo, ⟨rfl, pre, x, rfl, i3, by rw [Hn.out]; exact Hsol1.out, _, Boxed.set _ qZ, by rw [hlen2, hfl2]; exact ownsRow_setCell_below hown9 (by simp only; omega) _⟩, (hb9.trans (hb10.mono kB.size)).setCell (p := ⟨Z, 0, none⟩) (by simp only; omega) _⟩
      have HF2 := zzh hF
      clear hF hKo hko10 hlen2 hfl2
      go_wp2_with fail
      refine zcL ?_
      gi_wp2
      exact HF2.out
    case done =>
     rintro D ys W hD hys ⟨⟨⟨_, _, _, ⟨v, iv, ir, _⟩, i3⟩, i5⟩, _⟩ hK
     rw [hys] at ir
     have hR : zbU L g s [] = outP L s := by
      have h1 := prunF_pre L g s [] [] (fun y hy => by rw [<- hys] at hy; obtain ⟨z, hz, rfl⟩ := List.mem_map.1 hy; exact i3 z hz)
      rw [List.append_nil] at h1
      exact h1
     generalize outP L s = R at ir hR
     have HR := zzh hR
     clear hR i3
     obtain ⟨p, c2, rfl⟩ := zaf ir
     have cv := iv.cell
     have hb9 : Below w.heap.size w (W.putObj D (.deferred none)) := i5.trans (belowK_b (w := w) (Nat.le_refl _) W D _ _ (by have := kB.size; omega) hK rfl rfl)
     have hrow9 : NRow w (.slice p R.length c2) R (W.putObj D (.deferred none)) := zas (ownsRow_putObj ir _ hK rfl) kB.size
     have Hrow := zzh hrow9
     have Hb9 := zzh hb9
     clear hrow9 hb9 ir i5
     by_cases hbig : 2000 < R.length
     ·
      have hbg : (2000 : Int) < (R.length : Int) := by omega
      have Hc2 := zzh (show zca L s g = 6 by rw [Hc.out, HR.out, if_pos hbig])
      clear hbig
      gi_wp2
      refine ⟨by simp, .inl ⟨_, _, rfl, run_takeDeferred hK, ?_⟩⟩
      exact ⟨_, results_tmp2 rfl _ _ _, ⟨.slice none 0 0, by rw [Hc2.out]; rfl, fun h => absurd (Hc2.out.symm.trans h) (by decide), fun _ => rfl⟩, Hb9.out⟩
     ·
      have hbg : (R.length : Int) <= (2000 : Int) := by omega
      have Hc2 := zzh (show zca L s g = 0 by rw [Hc.out, HR.out, if_neg hbig])
      clear hbig
      gi_wp2
      refine ⟨by simp, .inl ⟨_, _, rfl, run_takeDeferred hK, ?_⟩⟩
      exact ⟨_, results_tmp2 rfl _ _ _, ⟨_, by rw [Hc2.out]; rfl, fun _ => by rw [HR.out]; exact Hrow.out, fun h => absurd Hc2.out h⟩, Hb9.out⟩
    case stop =>
     rintro D c pre W hD hp ⟨⟨rfl, pr, x, rfl, i3, i4, v, iv, ir⟩, i5⟩ hK
     have hR : zbU L g s [] = outP L (pr.map (·.1)) ++ topN g (nth L x.1).h :: L.drop x.1 := by
      obtain ⟨rest, hrest⟩ := hp
      have e : s = pr.map (·.1) ++ (x.1 :: rest) := hrest.symm.trans (by simp)
      have h1 := prunF_pre L g (pr.map (·.1)) (x.1 :: rest) [] (fun y hy => by obtain ⟨z, hz, rfl⟩ := List.mem_map.1 hy; exact i3 z hz)
      refine (congrArg (fun l => zbU L g l []) e).trans (h1.trans ?_)
      show (if zaq (nth L x.1).kind then _ else _) = _
      rw [i4]; rfl
     generalize outP L (pr.map (·.1)) ++ topN g (nth L x.1).h :: L.drop x.1 = R at ir hR
     have HR := zzh hR
     clear hR i3 i4 hp
     obtain ⟨p, c2, rfl⟩ := zaf ir
     have cv := iv.cell
     have hb9 : Below w.heap.size w (W.putObj D (.deferred none)) := i5.trans (belowK_b (w := w) (Nat.le_refl _) W D _ _ (by have := kB.size; omega) hK rfl rfl)
     have hrow9 : NRow w (.slice p R.length c2) R (W.putObj D (.deferred none)) := zas (ownsRow_putObj ir _ hK rfl) kB.size
     have Hrow := zzh hrow9
     have Hb9 := zzh hb9
     clear hrow9 hb9 ir i5
     by_cases hbig : 2000 < R.length
     ·
      have hbg : (2000 : Int) < (R.length : Int) := by omega
      have Hc2 := zzh (show zca L s g = 6 by rw [Hc.out, HR.out, if_pos hbig])
      clear hbig
      gi_wp2
      refine ⟨by simp, .inl ⟨_, _, rfl, run_takeDeferred hK, ?_⟩⟩
      exact ⟨_, results_tmp2 rfl _ _ _, ⟨.slice none 0 0, by rw [Hc2.out]; rfl, fun h => absurd (Hc2.out.symm.trans h) (by decide), fun _ => rfl⟩, Hb9.out⟩
     ·
      have hbg : (R.length : Int) <= (2000 : Int) := by omega
      have Hc2 := zzh (show zca L s g = 0 by rw [Hc.out, HR.out, if_neg hbig])
      clear hbig
      gi_wp2
      refine ⟨by simp, .inl ⟨_, _, rfl, run_takeDeferred hK, ?_⟩⟩
      exact ⟨_, results_tmp2 rfl _ _ _, ⟨_, by rw [Hc2.out]; rfl, fun _ => by rw [HR.out]; exact Hrow.out, fun h => absurd Hc2.out h⟩, Hb9.out⟩
 ·
  have hck' : ((colP L s : Int) != 0) = true := by simpa using hck
  have Hc := zzh (show zca L s g = colP L s by unfold zca; rw [if_neg hck])
  have Hck := zzh hck
  clear hck
  gi_wp2
  refine ⟨_, results_tmp2 rfl _ _ _, ⟨.slice none 0 0, by rw [Hc.out]; rfl, fun h => absurd (Hc.out.symm.trans h) Hck.out, fun _ => rfl⟩, hbw⟩
end
end Go.Proofs.YtaehkbbdmamfpaaGreatDoor
