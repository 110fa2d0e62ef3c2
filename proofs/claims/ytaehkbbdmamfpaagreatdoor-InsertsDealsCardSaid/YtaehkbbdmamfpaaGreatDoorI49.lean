/-
  Inserts, the document's side: the account of a page (Account) is the program's. No statement of the seat stands here.
-/
import Derived.Test.YtaehkbbdmamfpaaGreatDoorS10
import Derived.Test.YtaehkbbdmamfpaaGreatDoorJ1
import Derived.Test.YtaehkbbdmamfpaaGreatDoorI11
import Derived.Test.YtaehkbbdmamfpaaGreatDoorI13
import Derived.Test.YtaehkbbdmamfpaaGreatDoorI45
set_option maxRecDepth 100000
set_option maxHeartbeats 16000000
namespace Go.Proofs.YtaehkbbdmamfpaaGreatDoor
open Go.ChangeShapes Go.WideShapes Go.ChangeAt Go.RowKit
section
attribute [local go_sem ↓] Go.wp_at_zero Go.wp_at_succ
def bsQSp1 (parts : Array (Nat × Value)) : Sem Value := Instr.buildSlice 82 1 parts
@[go_sem ↓] theorem execOp_bsQSp1 (ρ : Operand -> Value) (dst : Option Tmp) (x : Array (Nat × Operand)) (ty : TypeId) (pos : String) (after : Array Edge) (guard : Option (Nat × Bool)) :
 execOp ρ { dst, op := .buildSlice 82 1 x, type := ty, pos, after, guard } = (do pure (.value (<- bsQSp1 (x.map fun (i, y) => (i, ρ y))))) := rfl
theorem info_qspb : (Tryz.prog.info? 85).map (fun i => (i.zero, i.size, i.bytes)) = some (some (.agg Sp.zero.arr), 7, 56) := by kernel_rfl
theorem info_qsp0 : (Tryz.prog.info? 85).map (fun i => (i.zero, i.size)) = some (some (.agg Sp.zero.arr), 7) := by kernel_rfl
@[go_sem] theorem run_bsQSp1 (n : Sp) (w : World) : (bsQSp1 #[(0, .agg n.arr)]).run Tryz.prog w = .ok (.slice (some ⟨w.heap.size, 0, none⟩) 1 1) (w.alloc (.cells n.arr 85)) := by
 obtain ⟨i, hi, hzz⟩ := Option.map_eq_some_iff.1 info_qsp0
 simp only [Prod.mk.injEq] at hzz
 obtain ⟨hz, hs⟩ := hzz
 refine run_buildSlice w _ 85 1 _ n.arr i (.agg Sp.zero.arr) Tryz.underlying82 hi hz (by rw [hs]; decide) (by rw [hs]; decide) ?_
 rw [hs]
 exact fill_sp1 n
def bdBk (parts : Array (Nat × Value)) : Sem Value := Instr.build 131 parts
@[go_sem ↓] theorem execOp_buildBk (ρ : Operand -> Value) (dst : Option Tmp) (x : Array (Nat × Operand)) (ty : TypeId) (pos : String) (after : Array Edge) (guard : Option (Nat × Bool)) :
 execOp ρ { dst, op := .build 131 x, type := ty, pos, after, guard } = (do pure (.value (<- bdBk (x.map fun (i, y) => (i, ρ y))))) := rfl
@[go_sem] theorem run_bdBk (g d : Int) (w : World) : (bdBk #[(0, .int .i64 g), (2, .int .i64 d)]).run Tryz.prog w = .ok (.agg (bookA g d)) w := by kernel_rfl
theorem IIn.grown {w w' : World} {p : Option Addr} {g c : Nat} {s : List Nat} {r : Option Nat} (h : IIn w p g c s) (hg : w.grownBy w' r) (hne : s ≠ [] -> r ≠ some g) : IIn w' p g c s := by
 refine ⟨h.hp, fun e => Nat.lt_of_lt_of_le (h.hg e) hg.size, fun i hi => ?_⟩
 have he : s ≠ [] := by intro e; rw [e] at hi; simp at hi
 exact (World.cell?_of_block (a := ⟨g, i, none⟩) (hg.block g (h.hg he) (fun e => hne he e.symm))).trans (h.at_ i hi)
structure QAccPost (w : World) (r : List Sp × Tt × Int) (e : Ending) (w' : World) : Prop where
 out : ∃ v, e = .returned (.tuple #[v, .agg r.2.1.arr, .int .i64 r.2.2]) /\ w'.ownsRow w.heap.size 85 7 v r.1.length (r.1.flatMap Sp.cells)
 below : Below w.heap.size w w'
theorem bkR_new (g d : Int) : BkR (Bks.new g d) ⟨g, 0, [], .zero⟩ (metF ⟨g, 0, [], .zero⟩) := ⟨rfl, rfl, rfl, fun _ _ => rfl, fun _ _ => rfl, fun _ _ => rfl⟩
theorem qaccount (p0 : Option Addr) (b off cap : Nat) (L : List Nd) (pc : Option Addr) (bc oc cc : Nat) (C : List Cl) (goal depth : Int) (w : World) (hN : NIn w p0 b off cap L) (hC : CIn w pc bc oc cc C) :
 Calls Tryz.prog 36 #[.slice p0 L.length cap, .slice pc C.length cc, .int .i64 goal, .int .i64 depth] w (QAccPost w (accR L C goal depth)) := by
 have hl := hN.len
 have hb1 : Below w.heap.size w (w.alloc (.cells (Tt.mk 0 0 0 0 0 0 0 0 0).arr 43)) := (Below.refl _ _).alloc (Nat.le_refl _) _
 have dR : TAt (w.alloc (.cells (Tt.mk 0 0 0 0 0 0 0 0 0).arr 43)) w.heap.size ⟨0, 0, 0, 0, 0, 0, 0, 0, 0⟩ := heap_alloc_new _ _
 have HCk := zzh (qwrong p0 b off cap L pc bc oc cc C _ (hN.below hb1) (hC.below hb1))
 have H := zzh (And.intro hN hC)
 have Hb1 := zzh hb1
 have HdR := zzh dR
 clear hN hC hb1 dR
 obtain ⟨R, hR⟩ : ∃ R, w.heap.size = R := ⟨_, rfl⟩
 have HR := zzh hR
 obtain ⟨E, hE⟩ : ∃ E, accE L C = E := ⟨_, rfl⟩
 rw [hE] at HCk
 have HE := zzh hE
 rw [hR] at HdR
 clear hE
 go_enter Tryz.func36, Tryz.ntmps36
 go_upto_region 1 with (fail)
 clear hR
 generalize w.alloc (.cells (Tt.mk 0 0 0 0 0 0 0 0 0).arr 43) = w1 at HCk Hb1 HdR ⊢
 go_upto_region 2 with (go_at_call 33; refine HCk.out.mono ?_; clear HCk; rintro e w2 ⟨rfl, hb2⟩)
 have hT2 : TAt w2 R ⟨0, 0, 0, 0, 0, 0, 0, 0, 0⟩ := (hb2.block R HdR.out.lt).trans HdR.out
 have Hb2 := zzh (Hb1.out.trans (hb2.mono Hb1.out.size))
 have th := hT2.there
 have HT2 := zzh hT2
 clear hb2 Hb1 HdR hT2
 have HBad : Hid (∀ q : Int, accR L C goal depth = ([], .zero, q) -> QAccPost w (accR L C goal depth) (.returned (.tuple #[.slice none 0 0, .agg Tt.zero.arr, .int .i64 q])) (setAgg w2 R 0 Tt.zero.arr)) := zzh fun q h => by
  rw [h]
  exact ⟨⟨_, rfl, World.ownsRow_nil _ _ _ _⟩, Below.setAgg Hb2.out (by rw [HR.out]; exact Nat.le_refl _) _ _⟩
 by_cases h0 : E = 0
 case neg =>
  have h0' : (E != 0) = true := by simpa using h0
  have h0'' : (E == 0) = false := by simpa using h0
  have hv := zzh (show accR L C goal depth = ([], .zero, E) by unfold accR; rw [if_neg (by rw [HE.out]; exact h0), HE.out])
  clear h0
  go_wp2_with fail
  refine ⟨rfl, _, zbx rfl _ _ R _ rfl (HT2.out.store (U := .zero)).agg, ?_⟩
  exact HBad.out _ hv.out
 subst h0
 have HG := zzh (qdimen_any goal w2)
 have HD := zzh (qdimen_any depth w2)
 obtain ⟨dg, hdg⟩ : ∃ dg, zac goal = dg := ⟨_, rfl⟩
 obtain ⟨dd, hdd⟩ : ∃ dd, zac depth = dd := ⟨_, rfl⟩
 rw [hdg] at HG
 rw [hdd] at HD
 have hac : accR L C goal depth = if dg && dd then ((accF L C goal depth (itsP L)).2, (accF L C goal depth (itsP L)).1.t, 0) else ([], .zero, 11) := by unfold accR; rw [if_pos HE.out, hdg, hdd]
 have Hdg := zzh (And.intro hdg hdd)
 clear hdg hdd
 cases dg
 ·
  have hv := zzh (show accR L C goal depth = ([], .zero, 11) by rw [hac]; rfl)
  clear hac
  go_wp2_with (go_at_call 35; refine HG.out.mono ?_; rintro e w' ⟨rfl, rfl⟩)
  refine ⟨rfl, _, zbx rfl _ _ R _ rfl (HT2.out.store (U := .zero)).agg, ?_⟩
  exact HBad.out _ hv.out
 cases dd
 ·
  have hv := zzh (show accR L C goal depth = ([], .zero, 11) by rw [hac]; rfl)
  clear hac
  go_wp2_with (first | (go_at_call_has 35 goal; refine HG.out.mono ?_; rintro e w' ⟨rfl, rfl⟩) | (go_at_call_has 35 depth; refine HD.out.mono ?_; rintro e w' ⟨rfl, rfl⟩))
  refine ⟨rfl, _, zbx rfl _ _ R _ rfl (HT2.out.store (U := .zero)).agg, ?_⟩
  exact HBad.out _ hv.out
 rw [Bool.true_and, if_pos rfl] at hac
 have hok := accE_ok HE.out
 have hck := zam hok.col
 have hs := zaO hck
 have hll := (zaj hck).1
 have hrun := (check_run.1 hck).2
 obtain ⟨s, hss⟩ : ∃ s, itsP L = s := ⟨_, rfl⟩
 rw [hss] at hac hs
 have hk6 : ∀ x ∈ s, (nth L x).kind ≠ 6 := fun x hx => zcF hrun (by rw [hss]; exact hx)
 have HSt : Hid (∀ W, Below w.heap.size w W -> Calls Tryz.prog 21 #[.slice p0 L.length cap] W fun e w' => (∃ v, e = .returned v /\ IRow W v s w') /\ Below W.heap.size W w') := zzh fun W h => zdb p0 b off cap L s W (H.out.1.below h) hs hk6
 have Hac := zzh hac
 have Hok := zzh (And.intro hok (And.intro hck (And.intro hs (And.intro hss hk6))))
 have hsl := hs.len
 have hsl2 : s.length <= 2000 := by omega
 clear hac hok hck hs HBad th hrun hss hk6
 go_upto_region 7 with (first | (go_at_call_has 35 goal; refine HG.out.mono ?_; clear HG; rintro e w' ⟨rfl, rfl⟩) | (go_at_call_has 35 depth; refine HD.out.mono ?_; clear HD; rintro e w' ⟨rfl, rfl⟩))
 obtain ⟨N, hNN⟩ : ∃ N, w2.heap.size = N := ⟨_, rfl⟩
 have hRN : R < N := by rw [<- hNN]; exact HT2.out.lt
 have hwN : w.heap.size <= N := by rw [<- hNN]; exact Hb2.out.size
 have hba : Below w2.heap.size w2 (w2.alloc (.cells (bookA goal depth) 131)) := (Below.refl _ _).alloc (Nat.le_refl _) _
 have hBk := book_new w2 goal depth
 have hT3 : TAt (w2.alloc (.cells (bookA goal depth) 131)) R ⟨0, 0, 0, 0, 0, 0, 0, 0, 0⟩ := (hba.block R HT2.out.lt).trans HT2.out
 have hb3 := Hb2.out.trans (hba.mono Hb2.out.size)
 rw [hNN] at hBk ⊢
 clear hNN hba Hb2 HT2
 generalize w2.alloc (.cells (bookA goal depth) 131) = w3 at hBk hT3 hb3 ⊢
 have H3 := zzh (And.intro hBk (And.intro hT3 hb3))
 clear hBk hT3 hb3
 go_upto_region 9 with (go_at_call 21; refine (HSt.out _ H3.out.2.2).mono ?_; clear HSt; rintro e w4 ⟨⟨v, rfl, hrow⟩, hb4⟩)
 obtain ⟨p, gi, c, rfl, hII⟩ := zcG hrow
 have hgi : s ≠ [] -> gi ≠ N := fun e => by
  have h1 := (hrow.lt gi (by rw [hII.hp e]; rfl)).1
  have h2 := H3.out.1.lt
  omega
 have hBk4 := H3.out.1.below hb4
 have hT4 : TAt w4 R ⟨0, 0, 0, 0, 0, 0, 0, 0, 0⟩ := (hb4.block R H3.out.2.1.lt).trans H3.out.2.1
 have hb34 := H3.out.2.2.trans (hb4.mono H3.out.2.2.size)
 obtain ⟨B0, hB0⟩ : ∃ B0, w4.heap.size = B0 := ⟨_, rfl⟩
 have hNB : N < B0 := by rw [<- hB0]; exact hBk4.lt
 have hRB : R < B0 := by omega
 have hgB : s ≠ [] -> gi < B0 := fun e => by rw [<- hB0]; exact hII.hg e
 have H4 := zzh (And.intro hBk4 (And.intro hT4 (And.intro hb34 (And.intro hII (by omega : B0 <= w4.heap.size)))))
 have HgB := zzh (And.intro hgi hgB)
 clear hrow hb4 hBk4 hT4 hb34 hII H3 hB0 hgi hgB
 go_wp2_with fail
 go_loopg [13, 15] (s.length + 1) (fun gg t13 t15 wr => ∃ (i k : Nat) (st : As) (s' : Bks) (sps : List Sp), gg = s.length + 1 - i /\ i <= s.length /\ t15 = .int .i64 i /\ Items L k (s.drop i) /\ accF L C goal depth (s.take i) = (st, sps) /\ BkR s' st (metF st) /\ s'.depth = depth /\ BkAt wr N s' /\ wr.ownsRow B0 85 7 t13 sps.length (sps.flatMap Sp.cells) /\ TAt wr R ⟨0, 0, 0, 0, 0, 0, 0, 0, 0⟩ /\ Below w.heap.size w wr /\ IIn wr p gi c s /\ B0 <= wr.heap.size)
 case atStart => exact ⟨0, 0, _, _, [], rfl, Nat.zero_le _, rfl, by rw [List.drop_zero]; exact Hok.out.2.2.1, rfl, bkR_new goal depth, rfl, H4.out.1, World.ownsRow_nil _ _ _ _, H4.out.2.1, H4.out.2.2.1, H4.out.2.2.2.1, H4.out.2.2.2.2⟩
 case round =>
  obtain ⟨i, k, st, s', sps, rfl, hi, rfl, hit, haf, hbr, hsd, hbk, hrow, hT, hb, hII, hz⟩ := hrel
  have hi1 : (0 : Int) <= (i : Int) := by omega
  by_cases hin : i < s.length
  ·
   have hi2 : (i : Int) < (s.length : Int) := by omega
   have cI := hII.at_ i hin
   have hne : s ≠ [] := by intro e; rw [e] at hin; simp at hin
   obtain rfl := hII.hp hne
   have hgi := HgB.out.1 hne
   have hgB := HgB.out.2 hne
   have hdr := List.drop_eq_getElem_cons hin
   rw [hdr] at hit
   have hmem : s[i] ∈ s := List.getElem_mem hin
   have htk : s.take (i + 1) = s.take i ++ [s[i]] := List.take_succ_eq_append_getElem hin
   obtain ⟨x, hx⟩ : ∃ x, s[i] = x := ⟨_, rfl⟩
   rw [hx] at cI hit hmem htk
   have Hx := zzh (show s[i]? = some x by rw [List.getElem?_eq_getElem hin, hx])
   clear hx hdr
   cases hit with
   | step hxl hm hs2 =>
    rename_i m
    have hN2 := H.out.1.below hb
    have xa : wr.cell? ⟨b, off + k * 19, none⟩ = some (.int .i64 (nth L k).kind) := zau (hN2.nth hxl) 0 _ rfl
    obtain rfl := hN2.at_ hxl
    have hx1 : (0 : Int) <= (k : Int) := by omega
    have hx2 : (k : Int) < (L.length : Int) := by omega
    have hmem2 : k ∈ itsP L := by rw [Hok.out.2.2.2.1]; exact hmem
    have hsn := accF_snoc L C goal depth (s.take i) k
    rw [haf, <- htk] at hsn
    have Hin := zzh hin
    have HS2 := zzh hs2
    by_cases hk13 : (nth L k).kind = 13
    case neg =>
     have hk' : ((nth L k).kind == 13) = false := by simpa using hk13
     have Hsn := zzh (hsn.trans (by unfold addI; rw [if_neg hk13]))
     have HI := zzh (And.intro hbr (And.intro hsd (And.intro hbk (And.intro hrow (And.intro hT (And.intro hb (And.intro hII hz)))))))
     generalize (nth L k).kind = kk at xa hk'
     clear hs2 hb hmem hmem2 hm hN2 hk13 hbk hrow hT hz hsn haf hbr hsd hII hin htk
     go_wp2_with fail
     go_roundg (s.length + 1 - (i + 1))
     case measure => have := Hin.out; omega
     case rel => exact ⟨i + 1, k + m, st, s', sps, rfl, Hin.out, by go_num, HS2.out, Hsn.out, HI.out⟩
    have hsb : StB 562951027163136000 st := by
     have := accF_bound Hok.out.1 Hdg.out.1 (s.take i) (goal := goal) (depth := depth) (fun y hy => by rw [Hok.out.2.2.2.1]; exact List.mem_of_mem_take hy)
     rw [haf] at this
     refine this.mono ?_
     have : (s.take i).length <= 2000 := by rw [List.length_take]; omega
     omega
    have hln : sps.length <= 2000 := by
     have h1 := accF_len L C goal depth (s.take i)
     rw [haf] at h1
     simp only [List.length_take] at h1
     omega
    have hbN : b ≠ N := by have := H.out.1.lt hxl; omega
    have hSt := qone N s' st hbr hsb b off cap L pc bc oc cc C depth hsd Hdg.out.2 Hok.out.1 k hmem2 hk13 wr hN2 (H.out.2.below hb) hbN (fun e => by have := H.out.2.hb e; omega) hbk
    have hsn2 := hsn.trans (show addI L C depth (st, sps) k = ((zbp L C depth st k).1, sps ++ [(zbp L C depth st k).2]) by unfold addI; rw [if_pos hk13])
    obtain ⟨st2, sp2, he2⟩ : ∃ st2 sp2, zbp L C depth st k = (st2, sp2) := ⟨_, _, rfl⟩
    rw [he2] at hSt hsn2
    have HSt := zzh hSt
    have Hsn := zzh hsn2
    rw [hk13] at xa
    have Hrow := zzh hrow
    have HI := zzh (And.intro hT (And.intro hb (And.intro hII hz)))
    clear hs2 hb hmem hmem2 hm hN2 hk13 hbk hrow hT hz hsn haf hbr hsd hII hin htk hSt hsn2 he2 hsb
    go_upto_region 13 with (fail)
    go_upto_region 14 with (go_at_call 67; refine HSt.out.mono ?_; clear HSt; rintro e w5 ⟨rfl, ⟨s2, hbr2, hsd2, hbk2⟩, hg5⟩)
    have hrow5 := zar Hrow.out (fun g hg hlt => hg5.block g hlt (by intro e; cases e; have := (Hrow.out.lt N hg).1; omega))
    have hII5 := HI.out.2.2.1.grown hg5 (fun _ e => hgi (by cases e; rfl))
    have hT5 : TAt w5 R ⟨0, 0, 0, 0, 0, 0, 0, 0, 0⟩ := (hg5.block R HI.out.1.lt (by intro e; cases e; omega)).trans HI.out.1
    have hb5 : Below w.heap.size w w5 := HI.out.2.1.trans ⟨hg5.os, hg5.tape, hg5.output, hg5.size, fun q hq => hg5.block q (by have := HI.out.2.1.size; omega) (by intro e; cases e; omega)⟩
    have hz5 := Nat.le_trans HI.out.2.2.2 hg5.size
    have hba : Below w5.heap.size w5 (w5.alloc (.cells sp2.arr 85)) := (Below.refl _ _).alloc (Nat.le_refl _) _
    have hbr5 := hrow5
    have h6 := And.intro (hbk2.below hba) (And.intro (zad hrow5 hba) (And.intro (hII5.below hba) (And.intro ((hba.block R hT5.lt).trans hT5 : TAt _ R ⟨0, 0, 0, 0, 0, 0, 0, 0, 0⟩) (And.intro (hb5.trans (hba.mono hb5.size)) (Nat.le_trans hz5 hba.size)))))
    have hX6 := heap_alloc_new w5 (.cells sp2.arr 85)
    obtain ⟨X, hX⟩ : ∃ X, w5.heap.size = X := ⟨_, rfl⟩
    rw [hX] at hX6 ⊢
    have H6 := zzh h6
    have Hb2 := zzh (And.intro hbr2 hsd2)
    clear hrow5 hII5 hT5 hb5 hz5 hba hbr5 h6 hg5 hbk2 HI Hrow hX hbr2 hsd2
    generalize w5.alloc (.cells sp2.arr 85) = w6 at hX6 H6 ⊢
    have aX := agg_sp (show Blk w6 X sp2.arr 85 from hX6)
    obtain ⟨i0, hi0', hz0, hz1, hz2'⟩ := info_parts info_qspb
    have H1 := zzh (sps_one sp2)
    have hba : Below w6.heap.size w6 (w6.alloc (.cells sp2.arr 85)) := (Below.refl _ _).alloc (Nat.le_refl _) _
    have Hba := zzh hba
    have HRow := zzh (zad H6.out.2.1 hba)
    have hB7 : B0 <= (w6.alloc (.cells sp2.arr 85)).heap.size := Nat.le_trans H6.out.2.2.2.2.2 hba.size
    clear hX6 hba
    go_wp2_with (at_builtin; refine zah _ rfl _ _ _ rfl B0 85 i0 (.agg Sp.zero.arr) 7 56 Tryz.underlying82 hi0' hz0 hz1 hz2' rfl (by decide) u13 sps.length (sps.flatMap Sp.cells) rfl HRow.out ⟨w6.heap.size, 0, none⟩ 1 1 sp2.cells rfl rfl (World.news_of_block (cs := sp2.arr) (heap_alloc_new _ _)) H1.out (by unfold maxLen; omega) (by omega) hB7 ?_; intro v8 w8 hown8 hgrow8 hat8)
    have hown : ∀ q, u13.ownBlock = some q -> B0 <= q := fun q hq => (HRow.out.lt q hq).1
    have hgr : w6.grownBy w8 u13.ownBlock := grown_t (zde Hba.out _) hgrow8
    have hbk8 : BkAt w8 N s2 := by
     obtain ⟨cc, h1, h2, h3⟩ := H6.out.1.out
     exact ⟨cc, (hgr.block N h1.lt (by intro e; have := hown N e.symm; omega)).trans h1, h2, h3⟩
    have hII8 := H6.out.2.2.1.grown hgr (fun _ e => by have := hown gi e; omega)
    have hT8 : TAt w8 R ⟨0, 0, 0, 0, 0, 0, 0, 0, 0⟩ := (hgr.block R (Array.getElem?_eq_some_iff.1 H6.out.2.2.2.1).1 (by intro e; have := hown R e.symm; omega)).trans H6.out.2.2.2.1
    have hb8 : Below w.heap.size w w8 := H6.out.2.2.2.2.1.grown hgr H6.out.2.2.2.2.1.size (fun q hq => by have := hown q hq; omega)
    go_roundg (s.length + 1 - (i + 1))
    case measure => have := Hin.out; omega
    case rel => exact ⟨i + 1, k + m, st2, s2, sps ++ [sp2], rfl, Hin.out, by go_num, HS2.out, Hsn.out, Hb2.out.1, Hb2.out.2, hbk8, by rw [List.length_append, List.length_singleton, List.flatMap_append]; simpa using hown8, hT8, hb8, hII8, Nat.le_trans hB7 hgrow8.size⟩
  ·
   obtain rfl : i = s.length := by omega
   rw [List.take_length] at haf
   have HR9 := zzh (show accR L C goal depth = (sps, st.t, 0) by rw [Hac.out, haf])
   have aT : agg? wr N 768 9 = some st.t.arr := by rw [<- hbr.t]; exact hbk.aggT
   have th := hT.there
   have HT := zzh hT
   have HB := zzh (And.intro hb hrow)
   obtain ⟨pv, cv, rfl⟩ := zaf hrow
   clear haf hrow hT hb hbk hbr hII
   go_wp2_with fail
   go_region
   go_wp2_with fail
   refine ⟨rfl, _, zbx rfl _ _ R _ rfl (tat_drew (HT.out.store (U := st.t))).agg, ?_⟩
   rw [HR9.out]
   refine ⟨⟨.slice pv sps.length cv, rfl, ?_⟩, (Below.setAgg HB.out.1 (by rw [HR.out]; exact Nat.le_refl _) _ _).drew⟩
   refine own_drew (zas (zar HB.out.2 fun g hg _ => zay R g ?_ _ _ _) (by omega))
   have := (HB.out.2.lt g hg).1
   omega
end
section
attribute [local go_sem ↓] Go.wp_at_zero Go.wp_at_succ
theorem qtotals (p0 : Option Addr) (b off cap : Nat) (L : List Nd) (w : World) (hN : NIn w p0 b off cap L) :
 Calls Tryz.prog 69 #[.slice p0 L.length cap, .bool true] w fun e w' => e = .returned (.tuple #[.agg (totR L).1.arr, .int .i64 (totR L).2]) /\ Below w.heap.size w w' := by
 have hb0 : Below w.heap.size w (w.alloc (.cells (Tt.mk 0 0 0 0 0 0 0 0 0).arr 43)) := (Below.refl _ _).alloc (Nat.le_refl _) _
 have dR : TAt (w.alloc (.cells (Tt.mk 0 0 0 0 0 0 0 0 0).arr 43)) w.heap.size ⟨0, 0, 0, 0, 0, 0, 0, 0, 0⟩ := heap_alloc_new w _
 have HC := zzh (qcheck p0 b off cap L _ (hN.below hb0))
 have H := zzh hN
 have HB0 := zzh hb0
 have HdR := zzh dR
 clear hN hb0 dR
 obtain ⟨E, hE⟩ : ∃ E, zao L = E := ⟨_, rfl⟩
 rw [hE] at HC
 have HE := zzh hE
 clear hE
 go_enter Tryz.func69, Tryz.ntmps69
 go_upto_region 1 with (fail)
 generalize w.alloc (.cells (Tt.mk 0 0 0 0 0 0 0 0 0).arr 43) = w1 at HC HB0 HdR ⊢
 obtain ⟨R, hR⟩ : ∃ R, w.heap.size = R := ⟨_, rfl⟩
 have HR := zzh hR
 rw [hR] at HdR ⊢
 clear hR
 go_upto_region 2 with (go_at_call 49; refine HC.out.mono ?_; clear HC; rintro e w2 ⟨rfl, hb2⟩)
 have hT2 : TAt w2 R ⟨0, 0, 0, 0, 0, 0, 0, 0, 0⟩ := (hb2.block R HdR.out.lt).trans HdR.out
 have Hb2 := zzh (HB0.out.trans (hb2.mono HB0.out.size))
 have HT2 := zzh hT2
 have th := hT2.there
 clear hb2 HB0 HdR hT2
 by_cases h0 : E = 0
 case neg =>
  have h0' : (E != 0) = true := by simpa using h0
  have hv := zzh (show totR L = (.zero, E) by unfold totR; rw [if_neg (by rw [HE.out]; exact h0), HE.out])
  clear h0
  go_wp2_with fail
  refine ⟨rfl, _, zbZ rfl _ _ R _ rfl (HT2.out.store (U := .zero)).agg, ?_⟩
  rw [hv.out]
  exact ⟨rfl, Below.setAgg Hb2.out (by rw [HR.out]; exact Nat.le_refl _) _ _⟩
 subst h0
 have hrun := (check_run.1 HE.out)
 have hs := hrun.2.its
 have HS := zzh (qsum p0 b off cap L (itsP L) hs (fun x hx => zcF hrun.2 hx) (fun y hy => nb_of (by rw [zaV (hs.lt y hy).2]; exact zaQ HE.out _ (List.getElem_mem _))) hrun.1 w2 (H.out.below Hb2.out))
 clear hrun hs th
 go_upto_region 5 with (go_at_call 122; refine HS.out.mono ?_; clear HS; rintro e w3 ⟨rfl, hb3⟩)
 obtain ⟨T, hT⟩ : ∃ T, sumP L (itsP L) = T := ⟨_, rfl⟩
 have hba : Below w3.heap.size w3 (w3.alloc (.cells T.arr 43)) := (Below.refl _ _).alloc (Nat.le_refl _) _
 have hb4 := hb3.trans (hba.mono hb3.size)
 have dT := heap_alloc_new w3 (.cells T.arr 43)
 have hT4 : TAt (w3.alloc (.cells T.arr 43)) R ⟨0, 0, 0, 0, 0, 0, 0, 0, 0⟩ := (hb4.block R HT2.out.lt).trans HT2.out
 have HB4 := zzh (Hb2.out.trans (hb4.mono Hb2.out.size))
 have Hv := zzh hT
 rw [hT]
 obtain ⟨X, hX⟩ : ∃ X, w3.heap.size = X := ⟨_, rfl⟩
 have hRX : R < X := by rw [<- hX]; exact Nat.lt_of_lt_of_le HT2.out.lt hb3.size
 rw [hX] at dT ⊢
 clear hT hX hba hb4 hb3 HT2 Hb2
 generalize w3.alloc (.cells T.arr 43) = w4 at dT hT4 HB4 ⊢
 have c0 : w4.cell? ⟨X, 0, none⟩ = some (.int .i64 T.nat) := by rw [cell?_blk' dT]; rfl
 have aT : agg? w4 X 0 9 = some T.arr := by rw [agg?_blk' dT 0 9 (by rw [Tt.size_arr]; decide)]; simp [Tt.arr, Tt.cells]
 have th := hT4.there
 have HT4 := zzh hT4
 have HD := zzh (zaz T.nat w4)
 clear dT hT4
 cases hd : zac T.nat
 ·
  have hv := zzh (show totR L = (.zero, 20) by unfold totR; rw [if_pos HE.out, Hv.out, hd]; rfl)
  rw [hd] at HD
  clear hd
  go_wp2_with (go_at_call 123; refine HD.out.mono ?_; clear HD; rintro e w5 ⟨rfl, rfl⟩)
  refine ⟨rfl, _, zbZ rfl _ _ R _ rfl (HT4.out.store (U := .zero)).agg, ?_⟩
  rw [hv.out]
  exact ⟨rfl, Below.setAgg HB4.out (by rw [HR.out]; exact Nat.le_refl _) _ _⟩
 ·
  have hv := zzh (show totR L = (T, 0) by unfold totR; rw [if_pos HE.out, Hv.out, hd]; rfl)
  rw [hd] at HD
  clear hd
  go_wp2_with (go_at_call 123; refine HD.out.mono ?_; clear HD; rintro e w5 ⟨rfl, rfl⟩)
  refine ⟨rfl, _, zbZ rfl _ _ R _ rfl (HT4.out.store (U := T)).agg, ?_⟩
  rw [hv.out]
  exact ⟨rfl, Below.setAgg HB4.out (by rw [HR.out]; exact Nat.le_refl _) _ _⟩
theorem qplace (p0 : Option Addr) (b off cap : Nat) (L : List Nd) (hck : zao L = 0) (tk : Int) (w : World) (hN : NIn w p0 b off cap L) :
 Calls Tryz.prog 34 #[.slice p0 L.length cap, .int .i64 tk] w fun e w' => e = .returned (.bool (zbm L tk)) /\ Below w.heap.size w w' := by
 obtain ⟨s, hs⟩ : ∃ s, itsP L = s := ⟨_, rfl⟩
 have hrun := (check_run.1 hck).2
 have hit := hrun.its
 have hk6 : ∀ x ∈ itsP L, (nth L x).kind ≠ 6 := fun x hx => zcF hrun hx
 have hv : zbm L tk = (tk == (L.length : Int) || s.any fun x => (x : Int) == tk) := by unfold zbm; rw [hs]
 rw [hs] at hit hk6
 have HSt := zzh (zdb p0 b off cap L s w hN hit hk6)
 have hsl := hit.len
 have hll := (check_run.1 hck).1
 clear hN hck hs hrun hit hk6
 by_cases he : tk = (L.length : Int)
 ·
  have hv1 := zzh (show zbm L tk = true by rw [hv, he]; simp)
  have he' : (tk == (L.length : Int)) = true := by simpa using he
  clear hv he
  go_enter Tryz.func34, Tryz.ntmps34
  go_wp2_with fail
  go_ret
  exact ⟨zaa hv1.out.symm, Below.refl _ _⟩
 have he' : (tk == (L.length : Int)) = false := by simpa using he
 rw [he', Bool.false_or] at hv
 have Hv := zzh hv
 clear hv he
 go_enter Tryz.func34, Tryz.ntmps34
 go_upto_region 4 with (go_at_call 21; refine HSt.out.mono ?_; clear HSt; rintro e w3 ⟨⟨v, rfl, hrow⟩, hb3⟩)
 obtain ⟨p, gi, c, rfl, hII⟩ := zcG hrow
 have HII := zzh hII
 have Hb3 := zzh hb3
 clear hrow hb3 hII
 go_wp2_with fail
 go_loopg [6] (s.length + 1) (fun gg t6 wr => ∃ i : Nat, gg = s.length + 1 - i /\ i <= s.length /\ t6 = .int .i64 i /\ (∀ j (h : j < s.length), j < i -> ((s[j] : Int) == tk) = false) /\ wr = w3)
 case atStart => exact ⟨0, rfl, Nat.zero_le _, rfl, (fun j _ hj => by omega), rfl⟩
 case round =>
  obtain ⟨i, rfl, hi, rfl, hno, rfl⟩ := hrel
  have hi1 : (0 : Int) <= (i : Int) := by omega
  by_cases hin : i < s.length
  ·
   have hi2 : (i : Int) < (s.length : Int) := by omega
   have cI := HII.out.at_ i hin
   have hne : s ≠ [] := by intro e; rw [e] at hin; simp at hin
   obtain rfl := HII.out.hp hne
   obtain ⟨x, hx⟩ : ∃ x, s[i] = x := ⟨_, rfl⟩
   rw [hx] at cI
   cases hq : ((x : Int) == tk)
   ·
    have hno2 := zzh (show ∀ j (h : j < s.length), j < i + 1 -> ((s[j] : Int) == tk) = false from fun j h hj => by
     by_cases e : j = i
     · subst e; rw [hx]; exact hq
     · exact hno j h (by omega))
    have Hin := zzh hin
    clear hno hx hin
    go_wp2_with fail
    go_roundg (s.length + 1 - (i + 1))
    case measure => have := Hin.out; omega
    case rel => exact ⟨i + 1, rfl, Hin.out, by go_num, hno2.out, rfl⟩
   ·
    have hv1 := zzh (show zbm L tk = true by rw [Hv.out]; exact List.any_eq_true.2 ⟨x, by rw [<- hx]; exact List.getElem_mem hin, hq⟩)
    clear hno hx hin
    go_wp2_with fail
    go_ret
    exact ⟨zaa hv1.out.symm, Hb3.out⟩
  ·
   have hv1 := zzh (show zbm L tk = false by
    rw [Hv.out]
    cases ha : s.any (fun x => (x : Int) == tk)
    · rfl
    ·
     obtain ⟨x, hx, h1⟩ := List.any_eq_true.1 ha
     obtain ⟨j, hj, rfl⟩ := List.getElem_of_mem hx
     rw [hno j hj (by omega)] at h1
     cases h1)
   obtain rfl : i = s.length := by omega
   clear hno
   go_wp2_with fail
   go_ret
   exact ⟨zaa hv1.out.symm, Hb3.out⟩
end
section
attribute [local go_sem ↓] Go.wp_at_zero Go.wp_at_succ
structure QLeftPost (w : World) (r : List Nd × Int) (e : Ending) (w' : World) : Prop where
 out : ∃ v, e = .returned (.tuple #[v, .int .i64 r.2]) /\ (r.2 = 0 -> NRow w v r.1 w') /\ (r.2 ≠ 0 -> v = .slice none 0 0)
 below : Below w.heap.size w w'
theorem qleft12 (n : Nd) (b off cap : Nat) (Q0 : List Nd) (a : Nat) (ha : a <= Q0.length) (hac : a < cap) (_hQl : Q0.length <= 2000) (w : World) (hN : NIn w (some ⟨b, off, none⟩) b off cap Q0) :
 Calls Tryz.prog 38 #[.agg n.arr, .slice (some ⟨b, off, none⟩) Q0.length cap, .int .i64 a] w (QLeftPost w (zdc n (Q0.drop a))) := by
 have hb0 : Below w.heap.size w (w.alloc (.cells n.arr 53)) := (Below.refl _ _).alloc (Nat.le_refl _) _
 have d0 : Blk (w.alloc (.cells n.arr 53)) w.heap.size n.arr 53 := heap_alloc_new w _
 obtain ⟨Q, hQ⟩ : ∃ Q, Q0.drop a = Q := ⟨_, rfl⟩
 have hQlen : Q.length = Q0.length - a := by rw [<- hQ, List.length_drop]
 have hNQ : NIn (w.alloc (.cells n.arr 53)) (some ⟨b, off + a * 19, none⟩) b (off + a * 19) (cap - a) Q := by rw [<- hQ]; exact (hN.below hb0).drop a ha
 have HP := zzh (qprune (some ⟨b, off + a * 19, none⟩) b (off + a * 19) (cap - a) Q (itsP Q) n.glue zaO _ (hNQ.below ((Below.refl _ _).drew)))
 rw [hQlen] at HP
 have Hb0 := zzh hb0
 have Hd0 := zzh d0
 rw [hQ]
 have ha0 : (0 : Int) <= (a : Int) := by omega
 have ha1 : (a : Int) <= (Q0.length : Int) := by omega
 have ha2 : ¬ cap = a := by omega
 clear hN hb0 d0 hNQ hQ hQlen
 obtain ⟨E, hE⟩ : ∃ E, zca Q (itsP Q) n.glue = E := ⟨_, rfl⟩
 have HE := zzh hE
 go_enter Tryz.func38, Tryz.ntmps38
 go_upto_region 1 with (fail)
 generalize w.alloc (.cells n.arr 53) = w1 at HP Hb0 Hd0 ⊢
 obtain ⟨N, hNN⟩ : ∃ N, w.heap.size = N := ⟨_, rfl⟩
 have HN := zzh hNN
 rw [hNN] at Hd0 ⊢
 have hNle : w.heap.size <= N := by omega
 have hN0 : N < w1.heap.size := Hd0.out.lt
 clear hNN
 have a7 : agg? w1.drew N 7 5 = some n.glue.arr := by rw [agg?_blk' (show Blk w1.drew N n.arr 53 from Hd0.out) 7 5 (by rw [Nd.size_arr]; decide)]; rfl
 go_cut [8, 9, 12] from 13 to 20 (fun t8 t9 _ wx => t9 = .int .i64 E /\ (E = 0 -> NRow w1.drew t8 (zbU Q n.glue (itsP Q) []) wx) /\ (E ≠ 0 -> t8 = .slice none 0 0) /\ Below w1.heap.size w1 wx)
 case first =>
  refine Rest.region follows ?_
  refine Rest.tame 5 (fun W => W = w1.drew) (by kernel_rfl) rfl ?_
  simp only [Nat.reduceSub, List.drop_zero, List.take_succ_cons, List.take_zero]
  iterate 5 first
   | (refine TW.cons_n rfl _ (by intro wT hT R hR K hK; simp only [Act.put, lsA, lsB, lsC] at hK; subst hT; go_step; exact hK _ _ (hR _ rfl)) ?_; try simp only [Act.put, lsA, lsB, lsC])
  refine TW.nil fun w9 h9 => ?_
  subst h9
  refine Rest.step rfl (by kernel_rfl) rfl ?_
  go_step
  refine HP.out.mono ?_
  rintro e w5 hp
  obtain ⟨v, rfl, hgd, hbad⟩ := hp.ex
  have hb5 := hp.below
  rw [HE.out] at hgd hbad ⊢
  refine Rest.tame 11 (fun W => w5 = W) (by kernel_rfl) rfl ?_
  simp only [Nat.reduceSub, List.drop_succ_cons, List.drop_zero, List.take_succ_cons, List.take_zero]
  iterate 5 first
   | (refine TW.cons_n rfl _ (by intro wT hT R hR K hK; simp only [Act.put, lsA, lsB, lsC] at hK; subst hT; go_step; exact hK _ _ (hR _ rfl)) ?_; try simp only [Act.put, lsA, lsB, lsC])
  refine TW.nil fun w9 h9 => ?_
  subst h9
  refine Rest.done ?_
  go_wp2_with fail
  go_meet
  exact ⟨rfl, hgd, hbad, (Below.refl _ _).drew.trans hb5⟩
 case rest =>
  obtain ⟨rfl, hgd, hbad, hb2⟩ := hcut
  have HB2 := zzh (Hb0.out.trans (hb2.mono Hb0.out.size))
  have Hd2 := zzh (Hd0.out.below hb2)
  have hw1d : w1.drew.heap.size = w1.heap.size := rfl
  by_cases h0 : E = 0
  case neg =>
   have h0' : (E != 0) = true := by simpa using h0
   have hv := zzh (show zdc n Q = ([], E) by unfold zdc; rw [if_neg (by rw [hE]; exact h0), hE])
   obtain rfl := hbad h0
   clear hE hgd hbad hb2
   go_wp2_with fail
   go_ret2
   rw [hv.out]
   exact ⟨⟨_, rfl, fun h => absurd h h0, fun _ => rfl⟩, HB2.out⟩
  subst h0
  obtain ⟨q, hq⟩ : ∃ q, zbU Q n.glue (itsP Q) [] = q := ⟨_, rfl⟩
  have hql := prun_len hE
  rw [hq] at hql
  have HQ := zzh (And.intro hE hq)
  have hr2 := hgd rfl
  rw [hq] at hr2
  obtain ⟨_, p4, g4, c4, rfl, hN4, hg4⟩ := zbS hr2 (by omega)
  have HN4 := zzh (And.intro hN4 (show q ≠ [] -> w1.heap.size <= g4 from hg4))
  clear hE hq hgd hbad hr2 hb2 hN4 hg4 Hd0 Hb0 a7 hw1d
  by_cases hz : q.length = 0
  ·
   have hv := zzh (left_nil HQ.out.1 (by rw [HQ.out.2]; exact hz))
   have hz1 : ((q.length : Int) == 0) = true := by simp; exact List.length_eq_zero_iff.1 hz
   have hz2 : (q.length == 0) = true := by simp; exact List.length_eq_zero_iff.1 hz
   go_wp2_with fail
   all_goals
    first
     | (go_ret2
        rw [hv.out]
        exact ⟨⟨.slice none 0 0, rfl, fun _ => World.ownsRow_nil _ _ _ _, fun h => absurd rfl h⟩, HB2.out⟩)
     | (exfalso; omega)
  have hz2 : (q.length == 0) = false := by simp; intro e; rw [e] at hz; simp at hz
  have hvt := zzh (left_tot HQ.out.1 HQ.out.2 hz)
  have HT := zzh (qtotals p4 g4 0 c4 q wc HN4.out.1)
  obtain ⟨T, code, hT⟩ : ∃ T code, totR q = (T, code) := ⟨_, _, rfl⟩
  rw [hT] at HT
  have hvt2 := hvt.out
  rw [hT] at hvt2
  have Hvt := zzh hvt2
  clear hvt hvt2 hT
  go_upto_region 4 with (fail)
  go_upto_region 5 with (go_at_call 69; refine HT.out.mono ?_; clear HT; rintro e w3 ⟨rfl, hb3⟩)
  have dT := heap_alloc_new w3 (.cells T.arr 43)
  have hba := hb3.trans (((Below.refl w3.heap.size w3).alloc (Nat.le_refl _) (.cells T.arr 43)).mono hb3.size)
  have hNlt : N < w3.heap.size := Nat.lt_of_lt_of_le Hd2.out.lt hb3.size
  have H4 := zzh (And.intro (HN4.out.1.below hba) (And.intro (Hd2.out.below hba) (HB2.out.trans (hba.mono HB2.out.size))))
  clear hb3 hba HB2 Hd2
  generalize w3.alloc (.cells T.arr 43) = w4 at dT H4 ⊢
  obtain ⟨X, hX⟩ : ∃ X, w3.heap.size = X := ⟨_, rfl⟩
  rw [hX] at dT hNlt ⊢
  clear hX
  by_cases hcd : code = 0
  case neg =>
   have hcd' : (code != 0) = true := by simpa using hcd
   go_wp2_with fail
   go_ret2
   rw [Hvt.out]
   simp only [if_neg hcd]
   exact ⟨⟨_, rfl, fun h => absurd h hcd, fun _ => rfl⟩, H4.out.2.2⟩
  subst hcd
  have hvt := zzh (Hvt.out.trans (if_pos rfl))
  clear Hvt
  have c0 : w4.cell? ⟨X, 0, none⟩ = some (.int .i64 T.nat) := by rw [cell?_blk' dT]; rfl
  have c4 := H4.out.2.1.cell 4 _ (Nd.get4 n)
  have f4 := H4.out.2.1.frozen 4
  obtain ⟨m, hm⟩ : ∃ m : Nd, { n with h := T.nat } = m := ⟨_, rfl⟩
  have hd5 : Blk (w4.setCell ⟨N, 4, none⟩ (.int .i64 T.nat)) N m.arr 53 := by rw [<- hm]; exact H4.out.2.1.set 4 _ _ (Nd.set4 n T.nat)
  have hbN : Below N w4 (w4.setCell ⟨N, 4, none⟩ (.int .i64 T.nat)) := Below.setCell (p := ⟨N, 4, none⟩) (Below.refl N w4) (Nat.le_refl _) _
  have hqne : q ≠ [] := by intro e; rw [e] at hz; exact hz rfl
  obtain rfl := HN4.out.1.hp hqne
  have hg4 : N < g4 := Nat.lt_of_lt_of_le hN0 (HN4.out.2 hqne)
  have hN5 := H4.out.1.other (w' := w4.setCell ⟨N, 4, none⟩ (.int .i64 T.nat)) (fun _ => Below.heap_setCell _ _ _ _ (by simp only; omega)) hbN.size
  have Hm := zzh hm
  have H5 := zzh (And.intro hd5 (And.intro hN5 (H4.out.2.2.trans ⟨hbN.os, hbN.tape, hbN.output, hbN.size, fun k hk => hbN.block k (by omega)⟩)))
  clear hd5 hN5 hbN hm H4 dT hN0
  go_upto_region 8 with (fail)
  generalize w4.setCell ⟨N, 4, none⟩ (.int .i64 T.nat) = w5 at H5 ⊢
  clear c0 c4 f4
  have aN : agg? w5 N 0 19 = some m.arr := by rw [agg?_blk' H5.out.1 0 19 (by rw [Nd.size_arr]; decide)]; simp [Nd.arr, Nd.cells]
  obtain ⟨i0, hi0', hz0, hz1, hz2'⟩ := info_parts zbq
  have hb6 := (Below.refl w5.heap.size w5).alloc (Nat.le_refl _) (.cells m.arr 53)
  have hN6 := H5.out.2.1.below hb6
  have Hnews := zzh (And.intro hN6.news (zax q))
  have Hrow := zzh (own_lit w5 m)
  have Hlt6 : Hid (q ≠ [] -> g4 < w5.heap.size) := zzh fun e => H5.out.2.1.hb e
  have hqp : 0 < q.length := by omega
  have HB6 := zzh (H5.out.2.2.trans (hb6.mono H5.out.2.2.size))
  have HB5z : w.heap.size <= w5.heap.size := H5.out.2.2.size
  clear hN6 hb6 H5
  have hen : ({ Nd.zero with kind := 6 } : Nd) = endN := rfl
  go_wp2_with (at_builtin; first | (refine wpList_append_lies _ rfl _ _ _ rfl w5.heap.size 53 i0 (.agg Nd.zero.arr) 19 160 Tryz.underlying22 hi0' hz0 hz1 hz2' rfl (by decide) (.slice (some ⟨w5.heap.size, 0, none⟩) 1 1) 1 m.cells rfl Hrow.out ⟨g4, 0, none⟩ q.length _ (q.flatMap Nd.cells) rfl (zaA q) Hnews.out.1 Hnews.out.2 hqp (by unfold maxLen; omega) (by omega) (by simp) _ rfl ?_; intro g7 cap7 w7 hown7 hgrow7 hat7 hlt7; have Hown7 := zzh (hown7.alloc (.cells endN.arr 53)); have Hgrow7 := zzh hgrow7; have hz7 := hgrow7.size; have hat7' := zzh (hown7.lt g7 rfl); clear hown7 hgrow7 hat7 hlt7) | (refine wpList_append_lies _ rfl _ _ _ rfl w5.heap.size 53 i0 (.agg Nd.zero.arr) 19 160 Tryz.underlying22 hi0' hz0 hz1 hz2' rfl (by decide) (.slice (some ⟨g7, 0, none⟩) (1 + q.length) cap7) (1 + q.length) _ rfl Hown7.out ⟨w7.heap.size, 0, none⟩ 1 1 endN.cells rfl rfl (World.news_of_block (cs := endN.arr) (heap_alloc_new _ _)) (by intro u hu; have := zax [endN]; simp at this; exact this u hu) (by decide) (by unfold maxLen; omega) (by omega) (by simp at hz7 ⊢; omega) _ rfl ?_; intro g9 cap9 w9 hown9 hgrow9 hat9 hlt9))
  have hb7 : Below w.heap.size w w7 := HB6.out.trans (grown_low Hgrow7.out HB6.out.size fun k hk => by simp only [Value.ownBlock, Option.some.injEq] at hk; omega)
  have hb9 : Below w.heap.size w w9 := (hb7.alloc hb7.size (.cells endN.arr 53)).trans (grown_low hgrow9 (by rw [World.size_alloc]; have := hb7.size; omega) fun k hk => by simp only [Value.ownBlock, Option.some.injEq] at hk; have := hat7'.out.1; omega)
  have hrl : ((m :: q) ++ [endN]).length = 1 + q.length + 1 := by simp; omega
  have hrow : NRow w (.slice (some ⟨g9, 0, none⟩) (1 + q.length + 1) cap9) ((m :: q) ++ [endN]) w9 := by
   unfold NRow
   rw [hrl, List.flatMap_append, List.flatMap_cons, List.flatMap_singleton]
   exact zas hown9 HB5z
  go_ret2
  rw [hvt.out, Hm.out]
  exact ⟨⟨_, rfl, fun _ => hrow, fun h => absurd rfl h⟩, hb9⟩
end
section
set_option maxRecDepth 100000
theorem qstep_ne_node : (85 : TypeId) ≠ 53 := by decide
theorem qstep_ne_row : (85 : TypeId) ≠ 22 := by decide
structure JBQ (w0 : World) (base : Nat) (vs : Nat -> Value) (bv : Value) (page : List Nd) (d : Dl) (k : Nat) (y : List Nd) (Sb : Nat) (s : Sp) (iL iA iS : Nat) (m : Nat -> Bool) (us : Nat -> Value) (W : World) : Prop where
 below : Below base w0 W
 size : base <= W.heap.size
 blk : Blk W Sb s.arr 85
 ne : iL ≠ iA /\ iL ≠ iS /\ iA ≠ iS
 dep1 : m iS = true -> m iA = true
 dep2 : m iA = true -> m iL = true
 ld : m iL = true -> us iL = vs (k + 2)
 pre : m iA = false -> DlIn W base vs bv page d
 mid : m iA = true -> m iS = false -> Rws W base (d.boxes.length + 2) (upd vs (k + 2) (us iA)) (rowX page ⟨putB d.boxes k y, d.rest⟩) /\ W.ownsRow base 22 1 bv d.boxes.length (boxV (d.boxes.length + 2) vs)
 post : m iS = true -> DlIn W base (upd vs (k + 2) (us iA)) bv page ⟨putB d.boxes k y, d.rest⟩
section
variable {w0 W W' : World} {base : Nat} {vs : Nat -> Value} {bv : Value} {page : List Nd} {d : Dl} {k : Nat} {y : List Nd} {Sb : Nat} {s : Sp} {iL iA iS : Nat} {m : Nat -> Bool} {us : Nat -> Value}
theorem JBQ.init (h : DlIn w0 base vs bv page d) (hs : base <= w0.heap.size) (hb : Blk w0 Sb s.arr 85) (hne : iL ≠ iA /\ iL ≠ iS /\ iA ≠ iS) : JBQ w0 base vs bv page d k y Sb s iL iA iS (fun _ => false) us w0.drew :=
 ⟨(Below.refl _ _).drew, hs, hb, hne, (fun h => by cases h), (fun h => by cases h), (fun h => by cases h), (fun _ => h.still ((Below.refl _ _).drew)), (fun h => by cases h), (fun h => by cases h)⟩
theorem JBQ.load (h : JBQ w0 base vs bv page d k y Sb s iL iA iS m us W) (hm : m iL = false) {u : Value} (hu : u = vs (k + 2)) : JBQ w0 base vs bv page d k y Sb s iL iA iS (fun j => m j || j == iL) (fun j => if j = iL then u else us j) W := by
 obtain ⟨n1, n2, n3⟩ := h.ne
 have hA : m iA = false := by
  cases e : m iA
  · rfl
  · have := h.dep2 e; rw [hm] at this; cases this
 have hS : m iS = false := by
  cases e : m iS
  · rfl
  · have := h.dep1 e; rw [hA] at this; cases this
 have eA : (m iA || iA == iL) = false := by simp [hA, Ne.symm n1]
 have eS : (m iS || iS == iL) = false := by simp [hS, Ne.symm n2]
 refine ⟨h.below, h.size, h.blk, h.ne, fun e => ?_, fun e => ?_, fun _ => ?_, fun _ => h.pre hA, fun e => ?_, fun e => ?_⟩
 · rw [eS] at e; cases e
 · rw [eA] at e; cases e
 · simp only [if_pos]; exact hu
 · rw [eA] at e; cases e
 · rw [eS] at e; cases e
theorem JBQ.app (h : JBQ w0 base vs bv page d k y Sb s iL iA iS m us W) (hk : k < d.boxes.length) (hL : m iL = true) (hm : m iA = false) {v' : Value}
 (hr : W'.ownsRow base 53 19 v' ((rowX page d (k + 2)).length + y.length) ((rowX page d (k + 2)).flatMap Nd.cells ++ y.flatMap Nd.cells)) (hg : W.grownBy W' (vs (k + 2)).ownBlock) (hat : v'.ownBlock = (vs (k + 2)).ownBlock \/ v'.ownBlock = some W.heap.size) :
 JBQ w0 base vs bv page d k y Sb s iL iA iS (fun j => m j || j == iA) (fun j => if j = iA then v' else us j) W' := by
 obtain ⟨n1, n2, n3⟩ := h.ne
 have hS : m iS = false := by
  cases e : m iS
  · rfl
  · have := h.dep1 e; rw [hm] at this; cases this
 have eS : (m iS || iS == iA) = false := by simp [hS, Ne.symm n3]
 have eA : (m iA || iA == iA) = true := by simp
 have h0 := h.pre hm
 have hrow := h0.rws.row (k + 2) (by omega)
 refine ⟨h.below.grown hg h.size (fun q hq => (hrow.lt q hq).1), Nat.le_trans h.size hg.size, ?_, h.ne, fun e => ?_, fun _ => ?_, fun _ => ?_, fun e => ?_, fun _ _ => ⟨?_, ?_⟩, fun e => ?_⟩
 · exact (hg.block Sb h.blk.lt (fun e => row_not hrow h.blk qstep_ne_node e.symm)).trans h.blk
 · rw [eS] at e; cases e
 · simp [hL]
 · simp only [if_neg n1]; exact h.ld hL
 · rw [eA] at e; cases e
 ·
  simp only [if_pos]
  rw [rowX_box page d hk y]
  exact h0.rws.grow (by omega) hr hg hat
 · exact zar h0.out fun q hq hl => hg.block q hl (fun e => zbz h0.out hrow q e.symm hq)
 · rw [eS] at e; cases e
theorem JBQ.store (h : JBQ w0 base vs bv page d k y Sb s iL iA iS m us W) (hk : k < d.boxes.length) (hA : m iA = true) (hm : m iS = false) {g n c : Nat} (hbv : bv = .slice (some ⟨g, 0, none⟩) n c) (u : Value) :
 JBQ w0 base vs bv page d k y Sb s iL iA iS (fun j => m j || j == iS) (fun j => if j = iS then u else us j) (W.setCell ⟨g, k, none⟩ (us iA)) := by
 obtain ⟨n1, n2, n3⟩ := h.ne
 obtain ⟨h1, h2⟩ := h.mid hA hm
 have hL := h.dep2 hA
 obtain ⟨g', c', e', f1, _, f2, _, _⟩ := zbv h2 (k := k) (by omega)
 rw [hbv] at e'
 cases e'
 subst hbv
 have hrow : ∀ i, i < d.boxes.length + 2 -> (upd vs (k + 2) (us iA) i).ownBlock ≠ some g := fun i hi e => zbz h2 (h1.row i hi) g e rfl
 have hne : Sb ≠ g := fun e => row_not h2 h.blk qstep_ne_row (by rw [e]; rfl)
 refine ⟨h.below.setCell f2 _, ?_, ?_, h.ne, fun _ => ?_, fun _ => ?_, fun _ => ?_, fun e => ?_, fun _ e => ?_, fun _ => ?_⟩
 · exact Nat.le_trans h.size ((KeepsWalks.setCell W _ _).size)
 · exact h.blk.other (Ne.symm hne) _
 · simp [hA]
 · simp [hL]
 · simp only [if_neg n2]; exact h.ld hL
 · simp [hA] at e
 · simp at e
 ·
  simp only [if_neg n3]
  refine ⟨⟨fun i hi => ?_, fun i j hi hj => h1.ne i j (by simpa [putB] using hi) (by simpa [putB] using hj)⟩, ?_⟩
  · exact ownsRow_setCell_other (h1.row i (by simpa [putB] using hi)) (hrow i (by simpa [putB] using hi)) _
  ·
   show (W.setCell _ _).ownsRow base _ 1 _ (putB d.boxes k y).length (boxV ((putB d.boxes k y).length + 2) _)
   rw [show (putB d.boxes k y).length = d.boxes.length by simp [putB]]
   exact out_set h2 (by omega) _
end
def QLeftIs (w : World) (r : List Nd × Int) (v e : Value) (W : World) : Prop := (r.2 = 0 -> NRow w v r.1 W) /\ (r.2 ≠ 0 -> v = .slice none 0 0) /\ e = .int .i64 r.2
structure JQ (w : World) (r : List Nd × Int) (c : Nat) (m : Nat -> Bool) (us : Nat -> Value) (W : World) : Prop where
 below : Below w.heap.size w W
 dep : ∀ j, m j = true -> m c = true
 vals : ∃ v e, (m c = true -> QLeftIs w r v e W) /\ ∀ j, m j = true -> us j = if j = c + 2 \/ j = c + 4 then v else if j = c + 3 \/ j = c + 5 then e else .tuple #[v, e]
section
variable {w W W' : World} {r : List Nd × Int} {c i : Nat} {m : Nat -> Bool} {us : Nat -> Value}
theorem JQ.init : JQ w r c (fun _ => false) us w.drew := ⟨(Below.refl _ _).drew, (fun _ h => by cases h), ⟨undef, undef, (fun h => by cases h), (fun _ h => by cases h)⟩⟩
theorem JQ.call (h : JQ w r c m us W) (hm : m c = false) {ev : Ending} (hp : QLeftPost W r ev W') : ∃ u, ev = .returned u /\ JQ w r c (fun j => m j || j == c) (fun j => if j = c then u else us j) W' := by
 have hn : ∀ j, m j = false := fun j => by
  cases e : m j
  · rfl
  · have := h.dep j e; rw [hm] at this; cases this
 have hj : ∀ j, (m j || j == c) = true -> j = c := fun j e => by simpa [hn j] using e
 have hb := h.below.trans (hp.below.mono h.below.size)
 obtain ⟨v, rfl, h1, h2⟩ := hp.out
 refine ⟨_, rfl, hb, fun j e => by simp, v, .int .i64 r.2, fun _ => ⟨fun e => zas (h1 e) h.below.size, h2, rfl⟩, fun j e => ?_⟩
 obtain rfl := hj j e
 simp only [if_pos]
 rw [if_neg (by omega), if_neg (by omega)]
theorem JQ.pure (h : JQ w r c m us W) (hm : m c = true) (hi : i ≠ c) {u : Value} (hu : ∀ v e, us c = .tuple #[v, e] -> (∀ j, m j = true -> us j = if j = c + 2 \/ j = c + 4 then v else if j = c + 3 \/ j = c + 5 then e else .tuple #[v, e]) -> u = if i = c + 2 \/ i = c + 4 then v else if i = c + 3 \/ i = c + 5 then e else .tuple #[v, e]) :
 JQ w r c (fun j => m j || j == i) (fun j => if j = i then u else us j) W := by
 obtain ⟨v, e, h1, h2⟩ := h.vals
 refine ⟨h.below, fun j hj => by simp [hm], v, e, fun _ => h1 hm, fun j hj => ?_⟩
 by_cases e1 : j = i
 ·
  subst e1
  simp only [if_pos]
  exact hu v e (by rw [h2 c hm, if_neg (by omega), if_neg (by omega)]) h2
 ·
  simp only [if_neg e1]
  exact h2 j (by simpa [e1] using hj)
end
theorem rowX_page (page : List Nd) (d : Dl) (y : List Nd) : rowX (page ++ y) d = upd (rowX page d) 0 (rowX page d 0 ++ y) := by
 funext j
 unfold upd
 match j with
 | 0 => rfl
 | 1 => rfl
 | k + 2 => rfl
theorem DlIn.page {W W' : World} {base : Nat} {vs : Nat -> Value} {bv : Value} {page : List Nd} {d : Dl} (h : DlIn W base vs bv page d) {y : List Nd} {v' : Value} (hr : W'.ownsRow base 53 19 v' (page.length + y.length) (page.flatMap Nd.cells ++ y.flatMap Nd.cells)) (hg : W.grownBy W' (vs 0).ownBlock) (hat : v'.ownBlock = (vs 0).ownBlock \/ v'.ownBlock = some W.heap.size) :
 DlIn W' base (upd vs 0 v') bv (page ++ y) d := by
 refine ⟨?_, ?_⟩
 ·
  rw [rowX_page]
  exact h.rws.grow (by omega) hr hg hat
 ·
  show W'.ownsRow base _ 1 bv d.boxes.length (boxV (d.boxes.length + 2) (upd vs 0 v'))
  rw [boxV_low (by omega)]
  exact zar h.out fun q hq hl => hg.block q hl (fun e => zbz h.out (h.rws.row 0 (by omega)) q e.symm hq)
/-! ### Plain -/
def errD (L : List Nd) (tk : Int) (C : List Cl) (goal depth : Int) : Int := if accE L C = 0 then (if zbm L tk then (if zac goal && zac depth then 0 else 11) else 3) else accE L C
theorem errD_bad {L : List Nd} {tk : Int} {C : List Cl} {goal depth : Int} (h : errD L tk C goal depth ≠ 0) : zbt L tk C goal depth = .bad (errD L tk C goal depth) := by
 unfold errD at h ⊢
 unfold zbt
 by_cases h1 : accE L C = 0
 ·
  rw [if_pos h1] at h ⊢
  rw [if_pos h1]
  by_cases h2 : zbm L tk = true
  ·
   rw [if_pos h2] at h ⊢
   rw [if_pos h2]
   obtain ⟨t, rfl, ht⟩ := zcV h2
   have h4 := (begin_acc (accE_ok h1) ht).1
   cases h3 : (zac goal && zac depth)
   ·
    have ha : accR (L.take (t : Int).toNat) C goal depth = ([], .zero, 11) := by
     rw [Int.toNat_natCast]
     unfold accR
     rw [if_pos h4, h3]
     rfl
    rw [ha]
    rfl
   ·
    rw [h3] at h
    exact absurd rfl h
  ·
   rw [if_neg h2] at h ⊢
   rw [if_neg h2]
 ·
  rw [if_neg h1] at h ⊢
  rw [if_neg h1]
end
end Go.Proofs.YtaehkbbdmamfpaaGreatDoor
