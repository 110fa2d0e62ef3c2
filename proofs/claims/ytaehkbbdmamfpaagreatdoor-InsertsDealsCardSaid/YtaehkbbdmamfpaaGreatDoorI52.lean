/-
  The law InsertsDeals: its own functions over boxes and over classes. No statement of the seat stands here.
-/
import Derived.Test.YtaehkbbdmamfpaaGreatDoorI50
import Derived.Test.YtaehkbbdmamfpaaGreatDoorI51
import Derived.Test.YtaehkbbdmamfpaaGreatDoorBR
import Derived.Sort.AtCall
import Derived.BigQuiet
set_option maxRecDepth 100000
set_option maxHeartbeats 8000000
namespace Go.Proofs.YtaehkbbdmamfpaaGreatDoor
open Go.ChangeShapes Go.WideShapes Go.ChangeAt Go.RowKit
attribute [local go_sem ↓] Go.wp_at_zero Go.wp_at_succ
/-! ### classes -/
def bsQCl1 (parts : Array (Nat × Value)) : Sem Value := Instr.buildSlice 31 1 parts
@[go_sem ↓] theorem execOp_bsQCl1 (ρ : Operand -> Value) (dst : Option Tmp) (x : Array (Nat × Operand)) (ty : TypeId) (pos : String) (after : Array Edge) (guard : Option (Nat × Bool)) :
 execOp ρ { dst, op := .buildSlice 31 1 x, type := ty, pos, after, guard } = (do pure (.value (<- bsQCl1 (x.map fun (i, y) => (i, ρ y))))) := rfl
theorem info_qclb : (Tryz.prog.info? 88).map (fun i => (i.zero, i.size, i.bytes)) = some (some (.agg (Cl.mk 0 0 0 ⟨0, 0, 0, 0, 0⟩).arr), 8, 64) := by kernel_rfl
theorem info_qcl0 : (Tryz.prog.info? 88).map (fun i => (i.zero, i.size)) = some (some (.agg (Cl.mk 0 0 0 ⟨0, 0, 0, 0, 0⟩).arr), 8) := by kernel_rfl
theorem fill_cl1 (n : Cl) : Instr.fill (fun i => some (i * 8, 8)) ((Array.range (1 * 8)).map ((Value.agg (Cl.mk 0 0 0 ⟨0, 0, 0, 0, 0⟩).arr).cells[· % (Value.agg (Cl.mk 0 0 0 ⟨0, 0, 0, 0, 0⟩).arr).cells.size]!)) [(0, .agg n.arr)] = some n.arr := by kernel_rfl
@[go_sem] theorem run_bsQCl1 (n : Cl) (w : World) : (bsQCl1 #[(0, .agg n.arr)]).run Tryz.prog w = .ok (.slice (some ⟨w.heap.size, 0, none⟩) 1 1) (w.alloc (.cells n.arr 88)) := by
 obtain ⟨i, hi, hzz⟩ := Option.map_eq_some_iff.1 info_qcl0
 simp only [Prod.mk.injEq] at hzz
 obtain ⟨hz, hs⟩ := hzz
 refine run_buildSlice w _ 88 1 _ n.arr i (.agg (Cl.mk 0 0 0 ⟨0, 0, 0, 0, 0⟩).arr) Tryz.underlying31 hi hz (by rw [hs]; decide) (by rw [hs]; decide) ?_
 rw [hs]
 exact fill_cl1 n
theorem cls_one (x : Cl) : ∀ u ∈ x.cells, u.oneCell' = true := by
 have := Cl.one x
 simp only [Cl.arr] at this
 exact List.all_eq_true.1 (by simpa using this)
theorem cls_seen {w : World} {B : Nat} {v : Value} {C : List Cl} (h : w.ownsRow B 88 8 v C.length (C.flatMap Cl.cells)) (hlen : C.length * 64 <= 140737488351232) :
 ∃ p g cap, v = .slice p C.length cap /\ CIn w p g 0 cap C := by
 cases C with
 | nil =>
  obtain ⟨p, c, e⟩ := zaf h
  exact ⟨p, 0, c, e, fun e => absurd rfl e, fun e => absurd rfl e, fun j hj => by simp at hj, Nat.zero_le _, by simp⟩
 | cons x r =>
  obtain ⟨g, cap, e, h1, _, _⟩ := row_agg Cl.cells (fun _ => rfl) h (by decide) (j := 0) (by simp)
  refine ⟨_, g, cap, e, fun _ => rfl, fun _ => ?_, fun j hj => ?_, h1, hlen⟩
  · exact (h.lt g (by rw [e]; rfl)).2
  ·
   obtain ⟨g', cap', e', _, _, ha⟩ := row_agg Cl.cells (fun _ => rfl) h (by decide) (j := j) hj
   rw [e] at e'
   cases e'
   rw [Nat.zero_add]
   exact ha
theorem classes12_any (pc : Option Addr) (bc oc cc : Nat) (C : List Cl) (w : World) (hC : CIn w pc bc oc cc C) :
 Calls Tryz.prog 10 #[.slice pc C.length cc] w fun e w' => (∃ v, e = .returned v /\ w'.ownsRow w.heap.size 88 8 v C.length (C.flatMap Cl.cells)) /\ Below w.heap.size w w' := by
 have hl := hC.len
 have hcp := hC.cap'
 have H := zzh hC
 clear hC
 obtain ⟨B, hB⟩ : ∃ B, w.heap.size = B := ⟨_, rfl⟩
 have HB := zzh hB
 rw [hB]
 obtain ⟨i0, hi0', hz0, hz1, hz2⟩ := info_parts info_qclb
 go_enter Tryz.func10, Tryz.ntmps10
 go_wp2_with fail
 go_loopg [3, 4] (C.length + 1) (fun gg t3 t4 wr => ∃ i : Nat, gg = C.length + 1 - i /\ i <= C.length /\ t4 = .int .i64 i /\ wr.ownsRow B 88 8 t3 (C.take i).length ((C.take i).flatMap Cl.cells) /\ Below B w wr)
 case atStart => exact ⟨0, rfl, Nat.zero_le _, rfl, World.ownsRow_nil _ _ _ _, Below.refl _ _⟩
 case round =>
  obtain ⟨i, rfl, hi, rfl, hrow, hb⟩ := hrel
  have hi1 : (0 : Int) <= (i : Int) := by omega
  have hBr : B <= wr.heap.size := by have := hb.size; have := HB.out; omega
  by_cases hlt : i < C.length
  ·
   have hi2 : (i : Int) < (C.length : Int) := by omega
   have hCr := H.out.below (show Below w.heap.size w wr by rw [HB.out]; exact hb)
   obtain rfl := hCr.at_ hlt
   have hag := hCr.cl i hlt
   have htk : C.take (i + 1) = C.take i ++ [C[i]] := List.take_succ_eq_append_getElem hlt
   have htl : (C.take i).length = i := by rw [List.length_take]; omega
   obtain ⟨c, hc⟩ : ∃ c, C[i] = c := ⟨_, rfl⟩
   have HCl : Hid (∀ W, Below B wr W -> W.cell? ⟨bc, oc + i * 8, none⟩ = some (.int .i64 c.scale) /\ W.cell? ⟨bc, oc + i * 8 + 1, none⟩ = some (.int .i64 c.most) /\ W.cell? ⟨bc, oc + i * 8 + 2, none⟩ = some (.int .i64 c.have_) /\ agg? W bc (oc + i * 8 + 3) 5 = some c.skip.arr) := zzh fun W hW => by
    have ha := (H.out.below (show Below w.heap.size w W by rw [HB.out]; exact hb.trans hW)).cl i hlt
    rw [hc] at ha
    exact ⟨zau ha 0 _ (Cl.get0 _), zau ha 1 _ (Cl.get1 _), zau ha 2 _ (Cl.get2 _), agg_sub ha 3 5 (by decide)⟩
   rw [hc] at htk
   obtain ⟨out, ho⟩ : ∃ o, C.take i = o := ⟨_, rfl⟩
   rw [ho] at htk htl hrow
   rw [htl] at hrow
   have Htl := zzh htl
   have Htk := zzh htk
   have Hrow := zzh hrow
   have Hb := zzh hb
   obtain ⟨pv, cv, rfl⟩ := zaf hrow
   clear htk hrow hc ho hag hb htl
   go_upto_region 5 with fail
   have hba1 := (Below.refl wr.drew.heap.size wr.drew).alloc (Nat.le_refl _) (.cells c.arr 88)
   have hbd : Below B wr wr.drew := ((Below.refl _ _).drew).mono hBr
   have hba : Below wr.heap.size wr (wr.drew.alloc (.cells c.arr 88)) := ((Below.refl _ _).drew).trans hba1
   have hrow3 := zad Hrow.out hba
   have hbd1 : Below B wr (wr.drew.alloc (.cells c.arr 88)) := hba.mono hBr
   have Hrow3 := zzh (And.intro hrow3 (And.intro hba (And.intro hbd hbd1)))
   have hBd : B <= (wr.drew.alloc (.cells c.arr 88)).heap.size := Nat.le_trans hBr hba.size
   have Hone := zzh (cls_one c)
   have HG : Hid (∀ W, (wr.drew.alloc (.cells c.arr 88)).grownBy W (Value.slice pv i cv).ownBlock -> Below B wr W) := zzh fun W hg => hbd1.grown hg hBd (fun q hq => (hrow3.lt q hq).1)
   clear hba hrow3 hba1 hbd hbd1
   go_region_held3 (fun W => W.cell? ⟨bc, oc + i * 8, none⟩ = some (.int .i64 c.scale) /\ W.cell? ⟨bc, oc + i * 8 + 1, none⟩ = some (.int .i64 c.most) /\ W.cell? ⟨bc, oc + i * 8 + 2, none⟩ = some (.int .i64 c.have_) /\ agg? W bc (oc + i * 8 + 3) 5 = some c.skip.arr)
    (first | exact HCl.out _ Hrow3.out.2.2.1 | exact HCl.out _ Hrow3.out.2.2.2 | exact HCl.out _ (HG.out _ hgrow8))
    ((refine step_append_lies (by rfl) (.tmp 11) (.tmp 33) 31 (by rfl) B 88 i0 (.agg (Cl.mk 0 0 0 ⟨0, 0, 0, 0, 0⟩).arr) 8 64 Tryz.underlying31 hi0' hz0 hz1 hz2 (by rfl) (by decide) (.slice pv i cv) i (out.flatMap Cl.cells) (by rfl) Hrow3.out.1 ⟨wr.heap.size, 0, none⟩ 1 1 c.cells (by rfl) (by rfl) (World.news_of_block (cs := c.arr) (heap_alloc_new wr.drew _)) Hone.out (by decide) (by unfold maxLen; omega) (by omega) hBd _ rfl ?_; intro g8 cap8 w8 hown8 hgrow8 hat8 hlt8))
   have hb8 : Below B w w8 := Hb.out.trans (HG.out _ hgrow8)
   go_wp2_with fail
   go_roundg (C.length + 1 - (i + 1))
   case measure => omega
   case rel => exact ⟨i + 1, rfl, hlt, by go_num, by rw [Htk.out, List.length_append, List.flatMap_append, Htl.out]; simpa using hown8, hb8⟩
  ·
   have hi2 : ¬ (i : Int) < (C.length : Int) := by omega
   obtain rfl : i = C.length := by omega
   rw [List.take_length] at hrow
   obtain ⟨pv, cv, rfl⟩ := zaf hrow
   have HF := zzh (And.intro hrow hb)
   clear hrow hb
   go_wp2_with fail
   go_ret
   exact ⟨⟨_, rfl, HF.out.1⟩, HF.out.2⟩
/-! ### boxes -/
theorem DlIn.box {w : World} {B : Nat} {vs : Nat -> Value} {bv : Value} {pg : List Nd} {d : Dl} (h : DlIn w B vs bv pg d) {i : Nat} (hi : i < d.boxes.length) (hl : d.boxes[i].length <= 10000000) :
 ∃ g c p b o, bv = .slice (some ⟨g, 0, none⟩) d.boxes.length c /\ d.boxes.length <= c /\ w.cell? ⟨g, i, none⟩ = some (.slice p d.boxes[i].length o) /\ NIn w p b 0 o d.boxes[i] := by
 obtain ⟨g, c, e, _, hc, _, hx, _⟩ := zbv h.out (k := i) (by omega)
 have hr := h.rws.row (i + 2) (by omega)
 have hx2 : rowX pg d (i + 2) = d.boxes[i] := by
  show (d.boxes[i]?).getD [] = _
  rw [List.getElem?_eq_getElem hi]
  rfl
 rw [hx2] at hr
 obtain ⟨_, p, b, o, e2, hn, _⟩ := zbS hr (by omega)
 exact ⟨g, c, p, b, o, e, hc, by rw [hx, e2], hn⟩
theorem boxes12_any {w : World} {B B' : Nat} {vs vs' : Nat -> Value} {bv bv' : Value} {pg pg' : List Nd} {d : Dl} (h1 : DlIn w B vs bv pg d) (h2 : DlIn w B' vs' bv' pg' d) (hl : d.boxes.length <= 255) (hlen : ∀ x ∈ d.boxes, x.length <= 10000000) :
 Calls Tryz.prog 12 #[bv, bv'] w fun e w' => e = .returned (.bool true) /\ ∃ n, w' = w.drewN n := by
 have HBx : Hid (∀ i, (hi : i < d.boxes.length) -> (∃ g c p b o, bv = .slice (some ⟨g, 0, none⟩) d.boxes.length c /\ d.boxes.length <= c /\ w.cell? ⟨g, i, none⟩ = some (.slice p d.boxes[i].length o) /\ NIn w p b 0 o d.boxes[i]) /\ (∃ g c p b o, bv' = .slice (some ⟨g, 0, none⟩) d.boxes.length c /\ d.boxes.length <= c /\ w.cell? ⟨g, i, none⟩ = some (.slice p d.boxes[i].length o) /\ NIn w p b 0 o d.boxes[i])) := zzh fun i hi => ⟨h1.box hi (hlen _ (List.getElem_mem hi)), h2.box hi (hlen _ (List.getElem_mem hi))⟩
 obtain ⟨p1, c1, rfl⟩ := zaf h1.out
 obtain ⟨p2, c2, rfl⟩ := zaf h2.out
 clear h1 h2 hlen
 obtain ⟨n, hn⟩ : ∃ n, d.boxes.length = n := ⟨_, rfl⟩
 have Hn := zzh hn
 rw [hn] at hl ⊢
 clear hn
 have hnn : ((n : Int) != (n : Int)) = false := by simp
 go_enter Tryz.func12, Tryz.ntmps12
 go_wp2_with fail
 go_loopg [5] (n + 1) (fun gg t5 wr => ∃ i m : Nat, gg = n + 1 - i /\ i <= n /\ t5 = .int .i64 i /\ wr = w.drewN m)
 case atStart => exact ⟨0, 0, rfl, Nat.zero_le _, rfl, rfl⟩
 case round =>
  obtain ⟨i, m, rfl, hi, rfl, rfl⟩ := hrel
  have hi1 : (0 : Int) <= (i : Int) := by omega
  by_cases hlt : i < n
  ·
   have hi2 : (i : Int) < (n : Int) := by omega
   have hlt2 : i < d.boxes.length := by rw [Hn.out]; exact hlt
   obtain ⟨⟨g1, k1, q1, b1, o1, e1, f1, x1, n1⟩, ⟨g2, k2, q2, b2, o2, e2, f2, x2, n2⟩⟩ := HBx.out i hlt2
   rw [Hn.out] at e1 e2 f1 f2
   cases e1
   cases e2
   obtain ⟨W0, hW0⟩ : ∃ W0, w.drewN m = W0 := ⟨_, rfl⟩
   have HSm : Hid (∀ j, Calls Tryz.prog 11 #[.slice q1 d.boxes[i].length o1, .slice q2 d.boxes[i].length o2] (W0.drewN j) fun e w' => e = .returned (.bool true) /\ ∃ m, w' = (W0.drewN j).drewN m) := zzh fun j => by
    rw [<- hW0]
    exact (same_any q1 q2 b1 0 o1 b2 0 o2 d.boxes[i] d.boxes[i] _ ((n1.drewN m).drewN j) ((n2.drewN m).drewN j)).mono fun e w' h => ⟨by rw [h.1]; simp, h.2⟩
   have z1 : W0.cell? ⟨g1, i, none⟩ = some (.slice q1 d.boxes[i].length o1) := by rw [<- hW0]; exact x1
   have z2 : W0.cell? ⟨g2, i, none⟩ = some (.slice q2 d.boxes[i].length o2) := by rw [<- hW0]; exact x2
   have HW0 := zzh hW0
   rw [hW0]
   generalize d.boxes[i].length = len at z1 z2 HSm
   clear n1 n2 hlt2 x1 x2 hW0
   go_upto_region 6 with fail
   go_quiet ((go_at_call 11; exact Calls.quiet_of (HSm.out _)))
   go_wp2_with fail
   go_roundg (n + 1 - (i + 1))
   case measure => omega
   case rel => exact ⟨i + 1, _, rfl, hlt, by go_num, by rw [<- HW0.out, World.drewN_drewN]⟩
  ·
   have hi2 : ¬ (i : Int) < (n : Int) := by omega
   go_wp2_with fail
   go_ret
   exact ⟨rfl, _, rfl⟩
end Go.Proofs.YtaehkbbdmamfpaaGreatDoor
