/-
  Layer 5, the document's side: whether a node may be: all kinds.
-/
import Derived.Test.YtaehkbbdmamfpaaGreatDoorQ2
set_option maxRecDepth 100000
set_option maxHeartbeats 8000000
namespace Go.Proofs.YtaehkbbdmamfpaaGreatDoor
open Go.ChangeShapes Go.WideShapes Go.ChangeAt Go.RowKit
section
theorem text_some {t : ByteArray} (h : ¬ t = ⟨#[]⟩) : t.toList.isEmpty = false := by
 cases hl : t.toList with
 | nil => exact absurd (bytes_toList_inj.1 (hl.trans (by first | decide | simp | simp [ByteArray.toList, ByteArray.toList.loop] | (unfold ByteArray.toList ByteArray.toList.loop; simp)))) h
 | cons a l => rfl
def zbu (n : Nd) : Bool := zbG n.w n.h n.d && zab n.font 0 63 && decide (n.text = ⟨#[]⟩) && eqNd (zcr n) { Nd.zero with kind := n.kind, font := n.font, char := n.char, text := n.text }
theorem qglyph1 (n : Nd) (w : World) (hk : n.kind = 1) : Calls Tryz.prog 126 #[.agg n.arr] w fun e w' => e = .returned (.bool (zbu n)) /\ Below w.heap.size w w' := by
 have hm := NB.new w n
 obtain ⟨-, aa, ag, c0, c1, c2, c4, c5, c3, c6, c12, c13, c14, c15, c16, c17, c18⟩ := hm.seen
 have HBare : Hid (∀ W, NB w n W -> Calls Tryz.prog 144 #[.agg n.arr] W fun e w' => e = .returned (.agg (zcr n).arr) /\ NB w n w') := zzh fun W h => (qbare n W).mono fun _ _ ⟨a, b⟩ => ⟨a, h.call b⟩
 cases h3 : zbG n.w n.h n.d
 ·
  skip
  have Hv := zzh (show zbu n = false by simp [zbu, h3])
  go_enter Tryz.func126, Tryz.ntmps126
  go_upto_region 1 with (fail)
  generalize w.alloc (.cells n.arr 53) = w1 at hm aa ag c0 c1 c2 c4 c5 c3 c6 c12 c13 c14 c15 c16 c17 c18 ⊢
  go_wp2_with (first | (go_at_call 143; refine (zaG _ _).mono ?_; rintro e w2 ⟨rfl, hb2⟩; have hm2 := hm.call hb2; obtain ⟨-, aa, ag, c0, c1, c2, c4, c5, c3, c6, c12, c13, c14, c15, c16, c17, c18⟩ := hm2.seen))
  go_ret
  exact ⟨zaa Hv.out.symm, hm2.below⟩
 rcases Int.lt_or_le n.font 0 with a1 | b1
 ·
  skip
  have Hv := zzh (show zbu n = false by simp [zbu, h3, show zab n.font 0 63 = false by simp [zab]; omega])
  go_enter Tryz.func126, Tryz.ntmps126
  go_upto_region 1 with (fail)
  generalize w.alloc (.cells n.arr 53) = w1 at hm aa ag c0 c1 c2 c4 c5 c3 c6 c12 c13 c14 c15 c16 c17 c18 ⊢
  go_wp2_with (first | (go_at_call 143; refine (zaG _ _).mono ?_; rintro e w2 ⟨rfl, hb2⟩; have hm2 := hm.call hb2; obtain ⟨-, aa, ag, c0, c1, c2, c4, c5, c3, c6, c12, c13, c14, c15, c16, c17, c18⟩ := hm2.seen))
  go_ret
  exact ⟨zaa Hv.out.symm, hm2.below⟩
 rcases Int.lt_or_le n.font 64 with a2 | b2
 rotate_left
 ·
  skip
  have Hv := zzh (show zbu n = false by simp [zbu, h3, show zab n.font 0 63 = false by simp [zab]; omega])
  go_enter Tryz.func126, Tryz.ntmps126
  go_upto_region 1 with (fail)
  generalize w.alloc (.cells n.arr 53) = w1 at hm aa ag c0 c1 c2 c4 c5 c3 c6 c12 c13 c14 c15 c16 c17 c18 ⊢
  go_wp2_with (first | (go_at_call 143; refine (zaG _ _).mono ?_; rintro e w2 ⟨rfl, hb2⟩; have hm2 := hm.call hb2; obtain ⟨-, aa, ag, c0, c1, c2, c4, c5, c3, c6, c12, c13, c14, c15, c16, c17, c18⟩ := hm2.seen))
  go_ret
  exact ⟨zaa Hv.out.symm, hm2.below⟩
 have hw : zab n.font 0 63 = true := by simp [zab]; omega
 by_cases ht : n.text = ⟨#[]⟩
 ·
  skip
  have Hv := zzh (show zbu n = eqNd (zcr n) { Nd.zero with kind := n.kind, font := n.font, char := n.char, text := n.text } by simp [zbu, h3, hw, ht])
  go_enter Tryz.func126, Tryz.ntmps126
  go_upto_region 1 with (fail)
  generalize w.alloc (.cells n.arr 53) = w1 at hm aa ag c0 c1 c2 c4 c5 c3 c6 c12 c13 c14 c15 c16 c17 c18 ⊢
  go_wp2_with (first | (go_at_call 143; refine (zaG _ _).mono ?_; rintro e w2 ⟨rfl, hb2⟩; have hm2 := hm.call hb2; obtain ⟨-, aa, ag, c0, c1, c2, c4, c5, c3, c6, c12, c13, c14, c15, c16, c17, c18⟩ := hm2.seen))
  go_region_held3 (fun w' => NB w n w' /\ agg? w' w.heap.size 0 19 = some n.arr /\ agg? w' w.heap.size 7 5 = some n.glue.arr /\ w'.cell? ⟨w.heap.size, 0, none⟩ = some (.int .i64 n.kind) /\ w'.cell? ⟨w.heap.size, 1, none⟩ = some (.int .i64 n.font) /\ w'.cell? ⟨w.heap.size, 2, none⟩ = some (.int .u8 n.char) /\ w'.cell? ⟨w.heap.size, 4, none⟩ = some (.int .i64 n.h) /\ w'.cell? ⟨w.heap.size, 5, none⟩ = some (.int .i64 n.d) /\ w'.cell? ⟨w.heap.size, 3, none⟩ = some (.int .i64 n.w) /\ w'.cell? ⟨w.heap.size, 6, none⟩ = some (.int .i64 n.shift) /\ w'.cell? ⟨w.heap.size, 12, none⟩ = some (.int .i64 n.sign) /\ w'.cell? ⟨w.heap.size, 13, none⟩ = some (.int .i64 n.order) /\ w'.cell? ⟨w.heap.size, 14, none⟩ = some (.int .i64 n.num) /\ w'.cell? ⟨w.heap.size, 15, none⟩ = some (.int .i64 n.den) /\ w'.cell? ⟨w.heap.size, 16, none⟩ = some (.int .i64 n.pen) /\ w'.cell? ⟨w.heap.size, 17, none⟩ = some (.int .i64 n.sub) /\ w'.cell? ⟨w.heap.size, 18, none⟩ = some (.string n.text)) ((refine NB.seen ?_; first | assumption | exact hm2.drew)) (((with_reducible refine (HBare.out _ (And.left (by assumption))).mono ?_); rintro e w8 ⟨rfl, h8⟩))
  go_wp2_with fail
  go_ret
  exact ⟨zaa (by rw [Hv.out, hk, ht]), h8.below⟩
 have he : n.text.toList.isEmpty = false := text_some ht
 have Hv := zzh (show zbu n = false by simp [zbu, h3, hw, ht])
 go_enter Tryz.func126, Tryz.ntmps126
 go_upto_region 1 with (fail)
 generalize w.alloc (.cells n.arr 53) = w1 at hm aa ag c0 c1 c2 c4 c5 c3 c6 c12 c13 c14 c15 c16 c17 c18 ⊢
 go_wp2_with (first | (go_at_call 143; refine (zaG _ _).mono ?_; rintro e w2 ⟨rfl, hb2⟩; have hm2 := hm.call hb2; obtain ⟨-, aa, ag, c0, c1, c2, c4, c5, c3, c6, c12, c13, c14, c15, c16, c17, c18⟩ := hm2.seen))
 go_ret
 exact ⟨zaa Hv.out.symm, hm2.below⟩
def zbi (n : Nd) : Bool := zbG n.w n.h n.d && zab n.font 0 63 && zab n.text.size 1 63 && eqNd (zcr n) { Nd.zero with kind := n.kind, font := n.font, char := n.char, text := n.text }
theorem qglyph2 (n : Nd) (w : World) (hk : n.kind = 2) : Calls Tryz.prog 126 #[.agg n.arr] w fun e w' => e = .returned (.bool (zbi n)) /\ Below w.heap.size w w' := by
 have hm := NB.new w n
 obtain ⟨-, aa, ag, c0, c1, c2, c4, c5, c3, c6, c12, c13, c14, c15, c16, c17, c18⟩ := hm.seen
 have HBare : Hid (∀ W, NB w n W -> Calls Tryz.prog 144 #[.agg n.arr] W fun e w' => e = .returned (.agg (zcr n).arr) /\ NB w n w') := zzh fun W h => (qbare n W).mono fun _ _ ⟨a, b⟩ => ⟨a, h.call b⟩
 cases h3 : zbG n.w n.h n.d
 ·
  skip
  have Hv := zzh (show zbi n = false by simp [zbi, h3])
  go_enter Tryz.func126, Tryz.ntmps126
  go_upto_region 1 with (fail)
  generalize w.alloc (.cells n.arr 53) = w1 at hm aa ag c0 c1 c2 c4 c5 c3 c6 c12 c13 c14 c15 c16 c17 c18 ⊢
  go_wp2_with (first | (go_at_call 143; refine (zaG _ _).mono ?_; rintro e w2 ⟨rfl, hb2⟩; have hm2 := hm.call hb2; obtain ⟨-, aa, ag, c0, c1, c2, c4, c5, c3, c6, c12, c13, c14, c15, c16, c17, c18⟩ := hm2.seen))
  go_ret
  exact ⟨zaa Hv.out.symm, hm2.below⟩
 rcases Int.lt_or_le n.font 0 with a1 | b1
 ·
  skip
  have Hv := zzh (show zbi n = false by simp [zbi, h3, show zab n.font 0 63 = false by simp [zab]; omega])
  go_enter Tryz.func126, Tryz.ntmps126
  go_upto_region 1 with (fail)
  generalize w.alloc (.cells n.arr 53) = w1 at hm aa ag c0 c1 c2 c4 c5 c3 c6 c12 c13 c14 c15 c16 c17 c18 ⊢
  go_wp2_with (first | (go_at_call 143; refine (zaG _ _).mono ?_; rintro e w2 ⟨rfl, hb2⟩; have hm2 := hm.call hb2; obtain ⟨-, aa, ag, c0, c1, c2, c4, c5, c3, c6, c12, c13, c14, c15, c16, c17, c18⟩ := hm2.seen))
  go_ret
  exact ⟨zaa Hv.out.symm, hm2.below⟩
 rcases Int.lt_or_le n.font 64 with a2 | b2
 rotate_left
 ·
  skip
  have Hv := zzh (show zbi n = false by simp [zbi, h3, show zab n.font 0 63 = false by simp [zab]; omega])
  go_enter Tryz.func126, Tryz.ntmps126
  go_upto_region 1 with (fail)
  generalize w.alloc (.cells n.arr 53) = w1 at hm aa ag c0 c1 c2 c4 c5 c3 c6 c12 c13 c14 c15 c16 c17 c18 ⊢
  go_wp2_with (first | (go_at_call 143; refine (zaG _ _).mono ?_; rintro e w2 ⟨rfl, hb2⟩; have hm2 := hm.call hb2; obtain ⟨-, aa, ag, c0, c1, c2, c4, c5, c3, c6, c12, c13, c14, c15, c16, c17, c18⟩ := hm2.seen))
  go_ret
  exact ⟨zaa Hv.out.symm, hm2.below⟩
 have hw : zab n.font 0 63 = true := by simp [zab]; omega
 have htz : (0 : Int) <= (n.text.size : Int) := by omega
 rcases Int.lt_or_le (n.text.size : Int) 1 with a3 | b3
 ·
  skip
  have Hv := zzh (show zbi n = false by simp [zbi, h3, hw, show zab n.text.size 1 63 = false by simp [zab]; omega])
  go_enter Tryz.func126, Tryz.ntmps126
  go_upto_region 1 with (fail)
  generalize w.alloc (.cells n.arr 53) = w1 at hm aa ag c0 c1 c2 c4 c5 c3 c6 c12 c13 c14 c15 c16 c17 c18 ⊢
  go_wp2_with (first | (go_at_call 143; refine (zaG _ _).mono ?_; rintro e w2 ⟨rfl, hb2⟩; have hm2 := hm.call hb2; obtain ⟨-, aa, ag, c0, c1, c2, c4, c5, c3, c6, c12, c13, c14, c15, c16, c17, c18⟩ := hm2.seen))
  go_ret
  exact ⟨zaa Hv.out.symm, hm2.below⟩
 rcases Int.lt_or_le 63 (n.text.size : Int) with a4 | b4
 ·
  skip
  have Hv := zzh (show zbi n = false by simp [zbi, h3, hw, show zab n.text.size 1 63 = false by simp [zab]; omega])
  go_enter Tryz.func126, Tryz.ntmps126
  go_upto_region 1 with (fail)
  generalize w.alloc (.cells n.arr 53) = w1 at hm aa ag c0 c1 c2 c4 c5 c3 c6 c12 c13 c14 c15 c16 c17 c18 ⊢
  go_wp2_with (first | (go_at_call 143; refine (zaG _ _).mono ?_; rintro e w2 ⟨rfl, hb2⟩; have hm2 := hm.call hb2; obtain ⟨-, aa, ag, c0, c1, c2, c4, c5, c3, c6, c12, c13, c14, c15, c16, c17, c18⟩ := hm2.seen))
  go_ret
  exact ⟨zaa Hv.out.symm, hm2.below⟩
 have Hv := zzh (show zbi n = eqNd (zcr n) { Nd.zero with kind := n.kind, font := n.font, char := n.char, text := n.text } by simp [zbi, h3, hw, show zab n.text.size 1 63 = true by simp [zab]; omega])
 go_enter Tryz.func126, Tryz.ntmps126
 go_upto_region 1 with (fail)
 generalize w.alloc (.cells n.arr 53) = w1 at hm aa ag c0 c1 c2 c4 c5 c3 c6 c12 c13 c14 c15 c16 c17 c18 ⊢
 go_wp2_with (first | (go_at_call 143; refine (zaG _ _).mono ?_; rintro e w2 ⟨rfl, hb2⟩; have hm2 := hm.call hb2; obtain ⟨-, aa, ag, c0, c1, c2, c4, c5, c3, c6, c12, c13, c14, c15, c16, c17, c18⟩ := hm2.seen))
 go_region_held3 (fun w' => NB w n w' /\ agg? w' w.heap.size 0 19 = some n.arr /\ agg? w' w.heap.size 7 5 = some n.glue.arr /\ w'.cell? ⟨w.heap.size, 0, none⟩ = some (.int .i64 n.kind) /\ w'.cell? ⟨w.heap.size, 1, none⟩ = some (.int .i64 n.font) /\ w'.cell? ⟨w.heap.size, 2, none⟩ = some (.int .u8 n.char) /\ w'.cell? ⟨w.heap.size, 4, none⟩ = some (.int .i64 n.h) /\ w'.cell? ⟨w.heap.size, 5, none⟩ = some (.int .i64 n.d) /\ w'.cell? ⟨w.heap.size, 3, none⟩ = some (.int .i64 n.w) /\ w'.cell? ⟨w.heap.size, 6, none⟩ = some (.int .i64 n.shift) /\ w'.cell? ⟨w.heap.size, 12, none⟩ = some (.int .i64 n.sign) /\ w'.cell? ⟨w.heap.size, 13, none⟩ = some (.int .i64 n.order) /\ w'.cell? ⟨w.heap.size, 14, none⟩ = some (.int .i64 n.num) /\ w'.cell? ⟨w.heap.size, 15, none⟩ = some (.int .i64 n.den) /\ w'.cell? ⟨w.heap.size, 16, none⟩ = some (.int .i64 n.pen) /\ w'.cell? ⟨w.heap.size, 17, none⟩ = some (.int .i64 n.sub) /\ w'.cell? ⟨w.heap.size, 18, none⟩ = some (.string n.text)) ((refine NB.seen ?_; first | assumption | exact hm2.drew)) (((with_reducible refine (HBare.out _ (And.left (by assumption))).mono ?_); rintro e w8 ⟨rfl, h8⟩))
 go_wp2_with fail
 go_ret
 exact ⟨zaa (by rw [Hv.out, hk]), h8.below⟩
def zag (k : Nat) (n : Nd) : Bool := match k with
 | 1 => zbu n | 2 => zbi n | 3 => zbb n | 4 => zaY n | 5 => zaY n
 | 7 => n.glue.good && zab n.sub 0 20 && eqNd n { Nd.zero with kind := n.kind, glue := n.glue, sub := n.sub }
 | 8 => zac n.w && zab n.sub 0 2 && eqNd n { Nd.zero with kind := n.kind, w := n.w, sub := n.sub }
 | 9 => !farB n.pen && eqNd n { Nd.zero with kind := n.kind, pen := n.pen }
 | 12 => decide ((n.text.size : Int) <= 1000) && eqNd n { Nd.zero with kind := n.kind, text := n.text }
 | 14 => decide ((n.text.size : Int) <= 1000) && eqNd n { Nd.zero with kind := n.kind, text := n.text }
 | 13 => zac n.h && zac n.d && zab n.sub 0 254 && !farB n.pen && n.glue.good && eqNd n { Nd.zero with kind := n.kind, sub := n.sub, h := n.h, d := n.d, pen := n.pen, glue := n.glue }
 | 15 => zac n.w && eqNd n { Nd.zero with kind := n.kind, w := n.w }
 | 16 => zac n.w && eqNd n { Nd.zero with kind := n.kind, w := n.w }
 | 6 => eqNd n { Nd.zero with kind := n.kind } | 10 => eqNd n { Nd.zero with kind := n.kind } | 11 => eqNd n { Nd.zero with kind := n.kind } | 17 => eqNd n { Nd.zero with kind := n.kind }
 | _ => false
theorem qgood_1 (n : Nd) (w : World) (hk : n.kind = 1) : Calls Tryz.prog 99 #[.agg n.arr] w fun e w' => e = .returned (.bool (zag 1 n)) /\ Below w.heap.size w w' := by
 have hm := NB.new w n
 obtain ⟨-, aa, ag, c0, c1, c2, c4, c5, c3, c6, c12, c13, c14, c15, c16, c17, c18⟩ := hm.seen
 skip
 have Hv := zzh (show zag 1 n = zbu n by rfl)
 go_enter Tryz.func99, Tryz.ntmps99
 go_upto_region 1 with (fail)
 generalize w.alloc (.cells n.arr 53) = w1 at hm aa ag c0 c1 c2 c4 c5 c3 c6 c12 c13 c14 c15 c16 c17 c18 ⊢
 go_wp2_with (first | (go_at_call 126; refine (qglyph1 n _ hk).mono ?_; rintro e w2 ⟨rfl, hb2⟩; have hm2 := hm.call hb2))
 go_ret
 exact ⟨zaa Hv.out.symm, hm2.below⟩
theorem qgood_2 (n : Nd) (w : World) (hk : n.kind = 2) : Calls Tryz.prog 99 #[.agg n.arr] w fun e w' => e = .returned (.bool (zag 2 n)) /\ Below w.heap.size w w' := by
 have hm := NB.new w n
 obtain ⟨-, aa, ag, c0, c1, c2, c4, c5, c3, c6, c12, c13, c14, c15, c16, c17, c18⟩ := hm.seen
 skip
 have Hv := zzh (show zag 2 n = zbi n by rfl)
 go_enter Tryz.func99, Tryz.ntmps99
 go_upto_region 1 with (fail)
 generalize w.alloc (.cells n.arr 53) = w1 at hm aa ag c0 c1 c2 c4 c5 c3 c6 c12 c13 c14 c15 c16 c17 c18 ⊢
 go_wp2_with (first | (go_at_call 126; refine (qglyph2 n _ hk).mono ?_; rintro e w2 ⟨rfl, hb2⟩; have hm2 := hm.call hb2))
 go_ret
 exact ⟨zaa Hv.out.symm, hm2.below⟩
theorem qgood_3 (n : Nd) (w : World) (hk : n.kind = 3) : Calls Tryz.prog 99 #[.agg n.arr] w fun e w' => e = .returned (.bool (zag 3 n)) /\ Below w.heap.size w w' := by
 have hm := NB.new w n
 obtain ⟨-, aa, ag, c0, c1, c2, c4, c5, c3, c6, c12, c13, c14, c15, c16, c17, c18⟩ := hm.seen
 skip
 have Hv := zzh (show zag 3 n = zbb n by rfl)
 go_enter Tryz.func99, Tryz.ntmps99
 go_upto_region 1 with (fail)
 generalize w.alloc (.cells n.arr 53) = w1 at hm aa ag c0 c1 c2 c4 c5 c3 c6 c12 c13 c14 c15 c16 c17 c18 ⊢
 go_wp2_with (first | (go_at_call 127; refine (qrule n _).mono ?_; rintro e w2 ⟨rfl, hb2⟩; have hm2 := hm.call hb2))
 go_ret
 exact ⟨zaa Hv.out.symm, hm2.below⟩
theorem qgood_4 (n : Nd) (w : World) (hk : n.kind = 4) : Calls Tryz.prog 99 #[.agg n.arr] w fun e w' => e = .returned (.bool (zag 4 n)) /\ Below w.heap.size w w' := by
 have hm := NB.new w n
 obtain ⟨-, aa, ag, c0, c1, c2, c4, c5, c3, c6, c12, c13, c14, c15, c16, c17, c18⟩ := hm.seen
 skip
 have Hv := zzh (show zag 4 n = zaY n by rfl)
 go_enter Tryz.func99, Tryz.ntmps99
 go_upto_region 1 with (fail)
 generalize w.alloc (.cells n.arr 53) = w1 at hm aa ag c0 c1 c2 c4 c5 c3 c6 c12 c13 c14 c15 c16 c17 c18 ⊢
 go_wp2_with (first | (go_at_call 128; refine (qbox n _).mono ?_; rintro e w2 ⟨rfl, hb2⟩; have hm2 := hm.call hb2))
 go_ret
 exact ⟨zaa Hv.out.symm, hm2.below⟩
theorem qgood_5 (n : Nd) (w : World) (hk : n.kind = 5) : Calls Tryz.prog 99 #[.agg n.arr] w fun e w' => e = .returned (.bool (zag 5 n)) /\ Below w.heap.size w w' := by
 have hm := NB.new w n
 obtain ⟨-, aa, ag, c0, c1, c2, c4, c5, c3, c6, c12, c13, c14, c15, c16, c17, c18⟩ := hm.seen
 skip
 have Hv := zzh (show zag 5 n = zaY n by rfl)
 go_enter Tryz.func99, Tryz.ntmps99
 go_upto_region 1 with (fail)
 generalize w.alloc (.cells n.arr 53) = w1 at hm aa ag c0 c1 c2 c4 c5 c3 c6 c12 c13 c14 c15 c16 c17 c18 ⊢
 go_wp2_with (first | (go_at_call 128; refine (qbox n _).mono ?_; rintro e w2 ⟨rfl, hb2⟩; have hm2 := hm.call hb2))
 go_ret
 exact ⟨zaa Hv.out.symm, hm2.below⟩
theorem qgood_7 (n : Nd) (w : World) (hk : n.kind = 7) : Calls Tryz.prog 99 #[.agg n.arr] w fun e w' => e = .returned (.bool (zag 7 n)) /\ Below w.heap.size w w' := by
 have hm := NB.new w n
 obtain ⟨-, aa, ag, c0, c1, c2, c4, c5, c3, c6, c12, c13, c14, c15, c16, c17, c18⟩ := hm.seen
 skip
 cases hg : n.glue.good
 ·
  have HGl : Hid (∀ W, Calls Tryz.prog 129 #[.agg n.glue.arr] W fun e w' => e = .returned (.int .i64 30) /\ Below W.heap.size W w') := zzh fun W => zcp _ _ (by rw [hg]; rfl) W
  have Hv := zzh (show zag 7 n = false by simp [zag, hg])
  go_enter Tryz.func99, Tryz.ntmps99
  go_upto_region 1 with (fail)
  generalize w.alloc (.cells n.arr 53) = w1 at hm aa ag c0 c1 c2 c4 c5 c3 c6 c12 c13 c14 c15 c16 c17 c18 ⊢
  go_wp2_with (first | (go_at_call 129; refine (HGl.out _).mono ?_; rintro e w2 ⟨rfl, hb2⟩; have hm2 := hm.call hb2; obtain ⟨-, aa, ag, c0, c1, c2, c4, c5, c3, c6, c12, c13, c14, c15, c16, c17, c18⟩ := hm2.seen))
  go_ret
  exact ⟨zaa Hv.out.symm, hm2.below⟩
 have HGl : Hid (∀ W, Calls Tryz.prog 129 #[.agg n.glue.arr] W fun e w' => e = .returned (.int .i64 0) /\ Below W.heap.size W w') := zzh fun W => zcp _ _ (by rw [hg]; rfl) W
 rcases Int.lt_or_le n.sub 0 with a | b
 ·
  skip
  have Hv := zzh (show zag 7 n = false by simp [zag, hg, show zab n.sub 0 20 = false by simp [zab]; omega])
  go_enter Tryz.func99, Tryz.ntmps99
  go_upto_region 1 with (fail)
  generalize w.alloc (.cells n.arr 53) = w1 at hm aa ag c0 c1 c2 c4 c5 c3 c6 c12 c13 c14 c15 c16 c17 c18 ⊢
  go_wp2_with (first | (go_at_call 129; refine (HGl.out _).mono ?_; rintro e w2 ⟨rfl, hb2⟩; have hm2 := hm.call hb2; obtain ⟨-, aa, ag, c0, c1, c2, c4, c5, c3, c6, c12, c13, c14, c15, c16, c17, c18⟩ := hm2.seen))
  go_ret
  exact ⟨zaa Hv.out.symm, hm2.below⟩
 rcases Int.lt_or_le 20 n.sub with a0 | b0
 ·
  skip
  have Hv := zzh (show zag 7 n = false by simp [zag, hg, show zab n.sub 0 20 = false by simp [zab]; omega])
  go_enter Tryz.func99, Tryz.ntmps99
  go_upto_region 1 with (fail)
  generalize w.alloc (.cells n.arr 53) = w1 at hm aa ag c0 c1 c2 c4 c5 c3 c6 c12 c13 c14 c15 c16 c17 c18 ⊢
  go_wp2_with (first | (go_at_call 129; refine (HGl.out _).mono ?_; rintro e w2 ⟨rfl, hb2⟩; have hm2 := hm.call hb2; obtain ⟨-, aa, ag, c0, c1, c2, c4, c5, c3, c6, c12, c13, c14, c15, c16, c17, c18⟩ := hm2.seen))
  go_ret
  exact ⟨zaa Hv.out.symm, hm2.below⟩
 have hw : zab n.sub 0 20 = true := by simp [zab]; omega
 have Hv := zzh (show zag 7 n = eqNd n { Nd.zero with kind := n.kind, glue := n.glue, sub := n.sub } by simp [zag, hg, hw])
 go_enter Tryz.func99, Tryz.ntmps99
 go_upto_region 1 with (fail)
 generalize w.alloc (.cells n.arr 53) = w1 at hm aa ag c0 c1 c2 c4 c5 c3 c6 c12 c13 c14 c15 c16 c17 c18 ⊢
 go_wp2_with (first | fail | (go_at_call 129; refine (HGl.out _).mono ?_; rintro e w2 ⟨rfl, hb2⟩; have hm2 := hm.call hb2; obtain ⟨-, aa, ag, c0, c1, c2, c4, c5, c3, c6, c12, c13, c14, c15, c16, c17, c18⟩ := hm2.seen))
 go_ret
 exact ⟨zaa (by rw [Hv.out, hk]), hm2.below⟩
theorem qgood_8 (n : Nd) (w : World) (hk : n.kind = 8) : Calls Tryz.prog 99 #[.agg n.arr] w fun e w' => e = .returned (.bool (zag 8 n)) /\ Below w.heap.size w w' := by
 have hm := NB.new w n
 obtain ⟨-, aa, ag, c0, c1, c2, c4, c5, c3, c6, c12, c13, c14, c15, c16, c17, c18⟩ := hm.seen
 skip
 cases h1 : zac n.w
 ·
  skip
  have Hv := zzh (show zag 8 n = false by simp [zag, h1])
  go_enter Tryz.func99, Tryz.ntmps99
  go_upto_region 1 with (fail)
  generalize w.alloc (.cells n.arr 53) = w1 at hm aa ag c0 c1 c2 c4 c5 c3 c6 c12 c13 c14 c15 c16 c17 c18 ⊢
  go_wp2_with (first | (go_at_call 123; refine (zaz _ _).mono ?_; rintro e w' ⟨rfl, rfl⟩))
  go_ret
  exact ⟨zaa Hv.out.symm, hm.below⟩
 rcases Int.lt_or_le n.sub 0 with a | b
 ·
  skip
  have Hv := zzh (show zag 8 n = false by simp [zag, h1, show zab n.sub 0 2 = false by simp [zab]; omega])
  go_enter Tryz.func99, Tryz.ntmps99
  go_upto_region 1 with (fail)
  generalize w.alloc (.cells n.arr 53) = w1 at hm aa ag c0 c1 c2 c4 c5 c3 c6 c12 c13 c14 c15 c16 c17 c18 ⊢
  go_wp2_with (first | (go_at_call 123; refine (zaz _ _).mono ?_; rintro e w' ⟨rfl, rfl⟩))
  go_ret
  exact ⟨zaa Hv.out.symm, hm.below⟩
 rcases Int.lt_or_le 2 n.sub with a0 | b0
 ·
  skip
  have Hv := zzh (show zag 8 n = false by simp [zag, h1, show zab n.sub 0 2 = false by simp [zab]; omega])
  go_enter Tryz.func99, Tryz.ntmps99
  go_upto_region 1 with (fail)
  generalize w.alloc (.cells n.arr 53) = w1 at hm aa ag c0 c1 c2 c4 c5 c3 c6 c12 c13 c14 c15 c16 c17 c18 ⊢
  go_wp2_with (first | (go_at_call 123; refine (zaz _ _).mono ?_; rintro e w' ⟨rfl, rfl⟩))
  go_ret
  exact ⟨zaa Hv.out.symm, hm.below⟩
 have hw : zab n.sub 0 2 = true := by simp [zab]; omega
 have Hv := zzh (show zag 8 n = eqNd n { Nd.zero with kind := n.kind, w := n.w, sub := n.sub } by simp [zag, h1, hw])
 go_enter Tryz.func99, Tryz.ntmps99
 go_upto_region 1 with (fail)
 generalize w.alloc (.cells n.arr 53) = w1 at hm aa ag c0 c1 c2 c4 c5 c3 c6 c12 c13 c14 c15 c16 c17 c18 ⊢
 go_wp2_with (first | fail | (go_at_call 123; refine (zaz _ _).mono ?_; rintro e w' ⟨rfl, rfl⟩))
 go_ret
 exact ⟨zaa (by rw [Hv.out, hk]), hm.below⟩
theorem qgood_9 (n : Nd) (w : World) (hk : n.kind = 9) : Calls Tryz.prog 99 #[.agg n.arr] w fun e w' => e = .returned (.bool (zag 9 n)) /\ Below w.heap.size w w' := by
 have hm := NB.new w n
 obtain ⟨-, aa, ag, c0, c1, c2, c4, c5, c3, c6, c12, c13, c14, c15, c16, c17, c18⟩ := hm.seen
 skip
 cases h1 : farB n.pen
 rotate_left
 ·
  skip
  have Hv := zzh (show zag 9 n = false by simp [zag, h1])
  go_enter Tryz.func99, Tryz.ntmps99
  go_upto_region 1 with (fail)
  generalize w.alloc (.cells n.arr 53) = w1 at hm aa ag c0 c1 c2 c4 c5 c3 c6 c12 c13 c14 c15 c16 c17 c18 ⊢
  go_wp2_with (first | (go_at_call 130; refine (qfar _ _).mono ?_; rintro e w' ⟨rfl, rfl⟩))
  go_ret
  exact ⟨zaa Hv.out.symm, hm.below⟩
 have Hv := zzh (show zag 9 n = eqNd n { Nd.zero with kind := n.kind, pen := n.pen } by simp [zag, h1])
 go_enter Tryz.func99, Tryz.ntmps99
 go_upto_region 1 with (fail)
 generalize w.alloc (.cells n.arr 53) = w1 at hm aa ag c0 c1 c2 c4 c5 c3 c6 c12 c13 c14 c15 c16 c17 c18 ⊢
 go_wp2_with (first | fail | (go_at_call 130; refine (qfar _ _).mono ?_; rintro e w' ⟨rfl, rfl⟩))
 go_ret
 exact ⟨zaa (by rw [Hv.out, hk]), hm.below⟩
theorem qgood_12 (n : Nd) (w : World) (hk : n.kind = 12) : Calls Tryz.prog 99 #[.agg n.arr] w fun e w' => e = .returned (.bool (zag 12 n)) /\ Below w.heap.size w w' := by
 have hm := NB.new w n
 obtain ⟨-, aa, ag, c0, c1, c2, c4, c5, c3, c6, c12, c13, c14, c15, c16, c17, c18⟩ := hm.seen
 skip
 rcases Int.lt_or_le 1000 (n.text.size : Int) with a | b
 ·
  skip
  have Hv := zzh (show zag 12 n = false by simp [zag]; omega)
  go_enter Tryz.func99, Tryz.ntmps99
  go_wp2
  go_ret
  exact ⟨zaa Hv.out.symm, hm.below⟩
 have Hv := zzh (show zag 12 n = eqNd n { Nd.zero with kind := n.kind, text := n.text } by simp only [zag, decide_eq_true b, Bool.true_and])
 go_enter Tryz.func99, Tryz.ntmps99
 go_upto_region 1 with (fail)
 generalize w.alloc (.cells n.arr 53) = w1 at hm aa ag c0 c1 c2 c4 c5 c3 c6 c12 c13 c14 c15 c16 c17 c18 ⊢
 go_wp2_with (first | fail)
 go_ret
 exact ⟨zaa (by rw [Hv.out, hk]), hm.below⟩
theorem qgood_14 (n : Nd) (w : World) (hk : n.kind = 14) : Calls Tryz.prog 99 #[.agg n.arr] w fun e w' => e = .returned (.bool (zag 14 n)) /\ Below w.heap.size w w' := by
 have hm := NB.new w n
 obtain ⟨-, aa, ag, c0, c1, c2, c4, c5, c3, c6, c12, c13, c14, c15, c16, c17, c18⟩ := hm.seen
 skip
 rcases Int.lt_or_le 1000 (n.text.size : Int) with a | b
 ·
  skip
  have Hv := zzh (show zag 14 n = false by simp [zag]; omega)
  go_enter Tryz.func99, Tryz.ntmps99
  go_wp2
  go_ret
  exact ⟨zaa Hv.out.symm, hm.below⟩
 have Hv := zzh (show zag 14 n = eqNd n { Nd.zero with kind := n.kind, text := n.text } by simp only [zag, decide_eq_true b, Bool.true_and])
 go_enter Tryz.func99, Tryz.ntmps99
 go_upto_region 1 with (fail)
 generalize w.alloc (.cells n.arr 53) = w1 at hm aa ag c0 c1 c2 c4 c5 c3 c6 c12 c13 c14 c15 c16 c17 c18 ⊢
 go_wp2_with (first | fail)
 go_ret
 exact ⟨zaa (by rw [Hv.out, hk]), hm.below⟩
theorem qgood_13 (n : Nd) (w : World) (hk : n.kind = 13) : Calls Tryz.prog 99 #[.agg n.arr] w fun e w' => e = .returned (.bool (zag 13 n)) /\ Below w.heap.size w w' := by
 have hm := NB.new w n
 obtain ⟨-, aa, ag, c0, c1, c2, c4, c5, c3, c6, c12, c13, c14, c15, c16, c17, c18⟩ := hm.seen
 skip
 cases h1 : zac n.h
 ·
  skip
  have Hv := zzh (show zag 13 n = false by simp [zag, h1])
  go_enter Tryz.func99, Tryz.ntmps99
  go_upto_region 1 with (fail)
  generalize w.alloc (.cells n.arr 53) = w1 at hm aa ag c0 c1 c2 c4 c5 c3 c6 c12 c13 c14 c15 c16 c17 c18 ⊢
  go_wp2_with (first | (go_at_call 123; refine (zaz _ _).mono ?_; rintro e w' ⟨rfl, rfl⟩) | (go_at_call 130; refine (qfar _ _).mono ?_; rintro e w' ⟨rfl, rfl⟩) | (go_at_call 129; refine (HGl.out _).mono ?_; rintro e w2 ⟨rfl, hb2⟩; have hm2 := hm.call hb2; obtain ⟨-, aa, ag, c0, c1, c2, c4, c5, c3, c6, c12, c13, c14, c15, c16, c17, c18⟩ := hm2.seen))
  go_ret
  exact ⟨zaa Hv.out.symm, hm.below⟩
 cases h2 : zac n.d
 ·
  skip
  have Hv := zzh (show zag 13 n = false by simp [zag, h1, h2])
  go_enter Tryz.func99, Tryz.ntmps99
  go_upto_region 1 with (fail)
  generalize w.alloc (.cells n.arr 53) = w1 at hm aa ag c0 c1 c2 c4 c5 c3 c6 c12 c13 c14 c15 c16 c17 c18 ⊢
  go_wp2_with (first | (go_at_call 123; refine (zaz _ _).mono ?_; rintro e w' ⟨rfl, rfl⟩) | (go_at_call 130; refine (qfar _ _).mono ?_; rintro e w' ⟨rfl, rfl⟩) | (go_at_call 129; refine (HGl.out _).mono ?_; rintro e w2 ⟨rfl, hb2⟩; have hm2 := hm.call hb2; obtain ⟨-, aa, ag, c0, c1, c2, c4, c5, c3, c6, c12, c13, c14, c15, c16, c17, c18⟩ := hm2.seen))
  go_ret
  exact ⟨zaa Hv.out.symm, hm.below⟩
 rcases Int.lt_or_le n.sub 0 with a | b
 ·
  skip
  have Hv := zzh (show zag 13 n = false by simp [zag, h1, h2, show zab n.sub 0 254 = false by simp [zab]; omega])
  go_enter Tryz.func99, Tryz.ntmps99
  go_upto_region 1 with (fail)
  generalize w.alloc (.cells n.arr 53) = w1 at hm aa ag c0 c1 c2 c4 c5 c3 c6 c12 c13 c14 c15 c16 c17 c18 ⊢
  go_wp2_with (first | (go_at_call 123; refine (zaz _ _).mono ?_; rintro e w' ⟨rfl, rfl⟩) | (go_at_call 130; refine (qfar _ _).mono ?_; rintro e w' ⟨rfl, rfl⟩) | (go_at_call 129; refine (HGl.out _).mono ?_; rintro e w2 ⟨rfl, hb2⟩; have hm2 := hm.call hb2; obtain ⟨-, aa, ag, c0, c1, c2, c4, c5, c3, c6, c12, c13, c14, c15, c16, c17, c18⟩ := hm2.seen))
  go_ret
  exact ⟨zaa Hv.out.symm, hm.below⟩
 rcases Int.lt_or_le 254 n.sub with a0 | b0
 ·
  skip
  have Hv := zzh (show zag 13 n = false by simp [zag, h1, h2, show zab n.sub 0 254 = false by simp [zab]; omega])
  go_enter Tryz.func99, Tryz.ntmps99
  go_upto_region 1 with (fail)
  generalize w.alloc (.cells n.arr 53) = w1 at hm aa ag c0 c1 c2 c4 c5 c3 c6 c12 c13 c14 c15 c16 c17 c18 ⊢
  go_wp2_with (first | (go_at_call 123; refine (zaz _ _).mono ?_; rintro e w' ⟨rfl, rfl⟩) | (go_at_call 130; refine (qfar _ _).mono ?_; rintro e w' ⟨rfl, rfl⟩) | (go_at_call 129; refine (HGl.out _).mono ?_; rintro e w2 ⟨rfl, hb2⟩; have hm2 := hm.call hb2; obtain ⟨-, aa, ag, c0, c1, c2, c4, c5, c3, c6, c12, c13, c14, c15, c16, c17, c18⟩ := hm2.seen))
  go_ret
  exact ⟨zaa Hv.out.symm, hm.below⟩
 have hw : zab n.sub 0 254 = true := by simp [zab]; omega
 cases h4 : farB n.pen
 rotate_left
 ·
  skip
  have Hv := zzh (show zag 13 n = false by simp [zag, h1, h2, h4])
  go_enter Tryz.func99, Tryz.ntmps99
  go_upto_region 1 with (fail)
  generalize w.alloc (.cells n.arr 53) = w1 at hm aa ag c0 c1 c2 c4 c5 c3 c6 c12 c13 c14 c15 c16 c17 c18 ⊢
  go_wp2_with (first | (go_at_call 123; refine (zaz _ _).mono ?_; rintro e w' ⟨rfl, rfl⟩) | (go_at_call 130; refine (qfar _ _).mono ?_; rintro e w' ⟨rfl, rfl⟩) | (go_at_call 129; refine (HGl.out _).mono ?_; rintro e w2 ⟨rfl, hb2⟩; have hm2 := hm.call hb2; obtain ⟨-, aa, ag, c0, c1, c2, c4, c5, c3, c6, c12, c13, c14, c15, c16, c17, c18⟩ := hm2.seen))
  go_ret
  exact ⟨zaa Hv.out.symm, hm.below⟩
 cases hg : n.glue.good
 ·
  have HGl : Hid (∀ W, Calls Tryz.prog 129 #[.agg n.glue.arr] W fun e w' => e = .returned (.int .i64 30) /\ Below W.heap.size W w') := zzh fun W => zcp _ _ (by rw [hg]; rfl) W
  have Hv := zzh (show zag 13 n = false by simp [zag, hg])
  go_enter Tryz.func99, Tryz.ntmps99
  go_upto_region 1 with (fail)
  generalize w.alloc (.cells n.arr 53) = w1 at hm aa ag c0 c1 c2 c4 c5 c3 c6 c12 c13 c14 c15 c16 c17 c18 ⊢
  go_wp2_with (first | (go_at_call 123; refine (zaz _ _).mono ?_; rintro e w' ⟨rfl, rfl⟩) | (go_at_call 130; refine (qfar _ _).mono ?_; rintro e w' ⟨rfl, rfl⟩) | (go_at_call 129; refine (HGl.out _).mono ?_; rintro e w2 ⟨rfl, hb2⟩; have hm2 := hm.call hb2; obtain ⟨-, aa, ag, c0, c1, c2, c4, c5, c3, c6, c12, c13, c14, c15, c16, c17, c18⟩ := hm2.seen))
  go_ret
  exact ⟨zaa Hv.out.symm, hm2.below⟩
 have HGl : Hid (∀ W, Calls Tryz.prog 129 #[.agg n.glue.arr] W fun e w' => e = .returned (.int .i64 0) /\ Below W.heap.size W w') := zzh fun W => zcp _ _ (by rw [hg]; rfl) W
 have Hv := zzh (show zag 13 n = eqNd n { Nd.zero with kind := n.kind, sub := n.sub, h := n.h, d := n.d, pen := n.pen, glue := n.glue } by simp [zag, h1, h2, hw, h4, hg])
 go_enter Tryz.func99, Tryz.ntmps99
 go_upto_region 1 with (fail)
 generalize w.alloc (.cells n.arr 53) = w1 at hm aa ag c0 c1 c2 c4 c5 c3 c6 c12 c13 c14 c15 c16 c17 c18 ⊢
 go_wp2_with (first | fail | (go_at_call 123; refine (zaz _ _).mono ?_; rintro e w' ⟨rfl, rfl⟩) | (go_at_call 130; refine (qfar _ _).mono ?_; rintro e w' ⟨rfl, rfl⟩) | (go_at_call 129; refine (HGl.out _).mono ?_; rintro e w2 ⟨rfl, hb2⟩; have hm2 := hm.call hb2; obtain ⟨-, aa, ag, c0, c1, c2, c4, c5, c3, c6, c12, c13, c14, c15, c16, c17, c18⟩ := hm2.seen))
 go_ret
 exact ⟨zaa (by rw [Hv.out, hk]), hm2.below⟩
theorem qgood_15 (n : Nd) (w : World) (hk : n.kind = 15) : Calls Tryz.prog 99 #[.agg n.arr] w fun e w' => e = .returned (.bool (zag 15 n)) /\ Below w.heap.size w w' := by
 have hm := NB.new w n
 obtain ⟨-, aa, ag, c0, c1, c2, c4, c5, c3, c6, c12, c13, c14, c15, c16, c17, c18⟩ := hm.seen
 skip
 cases h1 : zac n.w
 ·
  skip
  have Hv := zzh (show zag 15 n = false by simp [zag, h1])
  go_enter Tryz.func99, Tryz.ntmps99
  go_upto_region 1 with (fail)
  generalize w.alloc (.cells n.arr 53) = w1 at hm aa ag c0 c1 c2 c4 c5 c3 c6 c12 c13 c14 c15 c16 c17 c18 ⊢
  go_wp2_with (first | (go_at_call 123; refine (zaz _ _).mono ?_; rintro e w' ⟨rfl, rfl⟩))
  go_ret
  exact ⟨zaa Hv.out.symm, hm.below⟩
 have Hv := zzh (show zag 15 n = eqNd n { Nd.zero with kind := n.kind, w := n.w } by simp [zag, h1])
 go_enter Tryz.func99, Tryz.ntmps99
 go_upto_region 1 with (fail)
 generalize w.alloc (.cells n.arr 53) = w1 at hm aa ag c0 c1 c2 c4 c5 c3 c6 c12 c13 c14 c15 c16 c17 c18 ⊢
 go_wp2_with (first | fail | (go_at_call 123; refine (zaz _ _).mono ?_; rintro e w' ⟨rfl, rfl⟩))
 go_ret
 exact ⟨zaa (by rw [Hv.out, hk]), hm.below⟩
theorem qgood_16 (n : Nd) (w : World) (hk : n.kind = 16) : Calls Tryz.prog 99 #[.agg n.arr] w fun e w' => e = .returned (.bool (zag 16 n)) /\ Below w.heap.size w w' := by
 have hm := NB.new w n
 obtain ⟨-, aa, ag, c0, c1, c2, c4, c5, c3, c6, c12, c13, c14, c15, c16, c17, c18⟩ := hm.seen
 skip
 cases h1 : zac n.w
 ·
  skip
  have Hv := zzh (show zag 16 n = false by simp [zag, h1])
  go_enter Tryz.func99, Tryz.ntmps99
  go_upto_region 1 with (fail)
  generalize w.alloc (.cells n.arr 53) = w1 at hm aa ag c0 c1 c2 c4 c5 c3 c6 c12 c13 c14 c15 c16 c17 c18 ⊢
  go_wp2_with (first | (go_at_call 123; refine (zaz _ _).mono ?_; rintro e w' ⟨rfl, rfl⟩))
  go_ret
  exact ⟨zaa Hv.out.symm, hm.below⟩
 have Hv := zzh (show zag 16 n = eqNd n { Nd.zero with kind := n.kind, w := n.w } by simp [zag, h1])
 go_enter Tryz.func99, Tryz.ntmps99
 go_upto_region 1 with (fail)
 generalize w.alloc (.cells n.arr 53) = w1 at hm aa ag c0 c1 c2 c4 c5 c3 c6 c12 c13 c14 c15 c16 c17 c18 ⊢
 go_wp2_with (first | fail | (go_at_call 123; refine (zaz _ _).mono ?_; rintro e w' ⟨rfl, rfl⟩))
 go_ret
 exact ⟨zaa (by rw [Hv.out, hk]), hm.below⟩
theorem qgood_6 (n : Nd) (w : World) (hk : n.kind = 6) : Calls Tryz.prog 99 #[.agg n.arr] w fun e w' => e = .returned (.bool (zag 6 n)) /\ Below w.heap.size w w' := by
 have hm := NB.new w n
 obtain ⟨-, aa, ag, c0, c1, c2, c4, c5, c3, c6, c12, c13, c14, c15, c16, c17, c18⟩ := hm.seen
 skip
 have Hv := zzh (show zag 6 n = eqNd n { Nd.zero with kind := n.kind } by rfl)
 go_enter Tryz.func99, Tryz.ntmps99
 go_upto_region 1 with (fail)
 generalize w.alloc (.cells n.arr 53) = w1 at hm aa ag c0 c1 c2 c4 c5 c3 c6 c12 c13 c14 c15 c16 c17 c18 ⊢
 go_wp2_with (first | fail)
 go_ret
 exact ⟨zaa (by rw [Hv.out, hk]), hm.below⟩
theorem qgood_10 (n : Nd) (w : World) (hk : n.kind = 10) : Calls Tryz.prog 99 #[.agg n.arr] w fun e w' => e = .returned (.bool (zag 10 n)) /\ Below w.heap.size w w' := by
 have hm := NB.new w n
 obtain ⟨-, aa, ag, c0, c1, c2, c4, c5, c3, c6, c12, c13, c14, c15, c16, c17, c18⟩ := hm.seen
 skip
 have Hv := zzh (show zag 10 n = eqNd n { Nd.zero with kind := n.kind } by rfl)
 go_enter Tryz.func99, Tryz.ntmps99
 go_upto_region 1 with (fail)
 generalize w.alloc (.cells n.arr 53) = w1 at hm aa ag c0 c1 c2 c4 c5 c3 c6 c12 c13 c14 c15 c16 c17 c18 ⊢
 go_wp2_with (first | fail)
 go_ret
 exact ⟨zaa (by rw [Hv.out, hk]), hm.below⟩
theorem qgood_11 (n : Nd) (w : World) (hk : n.kind = 11) : Calls Tryz.prog 99 #[.agg n.arr] w fun e w' => e = .returned (.bool (zag 11 n)) /\ Below w.heap.size w w' := by
 have hm := NB.new w n
 obtain ⟨-, aa, ag, c0, c1, c2, c4, c5, c3, c6, c12, c13, c14, c15, c16, c17, c18⟩ := hm.seen
 skip
 have Hv := zzh (show zag 11 n = eqNd n { Nd.zero with kind := n.kind } by rfl)
 go_enter Tryz.func99, Tryz.ntmps99
 go_upto_region 1 with (fail)
 generalize w.alloc (.cells n.arr 53) = w1 at hm aa ag c0 c1 c2 c4 c5 c3 c6 c12 c13 c14 c15 c16 c17 c18 ⊢
 go_wp2_with (first | fail)
 go_ret
 exact ⟨zaa (by rw [Hv.out, hk]), hm.below⟩
theorem qgood_17 (n : Nd) (w : World) (hk : n.kind = 17) : Calls Tryz.prog 99 #[.agg n.arr] w fun e w' => e = .returned (.bool (zag 17 n)) /\ Below w.heap.size w w' := by
 have hm := NB.new w n
 obtain ⟨-, aa, ag, c0, c1, c2, c4, c5, c3, c6, c12, c13, c14, c15, c16, c17, c18⟩ := hm.seen
 skip
 have Hv := zzh (show zag 17 n = eqNd n { Nd.zero with kind := n.kind } by rfl)
 go_enter Tryz.func99, Tryz.ntmps99
 go_upto_region 1 with (fail)
 generalize w.alloc (.cells n.arr 53) = w1 at hm aa ag c0 c1 c2 c4 c5 c3 c6 c12 c13 c14 c15 c16 c17 c18 ⊢
 go_wp2_with (first | fail)
 go_ret
 exact ⟨zaa (by rw [Hv.out, hk]), hm.below⟩
theorem qgood_out (n : Nd) (h : zab n.kind 1 17 = false) (w : World) : Calls Tryz.prog 99 #[.agg n.arr] w fun e w' => e = .returned (.bool false) /\ Below w.heap.size w w' := by
 have hk : ¬ (1 <= n.kind /\ n.kind <= 17) := by simpa [zab] using h
 have k1 : (n.kind == 1) = false := by rw [beq_eq_false_iff_ne]; omega
 have k2 : (n.kind == 2) = false := by rw [beq_eq_false_iff_ne]; omega
 have k3 : (n.kind == 3) = false := by rw [beq_eq_false_iff_ne]; omega
 have k4 : (n.kind == 4) = false := by rw [beq_eq_false_iff_ne]; omega
 have k5 : (n.kind == 5) = false := by rw [beq_eq_false_iff_ne]; omega
 have k6 : (n.kind == 6) = false := by rw [beq_eq_false_iff_ne]; omega
 have k7 : (n.kind == 7) = false := by rw [beq_eq_false_iff_ne]; omega
 have k8 : (n.kind == 8) = false := by rw [beq_eq_false_iff_ne]; omega
 have k9 : (n.kind == 9) = false := by rw [beq_eq_false_iff_ne]; omega
 have k10 : (n.kind == 10) = false := by rw [beq_eq_false_iff_ne]; omega
 have k11 : (n.kind == 11) = false := by rw [beq_eq_false_iff_ne]; omega
 have k12 : (n.kind == 12) = false := by rw [beq_eq_false_iff_ne]; omega
 have k13 : (n.kind == 13) = false := by rw [beq_eq_false_iff_ne]; omega
 have k14 : (n.kind == 14) = false := by rw [beq_eq_false_iff_ne]; omega
 have k15 : (n.kind == 15) = false := by rw [beq_eq_false_iff_ne]; omega
 have k16 : (n.kind == 16) = false := by rw [beq_eq_false_iff_ne]; omega
 have k17 : (n.kind == 17) = false := by rw [beq_eq_false_iff_ne]; omega
 clear h hk
 go_enter Tryz.func99, Tryz.ntmps99
 go_wp2
 go_ret
 exact ⟨rfl, (Below.refl _ _).alloc (Nat.le_refl _) _⟩
def qgoodB (n : Nd) : Bool := zab n.kind 1 17 && zag n.kind.toNat n
theorem qgood_any (n : Nd) (w : World) : Calls Tryz.prog 99 #[.agg n.arr] w fun e w' => e = .returned (.bool (qgoodB n)) /\ Below w.heap.size w w' := by
 cases hw : zab n.kind 1 17
 · exact (qgood_out n hw w).mono fun e w' ⟨h1, h2⟩ => ⟨by rw [h1, qgoodB, hw]; rfl, h2⟩
 ·
  have h17 : ∃ k : Nat, n.kind = (k : Int) /\ 1 <= k /\ k <= 17 := ⟨n.kind.toNat, by simp [zab] at hw; omega, by simp [zab] at hw; omega, by simp [zab] at hw; omega⟩
  obtain ⟨k, hn, h1, h2⟩ := h17
  have hq : qgoodB n = zag k n := by rw [qgoodB, hw, hn]; rfl
  rw [hq]
  have hk : k = 1 \/ k = 2 \/ k = 3 \/ k = 4 \/ k = 5 \/ k = 6 \/ k = 7 \/ k = 8 \/ k = 9 \/ k = 10 \/ k = 11 \/ k = 12 \/ k = 13 \/ k = 14 \/ k = 15 \/ k = 16 \/ k = 17 := by omega
  rcases hk with rfl | rfl | rfl | rfl | rfl | rfl | rfl | rfl | rfl | rfl | rfl | rfl | rfl | rfl | rfl | rfl | rfl
  · exact qgood_1 n w hn
  · exact qgood_2 n w hn
  · exact qgood_3 n w hn
  · exact qgood_4 n w hn
  · exact qgood_5 n w hn
  · exact qgood_6 n w hn
  · exact qgood_7 n w hn
  · exact qgood_8 n w hn
  · exact qgood_9 n w hn
  · exact qgood_10 n w hn
  · exact qgood_11 n w hn
  · exact qgood_12 n w hn
  · exact qgood_13 n w hn
  · exact qgood_14 n w hn
  · exact qgood_15 n w hn
  · exact qgood_16 n w hn
  · exact qgood_17 n w hn
end
section
theorem zbe (a b : Nd) : eqNd a b = true ↔ a = b := by unfold eqNd; simp
theorem good_same (n : Nd) : qgoodB n = zaX n := by
 unfold qgoodB zaX
 cases hw : zab n.kind 1 17
 · rfl
 have h17 : ∃ k : Nat, n.kind = (k : Int) /\ 1 <= k /\ k <= 17 := ⟨n.kind.toNat, by simp [zab] at hw; omega, by simp [zab] at hw; omega, by simp [zab] at hw; omega⟩
 obtain ⟨k, hn, h1, h2⟩ := h17
 have hk : k = 1 \/ k = 2 \/ k = 3 \/ k = 4 \/ k = 5 \/ k = 6 \/ k = 7 \/ k = 8 \/ k = 9 \/ k = 10 \/ k = 11 \/ k = 12 \/ k = 13 \/ k = 14 \/ k = 15 \/ k = 16 \/ k = 17 := by omega
 rw [Bool.true_and, Bool.true_and, hn, Int.toNat_natCast]
 clear hw h1 h2
 obtain ⟨kind, font, char, w, h, d, shift, ⟨nat, str, shr, so, ho⟩, sign, order, num, den, pen, sub, text⟩ := n
 simp only at hn
 rcases hk with rfl | rfl | rfl | rfl | rfl | rfl | rfl | rfl | rfl | rfl | rfl | rfl | rfl | rfl | rfl | rfl | rfl
 all_goals subst hn
 · rw [Bool.eq_iff_iff]; simp [zag, zbP, zcJ, zbe, Nd.eq_iff, Nd.zero, zbu, glyphB, zcr]; grind
 · rw [Bool.eq_iff_iff]; simp [zag, zbP, zcJ, zbe, Nd.eq_iff, Nd.zero, zbi, ligB, glyphB, zcr]; grind
 · rw [Bool.eq_iff_iff]; simp [zag, zbP, zcJ, zbe, Nd.eq_iff, Nd.zero, zbb, zbO, zcr]; grind
 · rw [Bool.eq_iff_iff]; simp [zag, zbP, zcJ, zbe, Nd.eq_iff, Nd.zero, zaY, boxB, dims4, zbG, zcr]; grind
 · rw [Bool.eq_iff_iff]; simp [zag, zbP, zcJ, zbe, Nd.eq_iff, Nd.zero, zaY, boxB, dims4, zbG, zcr]; grind
 · rw [Bool.eq_iff_iff]; simp [zag, zbP, zcJ, zbe, Nd.eq_iff, Nd.zero]
 · rw [Bool.eq_iff_iff]; simp [zag, zbP, zcJ, zbe, Nd.eq_iff, Nd.zero, skipB, Gl.zero]; try grind
 · rw [Bool.eq_iff_iff]; simp [zag, zbP, zcJ, zbe, Nd.eq_iff, Nd.zero, kernB, dims1]; try grind
 · rw [Bool.eq_iff_iff]; simp [zag, zbP, zcJ, zbe, Nd.eq_iff, Nd.zero, penB, farB]; try grind
 · rw [Bool.eq_iff_iff]; simp [zag, zbP, zcJ, zbe, Nd.eq_iff, Nd.zero]
 · rw [Bool.eq_iff_iff]; simp [zag, zbP, zcJ, zbe, Nd.eq_iff, Nd.zero]
 · rw [Bool.eq_iff_iff]; simp [zag, zbP, zcJ, zbe, Nd.eq_iff, Nd.zero, textB]; try grind
 · rw [Bool.eq_iff_iff]; simp [zag, zbP, zcJ, zbe, Nd.eq_iff, Nd.zero, insB, dims2, farB, Gl.zero]; try grind
 · rw [Bool.eq_iff_iff]; simp [zag, zbP, zcJ, zbe, Nd.eq_iff, Nd.zero, textB]; try grind
 · rw [Bool.eq_iff_iff]; simp [zag, zbP, zcJ, zbe, Nd.eq_iff, Nd.zero, dims1]; try grind
 · rw [Bool.eq_iff_iff]; simp [zag, zbP, zcJ, zbe, Nd.eq_iff, Nd.zero, dims1]; try grind
 · rw [Bool.eq_iff_iff]; simp [zag, zbP, zcJ, zbe, Nd.eq_iff, Nd.zero]
end
end Go.Proofs.YtaehkbbdmamfpaaGreatDoor
