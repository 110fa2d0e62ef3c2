/-
  Inserts: the laws' own trial: where there is room for one of two boxes, an insert is split. No statement of the seat stands here.
-/
import Derived.Test.YtaehkbbdmamfpaaGreatDoorVBs
import Derived.Test.YtaehkbbdmamfpaaGreatDoorB6
import Derived.Test.YtaehkbbdmamfpaaGreatDoorI16
import Derived.Deep.QuietTactic
set_option maxRecDepth 100000
set_option maxHeartbeats 4000000
namespace Go.Proofs.YtaehkbbdmamfpaaGreatDoor
open Go.ChangeShapes Go.WideShapes Go.ChangeAt Go.RowKit
attribute [local go_sem ↓] Go.wp_at_zero Go.wp_at_succ
def hN (k h : Int) : Nd := { Nd.zero with kind := k, h := h }
def kN (k : Int) : Nd := { Nd.zero with kind := k }
@[go_sem] theorem run_bdNd_kh9 (k h : Int) (w : World) : (bdNd #[(0, .int .i64 k), (4, .int .i64 h)]).run Tryz.prog w = .ok (.agg (hN k h).arr) w := by kernel_rfl
theorem num12_any (n : Int) (w : World) : Calls Tryz.prog 13 #[.int .i64 n] w fun e w' => e = .returned (.int .i64 n) ∧ w = w' := by
  go_enter Tryz.func13, Tryz.ntmps13
  go_wp2
  go_ret
  exact ⟨rfl, rfl⟩
theorem own2_lit (w : World) (n m : Nd) : (w.alloc (.cells (n.cells ++ m.cells).toArray 53)).ownsRow w.heap.size 53 19 (.slice (some ⟨w.heap.size, 0, none⟩) 2 2) 2 ([n, m].flatMap Nd.cells) :=
  ⟨by simp [Nd.cells], .inr ⟨w.heap.size, 2, _, rfl, Nat.le_refl _, heap_alloc_new _ _, Nat.le_refl _, by decide, by simp [Nd.cells], by simp [Nd.cells]⟩⟩
theorem box_any (h : Int) (w : World) : Calls Tryz.prog 70 #[.int .i64 h] w fun e w' => ∃ g, e = .returned (.slice (some ⟨g, 0, none⟩) 2 2) ∧ w'.heap[g]? = some (.cells ((hN 4 h).cells ++ (kN 6).cells).toArray 53 (0, 0)) ∧ Below w.heap.size w w' ∧ w'.ownsRow w.heap.size 53 19 (.slice (some ⟨g, 0, none⟩) 2 2) 2 ((boxN h).flatMap Nd.cells) := by
  go_enter Tryz.func70, Tryz.ntmps70
  go_wp2
  go_ret
  exact ⟨_, rfl, heap_alloc_new _ _, (Below.refl _ _).alloc (Nat.le_refl _) _, own2_lit w (hN 4 h) (kN 6)⟩
def f1 : List Nd := boxN 1966080 ++ [hN 13 1310720]
def f2 : List Nd := f1 ++ boxN 655360
def f3 : List Nd := f2 ++ [kN 7]
def f4 : List Nd := f3 ++ boxN 655360
theorem foot_any (w : World) : Calls Tryz.prog 39 #[] w fun e w' => (∃ v, e = .returned v ∧ NRow w v footN w') ∧ Below w.heap.size w w' := by
  obtain ⟨i0, hi0', hz0, hz1, hz2⟩ := info_parts info_node
  go_enter Tryz.func39, Tryz.ntmps39
  have H1 : ∀ n : Nd, Hid (∀ u ∈ n.cells, u.oneCell' = true) := fun n => Lib.hid (by have := nodes_one [n]; simpa using this)
  have H2 : ∀ n m : Nd, Hid (∀ u ∈ n.cells ++ m.cells, u.oneCell' = true) := fun n m => Lib.hid (by have := nodes_one [n, m]; simpa using this)
  have hB : Hid (∀ (W : World) (o : Obj), Below w.heap.size w W → Below w.heap.size w (W.alloc o)) := Lib.hid fun W o h => h.trans (((Below.refl W.heap.size W).alloc (Nat.le_refl _) _).mono h.size)
  go_upto_region 2 with (first | (go_at_call 70; refine (box_any _ _).mono ?_; rintro e w2 ⟨g2, rfl, hk2, hb2, ho2⟩) | (at_builtin; refine wpList_append_at _ rfl _ _ _ rfl w.heap.size 53 i0 (.agg Nd.zero.arr) 19 160 Tryz.underlying22 hi0' hz0 hz1 hz2 rfl (by decide) (.slice (some ⟨g2, 0, none⟩) 2 2) 2 ((boxN 1966080).flatMap Nd.cells) rfl (ownsRow_below ho2 ((Below.refl _ _).alloc (Nat.le_refl _) _)) ⟨w2.heap.size, 0, none⟩ 1 1 (hN 13 1310720).cells rfl rfl (World.news_of_block (cs := (hN 13 1310720).arr) (heap_alloc_new _ _)) (H1 _).out (by decide) (by decide) (hB.out w2 (.cells (hN 13 1310720).arr 53) hb2).size ?_; intro v7 w7 hown7 hgrow7 hat7; have hb7 : Below w.heap.size w w7 := (hB.out w2 (.cells (hN 13 1310720).arr 53) hb2).grown hgrow7 (hB.out w2 (.cells (hN 13 1310720).arr 53) hb2).size (fun g hg => (ho2.lt g hg).1); have hr7 : w7.ownsRow w.heap.size 53 19 v7 3 (f1.flatMap Nd.cells) := hown7; clear hown7 hgrow7 hat7; obtain ⟨p7, c7, rfl⟩ := owns_form hr7))
  clear hk2 hb2 ho2
  go_upto_region 3 with (first | (go_at_call 70; refine (box_any _ _).mono ?_; rintro e w2 ⟨g2, rfl, hk2, hb2, ho2⟩) | (at_builtin; refine wpList_append_at _ rfl _ _ _ rfl w.heap.size 53 i0 (.agg Nd.zero.arr) 19 160 Tryz.underlying22 hi0' hz0 hz1 hz2 rfl (by decide) (.slice p7 3 c7) 3 (f1.flatMap Nd.cells) rfl (ownsRow_below hr7 hb2) ⟨g2, 0, none⟩ 2 2 ((hN 4 655360).cells ++ (kN 6).cells) rfl rfl (World.news_of_block (cs := ((hN 4 655360).cells ++ (kN 6).cells).toArray) hk2) (H2 _ _).out (by decide) (by decide) (hb7.trans (hb2.mono hb7.size)).size ?_; intro v8 w8 hown8 hgrow8 hat8; have hb8 : Below w.heap.size w w8 := (hb7.trans (hb2.mono hb7.size)).grown hgrow8 (hb7.trans (hb2.mono hb7.size)).size (fun g hg => (hr7.lt g hg).1); have hr8 : w8.ownsRow w.heap.size 53 19 v8 5 (f2.flatMap Nd.cells) := hown8; clear hown8 hgrow8 hat8; obtain ⟨p8, c8, rfl⟩ := owns_form hr8) | (at_builtin; refine wpList_append_at _ rfl _ _ _ rfl w.heap.size 53 i0 (.agg Nd.zero.arr) 19 160 Tryz.underlying22 hi0' hz0 hz1 hz2 rfl (by decide) (.slice p8 5 c8) 5 (f2.flatMap Nd.cells) rfl (ownsRow_below hr8 ((Below.refl _ _).alloc (Nat.le_refl _) _)) ⟨w8.heap.size, 0, none⟩ 1 1 (kN 7).cells rfl rfl (World.news_of_block (cs := (kN 7).arr) (heap_alloc_new _ _)) (H1 _).out (by decide) (by decide) (hB.out w8 (.cells (kN 7).arr 53) hb8).size ?_; intro v9 w9 hown9 hgrow9 hat9; have hb9 : Below w.heap.size w w9 := (hB.out w8 (.cells (kN 7).arr 53) hb8).grown hgrow9 (hB.out w8 (.cells (kN 7).arr 53) hb8).size (fun g hg => (hr8.lt g hg).1); have hr9 : w9.ownsRow w.heap.size 53 19 v9 6 (f3.flatMap Nd.cells) := hown9; clear hown9 hgrow9 hat9; obtain ⟨p9, c9, rfl⟩ := owns_form hr9))
  clear hk2 hb2 ho2
  go_wp2_with (first | (go_at_call 70; refine (box_any _ _).mono ?_; rintro e w2 ⟨g2, rfl, hk2, hb2, ho2⟩) | (at_builtin; refine wpList_append_at _ rfl _ _ _ rfl w.heap.size 53 i0 (.agg Nd.zero.arr) 19 160 Tryz.underlying22 hi0' hz0 hz1 hz2 rfl (by decide) (.slice p9 6 c9) 6 (f3.flatMap Nd.cells) rfl (ownsRow_below hr9 hb2) ⟨g2, 0, none⟩ 2 2 ((hN 4 655360).cells ++ (kN 6).cells) rfl rfl (World.news_of_block (cs := ((hN 4 655360).cells ++ (kN 6).cells).toArray) hk2) (H2 _ _).out (by decide) (by decide) (hb9.trans (hb2.mono hb9.size)).size ?_; intro v10 w10 hown10 hgrow10 hat10; have hb10 : Below w.heap.size w w10 := (hb9.trans (hb2.mono hb9.size)).grown hgrow10 (hb9.trans (hb2.mono hb9.size)).size (fun g hg => (hr9.lt g hg).1); have hr10 : w10.ownsRow w.heap.size 53 19 v10 8 (f4.flatMap Nd.cells) := hown10; clear hown10 hgrow10 hat10; obtain ⟨p10, c10, rfl⟩ := owns_form hr10) | (at_builtin; refine wpList_append_at _ rfl _ _ _ rfl w.heap.size 53 i0 (.agg Nd.zero.arr) 19 160 Tryz.underlying22 hi0' hz0 hz1 hz2 rfl (by decide) (.slice p10 8 c10) 8 (f4.flatMap Nd.cells) rfl (ownsRow_below hr10 ((Below.refl _ _).alloc (Nat.le_refl _) _)) ⟨w10.heap.size, 0, none⟩ 1 1 (kN 6).cells rfl rfl (World.news_of_block (cs := (kN 6).arr) (heap_alloc_new _ _)) (H1 _).out (by decide) (by decide) (hB.out w10 (.cells (kN 6).arr 53) hb10).size ?_; intro v11 w11 hown11 hgrow11 hat11; have hb11 : Below w.heap.size w w11 := (hB.out w10 (.cells (kN 6).arr 53) hb10).grown hgrow11 (hB.out w10 (.cells (kN 6).arr 53) hb10).size (fun g hg => (hr10.lt g hg).1); have hr11 : w11.ownsRow w.heap.size 53 19 v11 9 (footN.flatMap Nd.cells) := hown11; clear hown11 hgrow11 hat11; obtain ⟨p11, c11, rfl⟩ := owns_form hr11))
  go_ret
  exact ⟨⟨_, rfl, hr11⟩, hb11⟩
theorem cin_nil (w : World) : CIn w none 0 0 0 [] := ⟨fun h => absurd rfl h, fun h => absurd rfl h, fun j h => by simp at h, Nat.le_refl _, by simp⟩
def footD : Dealt := dealP footN (footN.length : Nat) [] 2949120 131072
theorem footD_is : (footD.page.length == 2 && (footD.boxes.map List.length == [2]) && decide (2 < footD.rest.length) && footD.e == 0) = true := by decide +kernel
theorem foot_ok : (match dealF footN (accR (footN.take ((footN.length : Nat) : Int).toNat) [] 2949120 131072).1 ⟨[], []⟩ with | .ok _ => true | .error _ => false) = true := by decide +kernel
theorem foot_fine (e : Int) : dealF footN (accR (footN.take ((footN.length : Nat) : Int).toNat) [] 2949120 131072).1 ⟨[], []⟩ ≠ .error e := fun h => by
  have := foot_ok
  rw [h] at this
  cases this
theorem deal_foot {w w' : World} {e : Ending} (h : DealPost w footD e w') : ∃ pa ca gB cb pr cr nr pz cz, e = .returned (.tuple #[.slice pa 2 ca, .slice (some ⟨gB, 0, none⟩) 1 cb, .slice pr nr cr, .int .i64 0]) ∧ 2 < nr ∧ w'.cell? ⟨gB, 0, none⟩ = some (.slice pz 2 cz) ∧ Below w.heap.size w w' := by
  have hf := footD_is
  simp only [Bool.and_eq_true, beq_iff_eq, decide_eq_true_eq] at hf
  obtain ⟨⟨⟨h1, h2⟩, h3⟩, h4⟩ := hf
  obtain ⟨⟨vs, bv, rfl, hd⟩, hb⟩ := h
  have hl : footD.boxes.length = 1 := by have := congrArg List.length h2; simpa using this
  have r0 := hd.rws.row 0 (by show 0 < footD.boxes.length + 2; omega)
  have r1 := hd.rws.row 1 (by show 1 < footD.boxes.length + 2; omega)
  have r2 := hd.rws.row 2 (by show 2 < footD.boxes.length + 2; omega)
  have ho : w'.ownsRow w.heap.size 22 1 bv footD.boxes.length (boxV (footD.boxes.length + 2) vs) := hd.out
  obtain ⟨gB, cb, e3, _, _, _, hcell, _⟩ := out_cell ho (k := 0) (by omega)
  obtain ⟨pa, ca, e0⟩ := owns_form r0
  obtain ⟨pr, cr, e1⟩ := owns_form r1
  obtain ⟨pz, cz, e2⟩ := owns_form r2
  have hz : (rowX footD.page ⟨footD.boxes, footD.rest⟩ 2).length = 2 := by
    show ((footD.boxes[0]?).getD []).length = 2
    cases hbx : footD.boxes with
    | nil => rw [hbx] at hl; cases hl
    | cons y r => rw [hbx] at h2; simp at h2; simpa using h2.1
  rw [hz] at e2
  refine ⟨pa, ca, gB, cb, pr, cr, footD.rest.length, pz, cz, ?_, h3, by rw [hcell, e2], hb⟩
  rw [e0, e1, e3, h4, hl]
  show Ending.returned (.tuple #[.slice pa footD.page.length ca, _, _, _]) = _
  rw [h1]
  rfl
theorem live12_any (w : World) : Calls Tryz.prog 17 #[] w fun e w' => e = .returned (.bool true) ∧ Below w.heap.size w w' := by
  go_enter Tryz.func17, Tryz.ntmps17
  go_upto_region 2 with (first | (go_at_call 39; refine (foot_any _).mono ?_; rintro e w2 ⟨⟨v, rfl, hv⟩, hb2⟩; obtain ⟨_, p2, g2, c2, rfl, hn2, _⟩ := row_nodes hv (by decide)) | (go_at_call 18; refine (iaccount p2 g2 0 c2 footN none 0 0 0 [] 2949120 131072 w2 hn2 (cin_nil w2)).mono ?_; rintro e w3 hp; rw [foot_acc] at hp; obtain ⟨u, rfl, hrow3⟩ := hp.out; have hb3 := hp.below; clear hp; obtain ⟨ps, cs, rfl⟩ := owns_form hrow3))
  obtain ⟨gs, cs', hvs, hcs, _, hag⟩ := row_agg Sp.cells (fun _ => rfl) (xs := [Sp.mk 2 0 2 655360 2 2293760 0]) hrow3 (by decide) (j := 0) (by decide)
  cases hvs
  have hag2 : agg? w3 gs 0 7 = some (Sp.mk 2 0 2 655360 2 2293760 0).arr := hag
  have hb3' := hb2.trans (hb3.mono hb2.size)
  have hal : Below w3.heap.size w3 (w3.alloc (.cells Tt.zero.arr 43)) := (Below.refl _ _).alloc (Nat.le_refl _) _
  have HC : Hid (∀ W, Below w3.heap.size w3 W → W.cell? ⟨gs, 2, none⟩ = some (.int .i64 2) ∧ W.cell? ⟨gs, 3, none⟩ = some (.int .i64 655360)) := Lib.hid fun W hW => by
    have h2 := cell_bel (agg_cell hag2 2 (.int .i64 2) rfl) hW
    have h3 := cell_bel (agg_cell hag2 3 (.int .i64 655360) rfl) hW
    exact ⟨by simpa using h2, by simpa using h3⟩
  have HB3 := Lib.hid (And.intro hb3' hal)
  have hFirst : Hid True := Lib.hid trivial
  clear hag hag2 hrow3 hb3 hb2 hb3' hn2 hv
  generalize w3.alloc (.cells Tt.zero.arr 43) = w4 at HB3 hal ⊢
  go_upto_region 3 with (first | (go_at_call 39; clear hFirst; refine (foot_any _).mono ?_; rintro e w5 ⟨⟨v, rfl, hv⟩, hb5⟩; obtain ⟨_, p5, g5, c5, rfl, hn5, _⟩ := row_nodes hv (by decide); obtain rfl := hn5.hp (by decide)) | (go_at_call 39; refine (foot_any _).mono ?_; rintro e w6 ⟨⟨v6, rfl, hv6⟩, hb6⟩; obtain ⟨p6, c6, rfl⟩ := owns_form hv6) | (go_at_call 8; refine (ideal g5 0 c5 footN (by decide) ((footN.length : Nat) : Int) none 0 0 0 [] 2949120 131072 w6 (hn5.below hb6) (cin_nil w6) foot_fine).mono ?_; rintro e w7 hp; obtain ⟨pa, ca, gB, cb, pr, cr, nr, pz, cz, rfl, hnr, hcell, hb7⟩ := deal_foot hp; clear hp))
  have hb67 := HB3.out.2.trans ((hb5.trans ((hb6.trans (hb7.mono hb6.size)).mono hb5.size)).mono hal.size)
  obtain ⟨z2, z3⟩ := HC.out _ hb67
  have HE := Lib.hid (HB3.out.1.trans (hb67.mono HB3.out.1.size))
  have hnr1 : (2 : Int) < (nr : Int) := by omega
  clear hb67 HC HB3 hb7 hb6 hb5 hv hv6 hn5 hal
  go_wp2_with (go_at_call 13; refine (num12_any _ _).mono ?_; rintro e w' ⟨rfl, rfl⟩)
  go_ret
  exact ⟨rfl, HE.out⟩
end Go.Proofs.YtaehkbbdmamfpaaGreatDoor
namespace Go.Proofs.YtaehkbbdmamfpaaGreatDoor
open Go.ChangeShapes Go.WideShapes Go.ChangeAt Go.RowKit
theorem colP_zero {L : List Nd} {s : List Nat} : colP L s = 0 ↔ checkC L = 0 ∧ s.any (fun i => badN (nth L i)) = false ∧ s.all (fun i => firmN (nth L i)) = true := by
  unfold colP
  constructor
  · intro h
    split at h
    · rename_i hc
      split at h
      · cases h
      · rename_i hb
        split at h
        · rename_i hf; exact ⟨hc, by simpa using hb, hf⟩
        · cases h
    · rename_i hc; exact absurd h hc
  · rintro ⟨h1, h2, h3⟩
    rw [if_pos h1, h2, h3]
    simp
attribute [local go_sem ↓] Go.wp_at_zero Go.wp_at_succ
theorem accR_zero {L : List Nd} {C : List Cl} {goal depth : Int} (h : (accR L C goal depth).2.2 = 0) : accE L C = 0 ∧ (dimenB goal && dimenB depth) = true := by
  unfold accR at h
  split at h
  · rename_i hE
    split at h
    · rename_i hd; exact ⟨hE, hd⟩
    · cases h
  · rename_i hE; exact absurd h hE
theorem accR_fine {L : List Nd} {C : List Cl} {goal depth : Int} (h : accE L C = 0) (hd : (dimenB goal && dimenB depth) = true) : accR L C goal depth = ((accF L C goal depth (itsP L)).2, (accF L C goal depth (itsP L)).1.t, 0) := by
  unfold accR
  rw [if_pos h, if_pos hd]
end Go.Proofs.YtaehkbbdmamfpaaGreatDoor
namespace Go.Proofs.YtaehkbbdmamfpaaGreatDoor
open Go.ChangeShapes Go.WideShapes Go.ChangeAt Go.RowKit
theorem held_put {st : As} {met : List (Int × Ho)} {g p : Int} {t : Tt} {k : Nat} {h : Ho} (hm : met = putI st.met (k : Int) h) (a : Nat) : heldI ⟨g, p, met, t⟩ (a : Int) = if a = k then h else heldI st (a : Int) := by
  unfold heldI
  simp only [hm, getI_put]
  by_cases e : a = k
  · subst e; simp
  · rw [if_neg (by omega), if_neg e]
end Go.Proofs.YtaehkbbdmamfpaaGreatDoor
