/-
  The program's Cost.
-/
import Derived.Test.YtkkdopfdoommnaaC7
namespace Go.Proofs.Ytkkdopfdoommnaa
open Go.ChangeShapes Go.WideShapes Go.ChangeAt Go.RowKit Go.Shelf
attribute [local go_sem] Oper.semAt_some
structure SixC (W : World) (Z : Nat) (v : Value) (tk h d r c : Int) : Prop where
  k0 : Boxed W Z 26 v
  k1 : Boxed W (Z + 1) 3 (.int .i64 tk)
  k2 : Boxed W (Z + 2) 3 (.int .i64 h)
  k3 : Boxed W (Z + 3) 3 (.int .i64 d)
  k4 : Boxed W (Z + 4) 3 (.int .i64 r)
  k5 : Boxed W (Z + 5) 27 (.int .i64 c)
theorem SixC.below {W W' : World} {Z : Nat} {v : Value} {tk h d r c : Int} (x : SixC W Z v tk h d r c) (hb : Below W.heap.size W W') : SixC W' Z v tk h d r c :=
  ⟨(hb.block _ x.k0.lt).trans x.k0, (hb.block _ x.k1.lt).trans x.k1, (hb.block _ x.k2.lt).trans x.k2, (hb.block _ x.k3.lt).trans x.k3, (hb.block _ x.k4.lt).trans x.k4, (hb.block _ x.k5.lt).trans x.k5⟩
def six (w : World) (v : Value) (tk h d : Int) : World := (((((w.alloc (.cells #[v] 26)).alloc (.cells #[.int .i64 tk] 3)).alloc (.cells #[.int .i64 h] 3)).alloc (.cells #[.int .i64 d] 3)).alloc (.cells #[.int .i64 0] 3)).alloc (.cells #[.int .i64 0] 27)
theorem six_boxed (w : World) (v : Value) (tk h d : Int) : SixC (six w v tk h d) w.heap.size v tk h d 0 0 := by
  have n : ∀ (W : World) (t : TypeId) (x : Value) (k : Nat), k = W.heap.size → Boxed (W.alloc (.cells #[x] t)) k t x := fun W t x k e => by rw [e]; exact Boxed.new W t x
  refine ⟨?_, ?_, ?_, ?_, ?_, ?_⟩
  · exact (((((n w _ v _ rfl).alloc _).alloc _).alloc _).alloc _).alloc _
  · exact ((((n _ _ _ _ (by simp)).alloc _).alloc _).alloc _).alloc _
  · exact (((n _ _ _ _ (by simp)).alloc _).alloc _).alloc _
  · exact ((n _ _ _ _ (by simp)).alloc _).alloc _
  · exact (n _ _ _ _ (by simp)).alloc _
  · exact n _ _ _ _ (by simp)
theorem six_below (w : World) (v : Value) (tk h d : Int) : Below w.heap.size w (six w v tk h d) :=
  ((((((Below.refl _ w).alloc (Nat.le_refl _) _).alloc (by simp) _).alloc (by simp; omega) _).alloc (by simp; omega) _).alloc (by simp; omega) _).alloc (by simp; omega) _
theorem abides_six {β : Type} {B m Z : Nat} {v : Value} {tk h d r c : Int} (hZ : Z + 5 < B) : Abides B m (fun (_ : β) W => SixC W Z v tk h d r c) := fun s A C row hs hg hr =>
  ⟨abides_box (f := fun _ : β => v) (by omega) s A C row hs.k0 hg hr, abides_box (f := fun _ : β => .int .i64 tk) (by omega) s A C row hs.k1 hg hr, abides_box (f := fun _ : β => .int .i64 h) (by omega) s A C row hs.k2 hg hr, abides_box (f := fun _ : β => .int .i64 d) (by omega) s A C row hs.k3 hg hr, abides_box (f := fun _ : β => .int .i64 r) (by omega) s A C row hs.k4 hg hr, abides_box (f := fun _ : β => .int .i64 c) (by omega) s A C row hs.k5 hg hr⟩
/-- between two rounds -/
def CoI (w : World) (Z Bs : Nat) (v : Value) (tk h d : Int) {L : List Nd} {s : List Nat} (pre : List (Br L s)) (W : World) : Prop :=
  SixC W Z v tk h d 0 0 ∧ Boxed W Bs 26 v ∧ Below w.heap.size w W ∧ ∀ x ∈ pre, (x.1.1 : Int) ≠ tk
/-- on the way out -/
def CoX (w : World) (Z : Nat) (v : Value) (tk h d : Int) {L : List Nd} {s : List Nat} (c : Code) (pre : List (Br L s)) (W : World) : Prop :=
  ∃ (pre' : List (Br L s)) (x : Br L s), (c = .ret ∧ pre = pre' ++ [x] ∧ (∀ y ∈ pre', (y.1.1 : Int) ≠ tk) ∧ (x.1.1 : Int) = tk) ∧ SixC W Z v tk h d (costF L s h d (some x.1)).1 (costF L s h d (some x.1)).2 ∧ Below w.heap.size w W
theorem coI_abides {w : World} {Z Bs B m : Nat} {v : Value} {tk h d : Int} {L : List Nd} {s : List Nat} (h1 : Z + 5 < B) (h2 : Bs < B) (h3 : w.heap.size ≤ B) : Abides B m (CoI (L := L) (s := s) w Z Bs v tk h d) :=
  (abides_six h1).and ((abides_box (f := fun _ => v) h2).and ((abides_below (Nat.le_refl _) h3).and (Abides.pure _ _ _)))
theorem coX_abides {w : World} {Z B m : Nat} {v : Value} {tk h d : Int} {L : List Nd} {s : List Nat} (c : Code) (h1 : Z + 5 < B) (h3 : w.heap.size ≤ B) : Abides B m (CoX (L := L) (s := s) w Z v tk h d c) := by
  rintro pre A C row ⟨p, x, h, h6, hb⟩ hg hr
  exact ⟨p, x, h, abides_six (β := Unit) h1 () A C row h6 hg hr, abides_below (β := Unit) (Nat.le_refl _) h3 () A C row hb hg hr⟩
theorem coX_of {w W W6 : World} {Z : Nat} {v : Value} {tk h d r c : Int} {L : List Nd} {s : List Nat} {pre : List (Br L s)} {x : Br L s} (h6 : SixC W6 Z v tk h d 0 0) (hZ : w.heap.size ≤ Z) (hb : Below w.heap.size w W6) (hk : KeepsOthers W W6) (hno : ∀ y ∈ pre, (y.1.1 : Int) ≠ tk) (hx : (x.1.1 : Int) = tk) (he : costF L s h d (some x.1) = (r, c)) :
    KeepsOthers W ((W6.setCell ⟨Z + 4, 0, none⟩ (.int .i64 r)).setCell ⟨Z + 5, 0, none⟩ (.int .i64 c)) ∧ CoX w Z v tk h d .ret (pre ++ [x]) ((W6.setCell ⟨Z + 4, 0, none⟩ (.int .i64 r)).setCell ⟨Z + 5, 0, none⟩ (.int .i64 c)) := by
  refine ⟨(hk.trans (KeepsOthers.setCell _ _ _)).trans (KeepsOthers.setCell _ _ _), pre, x, ⟨rfl, rfl, hno, hx⟩, ?_, (hb.setCell (p := ⟨Z + 4, 0, none⟩) (by simp only; omega) _).setCell (p := ⟨Z + 5, 0, none⟩) (by simp only; omega) _⟩
  rw [he]
  exact ⟨(h6.k0.other (by omega) _).other (by omega) _, (h6.k1.other (by omega) _).other (by omega) _, (h6.k2.other (by omega) _).other (by omega) _, (h6.k3.other (by omega) _).other (by omega) _, (Boxed.set (.int .i64 r) h6.k4).other (by omega) _, Boxed.set (.int .i64 c) (h6.k5.other (by omega) _)⟩
set_option maxRecDepth 100000 in
set_option maxHeartbeats 4000000 in
theorem vCost (p0 : Option Addr) (b off cap : Nat) (L : List Nd) (s : List Nat) (hs : checkC L = 0 → Items L 0 s) (tk height depth : Int) (w : World) (hN : NIn w p0 b off cap L) :
    Calls Try.prog 42 #[.slice p0 L.length cap, .int .i64 tk, .int .i64 height, .int .i64 depth] w fun e w' => e = .returned (.tuple #[.int .i64 (costR L s tk height depth).1, .int .i64 (costR L s tk height depth).2]) ∧ Below w.heap.size w w' := by
  have HN := Lib.hid hN
  have Hs := Lib.hid hs
  have HC : Hid (∀ W, Below w.heap.size w W → Calls Try.prog 60 #[.slice p0 L.length cap] W fun e w' => e = .returned (.int .i64 (colP L s)) ∧ Below W.heap.size W w') := Lib.hid fun W hb => column_any p0 b off cap L s Hs.out W (HN.out.below hb)
  have h6 := six_boxed w (.slice p0 L.length cap) tk height depth
  have hb1 := six_below w (.slice p0 L.length cap) tk height depth
  unfold six at h6 hb1
  clear hN hs
  refine (callsIn_wide (n := 8)).1 ?_
  refine callsIn_of_wp_marks Try.func42 rfl trivial ?_ rfl
  simp only [Try.ntmps42, List.size_toArray, List.length_cons, List.length_nil, Nat.reduceAdd, Nat.reduceSub, Array.replicate_succ, Array.replicate_zero, List.push_toArray, List.append_toArray, List.nil_append, List.cons_append]
  gi_upto_region 1 with (fail)
  simp only [Nat.add_assoc, Nat.reduceAdd]
  generalize (((((w.alloc (.cells #[.slice p0 L.length cap] 26)).alloc (.cells #[.int .i64 tk] 3)).alloc (.cells #[.int .i64 height] 3)).alloc (.cells #[.int .i64 depth] 3)).alloc (.cells #[.int .i64 0] 3)).alloc (.cells #[.int .i64 0] 27) = w1 at h6 hb1 ⊢
  have c0 := h6.k0.cell
  have f0 := h6.k0.frozen
  gi_wp2
  refine ⟨trivial, (callsIn_wide.2 (HC.out _ hb1)).mono ?_⟩
  rintro e w2 ⟨rfl, hb2⟩
  have g6 := h6.below hb2
  have hbw := hb1.trans (hb2.mono hb1.size)
  clear c0 f0 h6 hb1 hb2 HC
  by_cases hck : colP L s = 0
  · have hs := Hs.out (colP_check hck)
    have hl := (checkC_zero (colP_check hck)).1
    have Hck := Lib.hid hck
    rw [hck]
    have HI := Lib.hid (legal_any p0 L.length cap w2)
    have c0 := g6.k0.cell
    clear hck Hs
    gi_wp2
    refine ⟨trivial, (callsIn_wide.2 HI.out).mono ?_⟩
    clear HI c0
    rintro e w4 ⟨rfl, rfl⟩
    have e6 := g6.below ((Below.refl w2.heap.size w2).alloc (Nat.le_refl _) (.cells #[.slice p0 L.length cap] 26))
    have eB := hbw.alloc hbw.size (.cells #[.slice p0 L.length cap] 26)
    have eS := Boxed.new w2 26 (.slice p0 L.length cap)
    have hlt1 := g6.k5.lt
    clear g6 hbw
    gi_wp2
    generalize w2.alloc (.cells #[.slice p0 L.length cap] 26) = w5 at e6 eB eS ⊢
    generalize w2.heap.size = Bs at eS hlt1 ⊢
    have hBs := eS.lt
    refine wpIn_range_cells rfl (by decide) (gf := 91) (lb := #[.pointer (some ⟨Bs, 0, none⟩)]) rfl trivial (enters_of Try.func91 (by kernel_rfl) rfl)
      (legal_seq 7 rfl Bs w.heap.size b off cap p0 L s hs hl w5 eS (HN.out.below eB) (fun e => HN.out.hb e) eB.size) kpL_t ?hKb (Below.refl _ _) (fun _ => rfl)
      (CoI w w.heap.size Bs (.slice p0 L.length cap) tk height depth) (CoX w w.heap.size (.slice p0 L.length cap) tk height depth) (coI_abides (by omega) hBs eB.size) (fun c => coX_abides c (by omega) eB.size)
      ⟨e6, eS, eB, fun x hx => by cases hx⟩ ?a₁ ?assign ?body ?done ?stop
    case assign =>
      intro l x W K hK
      gi_wp2
      exact hK
    case body =>
      rintro l pre x W ⟨h6, hS, hb, hpre⟩ hsz hlt
      have c1 := h6.k1.cell
      have H6 := Lib.hid h6
      have Hpre := Lib.hid hpre
      clear h6 hpre
      cases hx : ((x.1.1 : Int) != tk)
      · have hxe : (x.1.1 : Int) = tk := by simpa using hx
        have c0 := H6.out.k0.cell
        have c2 := H6.out.k2.cell
        have c3 := H6.out.k3.cell
        have c4 := H6.out.k4.cell
        have c5 := H6.out.k5.cell
        have f4 := H6.out.k4.frozen
        have f5 := H6.out.k5.frozen
        have HX := Lib.hid hxe
        have HD := Lib.hid (fun W => vdimen_any height W)
        have HE := Lib.hid (fun W => vdimen_any depth W)
        clear hxe
        cases hd1 : dimenB height
        · have HV := Lib.hid (show costF L s height depth (some x.1) = (0, 11) by simp [costF, hd1])
          have hd := HD.out W
          rw [hd1] at hd
          clear hd1
          gi_wp2
          refine ⟨trivial, ((callsIn_wide.2 hd).inRound l).mono ?_⟩
          rintro e w' ⟨rfl, rfl⟩
          gi_wp2
          refine ⟨trivial, ?_⟩
          gi_wp2
          exact coX_of H6.out (Nat.le_refl _) hb (KeepsOthers.refl _) Hpre.out HX.out HV.out
        · have hd := HD.out W
          rw [hd1] at hd
          cases hd2 : dimenB depth
          · have HV := Lib.hid (show costF L s height depth (some x.1) = (0, 11) by simp [costF, hd2])
            have he := HE.out W
            rw [hd2] at he
            clear hd1 hd2
            gi_wp2
            refine ⟨trivial, ((callsIn_wide.2 hd).inRound l).mono ?_⟩
            rintro e w' ⟨rfl, rfl⟩
            gi_wp2
            refine ⟨trivial, ((callsIn_wide.2 he).inRound l).mono ?_⟩
            rintro e w' ⟨rfl, rfl⟩
            gi_wp2
            exact coX_of H6.out (Nat.le_refl _) hb (KeepsOthers.refl _) Hpre.out HX.out HV.out
          · have he := HE.out W
            rw [hd2] at he
            have HV := Lib.hid (show costF L s height depth (some x.1) = (costP (measP L s x.1.1 depth).1 height x.1.2, 0) by simp [costF, hd1, hd2])
            have r1 : -1073741823 ≤ height ∧ height ≤ 1073741823 := by simpa [dimenB] using hd1
            have r2 : -1073741823 ≤ depth ∧ depth ≤ 1073741823 := by simpa [dimenB] using hd2
            have hrt := check_right (colP_check Hck.out)
            have hnb : ∀ y ∈ s, NdB (nth L y) := fun y hy => nb_of (hrt _ (by rw [nth_get (hs.lt y hy).2]; exact List.getElem_mem _))
            have hM : Calls Try.prog 69 #[.slice p0 L.length cap, .int .i64 tk, .int .i64 depth] W fun e w' => e = .returned (.tuple #[.agg (measP L s x.1.1 depth).1.arr, .int .i64 (measP L s x.1.1 depth).2]) ∧ Below W.heap.size W w' := by
              have := vmeasured p0 b off cap L s hs hl hrt x.1.1 depth r2 W (HN.out.below hb)
              rwa [HX.out] at this
            obtain ⟨⟨m1, m2⟩, _⟩ := meas_bound (L := L) x.1.1 hnb (by have := hs.len; omega) r2
            have hq : x.1.2 ≤ 10000 := by
              rcases x.2 with h | h
              · have := h.2.1; omega
              · rw [h]; show (-10000 : Int) ≤ 10000; decide
            generalize measP L s x.1.1 depth = mm at hM HV m1 m2
            obtain ⟨T, dd⟩ := mm
            have HK : Hid (∀ A, Calls Try.prog 73 #[.agg T.arr, .int .i64 height, .int .i64 x.1.2] A fun e w' => e = .returned (.int .i64 (costP T height x.1.2)) ∧ Below A.heap.size A w') := Lib.hid fun A => vcost T height x.1.2 A r1.1 r1.2 (by have : -9000000000000 ≤ T.nat := m1; omega) (by have : T.nat ≤ 9000000000000 := m2; omega) hq
            have HM := Lib.hid hM
            clear hd1 hd2 hnb hrt hM m1 m2 hq r1 r2
            gi_wp2
            refine ⟨trivial, ((callsIn_wide.2 hd).inRound l).mono ?_⟩
            rintro e w' ⟨rfl, rfl⟩
            gi_wp2
            refine ⟨trivial, ((callsIn_wide.2 he).inRound l).mono ?_⟩
            rintro e w' ⟨rfl, rfl⟩
            gi_wp2
            refine ⟨trivial, ((callsIn_wide.2 HM.out).inRound l).mono ?_⟩
            rintro e w6 ⟨rfl, hb6⟩
            gi_upto_region 11 with (fail)
            have aT : TAt (w6.alloc (.cells T.arr 68)) w6.heap.size T := heap_alloc_new w6 _
            have j7 := (H6.out.below hb6).below ((Below.refl w6.heap.size w6).alloc (Nat.le_refl _) (.cells T.arr 68))
            have hb7 := hb6.alloc hb6.size (.cells T.arr 68)
            have hbw7 := hb.trans (hb7.mono hb.size)
            clear hb6 c0 c1 c2 c3 c4 c5 f4 f5 hd he
            generalize w6.alloc (.cells T.arr 68) = w7 at aT j7 hb7 hbw7 ⊢
            generalize w6.heap.size = X at aT ⊢
            have a0 := aT.agg
            have c2 := j7.k2.cell
            clear aT
            gi_wp2
            refine ⟨trivial, ((callsIn_wide.2 (HK.out _)).inRound l).mono ?_⟩
            rintro e w8 ⟨rfl, hb8⟩
            have j8 := j7.below hb8
            have c4 := j8.k4.cell
            have c5 := j8.k5.cell
            have f4 := j8.k4.frozen
            have f5 := j8.k5.frozen
            clear a0 c2
            gi_wp2
            exact coX_of j8 (Nat.le_refl _) (hbw7.trans (hb8.mono hbw7.size)) (keepsOthers_below (hb7.trans (hb8.mono hb7.size))) Hpre.out HX.out HV.out
      · have hxn : (x.1.1 : Int) ≠ tk := by simpa using hx
        gi_wp2
        have h6 := H6.out
        refine ⟨KeepsOthers.refl _, ⟨Below.refl _ _, rfl, fun _ _ _ => rfl, (KeepsOthers.refl _).from _⟩, h6, hS, hb, fun y hy => ?_⟩
        rcases List.mem_append.1 hy with hy | hy
        · exact Hpre.out y hy
        · simp only [List.mem_singleton] at hy; rw [hy]; exact hxn
    case hKb =>
      intro A o hlt
      refine ⟨(Below.refl _ A).grown (grownBy_putObj' A _ o) (by have := eB.size; omega) (fun k e => by cases e; have := eB.size; omega), World.putObj_heap_other (by omega), fun r h1 h2 => World.putObj_heap_other (by omega), KeepsFrom.of_grownBy (grownBy_putObj' A _ o) (fun j e => by cases e; omega)⟩
    case done =>
      rintro ys W hys ⟨h6, hS, hb, hno⟩ hK
      have Hno := Lib.hid hno
      have Hys := Lib.hid hys
      have c4 := h6.k4.cell
      have c5 := h6.k5.cell
      have f4 := h6.k4.frozen
      have f5 := h6.k5.frozen
      clear hno hys
      gi_wp2
      have hRz : costR L s tk height depth = (0, 3) := by
        unfold costR
        rw [if_pos Hck.out, ← Hys.out, findB_none]
        · rfl
        · intro j hj
          simp only [List.getElem_map]
          exact Hno.out _ (List.getElem_mem _)
      have hKo : KeepsOthers W ((W.setCell ⟨w.heap.size + 4, 0, none⟩ (.int .i64 0)).setCell ⟨w.heap.size + 5, 0, none⟩ (.int .i64 3)) := (KeepsOthers.setCell _ _ _).trans (KeepsOthers.setCell _ _ _)
      have hK' := hKo.same w5.heap.size _ hK rfl
      have hbE : Below w.heap.size w ((W.setCell ⟨w.heap.size + 4, 0, none⟩ (.int .i64 0)).setCell ⟨w.heap.size + 5, 0, none⟩ (.int .i64 3)) := (hb.setCell (p := ⟨w.heap.size + 4, 0, none⟩) (by simp only; omega) _).setCell (p := ⟨w.heap.size + 5, 0, none⟩) (by simp only; omega) _
      have g4 := (Boxed.set (.int .i64 0) h6.k4).other (B' := w.heap.size + 5) (by omega) (.int .i64 3)
      have g5 := Boxed.set (.int .i64 3) (h6.k5.other (B' := w.heap.size + 4) (by omega) (.int .i64 0))
      generalize (W.setCell ⟨w.heap.size + 4, 0, none⟩ (.int .i64 0)).setCell ⟨w.heap.size + 5, 0, none⟩ (.int .i64 3) = W9 at g4 g5 hK' hbE ⊢
      refine ⟨by simp, .inl ⟨_, _, rfl, run_takeDeferred hK', ?_⟩⟩
      have q1 := cell_kept (W := W9) g4.cell (grownBy_putObj' _ w5.heap.size (.deferred none)) (fun r e => by cases e; exact ⟨_, hK', rfl⟩)
      have q2 := cell_kept (W := W9) g5.cell (grownBy_putObj' _ w5.heap.size (.deferred none)) (fun r e => by cases e; exact ⟨_, hK', rfl⟩)
      refine ⟨.tuple #[.int .i64 0, .int .i64 3], ?_, by rw [hRz], hbE.trans (belowK_b (w := w) (Nat.le_refl _) _ w5.heap.size _ _ eB.size hK' rfl rfl)⟩
      simp [results, Try.f42, go_sem, q1, q2]
    case stop =>
      rintro c pre W hpre ⟨pre', x, ⟨rfl, rfl, hno, hx⟩, h6, hb⟩ hK
      have hRz : costR L s tk height depth = costF L s height depth (some x.1) := by
        unfold costR
        obtain ⟨rest, hrest⟩ := hpre
        rw [if_pos Hck.out, ← hrest]
        congr 1
        unfold findB
        rw [List.map_append, List.append_assoc, List.find?_append, List.find?_eq_none.2 (by
          intro y hy
          obtain ⟨z, hz, rfl⟩ := List.mem_map.1 hy
          simpa using hno z hz)]
        simp [hx]
      gi_wp2
      refine ⟨by simp, .inl ⟨_, _, rfl, run_takeDeferred hK, ?_⟩⟩
      have q1 := cell_kept (W := W) h6.k4.cell (grownBy_putObj' _ w5.heap.size (.deferred none)) (fun r e => by cases e; exact ⟨_, hK, rfl⟩)
      have q2 := cell_kept (W := W) h6.k5.cell (grownBy_putObj' _ w5.heap.size (.deferred none)) (fun r e => by cases e; exact ⟨_, hK, rfl⟩)
      refine ⟨.tuple #[.int .i64 (costF L s height depth (some x.1)).1, .int .i64 (costF L s height depth (some x.1)).2], ?_, by rw [hRz], hb.trans (belowK_b (w := w) (Nat.le_refl _) _ w5.heap.size _ _ eB.size hK rfl rfl)⟩
      simp [results, Try.f42, go_sem, q1, q2]
  · have hck' : ((colP L s : Int) != 0) = true := by simpa using hck
    have HR := Lib.hid (show costR L s tk height depth = (0, colP L s) by unfold costR; rw [if_neg hck])
    have c4 := g6.k4.cell
    have c5 := g6.k5.cell
    have f4 := g6.k4.frozen
    have f5 := g6.k5.frozen
    clear hck
    gi_wp2
    have g4 := (Boxed.set (.int .i64 0) g6.k4).other (B' := w.heap.size + 5) (by omega) (.int .i64 (colP L s))
    have g5 := Boxed.set (.int .i64 (colP L s)) (g6.k5.other (B' := w.heap.size + 4) (by omega) (.int .i64 0))
    have q1 := g4.cell
    have q2 := g5.cell
    refine ⟨.tuple #[.int .i64 0, .int .i64 (colP L s)], ?_, by rw [HR.out], (hbw.setCell (p := ⟨w.heap.size + 4, 0, none⟩) (by simp only; omega) _).setCell (p := ⟨w.heap.size + 5, 0, none⟩) (by simp only; omega) _⟩
    simp [results, Try.f42, go_sem, q1, q2]
end Go.Proofs.Ytkkdopfdoommnaa
