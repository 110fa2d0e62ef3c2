/-
  vlist.Marks: the first and the last mark of a column.
-/
import Derived.Test.YtomehdepjenilaaGreatQ13
namespace Go.Proofs.YtomehdepjenilaaGreat
open Go.ChangeShapes Go.WideShapes Go.ChangeAt Go.RowKit Go.Shelf
attribute [local go_sem] Oper.semAt_some

def MkI (w : World) (Bs : Nat) (p0 : Option Addr) (cap : Nat) (L : List Nd) (s : List Nat) (pre : List {i : Nat // i ∈ s}) (W : World) : Prop :=
  (Boxed W w.heap.size 27 (.slice p0 L.length cap) ∧ Boxed W Bs 27 (.slice p0 L.length cap) ∧ Boxed W (w.heap.size + 1) 9 (.string (marksP L (pre.map (·.1))).first) ∧ Boxed W (w.heap.size + 1 + 1) 9 (.string (marksP L (pre.map (·.1))).last) ∧ Boxed W (w.heap.size + 1 + 1 + 1) 4 (.bool (marksP L (pre.map (·.1))).some)) ∧ Below w.heap.size w W
theorem mkI_own {w : World} {Bs B : Nat} {p0 : Option Addr} {cap : Nat} {L : List Nd} {s : List Nat} (hB : w.heap.size ≤ B) : OwnFrom B (MkI w Bs p0 cap L s) :=
  OwnFrom.and (OwnFrom.and (Own.from (boxed_own _ _ _) _) (OwnFrom.and (Own.from (boxed_own _ _ _) _) (OwnFrom.and (Own.from (boxed_own _ _ _) _) (OwnFrom.and (Own.from (boxed_own _ _ _) _) (Own.from (boxed_own _ _ _) _))))) (ownFrom_below (Nat.le_refl _) hB)
set_option maxRecDepth 100000 in
set_option maxHeartbeats 8000000 in
theorem vmarks (p0 : Option Addr) (b off cap : Nat) (L : List Nd) (s : List Nat) (hs : checkC L = 0 → Items L 0 s) (w : World) (hN : NIn w p0 b off cap L) :
    Calls Tryz.prog 144 #[.slice p0 L.length cap] w fun e w' => e = .returned ((marksR L s).vals (colP L s)) ∧ Below w.heap.size w w' := by
  have hlen := hN.len
  have HN := Lib.hid hN
  have Hs := Lib.hid hs
  have HC : Hid (∀ W, Below w.heap.size w W → Calls Tryz.prog 63 #[.slice p0 L.length cap] W fun e w' => e = .returned (.int .i64 (colP L s)) ∧ Below W.heap.size W w') := Lib.hid fun W hb => column_any p0 b off cap L s Hs.out W (HN.out.below hb)
  have b0 : Boxed ((((w.alloc (.cells #[.slice p0 L.length cap] 27)).alloc (.cells #[.string ⟨#[]⟩] 9)).alloc (.cells #[.string ⟨#[]⟩] 9)).alloc (.cells #[.bool false] 4)) w.heap.size 27 (.slice p0 L.length cap) := (((Boxed.new w _ _).alloc _).alloc _).alloc _
  have b1 : Boxed ((((w.alloc (.cells #[.slice p0 L.length cap] 27)).alloc (.cells #[.string ⟨#[]⟩] 9)).alloc (.cells #[.string ⟨#[]⟩] 9)).alloc (.cells #[.bool false] 4)) (w.heap.size + 1) 9 (.string ⟨#[]⟩) := by have := Boxed.new (w.alloc (.cells #[.slice p0 L.length cap] 27)) 9 (.string ⟨#[]⟩); rw [World.size_alloc] at this; exact (this.alloc _).alloc _
  have b2 : Boxed ((((w.alloc (.cells #[.slice p0 L.length cap] 27)).alloc (.cells #[.string ⟨#[]⟩] 9)).alloc (.cells #[.string ⟨#[]⟩] 9)).alloc (.cells #[.bool false] 4)) (w.heap.size + 1 + 1) 9 (.string ⟨#[]⟩) := by have := Boxed.new ((w.alloc (.cells #[.slice p0 L.length cap] 27)).alloc (.cells #[.string ⟨#[]⟩] 9)) 9 (.string ⟨#[]⟩); rw [World.size_alloc, World.size_alloc] at this; exact this.alloc _
  have b3 : Boxed ((((w.alloc (.cells #[.slice p0 L.length cap] 27)).alloc (.cells #[.string ⟨#[]⟩] 9)).alloc (.cells #[.string ⟨#[]⟩] 9)).alloc (.cells #[.bool false] 4)) (w.heap.size + 1 + 1 + 1) 4 (.bool false) := by have := Boxed.new (((w.alloc (.cells #[.slice p0 L.length cap] 27)).alloc (.cells #[.string ⟨#[]⟩] 9)).alloc (.cells #[.string ⟨#[]⟩] 9)) 4 (.bool false); rw [World.size_alloc, World.size_alloc, World.size_alloc] at this; exact this
  have hb1 : Below w.heap.size w ((((w.alloc (.cells #[.slice p0 L.length cap] 27)).alloc (.cells #[.string ⟨#[]⟩] 9)).alloc (.cells #[.string ⟨#[]⟩] 9)).alloc (.cells #[.bool false] 4)) := ((((Below.refl _ _).alloc (Nat.le_refl _) _).alloc (by simp) _).alloc (by simp; omega) _).alloc (by simp; omega) _
  clear hN hs
  refine (callsIn_wide (n := 8)).1 ?_
  refine callsIn_of_wp_marks Tryz.func144 rfl trivial ?_ rfl
  simp only [Tryz.ntmps144, List.size_toArray, List.length_cons, List.length_nil, Nat.reduceAdd, Nat.reduceSub, Array.replicate_succ, Array.replicate_zero, List.push_toArray, List.append_toArray, List.nil_append, List.cons_append]
  gi_wp2
  refine ⟨trivial, (callsIn_wide.2 (HC.out _ hb1)).mono ?_⟩
  rintro e w2 ⟨rfl, hb2⟩
  have d0 : Boxed w2 w.heap.size 27 (.slice p0 L.length cap) := (hb2.block _ b0.lt).trans b0
  have d1 : Boxed w2 (w.heap.size + 1) 9 (.string ⟨#[]⟩) := (hb2.block _ b1.lt).trans b1
  have d2 : Boxed w2 (w.heap.size + 1 + 1) 9 (.string ⟨#[]⟩) := (hb2.block _ b2.lt).trans b2
  have d3 : Boxed w2 (w.heap.size + 1 + 1 + 1) 4 (.bool false) := (hb2.block _ b3.lt).trans b3
  have hbw := hb1.trans (hb2.mono hb1.size)
  clear b0 b1 b2 b3 hb1 hb2 HC
  have c0 := d0.cell
  have c1 := d1.cell
  have c2 := d2.cell
  have c3 := d3.cell
  have f1 := d1.frozen
  have f2 := d2.frozen
  have f3 := d3.frozen
  by_cases hck : colP L s = 0
  · have hs := Hs.out (colP_check hck)
    have Hck := Lib.hid hck
    have HR := Lib.hid (show marksR L s = marksP L s by unfold marksR; rw [if_pos hck])
    rw [hck]
    have HI := Lib.hid (items_any p0 L.length cap w2)
    clear hck Hs
    gi_wp2
    refine ⟨trivial, (callsIn_wide.2 HI.out).mono ?_⟩
    clear HI
    rintro e w4 ⟨rfl, rfl⟩
    have e0 := d0.alloc (.cells #[.slice p0 L.length cap] 27)
    have e1 := d1.alloc (.cells #[.slice p0 L.length cap] 27)
    have e2 := d2.alloc (.cells #[.slice p0 L.length cap] 27)
    have e3 := d3.alloc (.cells #[.slice p0 L.length cap] 27)
    have eB := hbw.alloc hbw.size (.cells #[.slice p0 L.length cap] 27)
    have eS := Boxed.new w2 27 (.slice p0 L.length cap)
    have hlt3 := d3.lt
    clear d0 d1 d2 d3 c0 c1 c2 c3 f1 f2 f3 hbw
    gi_wp2
    generalize w2.alloc (.cells #[.slice p0 L.length cap] 27) = w5 at e0 e1 e2 e3 eB eS ⊢
    generalize w2.heap.size = Bs at eS hlt3 ⊢
    have hBs := eS.lt
    refine wpIn_rangeFunc_ownF rfl (by decide) (gf := 99) (lb := #[.pointer (some ⟨Bs, 0, none⟩)]) rfl trivial (enters_of Tryz.func99 (by kernel_rfl) rfl)
      (items_stops 7 (by decide) Bs w.heap.size b off cap p0 L s hs w5 eS (HN.out.below eB) (fun e => HN.out.hb e)) kpI_t (kpI_b eB.size hBs) (Below.refl _ _) (fun _ => rfl)
      (MkI w Bs p0 cap L s) (fun _ _ _ => False) (mkI_own eB.size) (fun _ => ownFrom_pure _ _)
      ⟨⟨e0, eS, e1, e2, e3⟩, eB⟩ ?a₁ ?assign ?body ?done ?stop
    case assign =>
      intro l x W K hK
      gi_wp2
      exact hK
    case body =>
      rintro l pre x W ⟨⟨i0, iS, i1, i2, i3⟩, i5⟩ hlt
      obtain ⟨hx1, hx2⟩ := hs.lt x.1 x.2
      have hN := HN.out.below i5
      have xa := hN.nth hx2
      have hst := marksP_step (L := L) (show (pre ++ [x]).map (·.1) = pre.map (·.1) ++ [x.1] by simp)
      obtain ⟨n, hn⟩ : ∃ n, nth L x.1 = n := ⟨_, rfl⟩
      rw [hn] at xa hst
      obtain rfl := hN.at_ hx2
      have hx3 : (0 : Int) ≤ (x.1 : Int) := by omega
      have hx4 : (x.1 : Int) < (L.length : Int) := by omega
      have x0 : W.cell? ⟨b, off + x.1 * 19, none⟩ = some (.int .i64 n.kind) := by have := agg_cell xa 0 (.int .i64 n.kind) rfl; simpa using this
      have x18 : W.cell? ⟨b, off + x.1 * 19 + 18, none⟩ = some (.string n.text) := agg_cell xa 18 (.string n.text) rfl
      have c0 := i0.cell
      have c1 := i1.cell
      have c2 := i2.cell
      have c3 := i3.cell
      have f1 := i1.frozen
      have f2 := i2.frozen
      have f3 := i3.frozen
      obtain ⟨m, hm⟩ : ∃ m, marksP L (pre.map (·.1)) = m := ⟨_, rfl⟩
      rw [hm] at c1 c2 c3 hst i1 i2 i3
      have HSame : Hid (n.kind ≠ 12 → MkI w Bs (some ⟨b, off, none⟩) cap L s (pre ++ [x]) W) := Lib.hid fun h => by
        have e : marksP L ((pre ++ [x]).map (·.1)) = m := by rw [hst]; simp [mkStep, h]
        exact ⟨⟨i0, iS, by rw [e]; exact i1, by rw [e]; exact i2, by rw [e]; exact i3⟩, i5⟩
      have HT : Hid (∀ f : ByteArray, n.kind = 12 → (if m.some then m.first else n.text) = f → Boxed W (w.heap.size + 1) 9 (.string f) → Boxed W (w.heap.size + 1 + 1 + 1) 4 (.bool true) → KeepsOthers W (W.setCell ⟨w.heap.size + 1 + 1, 0, none⟩ (.string n.text)) ∧ KpI w.heap.size Bs W (W.setCell ⟨w.heap.size + 1 + 1, 0, none⟩ (.string n.text)) ∧ MkI w Bs (some ⟨b, off, none⟩) cap L s (pre ++ [x]) (W.setCell ⟨w.heap.size + 1 + 1, 0, none⟩ (.string n.text))) := Lib.hid fun f h12 hf h1 h3 => by
        have e : marksP L ((pre ++ [x]).map (·.1)) = ⟨f, n.text, true⟩ := by rw [hst]; simp [mkStep, h12, hf]
        exact ⟨KeepsOthers.setCell _ _ _, ⟨(Below.refl _ _).setCell (p := ⟨w.heap.size + 1 + 1, 0, none⟩) (by simp only; omega) _, Below.heap_setCell _ _ _ _ (by simp only; omega)⟩, ⟨⟨i0.other (by omega) _, iS.other (by omega) _, by rw [e]; exact h1.other (by omega) _, by rw [e]; exact Boxed.set _ i2, by rw [e]; exact h3.other (by omega) _⟩, i5.setCell (p := ⟨w.heap.size + 1 + 1, 0, none⟩) (by simp only; omega) _⟩⟩
      have HU : Hid (n.kind = 12 → m.some = false → KeepsOthers W (((W.setCell ⟨w.heap.size + 1 + 1, 0, none⟩ (.string n.text)).setCell ⟨w.heap.size + 1, 0, none⟩ (.string n.text)).setCell ⟨w.heap.size + 1 + 1 + 1, 0, none⟩ (.bool true)) ∧ KpI w.heap.size Bs W (((W.setCell ⟨w.heap.size + 1 + 1, 0, none⟩ (.string n.text)).setCell ⟨w.heap.size + 1, 0, none⟩ (.string n.text)).setCell ⟨w.heap.size + 1 + 1 + 1, 0, none⟩ (.bool true)) ∧ MkI w Bs (some ⟨b, off, none⟩) cap L s (pre ++ [x]) (((W.setCell ⟨w.heap.size + 1 + 1, 0, none⟩ (.string n.text)).setCell ⟨w.heap.size + 1, 0, none⟩ (.string n.text)).setCell ⟨w.heap.size + 1 + 1 + 1, 0, none⟩ (.bool true))) := Lib.hid fun h12 hs => by
        have e : marksP L ((pre ++ [x]).map (·.1)) = ⟨n.text, n.text, true⟩ := by rw [hst]; simp [mkStep, h12, hs]
        exact ⟨((KeepsOthers.setCell _ _ _).trans (KeepsOthers.setCell _ _ _)).trans (KeepsOthers.setCell _ _ _), ⟨(((Below.refl _ _).setCell (p := ⟨w.heap.size + 1 + 1, 0, none⟩) (by simp only; omega) _).setCell (p := ⟨w.heap.size + 1, 0, none⟩) (by simp only; omega) _).setCell (p := ⟨w.heap.size + 1 + 1 + 1, 0, none⟩) (by simp only; omega) _, ((Below.heap_setCell _ _ _ _ (by simp only; omega)).trans (Below.heap_setCell _ _ _ _ (by simp only; omega))).trans (Below.heap_setCell _ _ _ _ (by simp only; omega))⟩, ⟨⟨((i0.other (by omega) _).other (by omega) _).other (by omega) _, ((iS.other (by omega) _).other (by omega) _).other (by omega) _, by rw [e]; exact (Boxed.set _ (i1.other (by omega) _)).other (by omega) _, by rw [e]; exact ((Boxed.set _ i2).other (by omega) _).other (by omega) _, by rw [e]; exact Boxed.set _ ((i3.other (by omega) _).other (by omega) _)⟩, ((i5.setCell (p := ⟨w.heap.size + 1 + 1, 0, none⟩) (by simp only; omega) _).setCell (p := ⟨w.heap.size + 1, 0, none⟩) (by simp only; omega) _).setCell (p := ⟨w.heap.size + 1 + 1 + 1, 0, none⟩) (by simp only; omega) _⟩⟩
      have I1 := Lib.hid i1
      have I3 := Lib.hid i3
      clear i0 iS i1 i2 i3 i5 hst hN hn hm xa hlt
      cases k12 : (n.kind != 12)
      · have e12 : n.kind = 12 := by simpa using k12
        obtain ⟨f, la, so⟩ := m
        cases so
        · have HF := Lib.hid (HU.out e12 rfl)
          clear HU HT HSame
          gi_wp2
          exact HF.out
        · have HF := Lib.hid (HT.out f e12 rfl I1.out I3.out)
          clear HU HT HSame
          gi_wp2
          exact HF.out
      · have HF := Lib.hid (HSame.out (by simpa using k12))
        clear HU HT HSame
        gi_wp2
        exact ⟨KeepsOthers.refl _, ⟨Below.refl _ _, rfl⟩, HF.out⟩
    case done =>
      rintro D ys W hD hys ⟨⟨i0, iS, i1, i2, i3⟩, i5⟩ hK
      rw [hys] at i1 i2 i3
      have HR2 := HR
      obtain ⟨m, hm⟩ : ∃ m, marksP L s = m := ⟨_, rfl⟩
      rw [hm] at i1 i2 i3
      have Hm := Lib.hid hm
      have c1 := i1.cell
      have c2 := i2.cell
      have c3 := i3.cell
      have f1 := i1.frozen
      have f2 := i2.frozen
      have f3 := i3.frozen
      clear hm
      gi_wp2
      refine wpIn_wide.2 ?_
      go_region
      have hKo : KeepsOthers W (((W.setCell ⟨w.heap.size + 1, 0, none⟩ (.string m.first)).setCell ⟨w.heap.size + 1 + 1, 0, none⟩ (.string m.last)).setCell ⟨w.heap.size + 1 + 1 + 1, 0, none⟩ (.bool m.some)).drew := (((KeepsOthers.setCell _ _ _).trans (KeepsOthers.setCell _ _ _)).trans (KeepsOthers.setCell _ _ _)).trans (KeepsOthers.drew _)
      have hK' := hKo.same D _ hK rfl
      have hbE : Below w.heap.size w (((W.setCell ⟨w.heap.size + 1, 0, none⟩ (.string m.first)).setCell ⟨w.heap.size + 1 + 1, 0, none⟩ (.string m.last)).setCell ⟨w.heap.size + 1 + 1 + 1, 0, none⟩ (.bool m.some)).drew := (((i5.setCell (p := ⟨w.heap.size + 1, 0, none⟩) (by simp only; omega) _).setCell (p := ⟨w.heap.size + 1 + 1, 0, none⟩) (by simp only; omega) _).setCell (p := ⟨w.heap.size + 1 + 1 + 1, 0, none⟩) (by simp only; omega) _).drew
      have g1 := ((Boxed.set (.string m.first) i1).other (B' := w.heap.size + 1 + 1) (by omega) (.string m.last)).other (B' := w.heap.size + 1 + 1 + 1) (by omega) (.bool m.some)
      have g2 := (Boxed.set (.string m.last) (i2.other (B' := w.heap.size + 1) (by omega) (.string m.first))).other (B' := w.heap.size + 1 + 1 + 1) (by omega) (.bool m.some)
      have g3 := Boxed.set (.bool m.some) ((i3.other (B' := w.heap.size + 1) (by omega) (.string m.first)).other (B' := w.heap.size + 1 + 1) (by omega) (.string m.last))
      generalize (((W.setCell ⟨w.heap.size + 1, 0, none⟩ (.string m.first)).setCell ⟨w.heap.size + 1 + 1, 0, none⟩ (.string m.last)).setCell ⟨w.heap.size + 1 + 1 + 1, 0, none⟩ (.bool m.some)) = W9 at hK' hbE g1 g2 g3 ⊢
      clear i0 iS i1 i2 i3 c1 c2 c3 f1 f2 f3 hKo
      gi_wp2
      refine ⟨by simp, .inl ⟨_, _, rfl, run_takeDeferred hK', ?_⟩⟩
      have q1 := cell_kept (W := W9.drew) g1.cell (grownBy_putObj' _ D (.deferred none)) (fun r e => by cases e; exact ⟨_, hK', rfl⟩)
      have q2 := cell_kept (W := W9.drew) g2.cell (grownBy_putObj' _ D (.deferred none)) (fun r e => by cases e; exact ⟨_, hK', rfl⟩)
      have q3 := cell_kept (W := W9.drew) g3.cell (grownBy_putObj' _ D (.deferred none)) (fun r e => by cases e; exact ⟨_, hK', rfl⟩)
      refine ⟨Mk.vals m 0, ?_, by rw [HR2.out, Hm.out, Hck.out], hbE.trans (belowK_b (w := w) (Nat.le_refl _) _ D _ _ (by have := eB.size; omega) hK' rfl rfl)⟩
      simp [results, Tryz.f144, go_sem, q1, q2, q3, Mk.vals]
    case stop =>
      rintro D c pre W hD hp h
      exact h.elim
  · have hck' : ((colP L s : Int) != 0) = true := by simpa using hck
    have HR := Lib.hid (show marksR L s = Mk.none by unfold marksR; rw [if_neg hck])
    clear hck
    gi_wp2
    have g1 := ((Boxed.set (.string ⟨#[]⟩) d1).other (B' := w.heap.size + 1 + 1) (by omega) (.string ⟨#[]⟩)).other (B' := w.heap.size + 1 + 1 + 1) (by omega) (.bool false)
    have g2 := (Boxed.set (.string ⟨#[]⟩) (d2.other (B' := w.heap.size + 1) (by omega) (.string ⟨#[]⟩))).other (B' := w.heap.size + 1 + 1 + 1) (by omega) (.bool false)
    have g3 := Boxed.set (.bool false) ((d3.other (B' := w.heap.size + 1) (by omega) (.string ⟨#[]⟩)).other (B' := w.heap.size + 1 + 1) (by omega) (.string ⟨#[]⟩))
    have q1 := g1.cell
    have q2 := g2.cell
    have q3 := g3.cell
    refine ⟨Mk.vals Mk.none (colP L s), ?_, by rw [HR.out], ((hbw.setCell (p := ⟨w.heap.size + 1, 0, none⟩) (by simp only; omega) _).setCell (p := ⟨w.heap.size + 1 + 1, 0, none⟩) (by simp only; omega) _).setCell (p := ⟨w.heap.size + 1 + 1 + 1, 0, none⟩) (by simp only; omega) _⟩
    simp [results, Tryz.f144, go_sem, q1, q2, q3, Mk.vals, Mk.none]
end Go.Proofs.YtomehdepjenilaaGreat
