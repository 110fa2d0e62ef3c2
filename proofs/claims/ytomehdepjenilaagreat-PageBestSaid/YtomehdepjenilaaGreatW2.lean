/-
  vlist.column: whether a row of nodes is a column.
-/
import Derived.Test.YtomehdepjenilaaGreatL1
namespace Go.Proofs.YtomehdepjenilaaGreat
open Go.ChangeShapes Go.WideShapes Go.ChangeAt Go.RowKit Go.Shelf
attribute [local go_sem] Oper.semAt_some

def nth (L : List Nd) (i : Nat) : Nd := (L[i]?).getD Nd.zero
theorem nth_get {L : List Nd} {i : Nat} (h : i < L.length) : nth L i = L[i] := by unfold nth; rw [List.getElem?_eq_getElem h]; rfl
theorem NIn.nth {w : World} {p : Option Addr} {b off cap : Nat} {L : List Nd} (h : NIn w p b off cap L) {i : Nat} (hi : i < L.length) : agg? w b (off + i * 19) 19 = some (nth L i).arr := by rw [nth_get hi]; exact h.nd i hi
def badN (n : Nd) : Bool := n.kind == 1 || n.kind == 2 || n.kind == 10 || n.kind == 15 || n.kind == 16 || n.kind == 17
def firmN (n : Nd) : Bool := !(n.kind == 7) || n.glue.ho == 0 || n.glue.shr == 0
def colP (L : List Nd) (s : List Nat) : Int := if checkC L = 0 then (if s.any (fun i => badN (nth L i)) then 50 else if s.all (fun i => firmN (nth L i)) then 0 else 30) else checkC L
def ColI (w : World) (F : Nat) (p0 : Option Addr) (cap : Nat) (L : List Nd) (s : List Nat) (pre : List {i : Nat // i ∈ s}) (W : World) : Prop :=
  (Boxed W w.heap.size 27 (.slice p0 L.length cap) ∧ Boxed W (F + 1) 27 (.slice p0 L.length cap) ∧ Boxed W (w.heap.size + 1) 29 (.int .i64 0) ∧ Boxed W F 4 (.bool (pre.all fun x => firmN (nth L x.1))) ∧ (pre.any fun x => badN (nth L x.1)) = false) ∧ Below w.heap.size w W
def ColX (w : World) (L : List Nd) (s : List Nat) (c : Code) (pre : List {i : Nat // i ∈ s}) (W : World) : Prop :=
  (c = .ret ∧ Boxed W (w.heap.size + 1) 29 (.int .i64 50) ∧ (pre.any fun x => badN (nth L x.1)) = true) ∧ Below w.heap.size w W
theorem colI_own {w : World} {F B : Nat} {p0 : Option Addr} {cap : Nat} {L : List Nd} {s : List Nat} (hB : w.heap.size ≤ B) : OwnFrom B (ColI w F p0 cap L s) :=
  OwnFrom.and (OwnFrom.and (Own.from (boxed_own _ _ _) _) (OwnFrom.and (Own.from (boxed_own _ _ _) _) (OwnFrom.and (Own.from (boxed_own _ _ _) _) (OwnFrom.and (Own.from (boxed_own _ _ _) _) (ownFrom_pure _ _))))) (ownFrom_below (Nat.le_refl _) hB)
theorem colX_own {w : World} {B : Nat} {L : List Nd} {s : List Nat} (hB : w.heap.size ≤ B) (c : Code) : OwnFrom B (ColX w L s c) :=
  OwnFrom.and (OwnFrom.and (ownFrom_pure _ _) (OwnFrom.and (Own.from (boxed_own _ _ _) _) (ownFrom_pure _ _))) (ownFrom_below (Nat.le_refl _) hB)
set_option maxRecDepth 100000 in
set_option maxHeartbeats 8000000 in
theorem column_any (p0 : Option Addr) (b off cap : Nat) (L : List Nd) (s : List Nat) (hs : checkC L = 0 → Items L 0 s) (w : World) (hN : NIn w p0 b off cap L) :
    Calls Tryz.prog 63 #[.slice p0 L.length cap] w fun e w' => e = .returned (.int .i64 (colP L s)) ∧ Below w.heap.size w w' := by
  have hlen := hN.len
  have hC : Hid (∀ W, Below w.heap.size w W → Calls Tryz.prog 84 #[.slice p0 L.length cap] W fun e w' => e = .returned (.int .i64 (checkC L)) ∧ Below W.heap.size W w') := Lib.hid fun W hb => check_any p0 b off cap L W (hN.below hb)
  have HN := Lib.hid hN
  have Hs := Lib.hid hs
  have hb1 : Below w.heap.size w ((w.alloc (.cells #[.slice p0 L.length cap] 27)).alloc (.cells #[.int .i64 0] 29)) := ((Below.refl _ _).alloc (Nat.le_refl _) _).alloc (by simp) _
  have hA1 : ((w.alloc (.cells #[.slice p0 L.length cap] 27)).alloc (.cells #[.int .i64 0] 29)).heap[w.heap.size]? = some (.cells #[.slice p0 L.length cap] 27 (0, 0)) := (Below.heap_alloc _ _ _ (by simp)).trans (heap_alloc_new _ _)
  have hA2 : ((w.alloc (.cells #[.slice p0 L.length cap] 27)).alloc (.cells #[.int .i64 0] 29)).heap[w.heap.size + 1]? = some (.cells #[.int .i64 0] 29 (0, 0)) := by
    have := heap_alloc_new (w.alloc (.cells #[.slice p0 L.length cap] 27)) (.cells #[.int .i64 0] 29); simpa using this
  clear hN hs
  refine (callsIn_wide (n := 8)).1 ?_
  refine callsIn_of_wp_marks Tryz.func63 rfl trivial ?_ rfl
  simp only [Tryz.ntmps63, List.size_toArray, List.length_cons, List.length_nil, Nat.reduceAdd, Nat.reduceSub, Array.replicate_succ, Array.replicate_zero, List.push_toArray, List.append_toArray, List.nil_append, List.cons_append]
  gi_wp2
  refine ⟨trivial, (callsIn_wide.2 (hC.out _ hb1)).mono ?_⟩
  rintro e w2 ⟨rfl, hb2⟩
  have hB1 := (hb2.block _ (Array.getElem?_eq_some_iff.1 hA1).1).trans hA1
  have hB2 := (hb2.block _ (Array.getElem?_eq_some_iff.1 hA2).1).trans hA2
  have hbw := hb1.trans (hb2.mono hb1.size)
  clear hA1 hA2 hb1 hb2 hC
  have c1 : w2.cell? ⟨w.heap.size, 0, none⟩ = some (.slice p0 L.length cap) := by rw [cell?_blk' hB1]; rfl
  have c2 : w2.cell? ⟨w.heap.size + 1, 0, none⟩ = some (.int .i64 0) := by rw [cell?_blk' hB2]; rfl
  have f2 : w2.frozen? ⟨w.heap.size + 1, 0, none⟩ = false := by simp [World.frozen?, hB2]
  by_cases hck : checkC L = 0
  · have hs := Hs.out hck
    have Hck := Lib.hid hck
    rw [hck]
    have l1 : w.heap.size + 1 < w2.heap.size := (Array.getElem?_eq_some_iff.1 hB2).1
    have d1 : (w2.alloc (.cells #[.bool true] 4)).heap[w.heap.size]? = some (.cells #[.slice p0 L.length cap] 27 (0, 0)) := (Below.heap_alloc _ _ _ (by omega)).trans hB1
    have d2 : (w2.alloc (.cells #[.bool true] 4)).heap[w.heap.size + 1]? = some (.cells #[.int .i64 0] 29 (0, 0)) := (Below.heap_alloc _ _ _ l1).trans hB2
    have d3 : (w2.alloc (.cells #[.bool true] 4)).heap[w2.heap.size]? = some (.cells #[.bool true] 4 (0, 0)) := heap_alloc_new _ _
    have d4 : Below w.heap.size w (w2.alloc (.cells #[.bool true] 4)) := hbw.alloc hbw.size _
    have e1 : (w2.alloc (.cells #[.bool true] 4)).cell? ⟨w.heap.size, 0, none⟩ = some (.slice p0 L.length cap) := by rw [cell?_blk' d1]; rfl
    have HI := Lib.hid (items_any p0 L.length cap (w2.alloc (.cells #[.bool true] 4)))
    clear hck Hs c1 c2 f2 hB1 hB2 hbw
    gi_wp2
    refine ⟨trivial, (callsIn_wide.2 HI.out).mono ?_⟩
    clear HI
    rintro e w4 ⟨rfl, rfl⟩
    have d1' : Boxed ((w2.alloc (.cells #[.bool true] 4)).alloc (.cells #[.slice p0 L.length cap] 27)) w.heap.size 27 (.slice p0 L.length cap) := Boxed.alloc d1 _
    have d2' : Boxed ((w2.alloc (.cells #[.bool true] 4)).alloc (.cells #[.slice p0 L.length cap] 27)) (w.heap.size + 1) 29 (.int .i64 0) := Boxed.alloc d2 _
    have d3' : Boxed ((w2.alloc (.cells #[.bool true] 4)).alloc (.cells #[.slice p0 L.length cap] 27)) w2.heap.size 4 (.bool true) := Boxed.alloc d3 _
    have d4' : Below w.heap.size w ((w2.alloc (.cells #[.bool true] 4)).alloc (.cells #[.slice p0 L.length cap] 27)) := d4.alloc d4.size _
    have d5 := heap_alloc_new (w2.alloc (.cells #[.bool true] 4)) (.cells #[.slice p0 L.length cap] 27)
    rw [World.size_alloc] at d5
    have hlt5 : w2.heap.size + 1 < ((w2.alloc (.cells #[.bool true] 4)).alloc (.cells #[.slice p0 L.length cap] 27)).heap.size := by simp
    clear d1 d2 d3 d4 e1
    gi_wp2
    generalize (w2.alloc (.cells #[.bool true] 4)).alloc (.cells #[.slice p0 L.length cap] 27) = w5 at d1' d2' d3' d4' d5 hlt5 ⊢
    generalize w2.heap.size = F at l1 d3' d5 hlt5 ⊢
    have hF : w.heap.size ≤ F := by omega
    refine wpIn_rangeFunc_ownF rfl (by decide) (gf := 99) (lb := #[.pointer (some ⟨F + 1, 0, none⟩)]) rfl trivial (enters_of Tryz.func99 (by kernel_rfl) rfl)
      (items_stops 7 (by decide) (F + 1) w.heap.size b off cap p0 L s hs w5 d5 (HN.out.below d4') (fun e => HN.out.hb e)) kpI_t (kpI_b d4'.size (by omega)) (Below.refl _ _) (fun _ => rfl)
      (ColI w F p0 cap L s) (ColX w L s) (colI_own d4'.size) (colX_own d4'.size)
      ⟨⟨d1', d5, d2', d3', rfl⟩, d4'⟩ ?a₁ ?assign ?body ?done ?stop
    case assign =>
      intro l x W K hK
      gi_wp2
      exact hK
    case body =>
      rintro l pre x W ⟨⟨i1, i0, i2, i3, i4⟩, i5⟩ hlt
      obtain ⟨hx1, hx2⟩ := hs.lt x.1 x.2
      have hN := HN.out.below i5
      have xa := hN.nth hx2
      obtain ⟨n, hn⟩ : ∃ n, nth L x.1 = n := ⟨_, rfl⟩
      rw [hn] at xa
      have Hn := Lib.hid hn
      obtain rfl := hN.at_ hx2
      have hx3 : (0 : Int) ≤ (x.1 : Int) := by omega
      have hx4 : (x.1 : Int) < (L.length : Int) := by omega
      have c1 := i1.cell
      have l0 := i0.lt
      have l2 := i2.lt
      have l3 := i3.lt
      have dX : (W.alloc (.cells n.arr 49)).heap[W.heap.size]? = some (.cells n.arr 49 (0, 0)) := heap_alloc_new _ _
      have x0 : (W.alloc (.cells n.arr 49)).cell? ⟨W.heap.size, 0, none⟩ = some (.int .i64 n.kind) := by rw [cell?_blk' dX]; rfl
      have x9 : (W.alloc (.cells n.arr 49)).cell? ⟨W.heap.size, 9, none⟩ = some (.int .i64 n.glue.shr) := by rw [cell?_blk' dX]; rfl
      have x11 : (W.alloc (.cells n.arr 49)).cell? ⟨W.heap.size, 11, none⟩ = some (.int .i64 n.glue.ho) := by rw [cell?_blk' dX]; rfl
      have e2 := (i2.alloc (.cells n.arr 49)).cell
      have f2 := (i2.alloc (.cells n.arr 49)).frozen
      have e3 := (i3.alloc (.cells n.arr 49)).cell
      have f3 := (i3.alloc (.cells n.arr 49)).frozen
      have HBad : Hid (badN n = true → KeepsOthers W ((W.setCell ⟨w.heap.size + 1, 0, none⟩ (.int .i64 50)).alloc (.cells n.arr 49)) ∧ ColX w L s .ret (pre ++ [x]) ((W.setCell ⟨w.heap.size + 1, 0, none⟩ (.int .i64 50)).alloc (.cells n.arr 49))) := Lib.hid fun hb =>
        ⟨(KeepsOthers.setCell W _ _).trans (KeepsOthers.alloc _ _), ⟨rfl, (Boxed.set _ i2).alloc _, by rw [List.any_append, List.any_cons, Hn.out, hb]; simp⟩, (i5.setCell (p := ⟨w.heap.size + 1, 0, none⟩) (by simp) _).alloc (by have := i5.size; simpa using this) _⟩
      have HGood : Hid (badN n = false → firmN n = true → KeepsOthers W (W.alloc (.cells n.arr 49)) ∧ KpI w.heap.size (F + 1) W (W.alloc (.cells n.arr 49)) ∧ ColI w F (some ⟨b, off, none⟩) cap L s (pre ++ [x]) (W.alloc (.cells n.arr 49))) := Lib.hid fun hb hf =>
        ⟨KeepsOthers.alloc W _, ⟨(Below.refl _ _).alloc i5.size _, Below.heap_alloc _ _ _ l0⟩, ⟨i1.alloc _, i0.alloc _, i2.alloc _, by rw [List.all_append, List.all_cons, Hn.out, hf]; simpa using i3.alloc _, by rw [List.any_append, i4, List.any_cons, Hn.out, hb]; rfl⟩, i5.alloc i5.size _⟩
      have HFirm : Hid (∀ v : Bool, badN n = false → v = ((pre.all fun x => firmN (nth L x.1)) && firmN n) → KeepsOthers W ((W.setCell ⟨F, 0, none⟩ (.bool v)).alloc (.cells n.arr 49)) ∧ KpI w.heap.size (F + 1) W ((W.setCell ⟨F, 0, none⟩ (.bool v)).alloc (.cells n.arr 49)) ∧ ColI w F (some ⟨b, off, none⟩) cap L s (pre ++ [x]) ((W.setCell ⟨F, 0, none⟩ (.bool v)).alloc (.cells n.arr 49))) := Lib.hid fun v hb hv =>
        ⟨(KeepsOthers.setCell W _ _).trans (KeepsOthers.alloc _ _), ⟨((Below.refl _ _).setCell (p := ⟨F, 0, none⟩) hF _).alloc (by have := i5.size; simpa using this) _, (Below.heap_alloc _ _ _ (by simpa using l0)).trans (Below.heap_setCell _ _ _ _ (by simp))⟩,
          ⟨(i1.other (by omega) _).alloc _, (i0.other (by omega) _).alloc _, (i2.other (by omega) _).alloc _, by rw [List.all_append, List.all_cons, Hn.out, List.all_nil, Bool.and_true, ← hv]; exact (Boxed.set _ i3).alloc _, by rw [List.any_append, i4, List.any_cons, Hn.out, hb]; rfl⟩, (i5.setCell (p := ⟨F, 0, none⟩) hF _).alloc (by have := i5.size; simpa using this) _⟩
      clear i1 i0 i2 i4 i5 i3 dX hN hn hlt
      generalize (pre.all fun x => firmN (nth L x.1)) = f at e3 HFirm
      cases k1 : (n.kind == 1)
      rotate_left
      · gi_wp2
        exact HBad.out (by simp [badN, k1])
      cases k2 : (n.kind == 2)
      rotate_left
      · gi_wp2
        exact HBad.out (by simp [badN, k2])
      cases k10 : (n.kind == 10)
      rotate_left
      · gi_wp2
        exact HBad.out (by simp [badN, k10])
      cases k15 : (n.kind == 15)
      rotate_left
      · gi_wp2
        exact HBad.out (by simp [badN, k15])
      cases k16 : (n.kind == 16)
      rotate_left
      · gi_wp2
        exact HBad.out (by simp [badN, k16])
      cases k17 : (n.kind == 17)
      rotate_left
      · gi_wp2
        exact HBad.out (by simp [badN, k17])
      have hgood : badN n = false := by simp [badN, k1, k2, k10, k15, k16, k17]
      cases k7 : (n.kind == 7)
      · gi_wp2
        exact HGood.out hgood (by simp [firmN, k7])
      · cases f
        · have HF := Lib.hid (HFirm.out false hgood rfl)
          gi_wp2
          exact HF.out
        · cases kh : (n.glue.ho == 0)
          · cases kr : (n.glue.shr == 0)
            · have HF := Lib.hid (HFirm.out false hgood (by simp [firmN, k7, kh, kr]))
              gi_wp2
              exact HF.out
            · have HF := Lib.hid (HFirm.out true hgood (by simp [firmN, kr]))
              gi_wp2
              exact HF.out
          · have HF := Lib.hid (HFirm.out true hgood (by simp [firmN, kh]))
            gi_wp2
            exact HF.out
    case done =>
      rintro D ys W hD hys ⟨⟨i1, i0, i2, i3, i4⟩, i5⟩ hK
      have hcol : colP L s = if (ys.all fun x => firmN (nth L x.1)) then 0 else 30 := by
        have h1 : (s.any fun i => badN (nth L i)) = false := (congrArg (fun l : List Nat => l.any fun i => badN (nth L i)) hys).symm.trans (by rw [List.any_map]; exact i4)
        have h2 : (s.all fun i => firmN (nth L i)) = (ys.all fun x => firmN (nth L x.1)) := (congrArg (fun l : List Nat => l.all fun i => firmN (nth L i)) hys).symm.trans (by rw [List.all_map]; rfl)
        unfold colP
        rw [if_pos Hck.out, h1, h2]; rfl
      have Hcol := Lib.hid hcol
      clear hcol i4
      cases hf : (ys.all fun x => firmN (nth L x.1))
      · rw [hf] at i3
        have c3 := i3.cell
        have c2 := i2.cell
        have f2 := i2.frozen
        have Hf := Lib.hid hf
        clear hf
        gi_wp2
        have hK' := (KeepsOthers.setCell W ⟨w.heap.size + 1, 0, none⟩ (.int .i64 30)).same D _ hK rfl
        have hc5 := cell_kept (Boxed.set (.int .i64 30) i2).cell (grownBy_putObj' _ D (.deferred none)) (fun r e => by cases e; exact ⟨_, hK', rfl⟩)
        refine ⟨by simp, .inl ⟨_, _, rfl, run_takeDeferred hK', ?_⟩⟩
        refine ⟨.int .i64 30, ?_, by rw [Hcol.out, Hf.out]; rfl, (i5.setCell (p := ⟨w.heap.size + 1, 0, none⟩) (by simp) _).trans (belowK_b (w := w) (Nat.le_refl _) _ D _ _ (by have := d4'.size; omega) hK' rfl rfl)⟩
        simp [results, Tryz.f63, go_sem, hc5]
      · rw [hf] at i3
        have c3 := i3.cell
        have c2 := i2.cell
        have f2 := i2.frozen
        have Hf := Lib.hid hf
        clear hf
        gi_wp2
        have hK' := (KeepsOthers.setCell W ⟨w.heap.size + 1, 0, none⟩ (.int .i64 0)).same D _ hK rfl
        have hc5 := cell_kept (Boxed.set (.int .i64 0) i2).cell (grownBy_putObj' _ D (.deferred none)) (fun r e => by cases e; exact ⟨_, hK', rfl⟩)
        refine ⟨by simp, .inl ⟨_, _, rfl, run_takeDeferred hK', ?_⟩⟩
        refine ⟨.int .i64 0, ?_, by rw [Hcol.out, Hf.out]; rfl, (i5.setCell (p := ⟨w.heap.size + 1, 0, none⟩) (by simp) _).trans (belowK_b (w := w) (Nat.le_refl _) _ D _ _ (by have := d4'.size; omega) hK' rfl rfl)⟩
        simp [results, Tryz.f63, go_sem, hc5]
    case stop =>
      rintro D c pre W hD hp ⟨⟨rfl, i2, i4⟩, i5⟩ hK
      have hcol : colP L s = 50 := by
        have h1 : (s.any fun i => badN (nth L i)) = true := by
          obtain ⟨x, hx, hb⟩ := List.any_eq_true.1 i4
          exact List.any_eq_true.2 ⟨x.1, hp.subset (List.mem_map_of_mem hx), hb⟩
        unfold colP
        rw [if_pos Hck.out, h1]; rfl
      have Hcol := Lib.hid hcol
      clear hcol i4
      gi_wp2
      have hc5 := cell_kept i2.cell (grownBy_putObj' _ D (.deferred none)) (fun r e => by cases e; exact ⟨_, hK, rfl⟩)
      refine ⟨by simp, .inl ⟨_, _, rfl, run_takeDeferred hK, ?_⟩⟩
      refine ⟨.int .i64 50, ?_, by rw [Hcol.out], i5.trans (belowK_b (w := w) (Nat.le_refl _) W D _ _ (by have := d4'.size; omega) hK rfl rfl)⟩
      simp [results, Tryz.f63, go_sem, hc5]
  · have hck' : ((checkC L : Int) != 0) = true := by simpa using hck
    have Hcol : Hid (colP L s = checkC L) := Lib.hid (by unfold colP; rw [if_neg hck])
    clear hck
    gi_wp2
    have hb3 := Boxed.set (.int .i64 (checkC L)) (show Boxed w2 (w.heap.size + 1) 29 (.int .i64 0) from hB2)
    have hc5 := hb3.cell
    refine ⟨.int .i64 (checkC L), ?_, by rw [Hcol.out], hbw.setCell (p := ⟨w.heap.size + 1, 0, none⟩) (by simp) _⟩
    simp [results, Tryz.f63, go_sem, hc5]
end Go.Proofs.YtomehdepjenilaaGreat
namespace Go.Proofs.YtomehdepjenilaaGreat

theorem stepC_len {k : Int} {st st' : List Int} {d d' : Int} (h : stepC k st d = some (st', d')) : (st'.length : Int) = behN k st.length ∧ (st = [] → k ≠ 6 ∧ k ≠ 11) := by
  unfold stepC at h
  unfold behN
  split at h
  · rename_i h6
    subst h6
    cases hl : st.getLast? with
    | none => rw [hl] at h; cases h
    | some x =>
      rw [hl] at h
      simp only at h
      split at h
      · cases h
      · simp only [Option.some.injEq, Prod.mk.injEq] at h
        obtain ⟨rfl, _⟩ := h
        have hne : st ≠ [] := by intro e; rw [e] at hl; cases hl
        have := List.length_pos_iff.2 hne
        refine ⟨?_, fun e => absurd e hne⟩
        rw [List.length_dropLast]
        simp [opensK]; omega
  · rename_i h6
    split at h
    · rename_i h11
      subst h11
      cases hl : st.getLast? with
      | none => rw [hl] at h; cases h
      | some x =>
        rw [hl] at h
        simp only at h
        split at h
        · cases h
        · simp only [Option.some.injEq, Prod.mk.injEq] at h
          obtain ⟨rfl, _⟩ := h
          have hne : st ≠ [] := by intro e; rw [e] at hl; cases hl
          refine ⟨?_, fun e => absurd e hne⟩
          rw [List.length_set]
          simp [opensK]
    · rename_i h11
      refine ⟨?_, fun _ => ⟨h6, h11⟩⟩
      have h2 : ∀ bad : Bool, (if bad = true then none else some (if opensK k = true then st ++ [if k = 10 then (2 : Int) else -1] else st, max d (st.length + 1))) = some (st', d') → (if opensK k = true then st ++ [if k = 10 then (2 : Int) else -1] else st) = st' := by
        intro bad hb
        cases bad
        · simp only [Bool.false_eq_true, if_false, Option.some.injEq, Prod.mk.injEq] at hb
          exact hb.1
        · simp at hb
      have h3 := h2 _ h
      rw [← h3, if_neg h6]
      split
      · simp
      · rfl
theorem runC_item : ∀ (l : List Nd) (st : List Int) (d d' : Int), runC l st d = some ([], d') → 0 < st.length → ∃ m d2, behC l st.length = some m ∧ runC (l.drop m) [] d2 = some ([], d')
  | [], st, d, d', h, hn => by
    simp only [runC, Option.some.injEq, Prod.mk.injEq] at h
    rw [h.1] at hn; simp at hn
  | x :: l, st, d, d', h, hn => by
    unfold runC at h
    split at h
    · obtain ⟨⟨st', d1⟩, hs, hr⟩ := Option.bind_eq_some_iff.1 h
      obtain ⟨hl, _⟩ := stepC_len hs
      simp only at hr
      by_cases h0 : st'.length = 0
      · have e : st' = [] := List.length_eq_zero_iff.1 h0
        subst e
        refine ⟨1, d1, ?_, hr⟩
        unfold behC
        rw [← hl]
        simp
      · obtain ⟨m, d2, hb, hr2⟩ := runC_item l st' d1 d' hr (by omega)
        refine ⟨m + 1, d2, ?_, hr2⟩
        unfold behC
        rw [← hl, hb, if_neg (by omega)]
        rfl
    · cases h
theorem runC_top {x : Nd} {l : List Nd} {d d' : Int} (h : runC (x :: l) [] d = some ([], d')) : ∃ m d2, behC (x :: l) 0 = some m ∧ runC ((x :: l).drop m) [] d2 = some ([], d') := by
  unfold runC at h
  split at h
  · obtain ⟨⟨st', d1⟩, hs, hr⟩ := Option.bind_eq_some_iff.1 h
    obtain ⟨hl, _⟩ := stepC_len hs
    simp only at hr
    by_cases h0 : st'.length = 0
    · have e : st' = [] := List.length_eq_zero_iff.1 h0
      subst e
      refine ⟨1, d1, ?_, hr⟩
      unfold behC
      have hl' : behN x.kind 0 = 0 := hl.symm
      rw [if_pos hl']
    · obtain ⟨m, d2, hb, hr2⟩ := runC_item l st' d1 d' hr (by omega)
      refine ⟨m + 1, d2, ?_, hr2⟩
      unfold behC
      have hl' : behN x.kind 0 = (st'.length : Int) := hl.symm
      rw [hl', hb, if_neg (by omega)]
      rfl
  · cases h
theorem items_of_run (L : List Nd) : ∀ (n i : Nat) (d d' : Int), L.length - i ≤ n → i ≤ L.length → runC (L.drop i) [] d = some ([], d') → ∃ s, Items L i s
  | n, i, d, d', hn, hi, h => by
    by_cases hlt : i < L.length
    · have e := List.drop_eq_getElem_cons hlt
      rw [e] at h
      obtain ⟨m, d2, hb, hr⟩ := runC_top h
      rw [← e] at hb hr
      have hm := behC_pos _ _ _ hb
      rw [List.length_drop] at hm
      rw [List.drop_drop] at hr
      match n, hn with
      | 0, hn => omega
      | n + 1, hn =>
        obtain ⟨s, hs⟩ := items_of_run L n (i + m) d2 d' (by omega) (by omega) hr
        exact ⟨i :: s, .step hlt hb hs⟩
    · obtain rfl : i = L.length := by omega
      exact ⟨[], .done⟩
theorem checkC_zero {L : List Nd} (h : checkC L = 0) : L.length ≤ 2000 ∧ ∃ d, d ≤ 40 ∧ runC L [] 0 = some ([], d) := by
  unfold checkC at h
  split at h
  · cases h
  · rename_i hn
    refine ⟨by omega, ?_⟩
    cases hr : runC L [] 0 with
    | none => rw [hr] at h; cases h
    | some r =>
      obtain ⟨st, d⟩ := r
      rw [hr] at h
      simp only [codeC] at h
      split at h
      · cases h
      · rename_i h0
        split at h
        · cases h
        · exact ⟨d, by omega, by rw [show st = [] from List.length_eq_zero_iff.1 (by omega)]⟩
theorem items_of_check {L : List Nd} (h : checkC L = 0) : ∃ s, Items L 0 s := by
  obtain ⟨_, d, _, hr⟩ := checkC_zero h
  exact items_of_run L L.length 0 0 d (by omega) (Nat.zero_le _) (by rw [List.drop_zero]; exact hr)
noncomputable def itemsP (L : List Nd) : List Nat := open Classical in if h : checkC L = 0 then (items_of_check h).choose else []
theorem itemsP_spec {L : List Nd} (h : checkC L = 0) : Items L 0 (itemsP L) := by
  unfold itemsP
  rw [dif_pos h]
  exact (items_of_check h).choose_spec
end Go.Proofs.YtomehdepjenilaaGreat

namespace Go.Proofs.YtomehdepjenilaaGreat
open Go.RowKit
theorem behC_app : ∀ (l r : List Nd) (n : Int) (m : Nat), behC l n = some m → behC (l ++ r) n = some m
  | [], _, _, _, h => by cases h
  | x :: l, r, n, m, h => by
    rw [List.cons_append]
    unfold behC at h ⊢
    split at h
    · rename_i h0; rw [if_pos h0]; exact h
    · rename_i h0
      rw [if_neg h0]
      obtain ⟨k, hk, rfl⟩ := Option.map_eq_some_iff.1 h
      rw [behC_app l r _ k hk]
      rfl
end Go.Proofs.YtomehdepjenilaaGreat
