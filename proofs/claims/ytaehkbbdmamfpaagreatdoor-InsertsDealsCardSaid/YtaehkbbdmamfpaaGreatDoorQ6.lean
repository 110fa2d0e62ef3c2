/-
  vlist.column: whether a row of nodes is a column.
-/
import Derived.Test.YtaehkbbdmamfpaaGreatDoorL1
set_option maxRecDepth 100000
set_option maxHeartbeats 8000000
namespace Go.Proofs.YtaehkbbdmamfpaaGreatDoor
open Go.ChangeShapes Go.WideShapes Go.ChangeAt Go.RowKit Go.Shelf
section
attribute [local go_sem] Oper.semAt_some
def nth (L : List Nd) (i : Nat) : Nd := (L[i]?).getD Nd.zero
theorem zaV {L : List Nd} {i : Nat} (h : i < L.length) : nth L i = L[i] := by unfold nth; rw [List.getElem?_eq_getElem h]; rfl
theorem NIn.nth {w : World} {p : Option Addr} {b off cap : Nat} {L : List Nd} (h : NIn w p b off cap L) {i : Nat} (hi : i < L.length) : agg? w b (off + i * 19) 19 = some (nth L i).arr := by rw [zaV hi]; exact h.nd i hi
def badN (n : Nd) : Bool := n.kind == 1 || n.kind == 2 || n.kind == 10 || n.kind == 15 || n.kind == 16 || n.kind == 17
def zbV (n : Nd) : Bool := !(n.kind == 7) || n.glue.ho == 0 || n.glue.shr == 0
def colP (L : List Nd) (s : List Nat) : Int := if zao L = 0 then (if s.any (fun i => badN (nth L i)) then 50 else if s.all (fun i => zbV (nth L i)) then 0 else 30) else zao L
def ColI (w : World) (F : Nat) (p0 : Option Addr) (cap : Nat) (L : List Nd) (s : List Nat) (pre : List {i : Nat // i ∈ s}) (W : World) : Prop :=
 (Boxed W w.heap.size 22 (.slice p0 L.length cap) /\ Boxed W (F + 1) 22 (.slice p0 L.length cap) /\ Boxed W (w.heap.size + 1) 26 (.int .i64 0) /\ Boxed W F 4 (.bool (pre.all fun x => zbV (nth L x.1))) /\ (pre.any fun x => badN (nth L x.1)) = false) /\ Below w.heap.size w W
def ColX (w : World) (L : List Nd) (s : List Nat) (c : Code) (pre : List {i : Nat // i ∈ s}) (W : World) : Prop :=
 (c = .ret /\ Boxed W (w.heap.size + 1) 26 (.int .i64 50) /\ (pre.any fun x => badN (nth L x.1)) = true) /\ Below w.heap.size w W
theorem colI_own {w : World} {F B : Nat} {p0 : Option Addr} {cap : Nat} {L : List Nd} {s : List Nat} (hB : w.heap.size <= B) : OwnFrom B (ColI w F p0 cap L s) :=
 OwnFrom.and (OwnFrom.and (Own.from (boxed_own _ _ _) _) (OwnFrom.and (Own.from (boxed_own _ _ _) _) (OwnFrom.and (Own.from (boxed_own _ _ _) _) (OwnFrom.and (Own.from (boxed_own _ _ _) _) (ownFrom_pure _ _))))) (ownFrom_below (Nat.le_refl _) hB)
theorem colX_own {w : World} {B : Nat} {L : List Nd} {s : List Nat} (hB : w.heap.size <= B) (c : Code) : OwnFrom B (ColX w L s c) :=
 OwnFrom.and (OwnFrom.and (ownFrom_pure _ _) (OwnFrom.and (Own.from (boxed_own _ _ _) _) (ownFrom_pure _ _))) (ownFrom_below (Nat.le_refl _) hB)
theorem column_any (p0 : Option Addr) (b off cap : Nat) (L : List Nd) (s : List Nat) (hs : zao L = 0 -> Items L 0 s) (w : World) (hN : NIn w p0 b off cap L) :
 Calls Tryz.prog 50 #[.slice p0 L.length cap] w fun e w' => e = .returned (.int .i64 (colP L s)) /\ Below w.heap.size w w' := by
 have hlen := hN.len
 have hC : Hid (∀ W, Below w.heap.size w W -> Calls Tryz.prog 20 #[.slice p0 L.length cap] W fun e w' => e = .returned (.int .i64 (zao L)) /\ Below W.heap.size W w') := zzh fun W hb => check_any p0 b off cap L W (hN.below hb)
 have HN := zzh hN
 have Hs := zzh hs
 have hb1 : Below w.heap.size w ((w.alloc (.cells #[.slice p0 L.length cap] 22)).alloc (.cells #[.int .i64 0] 26)) := ((Below.refl _ _).alloc (Nat.le_refl _) _).alloc (by simp) _
 have hA1 : ((w.alloc (.cells #[.slice p0 L.length cap] 22)).alloc (.cells #[.int .i64 0] 26)).heap[w.heap.size]? = some (.cells #[.slice p0 L.length cap] 22 (0, 0)) := (Below.heap_alloc _ _ _ (by simp)).trans (heap_alloc_new _ _)
 have hA2 : ((w.alloc (.cells #[.slice p0 L.length cap] 22)).alloc (.cells #[.int .i64 0] 26)).heap[w.heap.size + 1]? = some (.cells #[.int .i64 0] 26 (0, 0)) := by
  have := heap_alloc_new (w.alloc (.cells #[.slice p0 L.length cap] 22)) (.cells #[.int .i64 0] 26); simpa using this
 clear hN hs
 refine (callsIn_wide (n := 8)).1 ?_
 refine callsIn_of_wp_marks Tryz.func50 rfl trivial ?_ rfl
 simp only [Tryz.ntmps50, List.size_toArray, List.length_cons, List.length_nil, Nat.reduceAdd, Nat.reduceSub, Array.replicate_succ, Array.replicate_zero, List.push_toArray, List.append_toArray, List.nil_append, List.cons_append]
 gi_wp2
 refine ⟨trivial, (callsIn_wide.2 (hC.out _ hb1)).mono ?_⟩
 rintro e w2 ⟨rfl, hb2⟩
 have hB1 := (hb2.block _ (Array.getElem?_eq_some_iff.1 hA1).1).trans hA1
 have hB2 := (hb2.block _ (Array.getElem?_eq_some_iff.1 hA2).1).trans hA2
 have hbw := hb1.trans (hb2.mono hb1.size)
 clear hA1 hA2 hb1 hb2 hC
 have c1 : w2.cell? ⟨w.heap.size, 0, none⟩ = some (.slice p0 L.length cap) := by rw [cell?_blk' hB1]; rfl
 have c2 : w2.cell? ⟨w.heap.size + 1, 0, none⟩ = some (.int .i64 0) := by rw [cell?_blk' hB2]; rfl
 have f2 : w2.frozen? ⟨w.heap.size + 1, 0, none⟩ = false := by simp [World.frozen?, hB2]
 by_cases hck : zao L = 0
 ·
  have hs := Hs.out hck
  have Hck := zzh hck
  rw [hck]
  have l1 : w.heap.size + 1 < w2.heap.size := (Array.getElem?_eq_some_iff.1 hB2).1
  have d1 : (w2.alloc (.cells #[.bool true] 4)).heap[w.heap.size]? = some (.cells #[.slice p0 L.length cap] 22 (0, 0)) := (Below.heap_alloc _ _ _ (by omega)).trans hB1
  have d2 : (w2.alloc (.cells #[.bool true] 4)).heap[w.heap.size + 1]? = some (.cells #[.int .i64 0] 26 (0, 0)) := (Below.heap_alloc _ _ _ l1).trans hB2
  have d3 : (w2.alloc (.cells #[.bool true] 4)).heap[w2.heap.size]? = some (.cells #[.bool true] 4 (0, 0)) := heap_alloc_new _ _
  have d4 : Below w.heap.size w (w2.alloc (.cells #[.bool true] 4)) := hbw.alloc hbw.size _
  have e1 : (w2.alloc (.cells #[.bool true] 4)).cell? ⟨w.heap.size, 0, none⟩ = some (.slice p0 L.length cap) := by rw [cell?_blk' d1]; rfl
  have HI := zzh (items_any p0 L.length cap (w2.alloc (.cells #[.bool true] 4)))
  clear hck Hs c1 c2 f2 hB1 hB2 hbw
  gi_wp2
  refine ⟨trivial, (callsIn_wide.2 HI.out).mono ?_⟩
  clear HI
  rintro e w4 ⟨rfl, rfl⟩
  have d1' : Boxed ((w2.alloc (.cells #[.bool true] 4)).alloc (.cells #[.slice p0 L.length cap] 22)) w.heap.size 22 (.slice p0 L.length cap) := Boxed.alloc d1 _
  have d2' : Boxed ((w2.alloc (.cells #[.bool true] 4)).alloc (.cells #[.slice p0 L.length cap] 22)) (w.heap.size + 1) 26 (.int .i64 0) := Boxed.alloc d2 _
  have d3' : Boxed ((w2.alloc (.cells #[.bool true] 4)).alloc (.cells #[.slice p0 L.length cap] 22)) w2.heap.size 4 (.bool true) := Boxed.alloc d3 _
  have d4' : Below w.heap.size w ((w2.alloc (.cells #[.bool true] 4)).alloc (.cells #[.slice p0 L.length cap] 22)) := d4.alloc d4.size _
  have d5 := heap_alloc_new (w2.alloc (.cells #[.bool true] 4)) (.cells #[.slice p0 L.length cap] 22)
  rw [World.size_alloc] at d5
  have hlt5 : w2.heap.size + 1 < ((w2.alloc (.cells #[.bool true] 4)).alloc (.cells #[.slice p0 L.length cap] 22)).heap.size := by simp
  clear d1 d2 d3 d4 e1
  gi_wp2
  generalize (w2.alloc (.cells #[.bool true] 4)).alloc (.cells #[.slice p0 L.length cap] 22) = w5 at d1' d2' d3' d4' d5 hlt5 ⊢
  generalize w2.heap.size = F at l1 d3' d5 hlt5 ⊢
  have hF : w.heap.size <= F := by omega
  refine wpIn_rangeFunc_ownF rfl (by decide) (gf := 101) (lb := #[.pointer (some ⟨F + 1, 0, none⟩)]) rfl trivial (enters_of Tryz.func101 (by kernel_rfl) rfl)
   (zcE 7 (by decide) (F + 1) w.heap.size b off cap p0 L s hs w5 d5 (HN.out.below d4') (fun e => HN.out.hb e)) kpI_t (kpI_b d4'.size (by omega)) (Below.refl _ _) (fun _ => rfl)
   (ColI w F p0 cap L s) (ColX w L s) (colI_own d4'.size) (colX_own d4'.size)
   ⟨⟨d1', d5, d2', d3', rfl⟩, d4'⟩ ?a₁ ?assign ?body ?done ?stop
  case assign =>
   intro l x W K hK
   gi_wp2
   exact hK
  case body =>
   rintro l pre x W ⟨⟨i1, i0, i2, i3, i4⟩, i5⟩ hlt
   obtain ⟨hx1, hx2⟩ := hs.lt x.1 x.2
   have hN := HN.out.below i5
   have xa := hN.nth hx2
   obtain ⟨n, hn⟩ : ∃ n, nth L x.1 = n := ⟨_, rfl⟩
   rw [hn] at xa
   have Hn := zzh hn
   obtain rfl := hN.at_ hx2
   have hx3 : (0 : Int) <= (x.1 : Int) := by omega
   have hx4 : (x.1 : Int) < (L.length : Int) := by omega
   have c1 := i1.cell
   have l0 := i0.lt
   have l2 := i2.lt
   have l3 := i3.lt
   have dX : (W.alloc (.cells n.arr 53)).heap[W.heap.size]? = some (.cells n.arr 53 (0, 0)) := heap_alloc_new _ _
   have x0 : (W.alloc (.cells n.arr 53)).cell? ⟨W.heap.size, 0, none⟩ = some (.int .i64 n.kind) := by rw [cell?_blk' dX]; rfl
   have x9 : (W.alloc (.cells n.arr 53)).cell? ⟨W.heap.size, 9, none⟩ = some (.int .i64 n.glue.shr) := by rw [cell?_blk' dX]; rfl
   have x11 : (W.alloc (.cells n.arr 53)).cell? ⟨W.heap.size, 11, none⟩ = some (.int .i64 n.glue.ho) := by rw [cell?_blk' dX]; rfl
   have e2 := (i2.alloc (.cells n.arr 53)).cell
   have f2 := (i2.alloc (.cells n.arr 53)).frozen
   have e3 := (i3.alloc (.cells n.arr 53)).cell
   have f3 := (i3.alloc (.cells n.arr 53)).frozen
   have HBad : Hid (badN n = true -> KeepsOthers W ((W.setCell ⟨w.heap.size + 1, 0, none⟩ (.int .i64 50)).alloc (.cells n.arr 53)) /\ ColX w L s .ret (pre ++ [x]) ((W.setCell ⟨w.heap.size + 1, 0, none⟩ (.int .i64 50)).alloc (.cells n.arr 53))) := zzh fun hb =>
    ⟨(KeepsOthers.setCell W _ _).trans (KeepsOthers.alloc _ _), ⟨rfl, (Boxed.set _ i2).alloc _, by rw [List.any_append, List.any_cons, Hn.out, hb]; simp⟩, (i5.setCell (p := ⟨w.heap.size + 1, 0, none⟩) (by simp) _).alloc (by have := i5.size; simpa using this) _⟩
   have HGood : Hid (badN n = false -> zbV n = true -> KeepsOthers W (W.alloc (.cells n.arr 53)) /\ KpI w.heap.size (F + 1) W (W.alloc (.cells n.arr 53)) /\ ColI w F (some ⟨b, off, none⟩) cap L s (pre ++ [x]) (W.alloc (.cells n.arr 53))) := zzh fun hb hf =>
    ⟨KeepsOthers.alloc W _, ⟨(Below.refl _ _).alloc i5.size _, Below.heap_alloc _ _ _ l0⟩, ⟨i1.alloc _, i0.alloc _, i2.alloc _, by rw [List.all_append, List.all_cons, Hn.out, hf]; simpa using i3.alloc _, by rw [List.any_append, i4, List.any_cons, Hn.out, hb]; rfl⟩, i5.alloc i5.size _⟩
   have HFirm : Hid (∀ v : Bool, badN n = false -> v = ((pre.all fun x => zbV (nth L x.1)) && zbV n) -> KeepsOthers W ((W.setCell ⟨F, 0, none⟩ (.bool v)).alloc (.cells n.arr 53)) /\ KpI w.heap.size (F + 1) W ((W.setCell ⟨F, 0, none⟩ (.bool v)).alloc (.cells n.arr 53)) /\ ColI w F (some ⟨b, off, none⟩) cap L s (pre ++ [x]) ((W.setCell ⟨F, 0, none⟩ (.bool v)).alloc (.cells n.arr 53))) := zzh fun v hb hv =>
    ⟨(KeepsOthers.setCell W _ _).trans (KeepsOthers.alloc _ _), ⟨((Below.refl _ _).setCell (p := ⟨F, 0, none⟩) hF _).alloc (by have := i5.size; simpa using this) _, (Below.heap_alloc _ _ _ (by simpa using l0)).trans (Below.heap_setCell _ _ _ _ (by simp))⟩,
     ⟨(i1.other (by omega) _).alloc _, (i0.other (by omega) _).alloc _, (i2.other (by omega) _).alloc _, by rw [List.all_append, List.all_cons, Hn.out, List.all_nil, Bool.and_true, <- hv]; exact (Boxed.set _ i3).alloc _, by rw [List.any_append, i4, List.any_cons, Hn.out, hb]; rfl⟩, (i5.setCell (p := ⟨F, 0, none⟩) hF _).alloc (by have := i5.size; simpa using this) _⟩
   clear i1 i0 i2 i4 i5 i3 dX hN hn hlt
   generalize (pre.all fun x => zbV (nth L x.1)) = f at e3 HFirm
   cases k1 : (n.kind == 1)
   rotate_left
   ·
    gi_wp2
    exact HBad.out (by simp [badN, k1])
   cases k2 : (n.kind == 2)
   rotate_left
   ·
    gi_wp2
    exact HBad.out (by simp [badN, k2])
   cases k10 : (n.kind == 10)
   rotate_left
   ·
    gi_wp2
    exact HBad.out (by simp [badN, k10])
   cases k15 : (n.kind == 15)
   rotate_left
   ·
    gi_wp2
    exact HBad.out (by simp [badN, k15])
   cases k16 : (n.kind == 16)
   rotate_left
   ·
    gi_wp2
    exact HBad.out (by simp [badN, k16])
   cases k17 : (n.kind == 17)
   rotate_left
   ·
    gi_wp2
    exact HBad.out (by simp [badN, k17])
   have hgood : badN n = false := by simp [badN, k1, k2, k10, k15, k16, k17]
   cases k7 : (n.kind == 7)
   ·
    gi_wp2
    exact HGood.out hgood (by simp [zbV, k7])
   ·
    cases f
    ·
     have HF := zzh (HFirm.out false hgood rfl)
     gi_wp2
     exact HF.out
    ·
     cases kh : (n.glue.ho == 0)
     ·
      cases kr : (n.glue.shr == 0)
      ·
       have HF := zzh (HFirm.out false hgood (by simp [zbV, k7, kh, kr]))
       gi_wp2
       exact HF.out
      ·
       have HF := zzh (HFirm.out true hgood (by simp [zbV, kr]))
       gi_wp2
       exact HF.out
     ·
      have HF := zzh (HFirm.out true hgood (by simp [zbV, kh]))
      gi_wp2
      exact HF.out
  case done =>
   rintro D ys W hD hys ⟨⟨i1, i0, i2, i3, i4⟩, i5⟩ hK
   have hcol : colP L s = if (ys.all fun x => zbV (nth L x.1)) then 0 else 30 := by
    have h1 : (s.any fun i => badN (nth L i)) = false := (congrArg (fun l : List Nat => l.any fun i => badN (nth L i)) hys).symm.trans (by rw [List.any_map]; exact i4)
    have h2 : (s.all fun i => zbV (nth L i)) = (ys.all fun x => zbV (nth L x.1)) := (congrArg (fun l : List Nat => l.all fun i => zbV (nth L i)) hys).symm.trans (by rw [List.all_map]; rfl)
    unfold colP
    rw [if_pos Hck.out, h1, h2]; rfl
   have Hcol := zzh hcol
   clear hcol i4
   cases hf : (ys.all fun x => zbV (nth L x.1))
   ·
    rw [hf] at i3
    have c3 := i3.cell
    have c2 := i2.cell
    have f2 := i2.frozen
    have Hf := zzh hf
    clear hf
    gi_wp2
    have hK' := (KeepsOthers.setCell W ⟨w.heap.size + 1, 0, none⟩ (.int .i64 30)).same D _ hK rfl
    have hc5 := cell_kept (Boxed.set (.int .i64 30) i2).cell (grownBy_putObj' _ D (.deferred none)) (fun r e => by cases e; exact ⟨_, hK', rfl⟩)
    refine ⟨by simp, .inl ⟨_, _, rfl, run_takeDeferred hK', ?_⟩⟩
    refine ⟨.int .i64 30, ?_, by rw [Hcol.out, Hf.out]; rfl, (i5.setCell (p := ⟨w.heap.size + 1, 0, none⟩) (by simp) _).trans (belowK_b (w := w) (Nat.le_refl _) _ D _ _ (by have := d4'.size; omega) hK' rfl rfl)⟩
    simp [results, Tryz.f50, go_sem, hc5]
   ·
    rw [hf] at i3
    have c3 := i3.cell
    have c2 := i2.cell
    have f2 := i2.frozen
    have Hf := zzh hf
    clear hf
    gi_wp2
    have hK' := (KeepsOthers.setCell W ⟨w.heap.size + 1, 0, none⟩ (.int .i64 0)).same D _ hK rfl
    have hc5 := cell_kept (Boxed.set (.int .i64 0) i2).cell (grownBy_putObj' _ D (.deferred none)) (fun r e => by cases e; exact ⟨_, hK', rfl⟩)
    refine ⟨by simp, .inl ⟨_, _, rfl, run_takeDeferred hK', ?_⟩⟩
    refine ⟨.int .i64 0, ?_, by rw [Hcol.out, Hf.out]; rfl, (i5.setCell (p := ⟨w.heap.size + 1, 0, none⟩) (by simp) _).trans (belowK_b (w := w) (Nat.le_refl _) _ D _ _ (by have := d4'.size; omega) hK' rfl rfl)⟩
    simp [results, Tryz.f50, go_sem, hc5]
  case stop =>
   rintro D c pre W hD hp ⟨⟨rfl, i2, i4⟩, i5⟩ hK
   have hcol : colP L s = 50 := by
    have h1 : (s.any fun i => badN (nth L i)) = true := by
     obtain ⟨x, hx, hb⟩ := List.any_eq_true.1 i4
     exact List.any_eq_true.2 ⟨x.1, hp.subset (List.mem_map_of_mem hx), hb⟩
    unfold colP
    rw [if_pos Hck.out, h1]; rfl
   have Hcol := zzh hcol
   clear hcol i4
   gi_wp2
   have hc5 := cell_kept i2.cell (grownBy_putObj' _ D (.deferred none)) (fun r e => by cases e; exact ⟨_, hK, rfl⟩)
   refine ⟨by simp, .inl ⟨_, _, rfl, run_takeDeferred hK, ?_⟩⟩
   refine ⟨.int .i64 50, ?_, by rw [Hcol.out], i5.trans (belowK_b (w := w) (Nat.le_refl _) W D _ _ (by have := d4'.size; omega) hK rfl rfl)⟩
   simp [results, Tryz.f50, go_sem, hc5]
 ·
  have hck' : ((zao L : Int) != 0) = true := by simpa using hck
  have Hcol : Hid (colP L s = zao L) := zzh (by unfold colP; rw [if_neg hck])
  clear hck
  gi_wp2
  have hb3 := Boxed.set (.int .i64 (zao L)) (show Boxed w2 (w.heap.size + 1) 26 (.int .i64 0) from hB2)
  have hc5 := hb3.cell
  refine ⟨.int .i64 (zao L), ?_, by rw [Hcol.out], hbw.setCell (p := ⟨w.heap.size + 1, 0, none⟩) (by simp) _⟩
  simp [results, Tryz.f50, go_sem, hc5]
end
section
theorem zcS {k : Int} {st st' : List Int} {d d' : Int} (h : zbY k st d = some (st', d')) : (st'.length : Int) = behN k st.length /\ (st = [] -> k ≠ 6 /\ k ≠ 11) := by
 unfold zbY at h
 unfold behN
 split at h
 ·
  rename_i h6
  subst h6
  cases hl : st.getLast? with
  | none => rw [hl] at h; cases h
  | some x =>
   rw [hl] at h
   simp only at h
   split at h
   · cases h
   ·
    simp only [Option.some.injEq, Prod.mk.injEq] at h
    obtain ⟨rfl, _⟩ := h
    have hne : st ≠ [] := by intro e; rw [e] at hl; cases hl
    have := List.length_pos_iff.2 hne
    refine ⟨?_, fun e => absurd e hne⟩
    rw [List.length_dropLast]
    simp [zaH]; omega
 ·
  rename_i h6
  split at h
  ·
   rename_i h11
   subst h11
   cases hl : st.getLast? with
   | none => rw [hl] at h; cases h
   | some x =>
    rw [hl] at h
    simp only at h
    split at h
    · cases h
    ·
     simp only [Option.some.injEq, Prod.mk.injEq] at h
     obtain ⟨rfl, _⟩ := h
     have hne : st ≠ [] := by intro e; rw [e] at hl; cases hl
     refine ⟨?_, fun e => absurd e hne⟩
     rw [List.length_set]
     simp [zaH]
  ·
   rename_i h11
   refine ⟨?_, fun _ => ⟨h6, h11⟩⟩
   have h2 : ∀ bad : Bool, (if bad = true then none else some (if zaH k = true then st ++ [if k = 10 then (2 : Int) else -1] else st, max d (st.length + 1))) = some (st', d') -> (if zaH k = true then st ++ [if k = 10 then (2 : Int) else -1] else st) = st' := by
    intro bad hb
    cases bad
    ·
     simp only [Bool.false_eq_true, if_false, Option.some.injEq, Prod.mk.injEq] at hb
     exact hb.1
    · simp at hb
   have h3 := h2 _ h
   rw [<- h3, if_neg h6]
   split
   · simp
   · rfl
theorem runC_item : ∀ (l : List Nd) (st : List Int) (d d' : Int), runC l st d = some ([], d') -> 0 < st.length -> ∃ m d2, behC l st.length = some m /\ runC (l.drop m) [] d2 = some ([], d')
 | [], st, d, d', h, hn => by
  simp only [runC, Option.some.injEq, Prod.mk.injEq] at h
  rw [h.1] at hn; simp at hn
 | x :: l, st, d, d', h, hn => by
  unfold runC at h
  split at h
  ·
   obtain ⟨⟨st', d1⟩, hs, hr⟩ := Option.bind_eq_some_iff.1 h
   obtain ⟨hl, _⟩ := zcS hs
   simp only at hr
   by_cases h0 : st'.length = 0
   ·
    have e : st' = [] := List.length_eq_zero_iff.1 h0
    subst e
    refine ⟨1, d1, ?_, hr⟩
    unfold behC
    rw [<- hl]
    simp
   ·
    obtain ⟨m, d2, hb, hr2⟩ := runC_item l st' d1 d' hr (by omega)
    refine ⟨m + 1, d2, ?_, hr2⟩
    unfold behC
    rw [<- hl, hb, if_neg (by omega)]
    rfl
  · cases h
theorem runC_top {x : Nd} {l : List Nd} {d d' : Int} (h : runC (x :: l) [] d = some ([], d')) : ∃ m d2, behC (x :: l) 0 = some m /\ runC ((x :: l).drop m) [] d2 = some ([], d') := by
 unfold runC at h
 split at h
 ·
  obtain ⟨⟨st', d1⟩, hs, hr⟩ := Option.bind_eq_some_iff.1 h
  obtain ⟨hl, _⟩ := zcS hs
  simp only at hr
  by_cases h0 : st'.length = 0
  ·
   have e : st' = [] := List.length_eq_zero_iff.1 h0
   subst e
   refine ⟨1, d1, ?_, hr⟩
   unfold behC
   have hl' : behN x.kind 0 = 0 := hl.symm
   rw [if_pos hl']
  ·
   obtain ⟨m, d2, hb, hr2⟩ := runC_item l st' d1 d' hr (by omega)
   refine ⟨m + 1, d2, ?_, hr2⟩
   unfold behC
   have hl' : behN x.kind 0 = (st'.length : Int) := hl.symm
   rw [hl', hb, if_neg (by omega)]
   rfl
 · cases h
theorem items_of_run (L : List Nd) : ∀ (n i : Nat) (d d' : Int), L.length - i <= n -> i <= L.length -> runC (L.drop i) [] d = some ([], d') -> ∃ s, Items L i s
 | n, i, d, d', hn, hi, h => by
  by_cases hlt : i < L.length
  ·
   have e := List.drop_eq_getElem_cons hlt
   rw [e] at h
   obtain ⟨m, d2, hb, hr⟩ := runC_top h
   rw [<- e] at hb hr
   have hm := zaw _ _ _ hb
   rw [List.length_drop] at hm
   rw [List.drop_drop] at hr
   match n, hn with
   | 0, hn => omega
   | n + 1, hn =>
    obtain ⟨s, hs⟩ := items_of_run L n (i + m) d2 d' (by omega) (by omega) hr
    exact ⟨i :: s, .step hlt hb hs⟩
  ·
   obtain rfl : i = L.length := by omega
   exact ⟨[], .done⟩
theorem zaj {L : List Nd} (h : zao L = 0) : L.length <= 2000 /\ ∃ d, d <= 40 /\ runC L [] 0 = some ([], d) := by
 unfold zao at h
 split at h
 · cases h
 ·
  rename_i hn
  refine ⟨by omega, ?_⟩
  cases hr : runC L [] 0 with
  | none => rw [hr] at h; cases h
  | some r =>
   obtain ⟨st, d⟩ := r
   rw [hr] at h
   simp only [codeC] at h
   split at h
   · cases h
   ·
    rename_i h0
    split at h
    · cases h
    · exact ⟨d, by omega, by rw [show st = [] from List.length_eq_zero_iff.1 (by omega)]⟩
theorem items_of_check {L : List Nd} (h : zao L = 0) : ∃ s, Items L 0 s := by
 obtain ⟨_, d, _, hr⟩ := zaj h
 exact items_of_run L L.length 0 0 d (by omega) (Nat.zero_le _) (by rw [List.drop_zero]; exact hr)
end
section
theorem behC_app : ∀ (l r : List Nd) (n : Int) (m : Nat), behC l n = some m -> behC (l ++ r) n = some m
 | [], _, _, _, h => by cases h
 | x :: l, r, n, m, h => by
  rw [List.cons_append]
  unfold behC at h ⊢
  split at h
  · rename_i h0; rw [if_pos h0]; exact h
  ·
   rename_i h0
   rw [if_neg h0]
   obtain ⟨k, hk, rfl⟩ := Option.map_eq_some_iff.1 h
   rw [behC_app l r _ k hk]
   rfl
def sl (L : List Nd) (i m : Nat) : List Nd := (L.drop i).take m
theorem sl_len {L : List Nd} {i m : Nat} (h : i + m <= L.length) : (sl L i m).length = m := by unfold sl; simp; omega
theorem items_run2 {L : List Nd} {i : Nat} {s : List Nat} (h : Items L i s) : ∀ {d d' : Int}, runC (L.drop i) [] d = some ([], d') -> ∀ x ∈ s, ∃ d2, runC (L.drop x) [] d2 = some ([], d') := by
 induction h with
 | done => intro d d' _ x hx; cases hx
 | step hi hm hs ih =>
  rename_i i m s
  intro d d' hr x hx
  rcases List.mem_cons.1 hx with rfl | hx
  · exact ⟨d, hr⟩
  ·
   have e := List.drop_eq_getElem_cons hi
   rw [e] at hr
   obtain ⟨m2, d2, hb, hr2⟩ := runC_top hr
   rw [<- e] at hb hr2
   rw [hm] at hb
   cases hb
   rw [List.drop_drop] at hr2
   exact ih hr2 x hx
end
section
attribute [local go_sem ↓] Go.wp_at_zero Go.wp_at_succ
def zaq (k : Int) : Bool := k == 4 || k == 5 || k == 3
def zbB (k : Int) : Bool := k == 7 || k == 8 || k == 9
theorem qsmall (n : Nd) (w : World) : Calls Tryz.prog 100 #[.agg n.arr] w fun e w' => e = .returned (.bool (zbD n.kind)) /\ Below w.heap.size w w' := by
 cases h0 : (n.kind == 1)
 rotate_left
 ·
  go_enter Tryz.func100, Tryz.ntmps100
  go_wp2_with fail
  go_ret
  exact ⟨zaa (by simp [zbD, h0]), (Below.refl _ _).alloc (Nat.le_refl _) _⟩
 cases h1 : (n.kind == 2)
 rotate_left
 ·
  go_enter Tryz.func100, Tryz.ntmps100
  go_wp2_with fail
  go_ret
  exact ⟨zaa (by simp [zbD, h0, h1]), (Below.refl _ _).alloc (Nat.le_refl _) _⟩
 cases h2 : (n.kind == 8)
 rotate_left
 ·
  go_enter Tryz.func100, Tryz.ntmps100
  go_wp2_with fail
  go_ret
  exact ⟨zaa (by simp [zbD, h0, h1, h2]), (Below.refl _ _).alloc (Nat.le_refl _) _⟩
 cases h3 : (n.kind == 3)
 rotate_left
 ·
  go_enter Tryz.func100, Tryz.ntmps100
  go_wp2_with fail
  go_ret
  exact ⟨zaa (by simp [zbD, h0, h1, h2, h3]), (Below.refl _ _).alloc (Nat.le_refl _) _⟩
 cases h4 : (n.kind == 4)
 rotate_left
 ·
  go_enter Tryz.func100, Tryz.ntmps100
  go_wp2_with fail
  go_ret
  exact ⟨zaa (by simp [zbD, h0, h1, h2, h3, h4]), (Below.refl _ _).alloc (Nat.le_refl _) _⟩
 cases h5 : (n.kind == 5)
 rotate_left
 ·
  go_enter Tryz.func100, Tryz.ntmps100
  go_wp2_with fail
  go_ret
  exact ⟨zaa (by simp [zbD, h0, h1, h2, h3, h4, h5]), (Below.refl _ _).alloc (Nat.le_refl _) _⟩
 go_enter Tryz.func100, Tryz.ntmps100
 go_wp2_with fail
 go_ret
 exact ⟨zaa (by simp [zbD, h0, h1, h2, h3, h4, h5]), (Below.refl _ _).alloc (Nat.le_refl _) _⟩
theorem qopens (n : Nd) (w : World) : Calls Tryz.prog 48 #[.agg n.arr] w fun e w' => e = .returned (.bool (zaH n.kind)) /\ Below w.heap.size w w' := by
 cases h0 : (n.kind == 4)
 rotate_left
 ·
  go_enter Tryz.func48, Tryz.ntmps48
  go_wp2_with fail
  go_ret
  exact ⟨zaa (by simp [zaH, h0]), (Below.refl _ _).alloc (Nat.le_refl _) _⟩
 cases h1 : (n.kind == 5)
 rotate_left
 ·
  go_enter Tryz.func48, Tryz.ntmps48
  go_wp2_with fail
  go_ret
  exact ⟨zaa (by simp [zaH, h0, h1]), (Below.refl _ _).alloc (Nat.le_refl _) _⟩
 cases h2 : (n.kind == 10)
 rotate_left
 ·
  go_enter Tryz.func48, Tryz.ntmps48
  go_wp2_with fail
  go_ret
  exact ⟨zaa (by simp [zaH, h0, h1, h2]), (Below.refl _ _).alloc (Nat.le_refl _) _⟩
 cases h3 : (n.kind == 13)
 rotate_left
 ·
  go_enter Tryz.func48, Tryz.ntmps48
  go_wp2_with fail
  go_ret
  exact ⟨zaa (by simp [zaH, h0, h1, h2, h3]), (Below.refl _ _).alloc (Nat.le_refl _) _⟩
 cases h4 : (n.kind == 17)
 rotate_left
 ·
  go_enter Tryz.func48, Tryz.ntmps48
  go_wp2_with fail
  go_ret
  exact ⟨zaa (by simp [zaH, h0, h1, h2, h3, h4]), (Below.refl _ _).alloc (Nat.le_refl _) _⟩
 go_enter Tryz.func48, Tryz.ntmps48
 go_wp2_with fail
 go_ret
 exact ⟨zaa (by simp [zaH, h0, h1, h2, h3, h4]), (Below.refl _ _).alloc (Nat.le_refl _) _⟩
theorem qsolid (n : Nd) (w : World) : Calls Tryz.prog 135 #[.agg n.arr] w fun e w' => e = .returned (.bool (zaq n.kind)) /\ Below w.heap.size w w' := by
 cases h0 : (n.kind == 4)
 rotate_left
 ·
  go_enter Tryz.func135, Tryz.ntmps135
  go_wp2_with fail
  go_ret
  exact ⟨zaa (by simp [zaq, h0]), (Below.refl _ _).alloc (Nat.le_refl _) _⟩
 cases h1 : (n.kind == 5)
 rotate_left
 ·
  go_enter Tryz.func135, Tryz.ntmps135
  go_wp2_with fail
  go_ret
  exact ⟨zaa (by simp [zaq, h0, h1]), (Below.refl _ _).alloc (Nat.le_refl _) _⟩
 cases h2 : (n.kind == 3)
 rotate_left
 ·
  go_enter Tryz.func135, Tryz.ntmps135
  go_wp2_with fail
  go_ret
  exact ⟨zaa (by simp [zaq, h0, h1, h2]), (Below.refl _ _).alloc (Nat.le_refl _) _⟩
 go_enter Tryz.func135, Tryz.ntmps135
 go_wp2_with fail
 go_ret
 exact ⟨zaa (by simp [zaq, h0, h1, h2]), (Below.refl _ _).alloc (Nat.le_refl _) _⟩
theorem qfalls (n : Nd) (w : World) : Calls Tryz.prog 138 #[.agg n.arr] w fun e w' => e = .returned (.bool (zbB n.kind)) /\ Below w.heap.size w w' := by
 cases h0 : (n.kind == 7)
 rotate_left
 ·
  go_enter Tryz.func138, Tryz.ntmps138
  go_wp2_with fail
  go_ret
  exact ⟨zaa (by simp [zbB, h0]), (Below.refl _ _).alloc (Nat.le_refl _) _⟩
 cases h1 : (n.kind == 8)
 rotate_left
 ·
  go_enter Tryz.func138, Tryz.ntmps138
  go_wp2_with fail
  go_ret
  exact ⟨zaa (by simp [zbB, h0, h1]), (Below.refl _ _).alloc (Nat.le_refl _) _⟩
 cases h2 : (n.kind == 9)
 rotate_left
 ·
  go_enter Tryz.func138, Tryz.ntmps138
  go_wp2_with fail
  go_ret
  exact ⟨zaa (by simp [zbB, h0, h1, h2]), (Below.refl _ _).alloc (Nat.le_refl _) _⟩
 go_enter Tryz.func138, Tryz.ntmps138
 go_wp2_with fail
 go_ret
 exact ⟨zaa (by simp [zbB, h0, h1, h2]), (Below.refl _ _).alloc (Nat.le_refl _) _⟩
theorem vsolid (n : Nd) (w : World) : Calls Tryz.prog 108 #[.agg n.arr] w fun e w' => e = .returned (.bool (zaq n.kind)) /\ Below w.heap.size w w' := by
 cases h0 : (n.kind == 4)
 rotate_left
 ·
  go_enter Tryz.func108, Tryz.ntmps108
  go_wp2_with fail
  go_ret
  exact ⟨zaa (by simp [zaq, h0]), (Below.refl _ _).alloc (Nat.le_refl _) _⟩
 cases h1 : (n.kind == 5)
 rotate_left
 ·
  go_enter Tryz.func108, Tryz.ntmps108
  go_wp2_with fail
  go_ret
  exact ⟨zaa (by simp [zaq, h0, h1]), (Below.refl _ _).alloc (Nat.le_refl _) _⟩
 cases h2 : (n.kind == 3)
 rotate_left
 ·
  go_enter Tryz.func108, Tryz.ntmps108
  go_wp2_with fail
  go_ret
  exact ⟨zaa (by simp [zaq, h0, h1, h2]), (Below.refl _ _).alloc (Nat.le_refl _) _⟩
 go_enter Tryz.func108, Tryz.ntmps108
 go_wp2_with fail
 go_ret
 exact ⟨zaa (by simp [zaq, h0, h1, h2]), (Below.refl _ _).alloc (Nat.le_refl _) _⟩
theorem vfalls (n : Nd) (w : World) : Calls Tryz.prog 109 #[.agg n.arr] w fun e w' => e = .returned (.bool (zbB n.kind)) /\ Below w.heap.size w w' := by
 cases h0 : (n.kind == 7)
 rotate_left
 ·
  go_enter Tryz.func109, Tryz.ntmps109
  go_wp2_with fail
  go_ret
  exact ⟨zaa (by simp [zbB, h0]), (Below.refl _ _).alloc (Nat.le_refl _) _⟩
 cases h1 : (n.kind == 8)
 rotate_left
 ·
  go_enter Tryz.func109, Tryz.ntmps109
  go_wp2_with fail
  go_ret
  exact ⟨zaa (by simp [zbB, h0, h1]), (Below.refl _ _).alloc (Nat.le_refl _) _⟩
 cases h2 : (n.kind == 9)
 rotate_left
 ·
  go_enter Tryz.func109, Tryz.ntmps109
  go_wp2_with fail
  go_ret
  exact ⟨zaa (by simp [zbB, h0, h1, h2]), (Below.refl _ _).alloc (Nat.le_refl _) _⟩
 go_enter Tryz.func109, Tryz.ntmps109
 go_wp2_with fail
 go_ret
 exact ⟨zaa (by simp [zbB, h0, h1, h2]), (Below.refl _ _).alloc (Nat.le_refl _) _⟩
theorem qends (p0 : Option Addr) (b off cap : Nat) (L : List Nd) (at_ m : Nat) (w : World) (h : NIn w p0 b off cap L) (hm : behC (L.drop at_) 0 = some m) (hk6 : (nth L at_).kind ≠ 6) :
 Calls Tryz.prog 22 #[.slice p0 L.length cap, .int .i64 at_] w fun e w' => e = .returned (.int .i64 ((at_ + m : Nat) : Int)) /\ Below w.heap.size w w' := by
 have hlt : at_ < L.length := by have := zaw _ _ _ hm; simp at this; omega
 have H := zzh h
 have hl := h.len
 obtain rfl := h.at_ hlt
 have hj1 : (0 : Int) <= (at_ : Int) := by omega
 have hj2 : (at_ : Int) < (L.length : Int) := by omega
 have xa := h.nth hlt
 have HM := zzh hm
 have HB := behC_at hlt hm
 rw [<- zaV hlt] at HB
 have HB := zzh HB
 obtain ⟨x, hx⟩ : ∃ x, nth L at_ = x := ⟨_, rfl⟩
 rw [hx] at xa HB hk6
 have Hx := zzh hx
 have Hlt := zzh hlt
 have HO := zzh (qopens x w)
 clear h hm hx hlt
 cases ho : zaH x.kind
 ·
  have hm1 : m = 1 := by
   have := HB.out
   unfold behN at this
   rw [ho, if_neg (by simp), if_neg hk6] at this
   rcases this with ⟨_, h⟩ | ⟨h, _⟩
   · exact h
   · exact absurd rfl h
  subst hm1
  rw [ho] at HO
  clear ho hk6
  go_enter Tryz.func22, Tryz.ntmps22
  go_wp2_with fail
  refine HO.out.mono ?_
  clear HO
  rintro e w1 ⟨rfl, hb1⟩
  go_wp2_with fail
  go_ret
  exact ⟨zaD (by omega), hb1⟩
 ·
  have Ho := zzh ho
  rw [ho] at HO
  clear ho hk6
  go_enter Tryz.func22, Tryz.ntmps22
  go_wp2_with fail
  refine HO.out.mono ?_
  clear HO xa HB
  rintro e w1 ⟨rfl, hb1⟩
  go_wp2_with fail
  go_loopg [5, 6] (L.length + 1 - at_) (fun g t5 t6 wr => ∃ (j k : Nat) (n : Int), g = L.length + 1 - j /\ t5 = .int .i64 n /\ t6 = .int .i64 j /\ behC (L.drop j) n = some k /\ j + k = at_ + m /\ (0 <= n /\ n <= j) /\ (n = 0 -> zaH (nth L j).kind = true) /\ Below w.heap.size w wr)
  case atStart => exact ⟨at_, m, 0, rfl, rfl, rfl, HM.out, rfl, by omega, fun _ => by rw [Hx.out]; exact Ho.out, hb1⟩
  case round =>
   clear HM Hx Ho hb1
   obtain ⟨j, k, n, rfl, rfl, rfl, hk, hjk, hn, hop, hbl⟩ := hrel
   have hlt : j < L.length := by have := zaw _ _ _ hk; simp at this; omega
   have hN := H.out.below hbl
   have x1 := hN.nth hlt
   have hj1 : (0 : Int) <= (j : Int) := by omega
   have hj2 : (j : Int) < (L.length : Int) := by omega
   obtain ⟨hn1, hn2⟩ := hn
   have HB := behC_at hlt hk
   rw [<- zaV hlt] at HB
   obtain ⟨x, hx⟩ : ∃ x, nth L j = x := ⟨_, rfl⟩
   rw [hx] at x1 HB hop
   have HB := zzh HB
   have Hjk := zzh hjk
   have Hl := zzh hlt
   have Hop := zzh hop
   have Hbl := zzh hbl
   have hblt := hN.lt hlt
   have HO := zzh (qopens x wr)
   clear hk hjk hlt hx hop hbl hN
   cases ho : zaH x.kind
   ·
    rw [ho] at HO
    have hn3 : 1 <= n := by
     have := Hop.out
     rw [ho] at this
     rcases Int.lt_or_le n 1 with h | h
     · exact absurd (this (by omega)) (by simp)
     · exact h
    cases h6 : (x.kind == 6)
    ·
     have hb : behN x.kind n = n := by unfold behN; rw [ho, if_neg (by simp), if_neg (by simpa using h6)]
     have HB := HB.out
     rw [hb] at HB
     rcases HB with ⟨hz, hk1⟩ | ⟨hz, k1, hk1, hk2⟩
     · omega
     ·
      have Hk2 := zzh hk2
      clear hk2 hz hb ho
      go_wp2_with fail
      refine HO.out.mono ?_
      clear HO
      rintro e w2 ⟨rfl, hb2⟩
      have y0 : w2.cell? ⟨b, off + j * 19, none⟩ = some (.int .i64 x.kind) := by have := zau (((zbc hb2).2.2.1 b (off + j * 19) 19 hblt).trans x1) 0 (.int .i64 x.kind) rfl; simpa using this
      go_wp2_with fail
      go_roundg (L.length + 1 - (j + 1))
      case measure => have := Hl.out; omega
      case rel => exact ⟨j + 1, k1, n, rfl, rfl, by go_num, Hk2.out, by have := Hjk.out; omega, by omega, fun h => by omega, Hbl.out.trans (hb2.mono Hbl.out.size)⟩
    ·
     have hb : behN x.kind n = n - 1 := by unfold behN; rw [ho, if_neg (by simp), if_pos (by simpa using h6)]
     have HB := HB.out
     rw [hb] at HB
     rcases HB with ⟨hz, hk1⟩ | ⟨hz, k1, hk1, hk2⟩
     ·
      have hz' : ((n - 1 : Int) == 0) = true := by simpa using hz
      clear hz hb ho
      go_wp2_with fail
      refine HO.out.mono ?_
      clear HO
      rintro e w2 ⟨rfl, hb2⟩
      have y0 : w2.cell? ⟨b, off + j * 19, none⟩ = some (.int .i64 x.kind) := by have := zau (((zbc hb2).2.2.1 b (off + j * 19) 19 hblt).trans x1) 0 (.int .i64 x.kind) rfl; simpa using this
      go_wp2_with fail
      go_ret
      exact ⟨zaD (by have := Hjk.out; omega), Hbl.out.trans (hb2.mono Hbl.out.size)⟩
     ·
      have Hk2 := zzh hk2
      have hz' : ((n - 1 : Int) == 0) = false := by simpa using hz
      have Hz := zzh hz
      clear hk2 hz hb ho
      go_wp2_with fail
      refine HO.out.mono ?_
      clear HO
      rintro e w2 ⟨rfl, hb2⟩
      have y0 : w2.cell? ⟨b, off + j * 19, none⟩ = some (.int .i64 x.kind) := by have := zau (((zbc hb2).2.2.1 b (off + j * 19) 19 hblt).trans x1) 0 (.int .i64 x.kind) rfl; simpa using this
      go_wp2_with fail
      go_roundg (L.length + 1 - (j + 1))
      case measure => have := Hl.out; omega
      case rel => exact ⟨j + 1, k1, n - 1, rfl, rfl, by go_num, Hk2.out, by have := Hjk.out; omega, by omega, fun h => absurd h Hz.out, Hbl.out.trans (hb2.mono Hbl.out.size)⟩
   ·
    rw [ho] at HO
    have hb : behN x.kind n = n + 1 := by unfold behN; rw [ho, if_pos rfl]
    have h6 : (x.kind == 6) = false := by
     cases h : (x.kind == 6)
     · rfl
     ·
      have e : x.kind = 6 := by simpa using h
      rw [e] at ho; cases ho
    have HB := HB.out
    rw [hb] at HB
    rcases HB with ⟨hz, hk1⟩ | ⟨hz, k1, hk1, hk2⟩
    · omega
    ·
     have Hk2 := zzh hk2
     clear hk2 hz hb ho
     go_wp2_with fail
     refine HO.out.mono ?_
     clear HO
     rintro e w2 ⟨rfl, hb2⟩
     have y0 : w2.cell? ⟨b, off + j * 19, none⟩ = some (.int .i64 x.kind) := by have := zau (((zbc hb2).2.2.1 b (off + j * 19) 19 hblt).trans x1) 0 (.int .i64 x.kind) rfl; simpa using this
     go_wp2_with fail
     go_roundg (L.length + 1 - (j + 1))
     case measure => have := Hl.out; omega
     case rel => exact ⟨j + 1, k1, n + 1, rfl, rfl, by go_num, Hk2.out, by have := Hjk.out; omega, by omega, fun h => by omega, Hbl.out.trans (hb2.mono Hbl.out.size)⟩
end
section
attribute [local go_sem ↓] Go.wp_at_zero Go.wp_at_succ
theorem runC_head {x : Nd} {l : List Nd} {d d' : Int} (h : runC (x :: l) [] d = some ([], d')) : x.kind ≠ 6 /\ x.kind ≠ 11 := by
 unfold runC at h
 split at h
 ·
  obtain ⟨⟨st', d1⟩, hs, _⟩ := Option.bind_eq_some_iff.1 h
  exact (zcS hs).2 rfl
 · cases h
theorem items_kind {L : List Nd} {i : Nat} {s : List Nat} (h : Items L i s) : ∀ {d d' : Int}, runC (L.drop i) [] d = some ([], d') -> ∀ x ∈ s, (nth L x).kind ≠ 6 /\ (nth L x).kind ≠ 11 := by
 induction h with
 | done => intro d d' _ x hx; cases hx
 | step hi hm hs ih =>
  rename_i i' m' s'
  intro d d' hr x hx
  have e := List.drop_eq_getElem_cons hi
  rw [e] at hr
  rcases List.mem_cons.1 hx with rfl | hx
  · rw [zaV hi]; exact runC_head hr
  ·
   obtain ⟨m, d2, hb, hr2⟩ := runC_top hr
   rw [<- e] at hb hr2
   rw [hm] at hb
   cases hb
   rw [List.drop_drop] at hr2
   exact ih hr2 x hx
theorem zdd {L : List Nd} {s : List Nat} (h : Items L 0 s) (hc : zao L = 0) : ∀ x ∈ s, (nth L x).kind ≠ 6 /\ (nth L x).kind ≠ 11 := by
 obtain ⟨_, d, _, hr⟩ := zaj hc
 exact items_kind h (d := 0) (d' := d) (by rw [List.drop_zero]; exact hr)
def ofN (s : List Nat) : List Int := s.map fun i : Nat => (i : Int)
theorem ofN_len (s : List Nat) : (ofN s).length = s.length := by simp [ofN]
theorem ofN_append (a b : List Nat) : ofN (a ++ b) = ofN a ++ ofN b := by simp [ofN]
def IRow (w : World) (v : Value) (s : List Nat) (w' : World) : Prop := w'.ownsRow w.heap.size 3 1 v s.length (ints (ofN s))
theorem zdb (p0 : Option Addr) (b off cap : Nat) (L : List Nd) (s : List Nat) (w : World) (h : NIn w p0 b off cap L) (hs : Items L 0 s) (hk : ∀ x ∈ s, (nth L x).kind ≠ 6) :
 Calls Tryz.prog 21 #[.slice p0 L.length cap] w fun e w' => (∃ v, e = .returned v /\ IRow w v s w') /\ Below w.heap.size w w' := by
 have H := zzh h
 have hl := h.len
 have HS := zzh hs
 have HK := zzh hk
 clear h hs hk
 go_enter Tryz.func21, Tryz.ntmps21
 go_wp2_with fail
 go_loopg [3, 4] (L.length + 1) (fun g t3 t4 wr => ∃ (k : Nat) (pre rest : List Nat), g = L.length + 1 - k /\ k <= L.length /\ t4 = .int .i64 k /\ s = pre ++ rest /\ Items L k rest /\ wr.ownsRow w.heap.size 3 1 t3 pre.length (ints (ofN pre)) /\ Below w.heap.size w wr /\ pre.length <= k)
 case atStart => exact ⟨0, [], s, rfl, Nat.zero_le _, rfl, rfl, HS.out, World.ownsRow_nil _ _ _ _, .refl _ _, Nat.zero_le _⟩
 case round =>
  obtain ⟨k, pre, rest, rfl, hk, rfl, hsp, hit, hown, hbl, hpl⟩ := hrel
  have hk1 : (0 : Int) <= (k : Int) := by omega
  cases hit with
  | done =>
   have hsp' : s = pre := by simpa using hsp
   subst hsp'
   have hk2 : (L.length : Int) <= (L.length : Int) := by omega
   go_wp2_with fail
   go_ret
   exact ⟨⟨_, rfl, hown⟩, hbl⟩
  | step hi hm hs2 =>
   rename_i m rest'
   have hk2 : (k : Int) < (L.length : Int) := by omega
   have hsz := hbl.size
   obtain ⟨i0, hi0', hz0, hz1, hz2⟩ := info_parts info_int
   have HM := zzh hm
   have HS2 := zzh hs2
   have Hsp := zzh hsp
   have Hbl := zzh hbl
   have hkl : k <= L.length := by omega
   have hm2 := zaw _ _ _ hm
   rw [List.length_drop] at hm2
   clear hm hs2 hsp hi
   go_wp2_with (at_builtin; refine wpList_append_lies _ rfl _ _ _ rfl w.heap.size 3 i0 (.int .i64 0) 1 8 Tryz.underlying59 hi0' hz0 hz1 hz2 rfl (by decide) u3 pre.length (ints (ofN pre)) rfl (hown.alloc _) ⟨wr.heap.size, 0, none⟩ 1 1 [.int .i64 k] rfl rfl (World.news_of_block (heap_alloc_new _ _)) (by simp [Value.oneCell']) (by decide) (by unfold maxLen; omega) (by omega) (by simp; omega) _ rfl ?_; intro g8 cap8 w8 hown8 hgrow8 hat8 hlt8)
   have hb8 := Below.grown (hbl.alloc hsz _) hgrow8 (by simp; omega) (fun k hk => (hown.lt k hk).1)
   have HE := zzh (qends p0 b off cap L k m w8 (H.out.below hb8) HM.out (HK.out k (by rw [Hsp.out]; simp)))
   refine HE.out.mono ?_
   clear HE
   rintro e w9 ⟨rfl, hb9⟩
   go_wp2_with fail
   go_roundg (L.length + 1 - (k + m))
   case measure => omega
   case rel => exact ⟨k + m, pre ++ [k], rest', rfl, by omega, rfl, by rw [Hsp.out]; simp, HS2.out, by
    have := zad hown8 hb9
    rw [List.length_append, ofN_append, zcb]
    exact this, hb8.trans (hb9.mono hb8.size), by simp; omega⟩
end
end Go.Proofs.YtaehkbbdmamfpaaGreatDoor
