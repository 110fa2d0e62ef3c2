/-
  A paragraph, item by item, as the program holds it.
-/
import Derived.Test.YtiijpbfkchokaaaGreatQ6
import Derived.Test.YtiijpbfkchokaaaGreatL5
import Derived.Test.YtiijpbfkchokaaaGreatL6
import Derived.Test.YtiijpbfkchokaaaGreatB4
import Derived.Test.YtiijpbfkchokaaaGreatB10
import Derived.Test.YtiijpbfkchokaaaGreatBN
import Derived.Great.BuildSlice
import Derived.BigQuiet
set_option maxRecDepth 100000
set_option maxHeartbeats 8000000
namespace Go.Proofs.YtiijpbfkchokaaaGreat
open Go.ChangeShapes Go.WideShapes Go.ChangeAt Go.RowKit
def bsTt1 (parts : Array (Nat × Value)) : Sem Value := Instr.buildSlice 99 1 parts
@[go_sem ↓] theorem execOp_bsTt1 (ρ : Operand → Value) (dst : Option Tmp) (x : Array (Nat × Operand)) (ty : TypeId) (pos : String) (after : Array Edge) (guard : Option (Nat × Bool)) :
    execOp ρ { dst, op := .buildSlice 99 1 x, type := ty, pos, after, guard } = (do pure (.value (← bsTt1 (x.map fun (i, y) => (i, ρ y))))) := rfl
theorem fill_tt1 (n : Tt) : Instr.fill (fun i => some (i * 9, 9)) ((Array.range (1 * 9)).map ((Value.agg Tt.zero.arr).cells[· % (Value.agg Tt.zero.arr).cells.size]!)) [(0, .agg n.arr)] = some n.arr := by kernel_rfl
theorem info_tt0 : (Tryz.prog.info? 62).map (fun i => (i.zero, i.size)) = some (some (.agg Tt.zero.arr), 9) := by kernel_rfl
@[go_sem] theorem run_bsTt1 (n : Tt) (w : World) : (bsTt1 #[(0, .agg n.arr)]).run Tryz.prog w = .ok (.slice (some ⟨w.heap.size, 0, none⟩) 1 1) (w.alloc (.cells n.arr 62)) := by
  obtain ⟨i, hi, hzz⟩ := Option.map_eq_some_iff.1 info_tt0
  simp only [Prod.mk.injEq] at hzz
  obtain ⟨hz, hs⟩ := hzz
  refine run_buildSlice w _ 62 1 _ n.arr i (.agg Tt.zero.arr) Tryz.underlying99 hi hz (by rw [hs]; decide) (by rw [hs]; decide) ?_
  rw [hs]
  exact fill_tt1 n
theorem info_ttb : (Tryz.prog.info? 62).map (fun i => (i.zero, i.size, i.bytes)) = some (some (.agg Tt.zero.arr), 9, 72) := by kernel_rfl
theorem info_intb : (Tryz.prog.info? 3).map (fun i => (i.zero, i.size, i.bytes)) = some (some (.int .i64 0), 1, 8) := by kernel_rfl
def pxArr (lv : Value) (P : Pm) (iv mv sv av pv : Value) : Array Value := (lv :: (P.cells ++ [iv, mv, sv, av, pv])).toArray
theorem px_size (lv : Value) (P : Pm) (iv mv sv av pv : Value) : (pxArr lv P iv mv sv av pv).size = 30 := rfl
def pE : Nat → TypeId
  | 1 => 62
  | _ => 3
def pS : Nat → Nat
  | 1 => 9
  | _ => 1
def pO : Nat → Nat
  | 0 => 25
  | 1 => 27
  | 2 => 28
  | _ => 29
structure ParaR (W : World) (X mb B : Nat) (lv : Value) (P : Pm) (vs : Nat → Value) (n : Nat → Nat) (xs : Nat → List Value) (M : List (Value × Value)) : Prop where
  blk : W.heap[X]? = some (.cells (pxArr lv P (vs 0) (.map (some mb)) (vs 1) (vs 2) (vs 3)) 101 (0, 0))
  rows : ∀ j, j < 4 → W.ownsRow B (pE j) (pS j) (vs j) (n j) (xs j)
  ne : ∀ i j, i < 4 → j < 4 → i ≠ j → ∀ q, (vs i).ownBlock = some q → (vs j).ownBlock ≠ some q
  map : MapV W mb M
  lt1 : mb < X
  lt2 : X < B
section
variable {W W' : World} {X mb B : Nat} {lv : Value} {P : Pm} {vs : Nat → Value} {n : Nat → Nat} {xs : Nat → List Value} {M : List (Value × Value)}
theorem ParaR.ltX (h : ParaR W X mb B lv P vs n xs M) : X < W.heap.size := (Array.getElem?_eq_some_iff.1 h.blk).1
theorem ParaR.still (h : ParaR W X mb B lv P vs n xs M) (hb : Below W.heap.size W W') : ParaR W' X mb B lv P vs n xs M :=
  ⟨(hb.block X h.ltX).trans h.blk, fun j hj => ownsRow_below (h.rows j hj) hb, h.ne, h.map.same (hb.block mb (Nat.lt_trans h.lt1 h.ltX)), h.lt1, h.lt2⟩
theorem ParaR.cell (h : ParaR W X mb B lv P vs n xs M) (k : Nat) (v : Value) (hv : (pxArr lv P (vs 0) (.map (some mb)) (vs 1) (vs 2) (vs 3))[k]? = some v) : W.cell? ⟨X, k, none⟩ = some v := by rw [cell?_blk' h.blk, hv]
theorem ParaR.row_ne (h : ParaR W X mb B lv P vs n xs M) {j : Nat} (hj : j < 4) {q : Nat} (hq : q < B) : (vs j).ownBlock ≠ some q := fun e => by have := ((h.rows j hj).lt q e).1; omega
theorem ParaR.turned (h : ParaR W X mb B lv P vs n xs M) {M' : List (Value × Value)} (hm : MapV W' mb M') (hg : W.grownBy W' (some mb)) : ParaR W' X mb B lv P vs n xs M' := by
  have h1 := h.lt1
  have h2 := h.lt2
  refine ⟨(hg.block X h.ltX (fun e => by cases e; omega)).trans h.blk, fun j hj => (h.rows j hj).kept hg ?_, h.ne, hm, h.lt1, h.lt2⟩
  exact .inr (h.row_ne hj (by omega))
theorem ParaR.grown (h : ParaR W X mb B lv P vs n xs M) {k : Nat} (hk : k < 4) {g c n' : Nat} {ys : List Value} (hr : W'.ownsRow B (pE k) (pS k) (.slice (some ⟨g, 0, none⟩) n' c) n' ys) (hg : W.grownBy W' (vs k).ownBlock) (hg2 : (vs k).ownBlock = some g ∨ W.heap.size ≤ g) :
    ParaR (W'.setCell ⟨X, pO k, none⟩ (.slice (some ⟨g, 0, none⟩) n' c)) X mb B lv P (fun j => if j = k then .slice (some ⟨g, 0, none⟩) n' c else vs j) (fun j => if j = k then n' else n j) (fun j => if j = k then ys else xs j) M := by
  have h1 := h.lt1
  have h2 := h.lt2
  have hX := h.ltX
  have hblk : W'.heap[X]? = some (.cells (pxArr lv P (vs 0) (.map (some mb)) (vs 1) (vs 2) (vs 3)) 101 (0, 0)) := (hg.block X hX (fun e => h.row_ne hk h2 e.symm)).trans h.blk
  have hne : ∀ j, j < 4 → j ≠ k → ∀ q, (vs j).ownBlock = some q → q ≠ g := fun j hj hjk q hq e => by
    subst e
    rcases hg2 with h3 | h3
    · exact h.ne j k hj hk hjk q hq h3
    · have := ((h.rows j hj).lt q hq).2; omega
  refine ⟨?_, fun j hj => ?_, fun i j hi hj hij q hq => ?_, h.map.same ?_, h.lt1, h.lt2⟩
  · rw [heap_setCell_same _ _ _ _ _ _ hblk]
    congr 2
    rcases k with _ | _ | _ | _ | k
    · rfl
    · rfl
    · rfl
    · rfl
    · omega
  · by_cases e : j = k
    · subst e
      simp only [if_true]
      exact ownsRow_same hr fun q hq _ => Below.heap_setCell _ _ _ _ (fun e2 => by have := (hr.lt q hq).1; simp only at e2; omega)
    · simp only [if_neg e]
      refine ownsRow_same ((h.rows j hj).kept hg ?_) fun q hq _ => Below.heap_setCell _ _ _ _ (fun e2 => by have := ((h.rows j hj).lt q hq).1; simp only at e2; omega)
      cases ho : (vs j).ownBlock with
      | none => exact .inl rfl
      | some q => exact .inr fun e2 => h.ne j k hj hk e q ho e2.symm
  · by_cases e : i = k
    · by_cases f : j = k
      · omega
      · simp only [if_pos e] at hq
        simp only [if_neg f]
        cases hq
        exact fun h2 => hne j hj f g h2 rfl
    · by_cases f : j = k
      · simp only [if_neg e] at hq
        simp only [if_pos f]
        exact fun h2 => by cases h2; exact hne i hi e g hq rfl
      · simp only [if_neg e] at hq
        simp only [if_neg f]
        exact h.ne i j hi hj hij q hq
  · exact (Below.heap_setCell _ _ _ _ (by simp only; omega)).trans (hg.block mb (by omega) (fun e => h.row_ne hk (by omega) e.symm))
end
structure FrX (B X mb : Nat) (W W' : World) : Prop where
  os : W'.os = W.os
  tape : W'.tape = W.tape
  output : W'.output = W.output
  size : W.heap.size ≤ W'.heap.size
  block : ∀ k, k < B → k ≠ X → k ≠ mb → W'.heap[k]? = W.heap[k]?
theorem FrX.refl (B X mb : Nat) (W : World) : FrX B X mb W W := ⟨rfl, rfl, rfl, Nat.le_refl _, fun _ _ _ _ => rfl⟩
theorem FrX.trans {B X mb : Nat} {A C D : World} (h : FrX B X mb A C) (k : FrX B X mb C D) : FrX B X mb A D := ⟨k.os.trans h.os, k.tape.trans h.tape, k.output.trans h.output, Nat.le_trans h.size k.size, fun q h1 h2 h3 => (k.block q h1 h2 h3).trans (h.block q h1 h2 h3)⟩
theorem FrX.of_below {B X mb : Nat} {W W' : World} (hb : Below W.heap.size W W') (hB : B ≤ W.heap.size) : FrX B X mb W W' := ⟨hb.os, hb.tape, hb.output, hb.size, fun q h1 _ _ => hb.block q (by omega)⟩
theorem FrX.of_grown {B X mb : Nat} {W W' : World} {r : Option Nat} (hg : W.grownBy W' r) (hB : B ≤ W.heap.size) (hr : ∀ q, r = some q → q < B → q = X ∨ q = mb) : FrX B X mb W W' :=
  ⟨hg.os, hg.tape, hg.output, hg.size, fun q h1 h2 h3 => hg.block q (by omega) (fun e => by rcases hr q e.symm h1 with h | h; exact h2 h; exact h3 h)⟩
theorem FrX.set {B X mb : Nat} {W W' : World} (h : FrX B X mb W W') (o : Nat) (v : Value) : FrX B X mb W (W'.setCell ⟨X, o, none⟩ v) :=
  ⟨h.os, h.tape, h.output, Nat.le_trans h.size (KeepsWalks.setCell W' _ _).size, fun q h1 h2 h3 => (Below.heap_setCell _ _ _ _ (by simpa using h2)).trans (h.block q h1 h2 h3)⟩
attribute [local go_sem ↓] Go.wp_at_zero Go.wp_at_succ
def pxN (IT : List Nat) (SU : List Tt) (AT PE : List Int) : Nat → Nat
  | 0 => IT.length
  | 1 => SU.length
  | 2 => AT.length
  | _ => PE.length
def pxX (IT : List Nat) (SU : List Tt) (AT PE : List Int) : Nat → List Value
  | 0 => ints (ofN IT)
  | 1 => SU.flatMap Tt.cells
  | 2 => ints AT
  | _ => ints PE
def idxM (IT : List Nat) : List (Int × Value) := IT.zipIdx.map fun p => ((p.1 : Int), .int .i64 (p.2 : Nat))
theorem idxM_snoc (IT : List Nat) (x : Nat) : idxM (IT ++ [x]) = idxM IT ++ [((x : Int), .int .i64 (IT.length : Nat))] := by
  simp [idxM, List.zipIdx_append]
theorem idxM_key {IT : List Nat} {p : Int × Value} (h : p ∈ idxM IT) : ∃ y ∈ IT, p.1 = (y : Int) := by
  obtain ⟨q, hq, rfl⟩ := List.mem_map.1 h
  exact ⟨q.1, List.fst_mem_of_mem_zipIdx hq, rfl⟩
abbrev ParaI (W : World) (X mb B : Nat) (lv : Value) (P : Pm) (vs : Nat → Value) (IT : List Nat) (SU : List Tt) (AT PE : List Int) : Prop := ParaR W X mb B lv P vs (pxN IT SU AT PE) (pxX IT SU AT PE) (intM (idxM IT))
theorem ints_snoc (a : List Nat) (x : Nat) : ints (ofN (a ++ [x])) = ints (ofN a) ++ [.int .i64 x] := by simp [ints, ofN]
theorem ParaR.congr {W : World} {X mb B : Nat} {lv : Value} {P : Pm} {vs : Nat → Value} {n n' : Nat → Nat} {xs xs' : Nat → List Value} {M : List (Value × Value)} (h : ParaR W X mb B lv P vs n xs M) (hn : ∀ j, j < 4 → n j = n' j) (hx : ∀ j, j < 4 → xs j = xs' j) : ParaR W X mb B lv P vs n' xs' M :=
  ⟨h.blk, fun j hj => by rw [← hn j hj, ← hx j hj]; exact h.rows j hj, h.ne, h.map, h.lt1, h.lt2⟩
theorem tts_one (L : List Tt) : ∀ u ∈ L.flatMap Tt.cells, u.oneCell' = true := by
  intro u hu
  obtain ⟨n, _, hn⟩ := List.mem_flatMap.1 hu
  have := Tt.one n
  simp only [Tt.arr] at this
  exact List.all_eq_true.1 (by simpa using this) u hn
theorem vput (X mb B : Nat) (lv : Value) (P : Pm) (vs : Nat → Value) (IT : List Nat) (SU : List Tt) (AT PE : List Int) (x : Nat) (T : Tt) (hx : x ∉ IT) (hl : IT.length ≤ 4000) (hl2 : SU.length ≤ 4000) (w : World) (hB : B ≤ w.heap.size) (h : ParaI w X mb B lv P vs IT SU AT PE) :
    Calls Tryz.prog 62 #[.pointer (some ⟨X, 0, none⟩), .int .i64 x, .agg T.arr] w fun e w' => e = .returned (.tuple #[]) ∧ (∃ vs', ParaI w' X mb B lv P vs' (IT ++ [x]) (SU ++ [T]) AT PE ∧ vs' 2 = vs 2 ∧ vs' 3 = vs 3) ∧ FrX B X mb w w' := by
  have hbT : Below w.heap.size w (w.alloc (.cells T.arr 62)) := (Below.refl _ _).alloc (Nat.le_refl _) _
  have dT : TAt (w.alloc (.cells T.arr 62)) w.heap.size T := heap_alloc_new w _
  have h1 := h.still hbT
  have hno : ∀ p ∈ idxM IT, p.1 ≠ (x : Int) := fun p hp e => by
    obtain ⟨y, hy, e2⟩ := idxM_key hp
    rw [e] at e2
    exact hx (by rwa [show x = y by omega])
  obtain ⟨p0, c0, e0⟩ := owns_form (h.rows 0 (by decide))
  obtain ⟨p1, c1, e1⟩ := owns_form (h.rows 1 (by decide))
  have x25 := h1.cell 25 (vs 0) rfl
  have x26 := h1.cell 26 (.map (some mb)) rfl
  rw [e0] at x25
  have Hno := Lib.hid hno
  have hq0 : Hid (∀ q, (vs 0).ownBlock = some q → B ≤ q ∧ q < w.heap.size) := Lib.hid fun q hq => (h.rows 0 (by decide)).lt q hq
  have hq1 : Hid (∀ q, (vs 1).ownBlock = some q → B ≤ q ∧ q < w.heap.size) := Lib.hid fun q hq => (h.rows 1 (by decide)).lt q hq
  have hF1 : FrX B X mb w (w.alloc (.cells T.arr 62)) := .of_below hbT hB
  clear h hx hno
  go_enter Tryz.func62, Tryz.ntmps62
  go_upto_region 1 with (fail)
  have hY : w.heap.size < (w.alloc (.cells T.arr 62)).heap.size := by simp
  obtain ⟨Y, hYe⟩ : ∃ Y, w.heap.size = Y := ⟨_, rfl⟩
  generalize w.alloc (.cells T.arr 62) = w1 at dT h1 x25 x26 hF1 hbT hY ⊢
  rw [hYe] at dT hY ⊢
  have HY := Lib.hid hYe
  clear hYe
  have x25d : w1.drew.cell? ⟨X, 25, none⟩ = some (.slice p0 (pxN IT SU AT PE 0) c0) := x25
  have x26d : w1.drew.cell? ⟨X, 26, none⟩ = some (.map (some mb)) := x26
  refine wpS_tail9 10 (by kernel_rfl) (by kernel_rfl) ?_
  simp only [List.take_succ_cons, List.take_zero, List.drop_succ_cons, List.drop_zero]
  repeat still_step
  refine wpStill_nil ?_
  change wpList _ _ _ _ _ w1.drew
  have h1d := h1.still ((Below.refl _ w1).drew)
  refine wpList_update_int _ rfl (.tmp 9) (.tmp 10) (.tmp 15) 98 rfl 3 3 Tryz.underlying98 Tryz.underlying3 mb (idxM IT) rfl h1d.map (x : Int) (.int .i64 (IT.length : Nat)) rfl rfl Hno.out ?_
  intro w2 hm2 hg2
  rw [← idxM_snoc] at hm2
  have h2 := h1d.turned hm2 hg2
  have dT2 : TAt w2 Y T := (hg2.block Y hY (fun e => by cases e; have := h1.lt1; have := h1.lt2; have := HY.out; omega)).trans dT
  have hF2 : FrX B X mb w w2 := hF1.trans ((FrX.of_below ((Below.refl _ w1).drew) (by have := hF1.size; omega)).trans (.of_grown hg2 (by have := hF1.size; simp only [World.drew]; omega) (fun q e _ => .inr (by cases e; rfl))))
  have hz2 := hF2.size
  clear x25 x26 x25d x26d h1d hm2 hg2 h1 hF1 dT hbT hY
  have y25 := h2.cell 25 (vs 0) rfl
  rw [e0] at y25
  obtain ⟨i0, hi0', hz0, hz1, hz2'⟩ := info_parts info_intb
  have hrow := (h2.rows 0 (by decide)).alloc (.cells #[.int .i64 (x : Nat)] 3)
  rw [e0] at hrow
  have Hrow : Hid ((w2.alloc (.cells #[.int .i64 (x : Nat)] 3)).ownsRow B 3 1 (.slice p0 IT.length c0) IT.length (ints (ofN IT))) := Lib.hid hrow
  have h2a := h2.still ((Below.refl _ w2).alloc (Nat.le_refl _) (.cells #[.int .i64 (x : Nat)] 3))
  have Hblk := Lib.hid h2a.blk
  have hXa := h2a.ltX
  have hlt2 := h2.lt2
  have hXne : some X ≠ (Value.slice p0 IT.length c0).ownBlock := fun e => by
    have := h2.row_ne (j := 0) (by decide) hlt2
    rw [e0] at this
    exact this e.symm
  have HXne := Lib.hid hXne
  have H1 : Hid (∀ u ∈ [Value.int .i64 (x : Nat)], u.oneCell' = true) := Lib.hid (by simp [Value.oneCell'])
  have Hv0 : Hid ((pxArr lv P (vs 0) (.map (some mb)) (vs 1) (vs 2) (vs 3))[25]? = some (vs 0)) := Lib.hid rfl
  have E0 : Hid (vs 0 = .slice p0 IT.length c0) := Lib.hid e0
  have H2a := Lib.hid h2a
  clear hrow h2a hXne e0
  go_upto_region 3 with (at_builtin; refine wpList_append_lies _ rfl (.tmp 20) (.tmp 22) 41 rfl B 3 i0 (.int .i64 0) 1 8 Tryz.underlying41 hi0' hz0 hz1 hz2' rfl (by decide) (.slice p0 IT.length c0) IT.length (ints (ofN IT)) rfl Hrow.out ⟨w2.heap.size, 0, none⟩ 1 1 [.int .i64 (x : Nat)] rfl rfl (World.news_of_block (cs := #[.int .i64 (x : Nat)]) (heap_alloc_new _ _)) H1.out (by decide) (by unfold maxLen; omega) (by omega) (by simp; omega) _ rfl ?_; intro g3 cap3 w3 hown3 hgrow3 hat3 hlt3; (have hb3 := Lib.hid ((hgrow3.block X hXa HXne.out).trans Hblk.out)); (have cz : w3.cell? ⟨X, 25, none⟩ = some (vs 0) := (cell?_blk' hb3.out _).trans Hv0.out); (have fz : w3.frozen? ⟨X, 25, none⟩ = false := frozen_of_row w3 X 25 _ _ hb3.out))
  have h4 := (ParaR.grown H2a.out (k := 0) (by decide) hown3 (by rw [E0.out]; exact hgrow3) (by rw [E0.out]; rcases hat3 with e | e; exact .inl e; exact .inr (by omega))).congr (n' := pxN (IT ++ [x]) SU AT PE) (xs' := pxX (IT ++ [x]) SU AT PE) (fun j hj => by rcases j with _ | _ | _ | _ | j <;> simp [pxN]) (fun j hj => by
    rcases j with _ | _ | _ | _ | j
    · simp only [if_true, pxX, ints_snoc]
    · rfl
    · rfl
    · rfl
    · omega)
  replace h4 : ParaR (w3.setCell ⟨X, 25, none⟩ (.slice (some ⟨g3, 0, none⟩) (IT.length + 1) cap3)) X mb B lv P _ _ _ _ := h4
  have hYne : some Y ≠ (Value.slice p0 IT.length c0).ownBlock := fun e => by
    have := (hq0.out Y (by rw [E0.out]; exact e.symm)).2
    have := HY.out
    omega
  have hXY : Y ≠ X := by have := HY.out; omega
  have dT4 : TAt (w3.setCell ⟨X, 25, none⟩ (.slice (some ⟨g3, 0, none⟩) (IT.length + 1) cap3)) Y T :=
    (Below.heap_setCell _ _ _ _ hXY).trans ((hgrow3.block Y (by have := dT2.lt; simp; omega) hYne).trans ((Below.heap_alloc _ _ _ dT2.lt).trans dT2))
  have hF4 : FrX B X mb w (w3.setCell ⟨X, 25, none⟩ (.slice (some ⟨g3, 0, none⟩) (IT.length + 1) cap3)) :=
    (hF2.trans ((FrX.of_below ((Below.refl _ w2).alloc (Nat.le_refl _) (.cells #[.int .i64 (x : Nat)] 3)) (by omega)).trans (.of_grown hgrow3 (by simp; omega) (fun q e h9 => by have := (hq0.out q (by rw [E0.out]; exact e)).1; omega)))).set 25 _
  clear h2 dT2 hF2 hz2 y25 Hrow Hblk HXne H1 Hv0 H2a hXa hown3 hgrow3 hat3 hlt3 hb3 cz fz hYne hi0' hz0 hz1 hz2'
  generalize w3.setCell ⟨X, 25, none⟩ (.slice (some ⟨g3, 0, none⟩) (IT.length + 1) cap3) = w4 at h4 dT4 hF4 ⊢
  obtain ⟨vs4, hvs4⟩ : ∃ vs4 : Nat → Value, (fun j => if j = 0 then Value.slice (some ⟨g3, 0, none⟩) (IT.length + 1) cap3 else vs j) = vs4 := ⟨_, rfl⟩
  rw [hvs4] at h4
  have v1 : vs4 1 = vs 1 := by rw [← hvs4]; rfl
  have v2 : vs4 2 = vs 2 := by rw [← hvs4]; rfl
  have v3 : vs4 3 = vs 3 := by rw [← hvs4]; rfl
  have E1 : Hid (vs4 1 = .slice p1 SU.length c1) := Lib.hid (v1.trans e1)
  have V23 : Hid (vs4 2 = vs 2 ∧ vs4 3 = vs 3) := Lib.hid ⟨v2, v3⟩
  have V1 := Lib.hid v1
  have HB4 : Hid (B ≤ w4.heap.size) := Lib.hid (by have := hF4.size; omega)
  clear hvs4 v1 v2 v3 e1
  have hbd : Below w4.heap.size w4 w4.drew := (Below.refl _ w4).drew
  have h5 := h4.still (hbd.alloc hbd.size (.cells T.arr 62))
  have x27 : w4.drew.cell? ⟨X, 27, none⟩ = some (.slice p1 SU.length c1) := by rw [← E1.out]; exact h4.cell 27 (vs4 1) rfl
  have aY : agg? w4.drew Y 0 9 = some T.arr := dT4.agg
  have x27b : (w4.alloc (.cells T.arr 62)).drew.cell? ⟨X, 27, none⟩ = some (.slice p1 SU.length c1) := by rw [← E1.out]; exact h5.cell 27 (vs4 1) rfl
  obtain ⟨i1, hi1', hy0, hy1, hy2⟩ := info_parts info_ttb
  have hrow := h5.rows 1 (by decide)
  rw [E1.out] at hrow
  have Hrow : Hid ((w4.drew.alloc (.cells T.arr 62)).ownsRow B 62 9 (.slice p1 SU.length c1) SU.length (SU.flatMap Tt.cells)) := Lib.hid hrow
  have Hblk := Lib.hid h5.blk
  have hXa := h5.ltX
  have hXne : some X ≠ (Value.slice p1 SU.length c1).ownBlock := fun e => by
    have := h5.row_ne (j := 1) (by decide) hlt2
    rw [E1.out] at this
    exact this e.symm
  have HXne := Lib.hid hXne
  have H1 : Hid (∀ u ∈ T.cells, u.oneCell' = true) := Lib.hid (by have := tts_one [T]; simpa using this)
  have Hv1 : Hid ((pxArr lv P (vs4 0) (.map (some mb)) (vs4 1) (vs4 2) (vs4 3))[27]? = some (vs4 1)) := Lib.hid rfl
  have H5 := Lib.hid h5
  have hB5 : B ≤ (w4.drew.alloc (.cells T.arr 62)).heap.size := by have := HB4.out; simp only [World.size_alloc]; exact Nat.le_succ_of_le this
  clear hrow h5 hXne h4 dT4
  go_region_law (refine step_append_lies rfl (.tmp 30) (.tmp 32) 99 rfl B 62 i1 (.agg Tt.zero.arr) 9 72 Tryz.underlying99 hi1' hy0 hy1 hy2 rfl (by decide) (.slice p1 SU.length c1) SU.length (SU.flatMap Tt.cells) rfl Hrow.out ⟨w4.heap.size, 0, none⟩ 1 1 T.cells rfl rfl (World.news_of_block (cs := T.cells.toArray) (heap_alloc_new w4.drew _)) H1.out (by decide) (by unfold maxLen; omega) (by omega) hB5 _ rfl ?_; intro g5 cap5 w5 hown5 hgrow5 hat5 hlt5; (have hb5 := Lib.hid ((hgrow5.block X hXa HXne.out).trans Hblk.out)); (have cz : w5.cell? ⟨X, 27, none⟩ = some (vs4 1) := (cell?_blk' hb5.out _).trans Hv1.out); (have fz : w5.frozen? ⟨X, 27, none⟩ = false := frozen_of_row w5 X 27 _ _ hb5.out))
  all_goals
    have h6 := (ParaR.grown (W' := w5) H5.out (k := 1) (n' := SU.length + 1) (ys := SU.flatMap Tt.cells ++ T.cells) (by decide) hown5 (by rw [E1.out]; exact hgrow5) (by rw [E1.out]; rcases hat5 with e | e; exact .inl e; exact .inr (Nat.le_of_eq e.symm))).congr (n' := pxN (IT ++ [x]) (SU ++ [T]) AT PE) (xs' := pxX (IT ++ [x]) (SU ++ [T]) AT PE) (fun j hj => by rcases j with _ | _ | _ | _ | j <;> simp [pxN]) (fun j hj => by
      rcases j with _ | _ | _ | _ | j
      · rfl
      · simp only [if_true, pxX, List.flatMap_append, List.flatMap_cons, List.flatMap_nil, List.append_nil]
      · rfl
      · rfl
      · omega)
    have hF5 : FrX B X mb w (w5.setCell ⟨X, 27, none⟩ (.slice (some ⟨g5, 0, none⟩) (SU.length + 1) cap5)) :=
      (hF4.trans ((FrX.of_below (hbd.alloc hbd.size (.cells T.arr 62)) HB4.out).trans (.of_grown hgrow5 hB5 (fun q e h9 => by have := (hq1.out q (by rw [← V1.out, E1.out]; exact e)).1; omega)))).set 27 _
    refine ⟨rfl, _, results_none rfl _ _ _, rfl, ⟨_, h6, V23.out.1, V23.out.2⟩, hF5⟩
end Go.Proofs.YtiijpbfkchokaaaGreat
namespace Go.Proofs.YtiijpbfkchokaaaGreat
open Go.ChangeShapes Go.WideShapes Go.ChangeAt Go.RowKit
attribute [local go_sem ↓] Go.wp_at_zero Go.wp_at_succ
theorem zin_get9 {w : World} {B n : Nat} {p : Option Addr} {k c : Nat} {l : List Int} (h : w.ownsRow B 3 1 (.slice p k c) n (ints l)) {i : Nat} (hi : i < l.length) : ∃ g, p = some ⟨g, 0, none⟩ ∧ k = l.length ∧ k ≤ c ∧ w.cell? ⟨g, i, none⟩ = some (.int .i64 l[i]) := by
  obtain ⟨p', g, c', e, _, z⟩ := zin_of h
  cases e
  exact ⟨g, z.hp (by intro e; rw [e] at hi; simp at hi), rfl, z.cap, z.at_ i hi⟩
structure ParaL (W : World) (X mb B : Nat) (P : Pm) (vs : Nat → Value) (L : List Nd) (b off cap : Nat) (p0 : Option Addr) (IT : List Nat) (SU : List Tt) (AT PE : List Int) : Prop where
  para : ParaI W X mb B (.slice p0 L.length cap) P vs IT SU AT PE
  nodes : NIn W p0 b off cap L
  le : ∀ x ∈ IT, x ≤ L.length
  len : L.length ≤ 2000
  nb : L ≠ [] → b < mb
theorem ParaL.still {W W' : World} {X mb B : Nat} {P : Pm} {vs : Nat → Value} {L : List Nd} {b off cap : Nat} {p0 : Option Addr} {IT : List Nat} {SU : List Tt} {AT PE : List Int} (h : ParaL W X mb B P vs L b off cap p0 IT SU AT PE) (hb : Below W.heap.size W W') : ParaL W' X mb B P vs L b off cap p0 IT SU AT PE :=
  ⟨h.para.still hb, h.nodes.below hb, h.le, h.len, h.nb⟩
theorem NIn.same {w w' : World} {p : Option Addr} {b off cap : Nat} {L : List Nd} (h : NIn w p b off cap L) (hs : L ≠ [] → w'.heap[b]? = w.heap[b]?) : NIn w' p b off cap L := by
  refine ⟨h.hp, fun e => ?_, fun j hj => ?_, h.cap', h.len⟩
  · have h1 := hs e
    have h2 := h.hb e
    rw [Array.getElem?_eq_getElem h2] at h1
    exact (Array.getElem?_eq_some_iff.1 h1).1
  · rw [← h.nd j hj]
    have h1 := hs (h.ne hj)
    unfold agg?
    rw [h1]
theorem ParaL.of_para {w w' : World} {X mb B : Nat} {P : Pm} {vs vs' : Nat → Value} {L : List Nd} {b off cap : Nat} {p0 : Option Addr} {IT : List Nat} {SU SU' : List Tt} {AT PE AT' PE' : List Int} (h : ParaL w X mb B P vs L b off cap p0 IT SU AT PE) (hp : ParaI w' X mb B (.slice p0 L.length cap) P vs' IT SU' AT' PE') (hF : FrX B X mb w w') : ParaL w' X mb B P vs' L b off cap p0 IT SU' AT' PE' := by
  refine ⟨hp, h.nodes.same fun e => ?_, h.le, h.len, h.nb⟩
  have h1 := h.nb e
  have h2 := hp.lt1
  have h3 := hp.lt2
  exact hF.block b (by omega) (by omega) (by omega)
def kindP (L : List Nd) (x : Nat) : Int := if x = L.length then 0 else (nth L x).kind
theorem vkind (X mb B : Nat) (P : Pm) (vs : Nat → Value) (L : List Nd) (b off cap : Nat) (p0 : Option Addr) (IT : List Nat) (SU : List Tt) (AT PE : List Int) (i : Nat) (hi : i < IT.length) (w : World) (h : ParaL w X mb B P vs L b off cap p0 IT SU AT PE) :
    Calls Tryz.prog 120 #[.pointer (some ⟨X, 0, none⟩), .int .i64 i] w fun e w' => e = .returned (.int .i64 (kindP L IT[i])) ∧ ∃ n, w' = w.drewN n := by
  have hl := h.len
  have hp := h.para
  have hN := h.nodes
  have hle := h.le _ (List.getElem_mem hi)
  obtain ⟨pi, ci, e0⟩ := owns_form (hp.rows 0 (by decide))
  have hr0 := hp.rows 0 (by decide)
  rw [e0] at hr0
  have hil : i < (ofN IT).length := by simpa [ofN] using hi
  obtain ⟨g, rfl, hk1, hk2, cg⟩ := zin_get9 (l := ofN IT) hr0 hil
  have hgi : (ofN IT)[i] = (IT[i] : Int) := by simp [ofN]
  rw [hgi] at cg
  have x0 := hp.cell 0 (.slice p0 L.length cap) rfl
  have x25 := hp.cell 25 (vs 0) rfl
  rw [e0] at x25
  have hn : pxN IT SU AT PE 0 = IT.length := rfl
  rw [hn] at x25 hk2
  have hi1 : (0 : Int) ≤ (i : Int) := by omega
  have hi2 : (i : Int) < (IT.length : Int) := by omega
  have Hp := Lib.hid hp
  generalize IT[i] = x at cg hle
  clear hr0 e0 hk1 hgi hn h hp
  by_cases he : x = L.length
  · have HK := Lib.hid (show kindP L x = 0 from if_pos he)
    subst he
    clear hN
    go_enter Tryz.func120, Tryz.ntmps120
    go_upto_region 1 with (fail)
    go_quiet (fail)
    go_wp2_with fail
    go_ret
    exact ⟨by rw [HK.out]; rfl, _, rfl⟩
  · have HK := Lib.hid (show kindP L x = (nth L x).kind from if_neg he)
    have hlt : x < L.length := by omega
    have c0 : w.cell? ⟨b, off + x * 19, none⟩ = some (.int .i64 (nth L x).kind) := agg_cell (hN.nth hlt) 0 _ (Nd.get0 _)
    obtain rfl := hN.at_ hlt
    have hne : ((x : Int) == (L.length : Int)) = false := by rw [beq_eq_false_iff_ne]; omega
    have hx1 : (0 : Int) ≤ (x : Int) := by omega
    have hx2 : (x : Int) < (L.length : Int) := by omega
    clear hN he
    go_enter Tryz.func120, Tryz.ntmps120
    go_upto_region 1 with (fail)
    go_quiet (fail)
    go_wp2_with fail
    go_quiet (fail)
    go_wp2_with fail
    go_ret
    exact ⟨by rw [HK.out]; rfl, by first | exact ⟨_, rfl⟩ | exact ⟨_, World.drewN_drewN _ _ _⟩⟩
end Go.Proofs.YtiijpbfkchokaaaGreat
