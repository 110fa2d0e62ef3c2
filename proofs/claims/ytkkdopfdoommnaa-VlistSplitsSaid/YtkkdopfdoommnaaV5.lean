/-
  vlist.Append, where nothing is wrong and glue comes between.
  Layer 11: what must come (knows), VlistApart: what it computes.
-/
import Derived.Test.YtkkdopfdoommnaaV7
import Derived.Test.YtkkdopfdoommnaaVBs
namespace Go.Proofs.Ytkkdopfdoommnaa
open Go.ChangeShapes Go.WideShapes Go.ChangeAt Go.RowKit
attribute [local go_sem ↓] Go.wp_at_zero Go.wp_at_succ

theorem agg_gl {w : World} {X : Nat} {g : Gl} {t : TypeId} {fr : Nat × Nat} (h : w.heap[X]? = some (.cells g.arr t fr)) : agg? w X 0 5 = some g.arr := by
  rw [agg?_blk' h 0 5 (by simp [Gl.size_arr])]; simp [Gl.arr, Gl.cells]
theorem heap_setGlue {w : World} {X : Nat} {n : Nd} {t : TypeId} {fr : Nat × Nat} (h : w.heap[X]? = some (.cells n.arr t fr)) (g : Gl) : (setAgg w X 7 g.arr).heap[X]? = some (.cells ({ n with glue := g } : Nd).arr t fr) := by
  unfold setAgg; rw [heap_setCells_same X _ _ _ _ _ _ h]; rfl
theorem heap_setNat {w : World} {X : Nat} {n : Nd} {t : TypeId} {fr : Nat × Nat} (h : w.heap[X]? = some (.cells n.arr t fr)) (x : Int) : (w.setCell ⟨X, 7, none⟩ (.int .i64 x)).heap[X]? = some (.cells ({ n with glue := { n.glue with nat := x } } : Nd).arr t fr) := by
  simp only [World.setCell, Array.getElem?_modify, h]
  simp [Nd.set7]
theorem heap_setSub {w : World} {X : Nat} {n : Nd} {t : TypeId} {fr : Nat × Nat} (h : w.heap[X]? = some (.cells n.arr t fr)) (x : Int) : (w.setCell ⟨X, 17, none⟩ (.int .i64 x)).heap[X]? = some (.cells ({ n with sub := x } : Nd).arr t fr) := by
  simp only [World.setCell, Array.getElem?_modify, h]
  simp [Nd.set17]
@[go_sem] theorem run_bdNd_skip (g : Gl) (k s : Int) (w : World) : (bdNd #[(0, .int .i64 k), (7, .agg g.arr), (13, .int .i64 s)]).run Try.prog w = .ok (.agg ({ Nd.zero with kind := k, glue := g, sub := s } : Nd).arr) w := by kernel_rfl
/-- what comes between -/
def skipN (bl ln : Gl) (x limit : Int) : Nd := if x < limit then { Nd.zero with kind := 7, glue := ln, sub := 1 } else { Nd.zero with kind := 7, glue := { bl with nat := x }, sub := 2 }
structure AppendPost (w : World) (sk : Nd) (L : List Nd) (d : Int) (e : Ending) (w' : World) : Prop where
  ex : ∃ p g c, e = .returned (.tuple #[.slice p (L.length + 1) c, .int .i64 d, .int .i64 0]) ∧ NIn w' p g 0 c (sk :: L)
  below : Below w.heap.size w w'
set_option maxRecDepth 100000 in
set_option maxHeartbeats 16000000 in
theorem append_good (before limit : Int) (p0 : Option Addr) (b off cap : Nat) (L : List Nd) (bl ln : Gl) (x0 : Nd) (w : World) (h : NIn w p0 b off cap L) (h1 : dimenB before = true) (h2 : dimenB limit = true) (h3 : bl.good = true) (h4 : ln.good = true) (hc : checkC L = 0)
    (hpos : 0 < L.length) (hx0 : L[0] = x0) (hk : (x0.kind == 4) = true ∨ (x0.kind == 5) = true) (hbeh : behC L 0 = some L.length) (hlen : L.length ≤ 2000) (hnone : -65536000 < before) (hxh : dimenB x0.h = true) (hd : dimenB (bl.nat - (before + x0.h)) = true) :
    Calls Try.prog 13 #[.int .i64 before, .slice p0 L.length cap, .agg bl.arr, .agg ln.arr, .int .i64 limit] w (AppendPost w (skipN bl ln (bl.nat - (before + x0.h)) limit) L x0.d) := by
  have H := Lib.hid h
  have HD1 : Hid (∀ W, Calls Try.prog 48 #[.int .i64 before] W fun e w' => e = .returned (.bool true) ∧ W = w') := Lib.hid fun W => by have := vdimen_any before W; rwa [h1] at this
  have HD2 : Hid (∀ W, Calls Try.prog 48 #[.int .i64 limit] W fun e w' => e = .returned (.bool true) ∧ W = w') := Lib.hid fun W => by have := vdimen_any limit W; rwa [h2] at this
  have HD3 : Hid (∀ W, Calls Try.prog 48 #[.int .i64 (bl.nat - (before + x0.h))] W fun e w' => e = .returned (.bool true) ∧ W = w') := Lib.hid fun W => by have := vdimen_any (bl.nat - (before + x0.h)) W; rwa [hd] at this
  have HR1 : Hid (∀ W, Calls Try.prog 49 #[.agg bl.arr] W fun e w' => e = .returned (.bool true) ∧ Below W.heap.size W w') := Lib.hid fun W => by have := vright_any bl W; rwa [h3] at this
  have HR2 : Hid (∀ W, Calls Try.prog 49 #[.agg ln.arr] W fun e w' => e = .returned (.bool true) ∧ Below W.heap.size W w') := Lib.hid fun W => by have := vright_any ln W; rwa [h4] at this
  have HC : Hid (∀ W, NIn W p0 b off cap L → Calls Try.prog 50 #[.slice p0 L.length cap] W fun e w' => e = .returned (.int .i64 0) ∧ Below W.heap.size W w') := Lib.hid fun W hW => by have := check_any p0 b off cap L W hW; rwa [hc] at this
  have HB : Hid (∀ W, NIn W p0 b off cap L → Calls Try.prog 51 #[.slice p0 L.length cap, .int .i64 0] W fun e w' => e = .returned (.int .i64 L.length) ∧ W = w') := Lib.hid fun W hW => by
    have := behind_any p0 b off cap L 0 L.length W hW (by rw [List.drop_zero]; exact hbeh)
    rwa [Nat.zero_add] at this
  obtain rfl := h.at_ hpos
  have hbn : -1073741823 ≤ bl.nat ∧ bl.nat ≤ 1073741823 := by unfold Gl.good at h3; simp [dimenB] at h3; omega
  have hxh' : -1073741823 ≤ x0.h ∧ x0.h ≤ 1073741823 := by simpa [dimenB] using hxh
  have hbf : -1073741823 ≤ before ∧ before ≤ 1073741823 := by simpa [dimenB] using h1
  obtain ⟨hn1, hn2⟩ := hbn
  obtain ⟨hx1, hx2⟩ := hxh'
  obtain ⟨hb1, hb2⟩ := hbf
  have Hx0 := Lib.hid hx0
  have hlt := h.lt hpos
  have hY : ((w.alloc (.cells bl.arr 23)).alloc (.cells ln.arr 23)).heap[w.heap.size + 1]? = some (.cells ln.arr 23 (0, 0)) := by
    have := heap_alloc_new (w.alloc (.cells bl.arr 23)) (.cells ln.arr 23); simpa using this
  have hZ : ((w.alloc (.cells bl.arr 23)).alloc (.cells ln.arr 23)).heap[w.heap.size]? = some (.cells bl.arr 23 (0, 0)) := (Below.heap_alloc _ _ _ (by simp)).trans (heap_alloc_new _ _)
  have hbw : Below w.heap.size w ((w.alloc (.cells bl.arr 23)).alloc (.cells ln.arr 23)) := ((Below.refl _ _).alloc (Nat.le_refl _) _).alloc (by simp) _
  clear h h1 h2 h3 h4 hc hbeh hxh hd hx0
  go_enter Try.func13, Try.ntmps13
  go_upto_region 1 with (fail)
  generalize (w.alloc (.cells bl.arr 23)).alloc (.cells ln.arr 23) = w1 at hY hZ hbw ⊢
  have aY := agg_gl hY
  have aZ := agg_gl hZ
  have lY := (Array.getElem?_eq_some_iff.1 hY).1
  go_wp2_with (first | (go_at_call 48; first | (refine (HD1.out _).mono ?_; rintro e w' ⟨rfl, rfl⟩) | (refine (HD2.out _).mono ?_; rintro e w' ⟨rfl, rfl⟩)))
  refine (HR1.out _).mono ?_
  rintro e w2 ⟨rfl, hbA⟩
  have hY2 := (hbA.block _ lY).trans hY
  have hbw2 := hbw.trans (hbA.mono hbw.size)
  have hZ2 := (hbA.block _ (Nat.lt_trans (Nat.lt_succ_self _) lY)).trans hZ
  have aY2 := agg_gl hY2
  have lY2 := (Array.getElem?_eq_some_iff.1 hY2).1
  clear hY hZ aY aZ lY hbA hbw HD1 HD2 HR1
  go_wp2_with fail
  refine (HR2.out _).mono ?_
  rintro e w3 ⟨rfl, hbA⟩
  have hY := (hbA.block _ lY2).trans hY2
  have hbw := hbw2.trans (hbA.mono hbw2.size)
  have hZ := (hbA.block _ (Nat.lt_trans (Nat.lt_succ_self _) lY2)).trans hZ2
  clear hY2 hZ2 aY2 lY2 hbA hbw2 HR2
  have hC := HC.out w3 (H.out.below hbw)
  clear HC
  go_wp2_with fail
  refine hC.mono ?_
  clear hC
  rintro e w4 ⟨rfl, hbA⟩
  have lY := (Array.getElem?_eq_some_iff.1 hY).1
  have hY4 := (hbA.block _ lY).trans hY
  have hbw4 := hbw.trans (hbA.mono hbw.size)
  have hZ4 := (hbA.block _ (Nat.lt_trans (Nat.lt_succ_self _) lY)).trans hZ
  clear hY hZ hbA hbw lY
  have hN4 := H.out.below hbw4
  have hB := HB.out w4 hN4
  have xk : w4.cell? ⟨b, off, none⟩ = some (.int .i64 x0.kind) := by have := agg_cell (hN4.nd 0 hpos) 0 (.int .i64 x0.kind) (by rw [Hx0.out]; rfl); simpa using this
  have xh : w4.cell? ⟨b, off + 4, none⟩ = some (.int .i64 x0.h) := by have := agg_cell (hN4.nd 0 hpos) 4 (.int .i64 x0.h) (by rw [Hx0.out]; rfl); simpa using this
  have aZ := agg_gl hZ4
  have hp1 : (0 : Int) < (L.length : Int) := by omega
  have hp2 : ((L.length : Int) == 0) = false := by rw [beq_eq_false_iff_ne]; omega
  clear HB
  go_upto_region 8 with (fail)
  go_cut [59] (fun s59 wx => s59 = .bool false ∧ wx = w4)
  case first =>
    clear hZ4 hY4 aZ xh
    rcases hk with hk | hk
    · have hk' : (x0.kind != 4) = false := by rw [bne, hk]; rfl
      clear hk
      go_wp2_with (go_at_call 51; refine hB.mono ?_; rintro e w5 ⟨rfl, rfl⟩)
      go_meet
      exact ⟨rfl, rfl⟩
    · have h5 : x0.kind = 5 := by simpa using hk
      have hk' : (x0.kind != 4) = true := by rw [h5]; rfl
      have hk2' : (x0.kind != 5) = false := by rw [h5]; rfl
      clear hk h5
      go_wp2_with (go_at_call 51; refine hB.mono ?_; rintro e w5 ⟨rfl, rfl⟩)
      go_meet
      exact ⟨rfl, rfl⟩
  case rest =>
    obtain ⟨rfl, rfl⟩ := hcut
    clear hB xk hk
    have hX := heap_alloc_new wc (.cells ({ Nd.zero with kind := 7, glue := bl, sub := 2 } : Nd).arr 25)
    have hb5 := hbw4.alloc hbw4.size (.cells ({ Nd.zero with kind := 7, glue := bl, sub := 2 } : Nd).arr 25)
    have lY := (Array.getElem?_eq_some_iff.1 hY4).1
    have hY5 := (Below.heap_alloc wc (.cells ({ Nd.zero with kind := 7, glue := bl, sub := 2 } : Nd).arr 25) _ lY).trans hY4
    have hltc := hN4.lt hpos
    have xh5 : (wc.alloc (.cells ({ Nd.zero with kind := 7, glue := bl, sub := 2 } : Nd).arr 25)).cell? ⟨b, off + 4, none⟩ = some (.int .i64 x0.h) := by rw [World.cell?_of_block (Below.heap_alloc _ _ _ hltc)]; exact xh
    go_upto_region 12 with (fail)
    have hXY : w.heap.size + 1 < wc.heap.size := lY
    have hbX : b < wc.heap.size := hltc
    have hN5 := H.out.below hb5
    clear hN4 hY4 hZ4 aZ hbw4 xh lY hltc
    generalize wc.alloc (.cells ({ Nd.zero with kind := 7, glue := bl, sub := 2 } : Nd).arr 25) = w5 at hX hb5 hY5 xh5 hN5 ⊢
    generalize wc.heap.size = X at hX hXY hbX ⊢
    have cn : w5.cell? ⟨X, 7, none⟩ = some (.int .i64 bl.nat) := by rw [cell?_blk' hX]; rfl
    have cf : w5.frozen? ⟨X, 7, none⟩ = false := by simp [World.frozen?, hX]
    have Hb5 := Lib.hid hb5
    have HX := Lib.hid hX
    have HY := Lib.hid hY5
    clear hb5 hX hY5 hN5
    go_region
    have HX6 := Lib.hid (show (w5.setCell ⟨X, 7, none⟩ (.int .i64 (bl.nat - (before + x0.h)))).drew.heap[X]? = some (.cells ({ Nd.zero with kind := 7, glue := { bl with nat := bl.nat - (before + x0.h) }, sub := 2 } : Nd).arr 25 (0, 0)) from heap_setNat HX.out _)
    have hY6 : (w5.setCell ⟨X, 7, none⟩ (.int .i64 (bl.nat - (before + x0.h)))).drew.heap[w.heap.size + 1]? = some (.cells ln.arr 23 (0, 0)) := (Below.heap_setCell _ _ _ _ (by simp only; omega)).trans HY.out
    have Hb6 := Lib.hid (show Below w.heap.size w (w5.setCell ⟨X, 7, none⟩ (.int .i64 (bl.nat - (before + x0.h)))).drew from (Hb5.out.setCell (p := ⟨X, 7, none⟩) (by simp only; omega) _).drew)
    generalize (w5.setCell ⟨X, 7, none⟩ (.int .i64 (bl.nat - (before + x0.h)))).drew = w6 at HX6 hY6 Hb6 ⊢
    have c7 : w6.cell? ⟨X, 7, none⟩ = some (.int .i64 (bl.nat - (before + x0.h))) := by rw [cell?_blk' HX6.out]; rfl
    have aY6 := agg_gl hY6
    clear cn cf HX HY Hb5 xh5
    go_upto_if 85 with (go_at_call 48; refine (HD3.out _).mono ?_; rintro e w' ⟨rfl, rfl⟩)
    go_cut [] (fun wx => wx.heap[X]? = some (.cells (skipN bl ln (bl.nat - (before + x0.h)) limit).arr 25 (0, 0)) ∧ Below w.heap.size w wx)
    case first =>
      by_cases hlim : bl.nat - (before + x0.h) < limit
      · have hsk : skipN bl ln (bl.nat - (before + x0.h)) limit = { Nd.zero with kind := 7, glue := ln, sub := 1 } := by unfold skipN; rw [if_pos hlim]
        have Hsk := Lib.hid hsk
        have hth := there_blk HX6.out 7 5 (by simp [Nd.size_arr])
        have hX7 := heap_setGlue HX6.out ln
        have cf := show (setAgg w6 X 7 ln.arr).frozen? ⟨X, 17, none⟩ = false by simp [World.frozen?, hX7]
        have c17 : (setAgg w6 X 7 ln.arr).cell? ⟨X, 17, none⟩ = some (.int .i64 2) := by rw [cell?_blk' hX7]; rfl
        have HX7 := Lib.hid hX7
        clear hsk hX7
        go_wp2_with fail
        go_meet
        exact ⟨by rw [Hsk.out]; exact heap_setSub HX7.out 1, (Below.setAgg Hb6.out (by omega) _ _).setCell (p := ⟨X, 17, none⟩) (by simp only; omega) _⟩
      · have hlim' : limit ≤ bl.nat - (before + x0.h) := by omega
        have hsk : skipN bl ln (bl.nat - (before + x0.h)) limit = { Nd.zero with kind := 7, glue := { bl with nat := bl.nat - (before + x0.h) }, sub := 2 } := by unfold skipN; rw [if_neg hlim]
        go_wp2_with fail
        go_meet
        exact ⟨by rw [hsk]; exact HX6.out, Hb6.out⟩
    case rest =>
      obtain ⟨hX8, hb8⟩ := hcut
      clear hY6 aY6 c7 HX6 Hb6 HD3 hn1 hn2 hx1 hx2 hb1 hb2
      obtain ⟨sk, hsk⟩ : ∃ sk, skipN bl ln (bl.nat - (before + x0.h)) limit = sk := ⟨_, rfl⟩
      rw [hsk] at hX8
      have Hsk := Lib.hid hsk
      clear hsk
      have aX := agg_nd hX8
      have lX := (Array.getElem?_eq_some_iff.1 hX8).1
      have hN8 := H.out.below hb8
      have xd : wc.cell? ⟨b, off + 5, none⟩ = some (.int .i64 x0.d) := by have := agg_cell (hN8.nd 0 hpos) 5 (.int .i64 x0.d) (by rw [Hx0.out]; rfl); simpa using this
      have hltc := hN8.lt hpos
      obtain ⟨i0, hi0', hz0, hz1, hz2⟩ := info_parts info_node
      have hone : Hid (∀ u ∈ sk.cells, u.oneCell' = true) := Lib.hid (by have := Nd.one sk; simpa [Nd.arr] using this)
      have hsz := hb8.size
      have Hb8 := Lib.hid hb8
      clear hb8 hX8 hN8
      go_upto_region 18 with (at_builtin; refine wpList_append_lies _ rfl _ _ _ rfl w.heap.size 25 i0 (.agg Nd.zero.arr) 19 160 Try.underlying26 hi0' hz0 hz1 hz2 rfl (by decide) (.slice none 0 0) 0 [] rfl (World.ownsRow_nil _ _ _ _) ⟨wc.heap.size, 0, none⟩ 1 1 sk.cells rfl rfl (World.news_of_block (cs := sk.arr) (heap_alloc_new _ _)) hone.out (by decide) (by decide) (by decide) (by simp; omega) _ rfl ?_; intro g8 cap8 w8 hown8 hgrow8 hat8 hlt8)
      have hb9 := Below.grown (Hb8.out.alloc hsz _) hgrow8 (by simp; omega) (fun k hk => by cases hk)
      have xd8 : w8.cell? ⟨b, off + 5, none⟩ = some (.int .i64 x0.d) := by
        rw [World.cell?_of_block (hgrow8.block b (by simp; omega) (fun e => by cases e)), World.cell?_of_block (Below.heap_alloc _ _ _ hltc)]; exact xd
      have Hb9 := Lib.hid hb9
      have Hown := Lib.hid hown8
      have HN9 := Lib.hid (H.out.below hb9)
      have hg8 : w.heap.size ≤ g8 := by have := (hown8.lt g8 rfl).1; omega
      have hbg8 : b ≠ g8 := by omega
      clear hb9 hown8 hgrow8 hat8 xd aX lX Hb8 hltc hsz
      have hblt8 : b < w8.heap.size := HN9.out.lt hpos
      have hnews : Hid (∀ j u, (L.flatMap Nd.cells)[j]? = some u → w8.cell? ((⟨b, off, none⟩ : Addr).add j) = some u) := Lib.hid HN9.out.news
      have honeL : Hid (∀ u ∈ L.flatMap Nd.cells, u.oneCell' = true) := Lib.hid (nodes_one L)
      have hsz8 : w.heap.size ≤ w8.heap.size := Hb9.out.size
      have Hfar : Hid (∀ W w9 : World, W.grownBy w9 (Value.slice (some ⟨g8, 0, none⟩) 1 cap8).ownBlock → W.heap = w8.heap → w9.cell? ⟨b, off + 5, none⟩ = some (.int .i64 x0.d)) := Lib.hid fun W w9 hg e => by
        rw [World.cell?_of_block (hg.block b (by rw [e]; exact hblt8) (fun e2 => by simp only [Value.ownBlock, Option.some.injEq] at e2; exact hbg8 e2)), ← xd8]
        exact World.cell?_of_block (by rw [e])
      clear HN9
      go_region_held3 (fun w' => w'.cell? ⟨b, off + 5, none⟩ = some (.int .i64 x0.d))
        (first | (simp [*]; done) | exact Hfar.out _ _ hgrow9 rfl)
        ((refine step_append_lies _ (by rfl) _ _ _ (by rfl) w.heap.size 25 i0 (.agg Nd.zero.arr) 19 160 Try.underlying26 hi0' hz0 hz1 hz2 (by rfl) (by decide) (.slice (some ⟨g8, 0, none⟩) 1 cap8) 1 ([] ++ sk.cells) (by rfl) Hown.out ⟨b, off, none⟩ L.length cap (L.flatMap Nd.cells) (by rfl) (flat_len L) hnews.out honeL.out hpos (by unfold maxLen; omega) (by omega) hsz8 _ rfl ?_; intro g9 cap9 w9 hown9 hgrow9 hat9 hlt9))
      go_wp2_with fail
      go_ret3
      have hrow : w9.ownsRow w.heap.size 25 19 (.slice (some ⟨g9, 0, none⟩) (1 + L.length) cap9) (1 + L.length) ((sk :: L).flatMap Nd.cells) := by rw [List.flatMap_cons]; exact hown9
      obtain ⟨_, p, g, c, hv, hN, _⟩ := row_nodes hrow (by simp; omega)
      refine ⟨⟨p, g, c, ?_, by rw [Hsk.out]; exact hN⟩, Below.grown Hb9.out.drew hgrow9 hsz8 (fun k hk => by simp only [Value.ownBlock, Option.some.injEq] at hk; omega)⟩
      rw [List.length_cons] at hv
      rw [← hv]
      rfl
end Go.Proofs.Ytkkdopfdoommnaa
namespace Go.Proofs.Ytkkdopfdoommnaa
open Go.ChangeShapes Go.WideShapes Go.ChangeAt Go.RowKit
attribute [local go_sem ↓] Go.wp_at_zero Go.wp_at_succ

@[go_sem] theorem run_bdNd_box (k h d : Int) (w : World) : (bdNd #[(0, .int .i64 k), (4, .int .i64 h), (5, .int .i64 d)]).run Try.prog w = .ok (.agg ({ Nd.zero with kind := k, h := h, d := d } : Nd).arr) w := by kernel_rfl
def boxN (k h d : Int) : Nd := { Nd.zero with kind := k, h := h, d := d }
def endN : Nd := { Nd.zero with kind := 6 }
theorem box_any (w : World) : Calls Try.prog 52 #[] w fun e w' => ∃ g, e = .returned (.slice (some ⟨g, 0, none⟩) 2 2) ∧ NIn w' (some ⟨g, 0, none⟩) g 0 2 [boxN 4 458752 131072, endN] ∧ Below w.heap.size w w' := by
  go_enter Try.func52, Try.ntmps52
  go_wp2_with fail
  go_ret
  exact ⟨_, rfl, nodes_two (n := boxN 4 458752 131072) (m := endN) (heap_alloc_new _ _), (Below.refl _ _).alloc (Nat.le_refl _) _⟩
theorem box_list {k h d : Int} (hk : k = 4 ∨ k = 5) (h1 : dimenB h = true) (h2 : dimenB d = true) : checkC [boxN k h d, endN] = 0 ∧ behC [boxN k h d, endN] 0 = some 2 := by
  have hr : rightB (boxN k h d) = true := by
    have h0 : dimenB 0 = true := by decide
    rcases hk with rfl | rfl
    · simp [rightB, boxN, Nd.zero, withinB, goodN, boxB, dims4, h1, h2, h0, eqNd, restN]
    · simp [rightB, boxN, Nd.zero, withinB, goodN, boxB, dims4, h1, h2, h0, eqNd, restN]
  have he : rightB endN = true := by decide
  have h6 : endN.kind = 6 := rfl
  rcases hk with rfl | rfl
  · have h4 : (boxN 4 h d).kind = 4 := rfl
    refine ⟨?_, ?_⟩
    · unfold checkC
      rw [if_neg (by simp)]
      simp only [runC, hr, he, if_true, h4, h6]
      rfl
    · simp only [behC, behN, h4, h6]; rfl
  · have h4 : (boxN 5 h d).kind = 5 := rfl
    refine ⟨?_, ?_⟩
    · unfold checkC
      rw [if_neg (by simp)]
      simp only [runC, hr, he, if_true, h4, h6]
      rfl
    · simp only [behC, behN, h4, h6]; rfl
def bdGl (parts : Array (Nat × Value)) : Sem Value := Instr.build 23 parts
@[go_sem ↓] theorem execOp_buildGl (ρ : Operand → Value) (dst : Option Tmp) (x : Array (Nat × Operand)) (ty : TypeId) (pos : String) (after : Array Edge) (guard : Option (Nat × Bool)) :
    execOp ρ { dst, op := .build 23 x, type := ty, pos, after, guard } = (do pure (.value (← bdGl (x.map fun (i, y) => (i, ρ y))))) := rfl
@[go_sem] theorem run_bdGl_1 (k : Int) (w : World) : (bdGl #[(0, .int .i64 k)]).run Try.prog w = .ok (.agg (Gl.mk k 0 0 0 0).arr) w := by kernel_rfl
@[go_sem] theorem run_bdGl_2 (k s : Int) (w : World) : (bdGl #[(0, .int .i64 k), (1, .int .i64 s)]).run Try.prog w = .ok (.agg (Gl.mk k s 0 0 0).arr) w := by kernel_rfl
theorem pt_12 (w : World) : Calls Try.prog 53 #[.int .i64 12] w fun e w' => e = .returned (.agg (Gl.mk 786432 0 0 0 0).arr) ∧ Below w.heap.size w w' := by
  go_enter Try.func53, Try.ntmps53
  go_wp2_with fail
  exact ret_gl rfl w.heap.size 0 (Gl.mk 786432 0 0 0 0) rfl (agg?_gl _ _ _ _ _ rfl) rfl ⟨rfl, (Below.refl _ _).alloc (Nat.le_refl _) _⟩
theorem pt_1 (w : World) : Calls Try.prog 53 #[.int .i64 1] w fun e w' => e = .returned (.agg (Gl.mk 65536 0 0 0 0).arr) ∧ Below w.heap.size w w' := by
  go_enter Try.func53, Try.ntmps53
  go_wp2_with fail
  exact ret_gl rfl w.heap.size 0 (Gl.mk 65536 0 0 0 0) rfl (agg?_gl _ _ _ _ _ rfl) rfl ⟨rfl, (Below.refl _ _).alloc (Nat.le_refl _) _⟩
set_option maxRecDepth 100000 in
set_option maxHeartbeats 4000000 in
theorem knows_any (w : World) : Calls Try.prog 15 #[] w fun e w' => e = .returned (.bool true) ∧ Below w.heap.size w w' := by
  go_enter Try.func15, Try.ntmps15
  go_wp2_with fail
  refine (box_any w).mono ?_
  rintro e w1 ⟨g, rfl, hN1, hb1⟩
  go_wp2_with fail
  refine (pt_12 _).mono ?_
  rintro e w2 ⟨rfl, hb2⟩
  go_wp2_with fail
  refine (pt_1 _).mono ?_
  rintro e w3 ⟨rfl, hb3⟩
  have hb13 := hb2.trans (hb3.mono hb2.size)
  have hN3 := hN1.below hb13
  have hb := hb1.trans (hb13.mono hb1.size)
  obtain ⟨l1, l2⟩ := box_list (k := 4) (h := 458752) (d := 131072) (.inl rfl) (by decide) (by decide)
  have HA := Lib.hid (append_good 131072 0 _ g 0 2 [boxN 4 458752 131072, endN] (Gl.mk 786432 0 0 0 0) (Gl.mk 65536 0 0 0 0) (boxN 4 458752 131072) w3 hN3 (by decide) (by decide) (by decide) (by decide) l1 (by simp) rfl (.inl rfl) l2 (by simp) (by decide) (by decide) (by decide))
  clear hN1 hb1 hb2 hb3 hb13 hN3 l1 l2
  go_wp2_with fail
  refine HA.out.mono ?_
  clear HA
  rintro e w4 ⟨⟨p, g4, c, rfl, hN4⟩, hb4⟩
  have hbw := hb.trans (hb4.mono hb.size)
  obtain rfl := hN4.at_ (j := 0) (by simp)
  have x1 : w4.cell? ⟨g4, 7, none⟩ = some (.int .i64 196608) := by have := agg_cell (hN4.nd 0 (by simp)) 7 (.int .i64 196608) (by rfl); simpa using this
  have hcap := hN4.cap'
  clear hN4 hb hb4
  go_wp2_with (go_at_call 14; refine (num11_any _ _).mono ?_; rintro e w' ⟨rfl, rfl⟩)
  go_ret
  exact ⟨rfl, hbw⟩
end Go.Proofs.Ytkkdopfdoommnaa
