/-
  The document's side: Pruned: the walk.
-/
import Derived.Test.YtomehdepjenilaaGreatV10
namespace Go.Proofs.YtomehdepjenilaaGreat
open Go.ChangeShapes Go.WideShapes Go.ChangeAt Go.RowKit
attribute [local go_sem ↓] Go.wp_at_zero Go.wp_at_succ

theorem solid_h {n : Nd} (h : rightB n = true) (hk : solidK n.kind = true) : -1073741823 ≤ n.h ∧ n.h ≤ 1073741823 := by
  unfold rightB at h
  simp only [Bool.and_eq_true] at h
  have hg := h.1.2
  have hk' : n.kind = 4 ∨ n.kind = 5 ∨ n.kind = 3 := by simp [solidK] at hk; omega
  have hd : dimenB n.h = true := by
    rcases hk' with e | e | e
    · rw [e] at hg
      have : boxB n = true := hg
      simp [boxB, dims4] at this
      exact this.1.1.1.2
    · rw [e] at hg
      have : boxB n = true := hg
      simp [boxB, dims4] at this
      exact this.1.1.1.2
    · rw [e] at hg
      have : ruleB n = true := hg
      simp [ruleB, dims3] at this
      exact this.1.1.2.1.2
  simpa [dimenB] using hd
theorem top_if (a h : Int) : (if (if h < a then a - h else 0) < 1073741823 then if h < a then a - h else 0 else 1073741823) = min 1073741823 (max 0 (a - h)) := by
  split <;> split at * <;> omega
def NRow (w : World) (v : Value) (R : List Nd) (w' : World) : Prop := w'.ownsRow w.heap.size 49 19 v R.length (R.flatMap Nd.cells)
set_option maxRecDepth 100000 in
set_option maxHeartbeats 16000000 in
theorem qpruned (p0 : Option Addr) (b off cap : Nat) (L : List Nd) (s : List Nat) (g : Gl) (hs : Items L 0 s) (hk : ∀ x ∈ s, (nth L x).kind ≠ 6) (hr : ∀ x ∈ L, rightB x = true) (hlen : L.length ≤ 2000) (hg : g.good = true) (w : World) (hN : NIn w p0 b off cap L) :
    Calls Tryz.prog 18 #[.slice p0 L.length cap, .agg g.arr] w fun e w' => (∃ v, e = .returned v ∧ NRow w v (prunF L g s []) w') ∧ Below w.heap.size w w' := by
  have hgn : -1073741823 ≤ g.nat ∧ g.nat ≤ 1073741823 := by simp [Gl.good, dimenB] at hg; omega
  obtain ⟨R, hR⟩ : ∃ R, prunF L g s [] = R := ⟨_, rfl⟩
  have HR := Lib.hid hR
  rw [hR]
  have H := Lib.hid hN
  have HS := Lib.hid hs
  have HK := Lib.hid hk
  have Hr := Lib.hid hr
  have Hgn := Lib.hid hgn
  have d0 := heap_alloc_new w (.cells g.arr 23)
  have hb0 : Below w.heap.size w (w.alloc (.cells g.arr 23)) := (Below.refl _ _).alloc (Nat.le_refl _) _
  have HSt : Hid (∀ W, Below w.heap.size w W → Calls Tryz.prog 35 #[.slice p0 L.length cap] W fun e w' => (∃ v, e = .returned v ∧ IRow W v s w') ∧ Below W.heap.size W w') := Lib.hid fun W hb => qstarts p0 b off cap L s W (hN.below hb) hs hk
  clear hN hs hk hr hgn hg hR
  go_enter Tryz.func18, Tryz.ntmps18
  go_upto_region 2 with (fail)
  generalize w.alloc (.cells g.arr 23) = w1 at d0 hb0 ⊢
  go_wp2_with fail
  refine (HSt.out _ hb0).mono ?_
  clear HSt
  rintro e w2 ⟨⟨v, rfl, hrow⟩, hb2⟩
  have d2 := (hb2.block w.heap.size (Array.getElem?_eq_some_iff.1 d0).1).trans d0
  obtain ⟨p, gi, c, rfl, hII⟩ := irow_seen hrow
  have hbw := hb0.trans (hb2.mono hb0.size)
  have hZ := (Array.getElem?_eq_some_iff.1 d2).1
  have hsl := HS.out.len
  clear d0 hb0 hb2 hrow
  go_wp2_with fail
  go_loopg [5, 7] (s.length + 1) (fun gg t5 t7 wr => ∃ (i k : Nat) (out : List Nd), gg = s.length + 1 - i ∧ i ≤ s.length ∧ t7 = .int .i64 i ∧ prunF L g (s.drop i) out = R ∧ Items L k (s.drop i) ∧ out.length ≤ k ∧ wr.ownsRow w2.heap.size 49 19 t5 out.length (out.flatMap Nd.cells) ∧ Below w2.heap.size w2 wr)
  case atStart => exact ⟨0, 0, [], rfl, Nat.zero_le _, rfl, by rw [List.drop_zero]; exact HR.out, by rw [List.drop_zero]; exact HS.out, Nat.le_refl _, World.ownsRow_nil _ _ _ _, .refl _ _⟩
  case round =>
    clear HR
    obtain ⟨i, k, out, rfl, hi, rfl, hrun, hit, hok, hown, hbl⟩ := hrel
    have hi1 : (0 : Int) ≤ (i : Int) := by omega
    by_cases hin : i < s.length
    · have hi2 : (i : Int) < (s.length : Int) := by omega
      have hIr := hII.below hbl
      have cI := hIr.at_ i hin
      have hne : s ≠ [] := by intro e; rw [e] at hin; simp at hin
      obtain rfl := hII.hp hne
      have hgi := hII.hg hne
      have hdr := List.drop_eq_getElem_cons hin
      rw [hdr] at hrun hit
      have hmem : s[i] ∈ s := List.getElem_mem hin
      obtain ⟨x, hx⟩ : ∃ x, s[i] = x := ⟨_, rfl⟩
      rw [hx] at cI hrun hit hmem
      have Hx := Lib.hid (show s[i]? = some x by rw [List.getElem?_eq_getElem hin, hx])
      clear hx hdr
      cases hit with
      | step hxl hm hs2 =>
        rename_i m
        have hN2 := H.out.below (hbw.trans (hbl.mono hbw.size))
        have xa := hN2.nth hxl
        obtain rfl := hN2.at_ hxl
        have hblt := hN2.lt hxl
        have hx1 : (0 : Int) ≤ (k : Int) := by omega
        have hx2 : (k : Int) < (L.length : Int) := by omega
        obtain ⟨n, hn⟩ : ∃ n, nth L k = n := ⟨_, rfl⟩
        have hrn : rightB n = true := Hr.out n (by rw [← hn, nth_get hxl]; exact List.getElem_mem _)
        rw [hn] at xa
        have Hn := Lib.hid hn
        have Hin := Lib.hid hin
        have Hm := Lib.hid hm
        have HS2 := Lib.hid hs2
        have Hrun := Lib.hid hrun
        have Hmem := Lib.hid hmem
        have Hrn := Lib.hid hrn
        have hm2 := behC_pos _ _ _ hm
        rw [List.length_drop] at hm2
        have dX : (wr.alloc (.cells n.arr 49)).heap[wr.heap.size]? = some (.cells n.arr 49 (0, 0)) := heap_alloc_new _ _
        have hcapL := hN2.cap'
        clear hn hin hm hs2 hrun hmem hrn hIr
        go_upto_region 7 with (fail)
        have ax := agg_nd dX
        have hb4 : Below w2.heap.size w2 (wr.alloc (.cells n.arr 49)) := hbl.alloc hbl.size _
        have hown4 := hown.alloc (.cells n.arr 49)
        have hwX : w2.heap.size ≤ wr.heap.size := hbl.size
        have HSo := Lib.hid (qsolid n (wr.alloc (.cells n.arr 49)))
        clear hown hbl xa hN2
        generalize wr.heap.size = X at dX ax hwX ⊢
        generalize wr.alloc (.cells n.arr 49) = w4 at dX ax hb4 hown4 HSo ⊢
        go_wp2_with fail
        refine HSo.out.mono ?_
        clear HSo
        rintro e w5 ⟨rfl, hb5⟩
        have dX5 := (hb5.block X (Array.getElem?_eq_some_iff.1 dX).1).trans dX
        have hown5 := ownsRow_below hown4 hb5
        have hbl5 := hb4.trans (hb5.mono hb4.size)
        clear dX ax hown4 hb4 hb5 cI
        have d5 := (hbl5.block w.heap.size hZ).trans d2
        have hbw5 := hbw.trans (hbl5.mono hbw.size)
        have hN5 := H.out.below hbw5
        cases hsol : solidK n.kind
        · have Hsol := Lib.hid hsol
          have ax := agg_nd dX5
          have HF := Lib.hid (qfalls n w5)
          clear hsol
          cases hfal : fallsK n.kind
          · have hrun2 : prunF L g (s.drop (i + 1)) (out ++ itemN L k) = R := by
              have := Hrun.out
              unfold prunF at this
              rw [Hn.out, Hsol.out, hfal] at this
              exact this
            have Hrun2 := Lib.hid hrun2
            rw [hfal] at HF
            clear hfal hrun2
            go_wp2_with fail
            refine HF.out.mono ?_
            clear HF
            rintro e w6 ⟨rfl, hb6⟩
            have hown6 := ownsRow_below hown5 hb6
            have hbl6 := hbl5.trans (hb6.mono hbl5.size)
            have hbw6 := hbw.trans (hbl6.mono hbw.size)
            have hN6 := H.out.below hbw6
            have cI6 : w6.cell? ⟨gi, i, none⟩ = some (.int .i64 (k : Int)) := by
              have h1 := (hII.below hbl6).at_ i Hin.out
              have h2 := Hx.out
              rw [List.getElem?_eq_getElem Hin.out] at h2
              rw [Option.some.inj h2] at h1
              exact h1
            have HE := Lib.hid (qends (some ⟨b, off, none⟩) b off cap L k m w6.drew hN6.drew Hm.out (HK.out k Hmem.out))
            have hown6d : w6.drew.ownsRow w2.heap.size 49 19 u5 out.length (out.flatMap Nd.cells) := ownsRow_same hown6 fun _ _ _ => rfl
            have hbl6d := hbl6.drew
            have HSn : Hid (∀ W, Below w2.heap.size w2 W → Below w2.heap.size w2 W ∧ W.cell? ⟨gi, i, none⟩ = some (.int .i64 (k : Int))) := Lib.hid fun W h => ⟨h, ((h.cell (p := ⟨gi, i, none⟩) hgi).trans (hbl6.cell (p := ⟨gi, i, none⟩) hgi).symm).trans cI6⟩
            have HT : Hid (∀ w8, Below w6.drew.heap.size w6.drew w8 → Below w2.heap.size w2 w8) := Lib.hid fun w8 h => hbl6d.trans (h.mono hbl6d.size)
            have HG : Hid (∀ w8 w9, Below w6.drew.heap.size w6.drew w8 → w8.grownBy w9 u5.ownBlock → Below w2.heap.size w2 w9) := Lib.hid fun w8 w9 h hg => Below.grown (HT.out _ h) hg (HT.out _ h).size (fun q hq => (hown6d.lt q hq).1)
            have hil : (itemN L k).length = m := by unfold itemN; rw [Hm.out]; simp; omega
            have Hnews : Hid (∀ w8, Below w6.drew.heap.size w6.drew w8 → ∀ j u, ((itemN L k).flatMap Nd.cells)[j]? = some u → w8.cell? ((⟨b, off + k * 19, none⟩ : Addr).add j) = some u) := Lib.hid fun w8 h => (((hN6.drew.below h).drop k (Nat.le_of_lt hxl)).take _).news
            have Hone := Lib.hid (nodes_one (itemN L k))
            have Hil := Lib.hid hil
            obtain ⟨i0, hi0', hz0, hz1, hz2⟩ := info_parts info_node
            have hsz6 : w2.heap.size ≤ w6.heap.size := hbl6.size
            obtain ⟨q, hq⟩ : ∃ q, k + m = q := ⟨_, rfl⟩
            rw [hq] at HE
            have hkm1 : (k : Int) ≤ (q : Int) := by omega
            have hkm2 : (q : Int) ≤ (cap : Int) := by omega
            have hkm3 : (0 : Int) ≤ (q : Int) := by omega
            have hkm4 : k ≤ q := by omega
            have hkm5 : ¬ cap = k := by omega
            have hmq : (q - k : Nat) = m := by omega
            clear hq
            clear hil hown5 hown6 hbl5 hbw5 hN5 hb6 hbw6 hN6 dX5 d5 ax
            go_wp2_with fail
            go_region_held3 (fun w' => Below w2.heap.size w2 w' ∧ w'.cell? ⟨gi, i, none⟩ = some (.int .i64 (k : Int)))
              (first | exact HSn.out _ hbl6d | exact HSn.out _ (HT.out _ hb8) | exact HSn.out _ (HG.out _ _ hb8 hgrow9))
              ((first | ((with_reducible refine HE.out.mono ?_); rintro e w8 ⟨rfl, hb8⟩) | (refine step_append_lies _ (by rfl) _ _ _ (by rfl) w2.heap.size 49 i0 (.agg Nd.zero.arr) 19 160 Tryz.underlying27 hi0' hz0 hz1 hz2 (by rfl) (by decide) u5 out.length (out.flatMap Nd.cells) (by rfl) (ownsRow_below hown6d hb8) ⟨b, off + k * 19, none⟩ m (cap - k) ((itemN L k).flatMap Nd.cells) (by rfl) (by rw [flat_len, Hil.out]) (Hnews.out _ hb8) Hone.out hm2.1 (by unfold maxLen; omega) (by omega) (HT.out _ hb8).size _ rfl ?_; intro g9 cap9 w9 hown9 hgrow9 hat9 hlt9)))
            go_wp2_with fail
            go_roundg (s.length + 1 - (i + 1))
            case measure => have := Hin.out; omega
            case rel => exact ⟨i + 1, k + m, out ++ itemN L k, rfl, Hin.out, by go_num, Hrun2.out, HS2.out, by rw [List.length_append, Hil.out]; omega, by rw [List.length_append, Hil.out, List.flatMap_append]; exact hown9, HG.out _ _ hb8 hgrow9⟩
          · have hrun2 : prunF L g (s.drop (i + 1)) out = R := by
              have := Hrun.out
              unfold prunF at this
              rw [Hn.out, Hsol.out, hfal] at this
              exact this
            have Hrun2 := Lib.hid hrun2
            rw [hfal] at HF
            clear hfal hrun2
            go_wp2_with fail
            refine HF.out.mono ?_
            clear HF
            rintro e w6 ⟨rfl, hb6⟩
            go_wp2_with fail
            go_roundg (s.length + 1 - (i + 1))
            case measure => have := Hin.out; omega
            case rel => exact ⟨i + 1, k + m, out, rfl, Hin.out, by go_num, Hrun2.out, HS2.out, by omega, ownsRow_below hown5 hb6, hbl5.trans (hb6.mono hbl5.size)⟩
        · have hrun2 : R = out ++ topN g n.h :: L.drop k := by
            have := Hrun.out
            unfold prunF at this
            rw [Hn.out, hsol] at this
            exact this.symm
          have Hrun2 := Lib.hid hrun2
          obtain ⟨hh1, hh2⟩ := solid_h Hrn.out hsol
          obtain ⟨hg1, hg2⟩ := Hgn.out
          clear hrun2 hsol
          have hX2 : w.heap.size < w5.heap.size := (Array.getElem?_eq_some_iff.1 d5).1
          have a5 : agg? w5 w.heap.size 0 5 = some g.arr := by rw [agg?_blk' d5 0 5 (by simp [Gl.size_arr])]; simp [Gl.arr, Gl.cells]
          have n5 : w5.cell? ⟨w.heap.size, 0, none⟩ = some (.int .i64 g.nat) := by rw [cell?_blk' d5]; rfl
          have h5 : w5.cell? ⟨X, 4, none⟩ = some (.int .i64 n.h) := by rw [cell?_blk' dX5]; rfl
          have hXl := (Array.getElem?_eq_some_iff.1 dX5).1
          have Hown5 := Lib.hid hown5
          have Hbl5 := Lib.hid hbl5
          have hte := top_if g.nat n.h
          have Hte := Lib.hid hte
          clear hown5 hbl5 hbw5 hN5 dX5 d5 hte
          go_upto_region 10 with (fail)
          rw [Hte.out]
          generalize (if n.h < g.nat then g.nat - n.h else 0) = q33
          have dG := heap_alloc_new w5 (.cells ({ g with nat := topNat g n.h } : Gl).arr 23)
          have hbl6 := Hbl5.out.alloc Hbl5.out.size (.cells ({ g with nat := topNat g n.h } : Gl).arr 23)
          have hown6 := Hown5.out.alloc (.cells ({ g with nat := topNat g n.h } : Gl).arr 23)
          have aG : agg? (w5.alloc (.cells ({ g with nat := topNat g n.h } : Gl).arr 23)) w5.heap.size 0 5 = some ({ g with nat := topNat g n.h } : Gl).arr := by rw [agg?_blk' dG 0 5 (by simp [Gl.size_arr])]; simp [Gl.arr, Gl.cells]
          change Code.wp _ _ _ _ (w5.alloc (.cells ({ g with nat := topNat g n.h } : Gl).arr 23))
          have hG5 : w2.heap.size ≤ w5.heap.size := Hbl5.out.size
          clear dG Hbl5 Hown5 Hte
          obtain ⟨tg, htg⟩ : ∃ tg : Gl, ({ g with nat := topNat g n.h } : Gl) = tg := ⟨_, rfl⟩
          have Htg := Lib.hid htg
          simp only [htg] at hbl6 hown6 aG ⊢
          clear htg
          have hsz6 : w2.heap.size ≤ (w5.alloc (.cells tg.arr 23)).heap.size := hbl6.size
          generalize w5.alloc (.cells tg.arr 23) = w6 at hbl6 hown6 aG hsz6 ⊢
          obtain ⟨i0, hi0', hz0, hz1, hz2⟩ := info_parts info_node
          have hsk : topN g n.h = { Nd.zero with kind := 7, glue := tg, sub := 10 } := by unfold topN; rw [← Htg.out]
          have Hsk := Lib.hid hsk
          have hone : Hid (∀ u ∈ ({ Nd.zero with kind := 7, glue := tg, sub := 10 } : Nd).cells, u.oneCell' = true) := Lib.hid (by have := Nd.one { Nd.zero with kind := 7, glue := tg, sub := 10 }; simpa [Nd.arr] using this)
          clear hsk
          go_upto_region 11 with (at_builtin; refine wpList_append_lies _ rfl _ _ _ rfl w2.heap.size 49 i0 (.agg Nd.zero.arr) 19 160 Tryz.underlying27 hi0' hz0 hz1 hz2 rfl (by decide) u5 out.length (out.flatMap Nd.cells) rfl (hown6.alloc _) ⟨w6.heap.size, 0, none⟩ 1 1 ({ Nd.zero with kind := 7, glue := tg, sub := 10 } : Nd).cells rfl rfl (World.news_of_block (cs := ({ Nd.zero with kind := 7, glue := tg, sub := 10 } : Nd).arr) (heap_alloc_new _ _)) hone.out (by decide) (by unfold maxLen; omega) (by omega) (by simp; omega) _ rfl ?_; intro g8 cap8 w8 hown8 hgrow8 hat8 hlt8)
          have hb8 := Below.grown (hbl6.alloc hsz6 _) hgrow8 (by simp; omega) (fun q hq => (hown6.lt q hq).1)
          have hbw8 := hbw.trans (hb8.mono hbw.size)
          have hN8 := H.out.below hbw8
          have cI8 : w8.cell? ⟨gi, i, none⟩ = some (.int .i64 (k : Int)) := by
            have h1 := (hII.below hb8).at_ i Hin.out
            have h2 := Hx.out
            rw [List.getElem?_eq_getElem Hin.out] at h2
            rw [Option.some.inj h2] at h1
            exact h1
          have hkc : (k : Int) ≤ (L.length : Int) := by omega
          have hkc2 : (L.length : Int) ≤ (cap : Int) := by omega
          have hdl : (L.drop k).length = L.length - k := by simp
          have Hdl := Lib.hid hdl
          have Hnews := Lib.hid (hN8.drop k (Nat.le_of_lt hxl)).news
          have Hone := Lib.hid (nodes_one (L.drop k))
          clear hown6 hbl6 aG hgrow8 hat8 hN8 hdl
          have hsz8 : w2.heap.size ≤ w8.heap.size := hb8.size
          have hpos : 0 < L.length - k := by omega
          go_wp2_with (at_builtin; refine wpList_append_lies _ rfl _ _ _ rfl w2.heap.size 49 i0 (.agg Nd.zero.arr) 19 160 Tryz.underlying27 hi0' hz0 hz1 hz2 rfl (by decide) (.slice (some ⟨g8, 0, none⟩) (out.length + 1) cap8) (out.length + 1) _ rfl hown8 ⟨b, off + k * 19, none⟩ (L.length - k) (cap - k) ((L.drop k).flatMap Nd.cells) rfl (by rw [flat_len, Hdl.out]) Hnews.out Hone.out hpos (by unfold maxLen; omega) (by omega) hsz8 _ rfl ?_; intro g9 cap9 w9 hown9 hgrow9 hat9 hlt9)
          all_goals go_ret
          all_goals
            refine ⟨⟨_, rfl, ?_⟩, hbw8.trans (Below.grown (Below.refl _ _) hgrow9 hbw8.size (fun q hq => Nat.le_trans hbw.size (hown8.lt q hq).1))⟩
            have hfl : (R.flatMap Nd.cells) = out.flatMap Nd.cells ++ ({ Nd.zero with kind := 7, glue := tg, sub := 10 } : Nd).cells ++ (L.drop k).flatMap Nd.cells := by rw [Hrun2.out, Hsk.out, List.flatMap_append, List.flatMap_cons, List.append_assoc]
            have hRl : R.length = out.length + 1 + (L.length - k) := by rw [Hrun2.out, List.length_append, List.length_cons, Hdl.out]; omega
            unfold NRow
            rw [hfl, hRl]
            exact ownsRow_base hown9 hbw.size
    · have hi2 : (s.length : Int) ≤ (i : Int) := by omega
      have hR2 : out = R := by rw [List.drop_eq_nil_of_le (by omega)] at hrun; exact hrun
      subst hR2
      have Hbl := Lib.hid hbl
      have hown' := ownsRow_base (base' := w.heap.size) hown hbw.size
      clear hrun hit
      go_wp2_with fail
      go_ret
      exact ⟨⟨_, rfl, hown'⟩, hbw.trans (Hbl.out.mono hbw.size)⟩
end Go.Proofs.YtomehdepjenilaaGreat
namespace Go.Proofs.YtomehdepjenilaaGreat
open Go.ChangeShapes Go.WideShapes Go.ChangeAt Go.RowKit
attribute [local go_sem ↓] Go.wp_at_zero Go.wp_at_succ

def prunC (L : List Nd) (s : List Nat) (g : Gl) : Int := if colP L s = 0 then (if topB g then (if 2000 < (prunF L g s []).length then 6 else 0) else 30) else colP L s
end Go.Proofs.YtomehdepjenilaaGreat
