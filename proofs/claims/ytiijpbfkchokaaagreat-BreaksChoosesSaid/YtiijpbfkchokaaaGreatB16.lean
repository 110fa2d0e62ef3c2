/-
  The penalty of a break at an item: the program's.
-/
import Derived.Test.YtiijpbfkchokaaaGreatB13
import Derived.Test.YtiijpbfkchokaaaGreatTame4
import Derived.Sort.AtCall
import Derived.Deep.RegionHeld3
set_option maxRecDepth 100000
set_option maxHeartbeats 8000000
namespace Go.Proofs.YtiijpbfkchokaaaGreat
open Go.ChangeShapes Go.WideShapes Go.ChangeAt Go.RowKit
attribute [local go_sem ↓] Go.wp_at_zero Go.wp_at_succ
def optV : Option Int → Int × Bool
  | none => (0, false)
  | some q => (q, true)
def priceV (L : List Nd) (P : Pm) (IT : List Nat) (i : Nat) : Int × Bool :=
  if IT.getD i 0 = L.length then (-10000, true) else optV (priceN L P (if i = 0 then none else some (IT.getD (i - 1) 0)) (IT.getD i 0) IT[i + 1]?)
theorem cell_below9 {w w' : World} {p : Addr} {v : Value} (h : w.cell? p = some v) (hb : Below w.heap.size w w') : w'.cell? p = some v := by
  have hlt : p.block < w.heap.size := by
    rcases Nat.lt_or_ge p.block w.heap.size with h1 | h1
    · exact h1
    · have e : w.heap[p.block]? = none := Array.getElem?_eq_none h1
      simp [World.cell?, e] at h
  exact (hb.cell hlt).trans h
theorem vprice (X mb B : Nat) (P : Pm) (vs : Nat → Value) (L : List Nd) (b off cap : Nat) (p0 : Option Addr) (s IT : List Nat) (SU : List Tt) (AT PE : List Int) (hc : checkC L = 0) (hs : Items L 0 s) (hIT : IT = s ++ [L.length]) (i : Nat) (hi : i < IT.length) (w : World) (h : ParaL w X mb B P vs L b off cap p0 IT SU AT PE) :
    Calls Tryz.prog 84 #[.pointer (some ⟨X, 0, none⟩), .int .i64 i] w fun e w' => e = .returned (.tuple #[.int .i64 (priceV L P IT i).1, .bool (priceV L P IT i).2]) ∧ Below w.heap.size w w' := by
  have H := Lib.hid h
  have hK : Hid (∀ (j : Nat) (hj : j < IT.length) W, Below w.heap.size w W → Calls Tryz.prog 120 #[.pointer (some ⟨X, 0, none⟩), .int .i64 j] W fun e w' => e = .returned (.int .i64 (kindP L IT[j])) ∧ ∃ n, w' = W.drewN n) := Lib.hid fun j hj W hb => vkind X mb B P vs L b off cap p0 IT SU AT PE j hj W (h.still hb)
  have hKi := Lib.hid (hK.out i hi w (Below.refl _ _))
  have hgi : IT.getD i 0 = IT[i] := by simp [List.getD, List.getElem?_eq_getElem hi]
  have hle := h.le _ (List.getElem_mem hi)
  obtain ⟨x, hx⟩ : ∃ x, IT[i] = x := ⟨_, rfl⟩
  rw [hx] at hgi hle hKi
  have hi1 : (0 : Int) ≤ (i : Int) := by omega
  have hi2 : (i : Int) < (IT.length : Int) := by omega
  by_cases he : x = L.length
  · have HV := Lib.hid (show priceV L P IT i = (-10000, true) from by unfold priceV; rw [hgi, if_pos he])
    have hk0 : kindP L x = 0 := if_pos he
    rw [hk0] at hKi
    clear he hk0 hle hgi hx h
    go_enter Tryz.func84, Tryz.ntmps84
    go_wp2_with (go_at_call 120; refine hKi.out.mono ?_; rintro e w' ⟨rfl, n, rfl⟩)
    go_ret2
    exact ⟨by rw [HV.out]; rfl, below_drewN (Below.refl _ _) _⟩
  · have hlt : x < L.length := by omega
    have hk0 : kindP L x = (nth L x).kind := if_neg he
    have hV : priceV L P IT i = optV (priceN L P (if i = 0 then none else some (IT.getD (i - 1) 0)) x IT[i + 1]?) := by unfold priceV; rw [hgi, if_neg he]
    have hxs : x ∈ s := by
      have : x ∈ IT := by rw [← hx]; exact List.getElem_mem hi
      rw [hIT] at this
      rcases List.mem_append.1 this with h1 | h1
      · exact h1
      · exact absurd (List.mem_singleton.1 h1) he
    have hrn : rightB (nth L x) = true := by rw [nth_get hlt]; exact check_right hc _ (List.getElem_mem _)
    obtain ⟨n, hn⟩ : ∃ n, nth L x = n := ⟨_, rfl⟩
    rw [hn] at hk0 hrn
    rw [hk0] at hKi
    have hkn : (n.kind == 0) = false := by
      unfold rightB at hrn
      simp only [Bool.and_eq_true] at hrn
      have := hrn.1.1
      simp [withinB] at this
      simp; omega
    have hp := h.para
    have hN := h.nodes
    obtain ⟨pi, ci, e0⟩ := owns_form (hp.rows 0 (by decide))
    have hr0 := hp.rows 0 (by decide)
    rw [e0] at hr0
    have hil : i < (ofN IT).length := by simpa [ofN] using hi
    obtain ⟨g, rfl, hk1, hk2, cg⟩ := zin_get9 (l := ofN IT) hr0 hil
    have hgx : (ofN IT)[i] = (x : Int) := by simp [ofN, hx]
    rw [hgx] at cg
    have x0 := hp.cell 0 (.slice p0 L.length cap) rfl
    have x25 := hp.cell 25 (vs 0) rfl
    rw [e0] at x25
    have hnn : pxN IT SU AT PE 0 = IT.length := rfl
    rw [hnn] at x25 hk2
    have xa := hN.nth hlt
    rw [hn] at xa
    obtain rfl := hN.at_ hlt
    have hx1 : (0 : Int) ≤ (x : Int) := by omega
    have hx2 : (x : Int) < (L.length : Int) := by omega
    have HV := Lib.hid hV
    have Hn := Lib.hid hn
    have Hx := Lib.hid hx
    have Hxs := Lib.hid hxs
    have Hrn := Lib.hid hrn
    have HIT := Lib.hid hIT
    clear hV hn hx hxs hrn hIT hr0 e0 hk1 hgx hnn hk0 hgi he h hp hN
    go_enter Tryz.func84, Tryz.ntmps84
    go_upto_region 3 with (go_at_call 120; refine hKi.out.mono ?_; rintro e w' ⟨rfl, nq, rfl⟩)
    have hb2 : Below w.heap.size w (w.drewN nq) := below_drewN (Below.refl _ _) _
    have HF0 : Hid (∀ W, Below w.heap.size w W → W.cell? ⟨X, 0, none⟩ = some (.slice (some ⟨b, off, none⟩) L.length cap) ∧ W.cell? ⟨X, 25, none⟩ = some (.slice (some ⟨g, 0, none⟩) IT.length ci) ∧ W.cell? ⟨g, i, none⟩ = some (.int .i64 x) ∧ agg? W b (off + x * 19) 19 = some n.arr) := Lib.hid fun W hb =>
      ⟨cell_below9 x0 hb, cell_below9 x25 hb, cell_below9 cg hb, by have := (H.out.nodes.below hb).nth hlt; rwa [Hn.out] at this⟩
    have hsz : (w.drewN nq).heap.size = w.heap.size := rfl
    generalize w.drewN nq = w2 at hb2 hsz ⊢
    have HSz := Lib.hid hsz
    obtain ⟨y0, y25, yg, ya⟩ := HF0.out _ hb2.drew
    have hbd := hb2.drew
    clear x0 x25 cg xa hsz hb2
    go_cut [6] from 11 to 27 (fun s6 wx => s6 = .pointer (some ⟨w2.heap.size, 0, none⟩) ∧ wx.heap[w2.heap.size]? = some (.cells n.arr 69 (0, 0)) ∧ Below w.heap.size w wx)
    case first =>
      go_region_held3 (fun W => W.cell? ⟨X, 0, none⟩ = some (.slice (some ⟨b, off, none⟩) L.length cap) ∧ W.cell? ⟨X, 25, none⟩ = some (.slice (some ⟨g, 0, none⟩) IT.length ci) ∧ W.cell? ⟨g, i, none⟩ = some (.int .i64 x) ∧ agg? W b (off + x * 19) 19 = some n.arr)
        (first | exact HF0.out _ hbd | exact HF0.out _ (hbd.alloc hbd.size _)) (fail)
      go_wp2_with fail
      go_meet
      exact ⟨rfl, heap_alloc_new w2.drew _, hbd.alloc hbd.size _⟩
    case rest =>
      obtain ⟨rfl, dZ, hbw⟩ := hcut
      have hZ : w.heap.size ≤ w2.heap.size := Nat.le_of_eq HSz.out.symm
      generalize w2.heap.size = Z at dZ hZ ⊢
      have z0 : wc.cell? ⟨Z, 0, none⟩ = some (.int .i64 n.kind) := by rw [cell?_blk' dZ]; rfl
      have z16 : wc.cell? ⟨Z, 16, none⟩ = some (.int .i64 n.pen) := by rw [cell?_blk' dZ]; rfl
      have z17 : wc.cell? ⟨Z, 17, none⟩ = some (.int .i64 n.sub) := by rw [cell?_blk' dZ]; rfl
      have HPr : Hid (∀ nx pr, priceN L P pr x nx = (if n.kind = 7 then (match pr with | none => none | some y => if fallsR (nth L y).kind then none else some 0) else if n.kind = 8 then (if n.sub = 1 ∧ (match nx with | none => false | some y => (nth L y).kind == 7) = true then some 0 else none) else if n.kind = 16 then (if (match nx with | none => false | some y => (nth L y).kind == 7) = true then some 0 else none) else if n.kind = 9 then some n.pen else if n.kind = 10 then some (if (threeP L x).1 = [] then P.exhyp else P.hyp) else none)) := Lib.hid fun nx pr => by rw [← Hn.out]; rfl
      have hnx : i + 1 < IT.length := by
        have h1 : IT.length = s.length + 1 := by rw [HIT.out]; simp
        rcases Nat.lt_or_ge (i + 1) IT.length with h2 | h2
        · exact h2
        · exfalso
          have h3 : i = s.length := by omega
          have h4 := Hx.out
          subst h3
          have h5 : IT[s.length]? = some L.length := by rw [HIT.out]; simp
          rw [List.getElem?_eq_getElem hi, h4] at h5
          have := Option.some.inj h5
          omega
      obtain ⟨y, hy⟩ : ∃ y, IT[i + 1] = y := ⟨_, rfl⟩
      have hyo : Hid (IT[i + 1]? = some y) := Lib.hid (by rw [List.getElem?_eq_getElem hnx, hy])
      have HKn : Hid (∀ W, Below w.heap.size w W → Calls Tryz.prog 120 #[.pointer (some ⟨X, 0, none⟩), .int .i64 ((i : Int) + 1)] W fun e w' => e = .returned (.int .i64 (kindP L y)) ∧ ∃ n, w' = W.drewN n) := Lib.hid fun W hb => by
        have := hK.out (i + 1) hnx W hb
        rw [hy] at this
        exact this
      have Hky : Hid ((kindP L y == 7) = ((nth L y).kind == 7)) := Lib.hid (by
        unfold kindP
        split
        · rename_i e
          subst e
          have : nth L L.length = Nd.zero := by unfold nth; rw [List.getElem?_eq_none (Nat.le_refl _)]; rfl
          rw [this]; rfl
        · rfl)
      have hil2 : (i : Int) + 1 ≤ 9223372036854775807 := by
        have h1 : IT.length = s.length + 1 := by rw [HIT.out]; simp
        have h2 := hs.len
        have h3 := H.out.len
        omega
      clear y0 y25 yg ya hbd dZ hy hKi
      cases k7 : (n.kind == 7)
      rotate_left
      · by_cases hi0 : i = 0
        · have hr : priceV L P IT i = (0, false) := by
            rw [HV.out, HPr.out, if_pos (by simpa using k7), if_pos hi0]; rfl
          have HR := Lib.hid hr
          have hi9 : ¬ (0 : Int) < (i : Int) := by omega
          have hi6 : decide (0 < i) = false := decide_eq_false (by omega)
          have hbwd := hbw.drew
          clear hr hi0
          go_upto_region 6 with (fail)
          refine TW.region (fun W => Below w.heap.size w W) follows (by kernel_rfl) hbwd ?_
          iterate 22 first
            | (refine TW.cons_n rfl _ (by intro wT hT R hR K hK; simp only [Act.put, lsA, lsB, lsC] at hK; skip; go_step; first | exact hK _ _ (hR _ hT) | exact hK _ _ (hR _ hT)) ?_; try simp only [Act.put, lsA, lsB, lsC])
            | (refine TW.skip_g _ _ _ rfl rfl rfl ?_; try simp only [Act.put, lsA, lsB, lsC])
            | (refine TW.skip_u _ _ _ rfl rfl rfl ?_; try simp only [Act.put, lsA, lsB, lsC])
            | (refine TW.cons_g _ _ _ rfl rfl rfl _ (by intro wT hT R hR K hK; simp only [Act.put, lsA, lsB, lsC] at hK; skip; go_step; first | exact hK _ _ (hR _ hT) | exact hK _ _ (hR _ hT)) ?_; try simp only [Act.put, lsA, lsB, lsC])
          refine TW.nil fun w9 h9 => ?_
          go_wp2_with fail
          go_ret2
          exact ⟨by rw [HR.out]; rfl, h9⟩
        · have hi9 : (0 : Int) < (i : Int) := by omega
          have hip : i - 1 < IT.length := by omega
          obtain ⟨q, hq⟩ : ∃ q, IT[i - 1] = q := ⟨_, rfl⟩
          have hr : priceV L P IT i = (0, !fallsR (nth L q).kind) := by
            rw [HV.out, HPr.out, if_pos (by simpa using k7), if_neg hi0]
            have : IT.getD (i - 1) 0 = q := by simp [List.getD, List.getElem?_eq_getElem hip, hq]
            rw [this]
            cases hf : fallsR (nth L q).kind <;> simp [hf, optV]
          have HR := Lib.hid hr
          have hqlt : q < L.length := by
            have h1 : i - 1 < s.length := by
              have := hnx
              rw [HIT.out, List.length_append, List.length_singleton] at this
              omega
            have h2 : q ∈ s := by
              have h3 : IT[i - 1]? = s[i - 1]? := by rw [HIT.out, List.getElem?_append_left h1]
              rw [List.getElem?_eq_getElem hip, List.getElem?_eq_getElem h1, hq] at h3
              rw [Option.some.inj h3]
              exact List.getElem_mem h1
            exact (hs.lt q h2).2
          have HG0 : Hid (∀ W, Below w.heap.size w W → W.cell? ⟨X, 0, none⟩ = some (.slice (some ⟨b, off, none⟩) L.length cap) ∧ W.cell? ⟨X, 25, none⟩ = some (.slice (some ⟨g, 0, none⟩) IT.length ci) ∧ W.cell? ⟨g, i - 1, none⟩ = some (.int .i64 q) ∧ agg? W b (off + q * 19) 19 = some (nth L q).arr) := Lib.hid fun W hb => by
            obtain ⟨a1, a2, _, _⟩ := HF0.out W hb
            refine ⟨a1, a2, ?_, (H.out.nodes.below hb).nth hqlt⟩
            have hp9 := (H.out.para.still hb)
            have hr9 := hp9.rows 0 (by decide)
            have e9 : vs 0 = .slice (some ⟨g, 0, none⟩) IT.length ci := by
              have := hp9.cell 25 (vs 0) rfl
              rw [a2] at this
              exact (Option.some.inj this).symm
            rw [e9] at hr9
            obtain ⟨g9, q1, _, _, q4⟩ := zin_get9 (l := ofN IT) (i := i - 1) hr9 (by simpa [ofN] using hip)
            cases q1
            rw [show (ofN IT)[i - 1]'(by simpa [ofN] using hip) = (q : Int) from by simp [ofN, hq]] at q4
            exact q4
          obtain ⟨y0, y25, yg, ya⟩ := HG0.out _ hbw.drew
          have HFa := Lib.hid (fun W => vfalls9 (nth L q) W)
          have hq1 : (0 : Int) ≤ (q : Int) := by omega
          have hq2 : (q : Int) < (L.length : Int) := by omega
          have hi7 : (0 : Int) ≤ (i : Int) - 1 := by omega
          have hi8 : (i : Int) - 1 < (IT.length : Int) := by omega
          have hbwd := hbw.drew
          clear hr hi0 hq
          generalize fallsR (nth L q).kind = fq at HR HFa
          generalize nth L q = nq' at ya HFa HG0
          have hi6 : decide (0 < i) = true := decide_eq_true (by omega)
          go_upto_region 6 with (fail)
          clear y0 y25 yg ya
          refine TW.region (fun W => Below w.heap.size w W) follows (by kernel_rfl) hbwd ?_
          iterate 22 first
            | (refine TW.cons_n rfl _ (by intro wT hT R hR K hK; simp only [Act.put, lsA, lsB, lsC] at hK; obtain ⟨y0, y25, yg, ya⟩ := HG0.out _ hT; go_step; first | ((with_reducible refine (HFa.out _).mono ?_); rintro e w8 ⟨rfl, h8⟩; exact hK _ _ (hR _ (hT.trans (h8.mono hT.size)))) | exact hK _ _ (hR _ hT)) ?_; try simp only [Act.put, lsA, lsB, lsC])
            | (refine TW.skip_g _ _ _ rfl rfl rfl ?_; try simp only [Act.put, lsA, lsB, lsC])
            | (refine TW.skip_u _ _ _ rfl rfl rfl ?_; try simp only [Act.put, lsA, lsB, lsC])
            | (refine TW.cons_g _ _ _ rfl rfl rfl _ (by intro wT hT R hR K hK; simp only [Act.put, lsA, lsB, lsC] at hK; obtain ⟨y0, y25, yg, ya⟩ := HG0.out _ hT; go_step; first | ((with_reducible refine (HFa.out _).mono ?_); rintro e w8 ⟨rfl, h8⟩; exact hK _ _ (hR _ (hT.trans (h8.mono hT.size)))) | exact hK _ _ (hR _ hT)) ?_; try simp only [Act.put, lsA, lsB, lsC])
          refine TW.nil fun w9 h9 => ?_
          go_wp2_with fail
          go_ret2
          exact ⟨by rw [HR.out]; rfl, h9⟩
      cases k8 : (n.kind == 8)
      rotate_left
      · have hb0 : priceV L P IT i = optV (if n.sub = 1 ∧ (kindP L y == 7) = true then some 0 else none) := by
          rw [HV.out, HPr.out, if_neg (by simpa using k7), if_pos (by simpa using k8), hyo.out, Hky.out]
        have HB0 := Lib.hid hb0
        have HKn2 := Lib.hid (HKn.out _ hbw)
        clear hb0
        cases h1 : (n.sub == 1)
        · have HR := Lib.hid (HB0.out.trans (by rw [if_neg (by intro e; rw [e.1] at h1; cases h1)]; rfl : _ = ((0 : Int), false)))
          clear HB0
          go_wp2_with fail
          go_ret2
          exact ⟨by rw [HR.out]; rfl, hbw⟩
        · have HB1 := Lib.hid (HB0.out.trans (show _ = ((0 : Int), (kindP L y == 7)) from by cases h2 : (kindP L y == 7) <;> simp [optV, show n.sub = 1 by simpa using h1]))
          clear HB0
          generalize kindP L y = ky at HKn2 HB1
          go_wp2_with (go_at_call 120; refine HKn2.out.mono ?_; rintro e w' ⟨rfl, nr, rfl⟩)
          go_ret2
          exact ⟨by rw [HB1.out]; rfl, below_drewN hbw _⟩
      cases k16 : (n.kind == 16)
      rotate_left
      · have hb0 : priceV L P IT i = optV (if (kindP L y == 7) = true then some 0 else none) := by
          rw [HV.out, HPr.out, if_neg (by simpa using k7), if_neg (by simpa using k8), if_pos (by simpa using k16), hyo.out, Hky.out]
        have HB1 := Lib.hid (hb0.trans (show _ = ((0 : Int), (kindP L y == 7)) from by cases h2 : (kindP L y == 7) <;> simp [optV]))
        have HKn2 := Lib.hid (HKn.out _ hbw)
        clear hb0
        generalize kindP L y = ky at HKn2 HB1
        go_wp2_with (go_at_call 120; refine HKn2.out.mono ?_; rintro e w' ⟨rfl, nr, rfl⟩)
        go_ret2
        exact ⟨by rw [HB1.out]; rfl, below_drewN hbw _⟩
      cases k9 : (n.kind == 9)
      rotate_left
      · have hr : priceV L P IT i = (n.pen, true) := by
          rw [HV.out, HPr.out, if_neg (by simpa using k7), if_neg (by simpa using k8), if_neg (by simpa using k16), if_pos (by simpa using k9)]; rfl
        have HR := Lib.hid hr
        clear hr
        go_wp2_with fail
        go_ret2
        exact ⟨by rw [HR.out]; rfl, hbw⟩
      cases k10 : (n.kind == 10)
      · have hr : priceV L P IT i = (0, false) := by
          rw [HV.out, HPr.out, if_neg (by simpa using k7), if_neg (by simpa using k8), if_neg (by simpa using k16), if_neg (by simpa using k9), if_neg (by simpa using k10)]; rfl
        have HR := Lib.hid hr
        clear hr
        go_wp2_with fail
        go_ret2
        exact ⟨by rw [HR.out]; rfl, hbw⟩
      · have k10' : n.kind = 10 := by simpa using k10
        have hr : priceV L P IT i = (if (threeP L x).1 = [] then P.exhyp else P.hyp, true) := by
          rw [HV.out, HPr.out, if_neg (by simpa using k7), if_neg (by simpa using k8), if_neg (by simpa using k16), if_neg (by simpa using k9), if_pos k10']; rfl
        have HR := Lib.hid hr
        have hbwd := hbw.drew
        have HPt := Lib.hid (parts9 (some ⟨b, off, none⟩) b off cap L s hc hs x Hxs.out (by rw [Hn.out]; exact k10') _ (H.out.nodes.below hbwd))
        obtain ⟨y0, y25, yg, ya⟩ := HF0.out _ hbwd
        clear hr k10' ya
        go_upto_region 14 with (fail)
        clear y0 y25 yg
        refine Rest.region follows ?_
        refine Rest.tame 11 (fun W => W = wc.drew) (by kernel_rfl) rfl ?_
        simp only [Nat.reduceSub, List.drop_zero, List.take_succ_cons, List.take_zero]
        iterate 11 first
          | (refine TW.cons_n rfl _ (by intro wT hT R hR K hK; simp only [Act.put, lsA, lsB, lsC] at hK; subst hT; obtain ⟨y0, y25, yg, _⟩ := HF0.out _ hbwd; go_step; first | exact hK _ _ (hR _ rfl) | exact hK _ _ (hR _ rfl)) ?_; try simp only [Act.put, lsA, lsB, lsC])
          | (refine TW.skip_g _ _ _ rfl rfl rfl ?_; try simp only [Act.put, lsA, lsB, lsC])
          | (refine TW.skip_u _ _ _ rfl rfl rfl ?_; try simp only [Act.put, lsA, lsB, lsC])
          | (refine TW.cons_g _ _ _ rfl rfl rfl _ (by intro wT hT R hR K hK; simp only [Act.put, lsA, lsB, lsC] at hK; subst hT; obtain ⟨y0, y25, yg, _⟩ := HF0.out _ hbwd; go_step; first | exact hK _ _ (hR _ rfl) | exact hK _ _ (hR _ rfl)) ?_; try simp only [Act.put, lsA, lsB, lsC])
        refine TW.nil fun w9 h9 => ?_
        subst h9
        refine Rest.step rfl (by kernel_rfl) rfl ?_
        go_step
        refine HPt.out.mono ?_
        rintro e w5 ⟨⟨vs9, rfl, hv9⟩, hb5⟩
        obtain ⟨p9, c9, e9⟩ := owns_form (hv9.rows 0 (by decide))
        rw [e9]
        have HE9 := Lib.hid e9
        clear e9
        refine Rest.tame 21 (fun W => w5 = W) (by kernel_rfl) rfl ?_
        simp only [Nat.reduceSub, List.drop_succ_cons, List.drop_zero, List.take_succ_cons, List.take_zero]
        iterate 9 first
          | (refine TW.cons_n rfl _ (by intro wT hT R hR K hK; simp only [Act.put, lsA, lsB, lsC] at hK; subst hT; go_step; first | exact hK _ _ (hR _ rfl) | exact hK _ _ (hR _ rfl)) ?_; try simp only [Act.put, lsA, lsB, lsC])
          | (refine TW.skip_g _ _ _ rfl rfl rfl ?_; try simp only [Act.put, lsA, lsB, lsC])
          | (refine TW.skip_u _ _ _ rfl rfl rfl ?_; try simp only [Act.put, lsA, lsB, lsC])
          | (refine TW.cons_g _ _ _ rfl rfl rfl _ (by intro wT hT R hR K hK; simp only [Act.put, lsA, lsB, lsC] at hK; subst hT; go_step; first | exact hK _ _ (hR _ rfl) | exact hK _ _ (hR _ rfl)) ?_; try simp only [Act.put, lsA, lsB, lsC])
        refine TW.nil fun w9 h9 => ?_
        subst h9
        refine Rest.done ?_
        have hb9 : Below w.heap.size w w5 := hbwd.trans (hb5.mono hbwd.size)
        have hpx := H.out.para.still hb9
        have f4 := hpx.cell 4 (.int .i64 P.hyp) rfl
        have f5 := hpx.cell 5 (.int .i64 P.exhyp) rfl
        have hm9 : ∃ m9, (tP (threeP L x) 0).length = m9 := ⟨_, rfl⟩
        obtain ⟨m9, hm9⟩ := hm9
        rw [hm9]
        have HM9 := Lib.hid hm9
        clear hpx hm9 hv9 HE9
        by_cases h0 : m9 = 0
        · have HR2 := Lib.hid (HR.out.trans (by rw [if_pos (show (threeP L x).1 = [] from List.length_eq_zero_iff.1 (HM9.out.trans h0))]))
          have hl0 : decide (0 < m9) = false := decide_eq_false (by omega)
          clear h0
          go_wp2_with fail
          go_ret2
          exact ⟨by rw [HR2.out]; rfl, hb9⟩
        · have HR2 := Lib.hid (HR.out.trans (by rw [if_neg (fun e => h0 (HM9.out.symm.trans (show (threeP L x).1.length = 0 by rw [e]; rfl)))]))
          have hl0 : decide (0 < m9) = true := decide_eq_true (by omega)
          clear h0
          go_wp2_with fail
          go_ret2
          exact ⟨by rw [HR2.out]; rfl, hb9⟩
end Go.Proofs.YtiijpbfkchokaaaGreat
namespace Go.Proofs.YtiijpbfkchokaaaGreat
open Go.ChangeShapes Go.WideShapes Go.ChangeAt Go.RowKit
def brkAt (L : List Nd) (P : Pm) (IT : List Nat) (i : Nat) : Option (Nat × Int) := if (priceV L P IT i).2 = true ∧ (priceV L P IT i).1 < 10000 then some (IT.getD i 0, (priceV L P IT i).1) else none
def brkK (L : List Nd) (P : Pm) (IT : List Nat) (k : Nat) : List (Nat × Int) := (List.range k).filterMap (brkAt L P IT)
theorem brkK_yes {L : List Nd} {P : Pm} {IT : List Nat} {k : Nat} {p : Nat × Int} (h : brkAt L P IT k = some p) : brkK L P IT (k + 1) = brkK L P IT k ++ [p] := by
  unfold brkK
  rw [List.range_succ, List.filterMap_append, List.filterMap_cons_some h, List.filterMap_nil]
theorem brkK_no {L : List Nd} {P : Pm} {IT : List Nat} {k : Nat} (h : brkAt L P IT k = none) : brkK L P IT (k + 1) = brkK L P IT k := by
  unfold brkK
  rw [List.range_succ, List.filterMap_append, List.filterMap_cons_none h, List.filterMap_nil, List.append_nil]
theorem priceN_end (L : List Nd) (P : Pm) (pr : Option Nat) (x : Nat) : priceN L P pr x (some L.length) = priceN L P pr x none := by
  have : nth L L.length = Nd.zero := by unfold nth; rw [List.getElem?_eq_none (Nat.le_refl _)]; rfl
  unfold priceN
  simp only [this]
  rfl
theorem brk_from (L : List Nd) (P : Pm) : ∀ (rest pre : List Nat), (∀ x ∈ rest, x < L.length) → (List.range' pre.length rest.length).filterMap (brkAt L P (pre ++ rest ++ [L.length])) = brkF L P pre.getLast? rest
  | [], pre, _ => rfl
  | x :: r, pre, h => by
    have hx := h x List.mem_cons_self
    have ih := brk_from L P r (pre ++ [x]) fun y hy => h y (List.mem_cons_of_mem _ hy)
    rw [List.length_append, List.length_singleton, List.append_assoc pre, List.singleton_append, List.getLast?_append, List.getLast?_singleton, Option.some_or] at ih
    have e1 : (pre ++ x :: r ++ [L.length]).getD pre.length 0 = x := by simp [List.getD]
    have e2 : (if pre.length = 0 then none else some ((pre ++ x :: r ++ [L.length]).getD (pre.length - 1) 0)) = pre.getLast? := by
      by_cases hp : pre = []
      · subst hp; rfl
      · have h1 := List.length_pos_iff.2 hp
        rw [if_neg (by omega), List.getLast?_eq_getElem?]
        have h2 : pre.length - 1 < pre.length := by omega
        simp [List.getD, List.getElem?_append_left h2, List.getElem?_eq_getElem h2]
    have e3 : priceN L P pre.getLast? x (pre ++ x :: r ++ [L.length])[pre.length + 1]? = priceN L P pre.getLast? x r.head? := by
      have h1 : (pre ++ x :: r ++ [L.length])[pre.length + 1]? = (r ++ [L.length])[0]? := by
        rw [List.append_assoc, List.getElem?_append_right (by omega)]
        rw [show pre.length + 1 - pre.length = 0 + 1 by omega]
        simp
      rw [h1]
      cases r with
      | nil => exact priceN_end L P _ x
      | cons y t => rfl
    have e4 : priceV L P (pre ++ x :: r ++ [L.length]) pre.length = optV (priceN L P pre.getLast? x r.head?) := by
      unfold priceV
      rw [e1, if_neg (by omega), e2, e3]
    have e5 : brkAt L P (pre ++ x :: r ++ [L.length]) pre.length = match priceN L P pre.getLast? x r.head? with | some q => if q < 10000 then some (x, q) else none | none => none := by
      unfold brkAt
      rw [e4, e1]
      cases priceN L P pre.getLast? x r.head? with
      | none => rfl
      | some q => simp [optV]
    rw [List.length_cons, List.range'_succ]
    unfold brkF
    cases hq : priceN L P pre.getLast? x r.head? with
    | none =>
      rw [hq] at e5
      rw [List.filterMap_cons_none e5]
      exact ih
    | some q =>
      rw [hq] at e5
      by_cases hlt : q < 10000
      · simp only [if_pos hlt] at e5 ⊢
        rw [List.filterMap_cons_some e5]
        exact congrArg _ ih
      · simp only [if_neg hlt] at e5 ⊢
        rw [List.filterMap_cons_none e5]
        exact ih
theorem brkK_all {L : List Nd} (P : Pm) {s : List Nat} (h : ∀ x ∈ s, x < L.length) : brkK L P (s ++ [L.length]) (s.length + 1) = brkP L P s := by
  have h1 := brk_from L P s [] h
  rw [List.nil_append] at h1
  have e : brkAt L P (s ++ [L.length]) s.length = some (L.length, -10000) := by
    have e1 : (s ++ [L.length]).getD s.length 0 = L.length := by simp [List.getD]
    have e2 : priceV L P (s ++ [L.length]) s.length = (-10000, true) := by unfold priceV; rw [e1, if_pos rfl]
    unfold brkAt
    rw [e2, e1]
    simp
  rw [brkK_yes e]
  unfold brkK brkP
  rw [List.range_eq_range']
  exact congrArg (· ++ _) h1
def atsI (l : List (Nat × Int)) : List Int := l.map fun x => (x.1 : Int)
def pensI (l : List (Nat × Int)) : List Int := l.map (·.2)
theorem ParaL.push {W w3 : World} {X mb B : Nat} {P : Pm} {vs : Nat → Value} {L : List Nd} {b off cap : Nat} {p0 : Option Addr} {IT : List Nat} {SU : List Tt} {AT PE : List Int} (h : ParaL W X mb B P vs L b off cap p0 IT SU AT PE) (hB : B ≤ W.heap.size) {k : Nat} (hk : k = 2 ∨ k = 3) {x : Int} {ob : Obj} {g c n : Nat} (hn : n = pxN IT SU AT PE k + 1)
    (hr : w3.ownsRow B 3 1 (.slice (some ⟨g, 0, none⟩) n c) n (pxX IT SU AT PE k ++ [.int .i64 x])) (hg : (W.alloc ob).grownBy w3 (vs k).ownBlock) (hat : (vs k).ownBlock = some g ∨ g = W.heap.size + 1) :
    ∃ vs', ParaL (w3.setCell ⟨X, pO k, none⟩ (.slice (some ⟨g, 0, none⟩) n c)) X mb B P vs' L b off cap p0 IT SU (if k = 2 then AT ++ [x] else AT) (if k = 3 then PE ++ [x] else PE) ∧ vs' 0 = vs 0 ∧ (∀ j, j ≠ k → vs' j = vs j) ∧ FrX B X mb W (w3.setCell ⟨X, pO k, none⟩ (.slice (some ⟨g, 0, none⟩) n c)) := by
  have hba : Below W.heap.size W (W.alloc ob) := (Below.refl _ _).alloc (Nat.le_refl _) _
  have ha := h.para.still hba
  have hk4 : k < 4 := by omega
  have hF : FrX B X mb W (w3.setCell ⟨X, pO k, none⟩ (.slice (some ⟨g, 0, none⟩) n c)) :=
    ((FrX.of_below hba hB).trans (.of_grown hg (by simp; omega) fun q e h9 => by have := ((h.para.rows k hk4).lt q e).1; omega)).set _ _
  have hgr := ParaR.grown (W' := w3) ha hk4 (g := g) (c := c) (n' := n) (ys := pxX IT SU AT PE k ++ [.int .i64 x]) (by rcases hk with rfl | rfl <;> exact hr) hg (by rcases hat with e | e; exact .inl e; exact .inr (by rw [e]; simp))
  refine ⟨_, h.of_para (hgr.congr (fun j hj => ?_) fun j hj => ?_) hF, ?_, ?_, hF⟩
  · rcases hk with rfl | rfl <;> rcases j with _ | _ | _ | _ | j <;> first | (exfalso; omega) | simp_all [pxN]
  · rcases hk with rfl | rfl <;> rcases j with _ | _ | _ | _ | j <;> first | (exfalso; omega) | simp_all [pxX, ints]
  · rcases hk with rfl | rfl <;> rfl
  · intro j hj
    exact if_neg hj
theorem ParaL.frozen (X : Nat) {W w3 : World} {mb B : Nat} {P : Pm} {vs : Nat → Value} {L : List Nd} {b off cap : Nat} {p0 : Option Addr} {IT : List Nat} {SU : List Tt} {AT PE : List Int} (h : ParaL W X mb B P vs L b off cap p0 IT SU AT PE) {k : Nat} (hk : k < 4) {ob : Obj} (hg : (W.alloc ob).grownBy w3 (vs k).ownBlock) (j : Nat) (v : Value) (hv : (pxArr (.slice p0 L.length cap) P (vs 0) (.map (some mb)) (vs 1) (vs 2) (vs 3))[j]? = some v) : w3.cell? ⟨X, j, none⟩ = some v ∧ w3.frozen? ⟨X, j, none⟩ = false := by
  have hX := h.para.ltX
  have hne : some X ≠ (vs k).ownBlock := fun e => h.para.row_ne hk h.para.lt2 e.symm
  have hb3 := (hg.block X (by simp; omega) hne).trans ((Below.heap_alloc W ob X hX).trans h.para.blk)
  exact ⟨(cell?_blk' hb3 j).trans hv, frozen_of_row w3 X j _ _ hb3⟩
theorem vbreaks (X mb B : Nat) (P : Pm) (vs : Nat → Value) (L : List Nd) (b off cap : Nat) (p0 : Option Addr) (s IT : List Nat) (SU : List Tt) (hc : checkC L = 0) (hs : Items L 0 s) (hIT : IT = s ++ [L.length]) (w : World) (hB : B ≤ w.heap.size) (h : ParaL w X mb B P vs L b off cap p0 IT SU [] []) :
    Calls Tryz.prog 65 #[.pointer (some ⟨X, 0, none⟩)] w fun e w' => e = .returned (.tuple #[]) ∧ (∃ vs', ParaL w' X mb B P vs' L b off cap p0 IT SU (atsI (brkP L P s)) (pensI (brkP L P s))) ∧ FrX B X mb w w' := by
  have HPr : Hid (∀ (i : Nat) (hi : i < IT.length) (vs : Nat → Value) (AT PE : List Int) (w : World), ParaL w X mb B P vs L b off cap p0 IT SU AT PE → Calls Tryz.prog 84 #[.pointer (some ⟨X, 0, none⟩), .int .i64 i] w fun e w' => e = .returned (.tuple #[.int .i64 (priceV L P IT i).1, .bool (priceV L P IT i).2]) ∧ Below w.heap.size w w') := Lib.hid fun i hi vs AT PE w h => vprice X mb B P vs L b off cap p0 s IT SU AT PE hc hs hIT i hi w h
  have HA := Lib.hid (show brkK L P IT IT.length = brkP L P s by rw [hIT, List.length_append, List.length_singleton]; exact brkK_all P fun x hx => (hs.lt x hx).2)
  have hln : IT.length ≤ 2001 := by
    have h2 := hs.len
    have h3 := h.len
    rw [hIT]; simp; omega
  obtain ⟨pi, ci, e0⟩ := owns_form (h.para.rows 0 (by decide))
  have x25 := h.para.cell 25 (vs 0) rfl
  rw [e0, show pxN IT SU [] [] 0 = IT.length from rfl] at x25
  have E0 := Lib.hid (e0.trans (show _ = Value.slice pi IT.length ci from rfl))
  have H0 := Lib.hid h
  clear hc hs hIT h e0
  obtain ⟨n, hn⟩ : ∃ n, IT.length = n := ⟨_, rfl⟩
  rw [hn] at hln x25
  have Hn := Lib.hid hn
  clear hn
  go_enter Tryz.func65, Tryz.ntmps65
  go_wp2_with fail
  go_loopg [11] (n + 1) (fun gg t11 wr => ∃ (k : Nat) (vs : Nat → Value), gg = n + 1 - k ∧ k ≤ n ∧ t11 = .int .i64 k ∧ ParaL wr X mb B P vs L b off cap p0 IT SU (atsI (brkK L P IT k)) (pensI (brkK L P IT k)) ∧ FrX B X mb w wr ∧ vs 0 = .slice pi n ci)
  case atStart => exact ⟨0, vs, rfl, Nat.zero_le _, rfl, H0.out, .refl _ _ _ _, by rw [E0.out, Hn.out]⟩
  case round =>
    clear H0 E0 x25
    obtain ⟨k, vs, rfl, hk, rfl, hI, hF, hv0⟩ := hrel
    by_cases hlt : k < n
    · have hlt1 : (k : Int) < (n : Int) := by omega
      have hk0 : (0 : Int) ≤ (k : Int) := by omega
      have hr0 := hI.para.rows 0 (by decide)
      rw [hv0] at hr0
      have hil : k < (ofN IT).length := by simpa [ofN, Hn.out] using hlt
      obtain ⟨g, rfl, hk9, hci, cg⟩ := zin_get9 (l := ofN IT) hr0 hil
      clear hk9
      have hgi : (ofN IT)[k] = ((IT.getD k 0 : Nat) : Int) := by
        have h9 : k < IT.length := by rw [Hn.out]; exact hlt
        simp [ofN, List.getElem?_eq_getElem h9]
      rw [hgi] at cg
      have HP2 := Lib.hid (HPr.out k (by rw [Hn.out]; exact hlt) vs _ _ wr hI)
      have HI := Lib.hid hI
      have HF := Lib.hid hF
      have HV0 := Lib.hid hv0
      have hBr : B ≤ wr.heap.size := Nat.le_trans hB hF.size
      obtain ⟨x, hx⟩ : ∃ x, IT.getD k 0 = x := ⟨_, rfl⟩
      have hba : Hid (brkAt L P IT k = if (priceV L P IT k).2 = true ∧ (priceV L P IT k).1 < 10000 then some (x, (priceV L P IT k).1) else none) := Lib.hid (by rw [← hx]; rfl)
      rw [hx] at cg
      clear hr0 hI hF hv0 hil hgi hx
      generalize (priceV L P IT k).1 = q at HP2 hba
      generalize (priceV L P IT k).2 = bq at HP2 hba
      go_upto_region 4 with (go_at_call 84; refine HP2.out.mono ?_; rintro e w2 ⟨rfl, hb2⟩)
      have hI2 := HI.out.still hb2
      have hF2 := HF.out.trans (.of_below hb2 hBr)
      have hB2 : B ≤ w2.heap.size := Nat.le_trans hBr hb2.size
      clear cg HI HP2 HF hb2 hBr
      have hno : (¬ (bq = true ∧ q < 10000)) → brkK L P IT (k + 1) = brkK L P IT k := fun h9 => brkK_no (hba.out.trans (if_neg h9))
      have hyes : bq = true ∧ q < 10000 → brkK L P IT (k + 1) = brkK L P IT k ++ [(x, q)] := fun h9 => brkK_yes (hba.out.trans (if_pos h9))
      have Hno := Lib.hid hno
      have Hyes := Lib.hid hyes
      clear hno hyes hba
      cases bq
      case false =>
        have Hk := Lib.hid (Hno.out (by simp))
        have HI2 := Lib.hid hI2
        clear Hno Hyes hI2
        go_wp2_with fail
        go_roundg (n + 1 - (k + 1))
        case measure => omega
        case rel => exact ⟨k + 1, vs, rfl, hlt, by go_num, by rw [Hk.out]; exact HI2.out, hF2, HV0.out⟩
      case true =>
        by_cases hq : q < 10000
        · have Hk := Lib.hid (Hyes.out ⟨rfl, hq⟩)
          clear Hno Hyes
          have hKn : (brkK L P IT k).length ≤ k := by unfold brkK; exact Nat.le_trans (List.length_filterMap_le _ _) (by simp)
          generalize brkK L P IT k = K at hI2 Hk hKn
          have hK9 : Hid (atsI (brkK L P IT (k + 1)) = atsI K ++ [(x : Int)] ∧ pensI (brkK L P IT (k + 1)) = pensI K ++ [q]) := Lib.hid (by rw [Hk.out]; simp [atsI, pensI])
          have hKl : (atsI K).length ≤ 4000 ∧ (pensI K).length ≤ 4000 := by simp only [atsI, pensI, List.length_map]; omega
          clear Hk
          obtain ⟨p2, c2, e2⟩ := owns_form (hI2.para.rows 2 (by decide))
          have y28 := hI2.para.cell 28 (vs 2) rfl
          rw [e2, show pxN IT SU (atsI K) (pensI K) 2 = (atsI K).length from rfl] at y28
          obtain ⟨i0, hi0', hz0, hz1, hz2'⟩ := info_parts info_intb
          have hrow := (hI2.para.rows 2 (by decide)).alloc (.cells #[.int .i64 (x : Nat)] 3)
          rw [e2] at hrow
          have Hrow : Hid ((w2.alloc (.cells #[.int .i64 (x : Nat)] 3)).ownsRow B 3 1 (.slice p2 (atsI K).length c2) (atsI K).length (ints (atsI K))) := Lib.hid hrow
          have E2 := Lib.hid e2
          have HI2 := Lib.hid hI2
          have H1 : Hid (∀ u ∈ [Value.int .i64 (x : Nat)], u.oneCell' = true) := Lib.hid (by simp [Value.oneCell'])
          have Hfz : Hid (∀ w3, (w2.alloc (.cells #[.int .i64 (x : Nat)] 3)).grownBy w3 (Value.slice p2 (atsI K).length c2).ownBlock → w3.cell? ⟨X, 28, none⟩ = some (vs 2) ∧ w3.frozen? ⟨X, 28, none⟩ = false) := Lib.hid fun w3 hg => by
            have := ParaL.frozen X hI2 (k := 2) (by decide) (w3 := w3) (ob := .cells #[.int .i64 (x : Nat)] 3) (by rw [e2]; exact hg) 28 (vs 2) rfl
            exact this
          have hl1 := hKl.1
          clear hrow e2 hI2
          go_upto_region 6 with (at_builtin; refine wpList_append_lies _ rfl (.tmp 31) (.tmp 33) 41 rfl B 3 i0 (.int .i64 0) 1 8 Tryz.underlying41 hi0' hz0 hz1 hz2' rfl (by decide) (.slice p2 (atsI K).length c2) (atsI K).length (ints (atsI K)) rfl Hrow.out ⟨w2.heap.size, 0, none⟩ 1 1 [.int .i64 (x : Nat)] rfl rfl (World.news_of_block (cs := #[.int .i64 (x : Nat)]) (heap_alloc_new _ _)) H1.out (by decide) (by unfold maxLen; omega) (by omega) (by simp; omega) _ rfl ?_; intro g3 cap3 w3 hown3 hgrow3 hat3 hlt3; obtain ⟨cz, fz⟩ := Hfz.out w3 hgrow3)
          obtain ⟨vs3, h3, hv3, _, hF3⟩ := ParaL.push HI2.out hB2 (k := 2) (.inl rfl) (x := (x : Int)) (ob := .cells #[.int .i64 (x : Nat)] 3) (g := g3) (c := cap3) (n := (atsI K).length + 1) rfl hown3 (by rw [E2.out]; exact hgrow3) (by rw [E2.out]; rcases hat3 with e | e; exact .inl e; exact .inr (by rw [e]; simp))
          replace h3 : ParaL (w3.setCell ⟨X, 28, none⟩ (.slice (some ⟨g3, 0, none⟩) ((atsI K).length + 1) cap3)) X mb B P vs3 L b off cap p0 IT SU (atsI K ++ [(x : Int)]) (pensI K) := h3
          replace hF3 : FrX B X mb w2 (w3.setCell ⟨X, 28, none⟩ (.slice (some ⟨g3, 0, none⟩) ((atsI K).length + 1) cap3)) := hF3
          have hB4 : B ≤ (w3.setCell ⟨X, 28, none⟩ (.slice (some ⟨g3, 0, none⟩) ((atsI K).length + 1) cap3)).heap.size := Nat.le_trans hB2 hF3.size
          have HV3 := Lib.hid (hv3.trans HV0.out)
          have hl3 := hKl.2
          clear hgrow3 hown3 hat3 hlt3 cz fz hv3 y28 E2 Hrow Hfz H1 HI2 hl1 hi0' hz0 hz1 hz2' HV0 hKl hKn
          generalize w3.setCell ⟨X, 28, none⟩ (.slice (some ⟨g3, 0, none⟩) ((atsI K).length + 1) cap3) = w4 at h3 hF3 hB4 ⊢
          obtain ⟨p3, c3, e3⟩ := owns_form (h3.para.rows 3 (by decide))
          have y29 := h3.para.cell 29 (vs3 3) rfl
          rw [e3, show pxN IT SU (atsI K ++ [(x : Int)]) (pensI K) 3 = (pensI K).length from rfl] at y29
          obtain ⟨i0, hi0', hz0, hz1, hz2'⟩ := info_parts info_intb
          have hrow := (h3.para.rows 3 (by decide)).alloc (.cells #[.int .i64 q] 3)
          rw [e3] at hrow
          have Hrow : Hid ((w4.alloc (.cells #[.int .i64 q] 3)).ownsRow B 3 1 (.slice p3 (pensI K).length c3) (pensI K).length (ints (pensI K))) := Lib.hid hrow
          have E3 := Lib.hid e3
          have H3 := Lib.hid h3
          have H1 : Hid (∀ u ∈ [Value.int .i64 q], u.oneCell' = true) := Lib.hid (by simp [Value.oneCell'])
          have Hfz : Hid (∀ w5, (w4.alloc (.cells #[.int .i64 q] 3)).grownBy w5 (Value.slice p3 (pensI K).length c3).ownBlock → w5.cell? ⟨X, 29, none⟩ = some (vs3 3) ∧ w5.frozen? ⟨X, 29, none⟩ = false) := Lib.hid fun w5 hg => by
            have := ParaL.frozen X h3 (k := 3) (by decide) (w3 := w5) (ob := .cells #[.int .i64 q] 3) (by rw [e3]; exact hg) 29 (vs3 3) rfl
            exact this
          clear hrow e3 h3
          go_upto_region 7 with (at_builtin; refine wpList_append_lies _ rfl (.tmp 41) (.tmp 43) 41 rfl B 3 i0 (.int .i64 0) 1 8 Tryz.underlying41 hi0' hz0 hz1 hz2' rfl (by decide) (.slice p3 (pensI K).length c3) (pensI K).length (ints (pensI K)) rfl Hrow.out ⟨w4.heap.size, 0, none⟩ 1 1 [.int .i64 q] rfl rfl (World.news_of_block (cs := #[.int .i64 q]) (heap_alloc_new _ _)) H1.out (by decide) (by unfold maxLen; omega) (by omega) (by simp; omega) _ rfl ?_; intro g5 cap5 w5 hown5 hgrow5 hat5 hlt5; obtain ⟨cz, fz⟩ := Hfz.out w5 hgrow5)
          obtain ⟨vs5, h5, hv5, _, hF5⟩ := ParaL.push H3.out hB4 (k := 3) (.inr rfl) (x := q) (ob := .cells #[.int .i64 q] 3) (g := g5) (c := cap5) (n := (pensI K).length + 1) rfl hown5 (by rw [E3.out]; exact hgrow5) (by rw [E3.out]; rcases hat5 with e | e; exact .inl e; exact .inr (by rw [e]; simp))
          replace h5 : ParaL (w5.setCell ⟨X, 29, none⟩ (.slice (some ⟨g5, 0, none⟩) ((pensI K).length + 1) cap5)) X mb B P vs5 L b off cap p0 IT SU (atsI K ++ [(x : Int)]) (pensI K ++ [q]) := h5
          replace hF5 : FrX B X mb w4 (w5.setCell ⟨X, 29, none⟩ (.slice (some ⟨g5, 0, none⟩) ((pensI K).length + 1) cap5)) := hF5
          have H5 := Lib.hid h5
          have HV5 := Lib.hid (hv5.trans HV3.out)
          clear hgrow5 hown5 hat5 hlt5 cz fz hv5 h5 y29 E3 Hrow Hfz H1 H3 hl3 HV3 hi0' hz0 hz1 hz2'
          generalize w5.setCell ⟨X, 29, none⟩ (.slice (some ⟨g5, 0, none⟩) ((pensI K).length + 1) cap5) = w6 at H5 hF5 ⊢
          go_wp2_with fail
          go_roundg (n + 1 - (k + 1))
          case measure => omega
          case rel => exact ⟨k + 1, vs5, rfl, hlt, by go_num, by rw [hK9.out.1, hK9.out.2]; exact H5.out, hF2.trans (hF3.trans hF5), HV5.out⟩
        · have Hk := Lib.hid (Hno.out (by simp [hq]))
          have HI2 := Lib.hid hI2
          have hq2 : ¬ q < 10000 := hq
          clear Hno Hyes hI2
          go_wp2_with fail
          go_roundg (n + 1 - (k + 1))
          case measure => omega
          case rel => exact ⟨k + 1, vs, rfl, hlt, by go_num, by rw [Hk.out]; exact HI2.out, hF2, HV0.out⟩
    · have hk2 : (n : Int) ≤ (k : Int) := by omega
      obtain rfl : k = n := by omega
      have HI := Lib.hid hI
      clear hI hlt
      go_wp2_with fail
      refine ⟨rfl, _, results_none rfl _ _ _, rfl, ⟨vs, ?_⟩, hF⟩
      have := HI.out
      rwa [← Hn.out, HA.out] at this
def fI : Option Nat → Int
  | none => -1
  | some x => x
theorem vdisc (X mb B : Nat) (P : Pm) (vs : Nat → Value) (L : List Nd) (b off cap : Nat) (p0 : Option Addr) (IT : List Nat) (SU : List Tt) (AT PE : List Int) (f : Option Nat) (w : World) (h : ParaL w X mb B P vs L b off cap p0 IT SU AT PE) (hf : ∀ x, f = some x → x ≤ 4000) :
    Calls Tryz.prog 71 #[.pointer (some ⟨X, 0, none⟩), .int .i64 (fI f)] w fun e w' => e = .returned (.bool (discO L f)) ∧ w = w' := by
  have x0 := h.para.cell 0 (.slice p0 L.length cap) rfl
  cases f with
  | none =>
    clear h hf
    show Calls _ _ #[.pointer (some ⟨X, 0, none⟩), .int .i64 (-1)] _ _
    go_enter Tryz.func71, Tryz.ntmps71
    go_wp2_with fail
    go_ret
    exact ⟨rfl, rfl⟩
  | some x =>
    have hx0 : (0 : Int) ≤ (x : Int) := by omega
    show Calls _ _ #[.pointer (some ⟨X, 0, none⟩), .int .i64 (x : Int)] _ _
    by_cases hlt : x < L.length
    · have hx2 : (x : Int) < (L.length : Int) := by omega
      have c0 : w.cell? ⟨b, off + x * 19, none⟩ = some (.int .i64 (nth L x).kind) := agg_cell (h.nodes.nth hlt) 0 _ (Nd.get0 _)
      have hp := h.nodes.at_ hlt
      rw [hp] at x0
      have HD := Lib.hid (show discO L (some x) = ((nth L x).kind == 10) by simp [discO, discB, hlt])
      clear h hp hf
      go_enter Tryz.func71, Tryz.ntmps71
      go_wp2_with fail
      go_ret
      exact ⟨by rw [HD.out]; rfl, rfl⟩
    · have hx2 : ¬ (x : Int) < (L.length : Int) := by omega
      have HD := Lib.hid (show discO L (some x) = false by simp [discO, discB, hlt])
      clear h hf
      go_enter Tryz.func71, Tryz.ntmps71
      go_wp2_with fail
      go_ret
      exact ⟨by rw [HD.out]; rfl, rfl⟩
end Go.Proofs.YtiijpbfkchokaaaGreat
