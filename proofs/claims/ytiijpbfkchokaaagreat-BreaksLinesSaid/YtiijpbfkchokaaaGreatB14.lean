/-
  The penalty of a break at an item: the program's.
-/
import Derived.Test.YtiijpbfkchokaaaGreatB13
import Derived.Test.YtiijpbfkchokaaaGreatTame3
import Derived.Sort.AtCall
import Derived.Deep.RegionHeld3
namespace Go.Proofs.YtiijpbfkchokaaaGreat
open Go.ChangeShapes Go.WideShapes Go.ChangeAt Go.RowKit
attribute [local go_sem ↓] Go.wp_at_zero Go.wp_at_succ
def optV : Option Int → Int × Bool
  | none => (0, false)
  | some q => (q, true)
/-- what price tells -/
def priceV (L : List Nd) (P : Pm) (IT : List Nat) (i : Nat) : Int × Bool :=
  if IT.getD i 0 = L.length then (-10000, true) else optV (priceN L P (if i = 0 then none else some (IT.getD (i - 1) 0)) (IT.getD i 0) IT[i + 1]?)
theorem cell_below9 {w w' : World} {p : Addr} {v : Value} (h : w.cell? p = some v) (hb : Below w.heap.size w w') : w'.cell? p = some v := by
  have hlt : p.block < w.heap.size := by
    rcases Nat.lt_or_ge p.block w.heap.size with h1 | h1
    · exact h1
    · have e : w.heap[p.block]? = none := Array.getElem?_eq_none h1
      simp [World.cell?, e] at h
  exact (hb.cell hlt).trans h
set_option maxRecDepth 100000 in
set_option maxHeartbeats 8000000 in
theorem vprice (X mb B : Nat) (P : Pm) (vs : Nat → Value) (L : List Nd) (b off cap : Nat) (p0 : Option Addr) (s IT : List Nat) (SU : List Tt) (AT PE : List Int) (hc : checkC L = 0) (hs : Items L 0 s) (hIT : IT = s ++ [L.length]) (i : Nat) (hi : i < IT.length) (w : World) (h : ParaL w X mb B P vs L b off cap p0 IT SU AT PE) :
    Calls Tryz.prog 84 #[.pointer (some ⟨X, 0, none⟩), .int .i64 i] w fun e w' => e = .returned (.tuple #[.int .i64 (priceV L P IT i).1, .bool (priceV L P IT i).2]) ∧ Below w.heap.size w w' := by
  have H := Lib.hid h
  have hK : Hid (∀ (j : Nat) (hj : j < IT.length) W, Below w.heap.size w W → Calls Tryz.prog 120 #[.pointer (some ⟨X, 0, none⟩), .int .i64 j] W fun e w' => e = .returned (.int .i64 (kindP L IT[j])) ∧ ∃ n, w' = W.drewN n) := Lib.hid fun j hj W hb => vkind X mb B P vs L b off cap p0 IT SU AT PE j hj W (h.still hb)
  have hKi := Lib.hid (hK.out i hi w (Below.refl _ _))
  have hgi : IT.getD i 0 = IT[i] := by simp [List.getD, List.getElem?_eq_getElem hi]
  have hle := h.le _ (List.getElem_mem hi)
  obtain ⟨x, hx⟩ : ∃ x, IT[i] = x := ⟨_, rfl⟩
  rw [hx] at hgi hle hKi
  have hi1 : (0 : Int) ≤ (i : Int) := by omega
  have hi2 : (i : Int) < (IT.length : Int) := by omega
  by_cases he : x = L.length
  · have HV := Lib.hid (show priceV L P IT i = (-10000, true) from by unfold priceV; rw [hgi, if_pos he])
    have hk0 : kindP L x = 0 := if_pos he
    rw [hk0] at hKi
    clear he hk0 hle hgi hx h
    go_enter Tryz.func84, Tryz.ntmps84
    go_wp2_with (go_at_call 120; refine hKi.out.mono ?_; rintro e w' ⟨rfl, n, rfl⟩)
    go_ret2
    exact ⟨by rw [HV.out]; rfl, below_drewN (Below.refl _ _) _⟩
  · have hlt : x < L.length := by omega
    have hk0 : kindP L x = (nth L x).kind := if_neg he
    have hV : priceV L P IT i = optV (priceN L P (if i = 0 then none else some (IT.getD (i - 1) 0)) x IT[i + 1]?) := by unfold priceV; rw [hgi, if_neg he]
    have hxs : x ∈ s := by
      have : x ∈ IT := by rw [← hx]; exact List.getElem_mem hi
      rw [hIT] at this
      rcases List.mem_append.1 this with h1 | h1
      · exact h1
      · exact absurd (List.mem_singleton.1 h1) he
    have hrn : rightB (nth L x) = true := by rw [nth_get hlt]; exact check_right hc _ (List.getElem_mem _)
    obtain ⟨n, hn⟩ : ∃ n, nth L x = n := ⟨_, rfl⟩
    rw [hn] at hk0 hrn
    rw [hk0] at hKi
    have hkn : (n.kind == 0) = false := by
      unfold rightB at hrn
      simp only [Bool.and_eq_true] at hrn
      have := hrn.1.1
      simp [withinB] at this
      simp; omega
    have hp := h.para
    have hN := h.nodes
    obtain ⟨pi, ci, e0⟩ := owns_form (hp.rows 0 (by decide))
    have hr0 := hp.rows 0 (by decide)
    rw [e0] at hr0
    have hil : i < (ofN IT).length := by simpa [ofN] using hi
    obtain ⟨g, rfl, hk1, hk2, cg⟩ := zin_get9 (l := ofN IT) hr0 hil
    have hgx : (ofN IT)[i] = (x : Int) := by simp [ofN, hx]
    rw [hgx] at cg
    have x0 := hp.cell 0 (.slice p0 L.length cap) rfl
    have x25 := hp.cell 25 (vs 0) rfl
    rw [e0] at x25
    have hnn : pxN IT SU AT PE 0 = IT.length := rfl
    rw [hnn] at x25 hk2
    have xa := hN.nth hlt
    rw [hn] at xa
    obtain rfl := hN.at_ hlt
    have hx1 : (0 : Int) ≤ (x : Int) := by omega
    have hx2 : (x : Int) < (L.length : Int) := by omega
    have HV := Lib.hid hV
    have Hn := Lib.hid hn
    have Hx := Lib.hid hx
    have Hxs := Lib.hid hxs
    have Hrn := Lib.hid hrn
    have HIT := Lib.hid hIT
    clear hV hn hx hxs hrn hIT hr0 e0 hk1 hgx hnn hk0 hgi he h hp hN
    go_enter Tryz.func84, Tryz.ntmps84
    go_upto_region 3 with (go_at_call 120; refine hKi.out.mono ?_; rintro e w' ⟨rfl, nq, rfl⟩)
    have hb2 : Below w.heap.size w (w.drewN nq) := below_drewN (Below.refl _ _) _
    have HF0 : Hid (∀ W, Below w.heap.size w W → W.cell? ⟨X, 0, none⟩ = some (.slice (some ⟨b, off, none⟩) L.length cap) ∧ W.cell? ⟨X, 25, none⟩ = some (.slice (some ⟨g, 0, none⟩) IT.length ci) ∧ W.cell? ⟨g, i, none⟩ = some (.int .i64 x) ∧ agg? W b (off + x * 19) 19 = some n.arr) := Lib.hid fun W hb =>
      ⟨cell_below9 x0 hb, cell_below9 x25 hb, cell_below9 cg hb, by have := (H.out.nodes.below hb).nth hlt; rwa [Hn.out] at this⟩
    have hsz : (w.drewN nq).heap.size = w.heap.size := rfl
    generalize w.drewN nq = w2 at hb2 hsz ⊢
    have HSz := Lib.hid hsz
    obtain ⟨y0, y25, yg, ya⟩ := HF0.out _ hb2.drew
    have hbd := hb2.drew
    clear x0 x25 cg xa hsz hb2
    go_cut [6] from 11 to 27 (fun s6 wx => s6 = .pointer (some ⟨w2.heap.size, 0, none⟩) ∧ wx.heap[w2.heap.size]? = some (.cells n.arr 69 (0, 0)) ∧ Below w.heap.size w wx)
    case first =>
      go_region_held3 (fun W => W.cell? ⟨X, 0, none⟩ = some (.slice (some ⟨b, off, none⟩) L.length cap) ∧ W.cell? ⟨X, 25, none⟩ = some (.slice (some ⟨g, 0, none⟩) IT.length ci) ∧ W.cell? ⟨g, i, none⟩ = some (.int .i64 x) ∧ agg? W b (off + x * 19) 19 = some n.arr)
        (first | exact HF0.out _ hbd | exact HF0.out _ (hbd.alloc hbd.size _)) (fail)
      go_wp2_with fail
      go_meet
      exact ⟨rfl, heap_alloc_new w2.drew _, hbd.alloc hbd.size _⟩
    case rest =>
      obtain ⟨rfl, dZ, hbw⟩ := hcut
      have hZ : w.heap.size ≤ w2.heap.size := Nat.le_of_eq HSz.out.symm
      generalize w2.heap.size = Z at dZ hZ ⊢
      have z0 : wc.cell? ⟨Z, 0, none⟩ = some (.int .i64 n.kind) := by rw [cell?_blk' dZ]; rfl
      have z16 : wc.cell? ⟨Z, 16, none⟩ = some (.int .i64 n.pen) := by rw [cell?_blk' dZ]; rfl
      have z17 : wc.cell? ⟨Z, 17, none⟩ = some (.int .i64 n.sub) := by rw [cell?_blk' dZ]; rfl
      have HPr : Hid (∀ nx pr, priceN L P pr x nx = (if n.kind = 7 then (match pr with | none => none | some y => if fallsR (nth L y).kind then none else some 0) else if n.kind = 8 then (if n.sub = 1 ∧ (match nx with | none => false | some y => (nth L y).kind == 7) = true then some 0 else none) else if n.kind = 16 then (if (match nx with | none => false | some y => (nth L y).kind == 7) = true then some 0 else none) else if n.kind = 9 then some n.pen else if n.kind = 10 then some (if (threeP L x).1 = [] then P.exhyp else P.hyp) else none)) := Lib.hid fun nx pr => by rw [← Hn.out]; rfl
      have hnx : i + 1 < IT.length := by
        have h1 : IT.length = s.length + 1 := by rw [HIT.out]; simp
        rcases Nat.lt_or_ge (i + 1) IT.length with h2 | h2
        · exact h2
        · exfalso
          have h3 : i = s.length := by omega
          have h4 := Hx.out
          subst h3
          have h5 : IT[s.length]? = some L.length := by rw [HIT.out]; simp
          rw [List.getElem?_eq_getElem hi, h4] at h5
          have := Option.some.inj h5
          omega
      obtain ⟨y, hy⟩ : ∃ y, IT[i + 1] = y := ⟨_, rfl⟩
      have hyo : Hid (IT[i + 1]? = some y) := Lib.hid (by rw [List.getElem?_eq_getElem hnx, hy])
      have HKn : Hid (∀ W, Below w.heap.size w W → Calls Tryz.prog 120 #[.pointer (some ⟨X, 0, none⟩), .int .i64 ((i : Int) + 1)] W fun e w' => e = .returned (.int .i64 (kindP L y)) ∧ ∃ n, w' = W.drewN n) := Lib.hid fun W hb => by
        have := hK.out (i + 1) hnx W hb
        rw [hy] at this
        exact this
      have Hky : Hid ((kindP L y == 7) = ((nth L y).kind == 7)) := Lib.hid (by
        unfold kindP
        split
        · rename_i e
          subst e
          have : nth L L.length = Nd.zero := by unfold nth; rw [List.getElem?_eq_none (Nat.le_refl _)]; rfl
          rw [this]; rfl
        · rfl)
      have hil2 : (i : Int) + 1 ≤ 9223372036854775807 := by
        have h1 : IT.length = s.length + 1 := by rw [HIT.out]; simp
        have h2 := hs.len
        have h3 := H.out.len
        omega
      clear y0 y25 yg ya hbd dZ hy hKi
      cases k7 : (n.kind == 7)
      rotate_left
      · by_cases hi0 : i = 0
        · have hr : priceV L P IT i = (0, false) := by
            rw [HV.out, HPr.out, if_pos (by simpa using k7), if_pos hi0]; rfl
          have HR := Lib.hid hr
          have hi9 : ¬ (0 : Int) < (i : Int) := by omega
          have hi6 : decide (0 < i) = false := decide_eq_false (by omega)
          have hbwd := hbw.drew
          clear hr hi0
          go_upto_region 6 with (fail)
          refine TW.region (fun W => Below w.heap.size w W) follows (by kernel_rfl) hbwd ?_
          iterate 22 first
            | (refine TW.cons_n rfl _ (by intro wT hT R hR K hK; simp only [Act.put, List.setIfInBounds_toArray, List.set_cons_zero, List.set_cons_succ] at hK; skip; go_step; first | exact hK _ _ (hR _ hT) | exact hK _ _ (hR _ hT)) ?_; try simp only [Act.put, List.setIfInBounds_toArray, List.set_cons_zero, List.set_cons_succ])
            | (refine TW.skip_g _ _ _ rfl rfl rfl ?_; try simp only [Act.put, List.setIfInBounds_toArray, List.set_cons_zero, List.set_cons_succ])
            | (refine TW.skip_u _ _ _ rfl rfl rfl ?_; try simp only [Act.put, List.setIfInBounds_toArray, List.set_cons_zero, List.set_cons_succ])
            | (refine TW.cons_g _ _ _ rfl rfl rfl _ (by intro wT hT R hR K hK; simp only [Act.put, List.setIfInBounds_toArray, List.set_cons_zero, List.set_cons_succ] at hK; skip; go_step; first | exact hK _ _ (hR _ hT) | exact hK _ _ (hR _ hT)) ?_; try simp only [Act.put, List.setIfInBounds_toArray, List.set_cons_zero, List.set_cons_succ])
          refine TW.nil fun w9 h9 => ?_
          go_wp2_with fail
          go_ret2
          exact ⟨by rw [HR.out]; rfl, h9⟩
        · have hi9 : (0 : Int) < (i : Int) := by omega
          have hip : i - 1 < IT.length := by omega
          obtain ⟨q, hq⟩ : ∃ q, IT[i - 1] = q := ⟨_, rfl⟩
          have hr : priceV L P IT i = (0, !fallsR (nth L q).kind) := by
            rw [HV.out, HPr.out, if_pos (by simpa using k7), if_neg hi0]
            have : IT.getD (i - 1) 0 = q := by simp [List.getD, List.getElem?_eq_getElem hip, hq]
            rw [this]
            cases hf : fallsR (nth L q).kind <;> simp [hf, optV]
          have HR := Lib.hid hr
          have hqlt : q < L.length := by
            have h1 : i - 1 < s.length := by
              have := hnx
              rw [HIT.out, List.length_append, List.length_singleton] at this
              omega
            have h2 : q ∈ s := by
              have h3 : IT[i - 1]? = s[i - 1]? := by rw [HIT.out, List.getElem?_append_left h1]
              rw [List.getElem?_eq_getElem hip, List.getElem?_eq_getElem h1, hq] at h3
              rw [Option.some.inj h3]
              exact List.getElem_mem h1
            exact (hs.lt q h2).2
          have HG0 : Hid (∀ W, Below w.heap.size w W → W.cell? ⟨X, 0, none⟩ = some (.slice (some ⟨b, off, none⟩) L.length cap) ∧ W.cell? ⟨X, 25, none⟩ = some (.slice (some ⟨g, 0, none⟩) IT.length ci) ∧ W.cell? ⟨g, i - 1, none⟩ = some (.int .i64 q) ∧ agg? W b (off + q * 19) 19 = some (nth L q).arr) := Lib.hid fun W hb => by
            obtain ⟨a1, a2, _, _⟩ := HF0.out W hb
            refine ⟨a1, a2, ?_, (H.out.nodes.below hb).nth hqlt⟩
            have hp9 := (H.out.para.still hb)
            have hr9 := hp9.rows 0 (by decide)
            have e9 : vs 0 = .slice (some ⟨g, 0, none⟩) IT.length ci := by
              have := hp9.cell 25 (vs 0) rfl
              rw [a2] at this
              exact (Option.some.inj this).symm
            rw [e9] at hr9
            obtain ⟨g9, q1, _, _, q4⟩ := zin_get9 (l := ofN IT) (i := i - 1) hr9 (by simpa [ofN] using hip)
            cases q1
            rw [show (ofN IT)[i - 1]'(by simpa [ofN] using hip) = (q : Int) from by simp [ofN, hq]] at q4
            exact q4
          obtain ⟨y0, y25, yg, ya⟩ := HG0.out _ hbw.drew
          have HFa := Lib.hid (fun W => vfalls9 (nth L q) W)
          have hq1 : (0 : Int) ≤ (q : Int) := by omega
          have hq2 : (q : Int) < (L.length : Int) := by omega
          have hi7 : (0 : Int) ≤ (i : Int) - 1 := by omega
          have hi8 : (i : Int) - 1 < (IT.length : Int) := by omega
          have hbwd := hbw.drew
          clear hr hi0 hq
          generalize fallsR (nth L q).kind = fq at HR HFa
          generalize nth L q = nq' at ya HFa HG0
          have hi6 : decide (0 < i) = true := decide_eq_true (by omega)
          go_upto_region 6 with (fail)
          clear y0 y25 yg ya
          refine TW.region (fun W => Below w.heap.size w W) follows (by kernel_rfl) hbwd ?_
          iterate 22 first
            | (refine TW.cons_n rfl _ (by intro wT hT R hR K hK; simp only [Act.put, List.setIfInBounds_toArray, List.set_cons_zero, List.set_cons_succ] at hK; obtain ⟨y0, y25, yg, ya⟩ := HG0.out _ hT; go_step; first | ((with_reducible refine (HFa.out _).mono ?_); rintro e w8 ⟨rfl, h8⟩; exact hK _ _ (hR _ (hT.trans (h8.mono hT.size)))) | exact hK _ _ (hR _ hT)) ?_; try simp only [Act.put, List.setIfInBounds_toArray, List.set_cons_zero, List.set_cons_succ])
            | (refine TW.skip_g _ _ _ rfl rfl rfl ?_; try simp only [Act.put, List.setIfInBounds_toArray, List.set_cons_zero, List.set_cons_succ])
            | (refine TW.skip_u _ _ _ rfl rfl rfl ?_; try simp only [Act.put, List.setIfInBounds_toArray, List.set_cons_zero, List.set_cons_succ])
            | (refine TW.cons_g _ _ _ rfl rfl rfl _ (by intro wT hT R hR K hK; simp only [Act.put, List.setIfInBounds_toArray, List.set_cons_zero, List.set_cons_succ] at hK; obtain ⟨y0, y25, yg, ya⟩ := HG0.out _ hT; go_step; first | ((with_reducible refine (HFa.out _).mono ?_); rintro e w8 ⟨rfl, h8⟩; exact hK _ _ (hR _ (hT.trans (h8.mono hT.size)))) | exact hK _ _ (hR _ hT)) ?_; try simp only [Act.put, List.setIfInBounds_toArray, List.set_cons_zero, List.set_cons_succ])
          refine TW.nil fun w9 h9 => ?_
          go_wp2_with fail
          go_ret2
          exact ⟨by rw [HR.out]; rfl, h9⟩
      cases k8 : (n.kind == 8)
      rotate_left
      · have hb0 : priceV L P IT i = optV (if n.sub = 1 ∧ (kindP L y == 7) = true then some 0 else none) := by
          rw [HV.out, HPr.out, if_neg (by simpa using k7), if_pos (by simpa using k8), hyo.out, Hky.out]
        have HB0 := Lib.hid hb0
        have HKn2 := Lib.hid (HKn.out _ hbw)
        clear hb0
        cases h1 : (n.sub == 1)
        · have HR := Lib.hid (HB0.out.trans (by rw [if_neg (by intro e; rw [e.1] at h1; cases h1)]; rfl : _ = ((0 : Int), false)))
          clear HB0
          go_wp2_with fail
          go_ret2
          exact ⟨by rw [HR.out]; rfl, hbw⟩
        · have HB1 := Lib.hid (HB0.out.trans (show _ = ((0 : Int), (kindP L y == 7)) from by cases h2 : (kindP L y == 7) <;> simp [optV, show n.sub = 1 by simpa using h1]))
          clear HB0
          generalize kindP L y = ky at HKn2 HB1
          go_wp2_with (go_at_call 120; refine HKn2.out.mono ?_; rintro e w' ⟨rfl, nr, rfl⟩)
          go_ret2
          exact ⟨by rw [HB1.out]; rfl, below_drewN hbw _⟩
      cases k16 : (n.kind == 16)
      rotate_left
      · have hb0 : priceV L P IT i = optV (if (kindP L y == 7) = true then some 0 else none) := by
          rw [HV.out, HPr.out, if_neg (by simpa using k7), if_neg (by simpa using k8), if_pos (by simpa using k16), hyo.out, Hky.out]
        have HB1 := Lib.hid (hb0.trans (show _ = ((0 : Int), (kindP L y == 7)) from by cases h2 : (kindP L y == 7) <;> simp [optV]))
        have HKn2 := Lib.hid (HKn.out _ hbw)
        clear hb0
        generalize kindP L y = ky at HKn2 HB1
        go_wp2_with (go_at_call 120; refine HKn2.out.mono ?_; rintro e w' ⟨rfl, nr, rfl⟩)
        go_ret2
        exact ⟨by rw [HB1.out]; rfl, below_drewN hbw _⟩
      cases k9 : (n.kind == 9)
      rotate_left
      · have hr : priceV L P IT i = (n.pen, true) := by
          rw [HV.out, HPr.out, if_neg (by simpa using k7), if_neg (by simpa using k8), if_neg (by simpa using k16), if_pos (by simpa using k9)]; rfl
        have HR := Lib.hid hr
        clear hr
        go_wp2_with fail
        go_ret2
        exact ⟨by rw [HR.out]; rfl, hbw⟩
      cases k10 : (n.kind == 10)
      · have hr : priceV L P IT i = (0, false) := by
          rw [HV.out, HPr.out, if_neg (by simpa using k7), if_neg (by simpa using k8), if_neg (by simpa using k16), if_neg (by simpa using k9), if_neg (by simpa using k10)]; rfl
        have HR := Lib.hid hr
        clear hr
        go_wp2_with fail
        go_ret2
        exact ⟨by rw [HR.out]; rfl, hbw⟩
      · have k10' : n.kind = 10 := by simpa using k10
        have hr : priceV L P IT i = (if (threeP L x).1 = [] then P.exhyp else P.hyp, true) := by
          rw [HV.out, HPr.out, if_neg (by simpa using k7), if_neg (by simpa using k8), if_neg (by simpa using k16), if_neg (by simpa using k9), if_pos k10']; rfl
        have HR := Lib.hid hr
        have hbwd := hbw.drew
        have HPt := Lib.hid (parts9 (some ⟨b, off, none⟩) b off cap L s hc hs x Hxs.out (by rw [Hn.out]; exact k10') _ (H.out.nodes.below hbwd))
        obtain ⟨y0, y25, yg, ya⟩ := HF0.out _ hbwd
        clear hr k10' ya
        go_upto_region 14 with (fail)
        clear y0 y25 yg
        refine Rest.region follows ?_
        refine Rest.tame 11 (fun W => W = wc.drew) (by kernel_rfl) rfl ?_
        simp only [Nat.reduceSub, List.drop_zero, List.take_succ_cons, List.take_zero]
        iterate 11 first
          | (refine TW.cons_n rfl _ (by intro wT hT R hR K hK; simp only [Act.put, List.setIfInBounds_toArray, List.set_cons_zero, List.set_cons_succ] at hK; subst hT; obtain ⟨y0, y25, yg, _⟩ := HF0.out _ hbwd; go_step; first | exact hK _ _ (hR _ rfl) | exact hK _ _ (hR _ rfl)) ?_; try simp only [Act.put, List.setIfInBounds_toArray, List.set_cons_zero, List.set_cons_succ])
          | (refine TW.skip_g _ _ _ rfl rfl rfl ?_; try simp only [Act.put, List.setIfInBounds_toArray, List.set_cons_zero, List.set_cons_succ])
          | (refine TW.skip_u _ _ _ rfl rfl rfl ?_; try simp only [Act.put, List.setIfInBounds_toArray, List.set_cons_zero, List.set_cons_succ])
          | (refine TW.cons_g _ _ _ rfl rfl rfl _ (by intro wT hT R hR K hK; simp only [Act.put, List.setIfInBounds_toArray, List.set_cons_zero, List.set_cons_succ] at hK; subst hT; obtain ⟨y0, y25, yg, _⟩ := HF0.out _ hbwd; go_step; first | exact hK _ _ (hR _ rfl) | exact hK _ _ (hR _ rfl)) ?_; try simp only [Act.put, List.setIfInBounds_toArray, List.set_cons_zero, List.set_cons_succ])
        refine TW.nil fun w9 h9 => ?_
        subst h9
        refine Rest.step rfl (by kernel_rfl) rfl ?_
        go_step
        refine HPt.out.mono ?_
        rintro e w5 ⟨⟨vs9, rfl, hv9⟩, hb5⟩
        obtain ⟨p9, c9, e9⟩ := owns_form (hv9.rows 0 (by decide))
        rw [e9]
        have HE9 := Lib.hid e9
        clear e9
        refine Rest.tame 21 (fun W => w5 = W) (by kernel_rfl) rfl ?_
        simp only [Nat.reduceSub, List.drop_succ_cons, List.drop_zero, List.take_succ_cons, List.take_zero]
        iterate 9 first
          | (refine TW.cons_n rfl _ (by intro wT hT R hR K hK; simp only [Act.put, List.setIfInBounds_toArray, List.set_cons_zero, List.set_cons_succ] at hK; subst hT; go_step; first | exact hK _ _ (hR _ rfl) | exact hK _ _ (hR _ rfl)) ?_; try simp only [Act.put, List.setIfInBounds_toArray, List.set_cons_zero, List.set_cons_succ])
          | (refine TW.skip_g _ _ _ rfl rfl rfl ?_; try simp only [Act.put, List.setIfInBounds_toArray, List.set_cons_zero, List.set_cons_succ])
          | (refine TW.skip_u _ _ _ rfl rfl rfl ?_; try simp only [Act.put, List.setIfInBounds_toArray, List.set_cons_zero, List.set_cons_succ])
          | (refine TW.cons_g _ _ _ rfl rfl rfl _ (by intro wT hT R hR K hK; simp only [Act.put, List.setIfInBounds_toArray, List.set_cons_zero, List.set_cons_succ] at hK; subst hT; go_step; first | exact hK _ _ (hR _ rfl) | exact hK _ _ (hR _ rfl)) ?_; try simp only [Act.put, List.setIfInBounds_toArray, List.set_cons_zero, List.set_cons_succ])
        refine TW.nil fun w9 h9 => ?_
        subst h9
        refine Rest.done ?_
        have hb9 : Below w.heap.size w w5 := hbwd.trans (hb5.mono hbwd.size)
        have hpx := H.out.para.still hb9
        have f4 := hpx.cell 4 (.int .i64 P.hyp) rfl
        have f5 := hpx.cell 5 (.int .i64 P.exhyp) rfl
        have hm9 : ∃ m9, (tP (threeP L x) 0).length = m9 := ⟨_, rfl⟩
        obtain ⟨m9, hm9⟩ := hm9
        rw [hm9]
        have HM9 := Lib.hid hm9
        clear hpx hm9 hv9 HE9
        by_cases h0 : m9 = 0
        · have HR2 := Lib.hid (HR.out.trans (by rw [if_pos (show (threeP L x).1 = [] from List.length_eq_zero_iff.1 (HM9.out.trans h0))]))
          have hl0 : decide (0 < m9) = false := decide_eq_false (by omega)
          clear h0
          go_wp2_with fail
          go_ret2
          exact ⟨by rw [HR2.out]; rfl, hb9⟩
        · have HR2 := Lib.hid (HR.out.trans (by rw [if_neg (fun e => h0 (HM9.out.symm.trans (show (threeP L x).1.length = 0 by rw [e]; rfl)))]))
          have hl0 : decide (0 < m9) = true := decide_eq_true (by omega)
          clear h0
          go_wp2_with fail
          go_ret2
          exact ⟨by rw [HR2.out]; rfl, hb9⟩
end Go.Proofs.YtiijpbfkchokaaaGreat
