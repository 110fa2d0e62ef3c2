/-
  The document's Sized.
-/
import Derived.Test.YtomehdepjenilaaGreatS8
namespace Go.Proofs.YtomehdepjenilaaGreat
open Go.ChangeShapes Go.WideShapes Go.ChangeAt Go.RowKit
attribute [local go_sem ↓] Go.wp_at_zero Go.wp_at_succ
theorem lastD_light (L : List Nd) : ∀ (r q : List Nat), (∀ x ∈ r, lightK (nth L x).kind = true) → lastD L (r ++ q) = lastD L q
  | [], _, _ => rfl
  | x :: r, q, h => by
    rw [List.cons_append]
    show (if lightK (nth L x).kind then lastD L (r ++ q) else _) = _
    rw [if_pos (h x List.mem_cons_self)]
    exact lastD_light L r q (fun y hy => h y (List.mem_cons_of_mem _ hy))
theorem lastD_take {L : List Nd} {s : List Nat} {k : Nat} (h : ∀ j, k ≤ j → (hj : j < s.length) → lightK (nth L s[j]).kind = true) : lastD L s.reverse = lastD L (s.take k).reverse := by
  have e : s.reverse = (s.drop k).reverse ++ (s.take k).reverse := by rw [← List.reverse_append, List.take_append_drop]
  rw [e, lastD_light]
  intro x hx
  rw [List.mem_reverse] at hx
  obtain ⟨i, hi, rfl⟩ := List.getElem_of_mem hx
  rw [List.getElem_drop]
  exact h _ (by omega) _
theorem lastD_at {L : List Nd} {s : List Nat} {j : Nat} (hj : j < s.length) (hl : lightK (nth L s[j]).kind = false) : lastD L (s.take (j + 1)).reverse = if solidK (nth L s[j]).kind then (nth L s[j]).d else 0 := by
  rw [List.take_succ_eq_append_getElem hj, List.reverse_append]
  show lastD L (s[j] :: (s.take j).reverse) = _
  show (if lightK (nth L s[j]).kind then _ else if solidK (nth L s[j]).kind then (nth L s[j]).d else 0) = _
  rw [if_neg (by rw [hl]; simp)]
theorem ahead_sub {s : List Nat} {t : Nat} : ∀ x ∈ aheadP s t, x ∈ s := fun _ hx => (List.takeWhile_prefix _).subset hx
set_option maxRecDepth 100000 in
set_option maxHeartbeats 16000000 in
theorem qsized (p0 : Option Addr) (b off cap : Nat) (L : List Nd) (s : List Nat) (hs : Items L 0 s) (hk : ∀ x ∈ s, (nth L x).kind ≠ 6) (hnb : ∀ x ∈ s, NdB (nth L x)) (hlen : L.length ≤ 2000) (t : Nat) (ht : t ∈ s ∨ t = L.length) (depth : Int) (hd : -1073741823 ≤ depth ∧ depth ≤ 1073741823) (w : World) (hN : NIn w p0 b off cap L) :
    Calls Tryz.prog 20 #[.slice p0 L.length cap, .int .i64 (t : Nat), .int .i64 depth] w fun e w' => e = .returned (.tuple #[.agg (measP L s t depth).1.arr, .int .i64 (measP L s t depth).2]) ∧ Below w.heap.size w w' := by
  obtain ⟨d1, d2⟩ := hd
  have htl : t ≤ L.length := by
    rcases ht with h | h
    · exact Nat.le_of_lt (hs.lt t h).2
    · omega
  have hcap := hN.cap'
  have hlt2 : (L.take t).length = t := by rw [List.length_take]; omega
  have hs2 := items_take hs ht
  have hin : ∀ x ∈ aheadP s t, x < t := fun x hx => by have := (hs2.lt x hx).2; omega
  have hnt : ∀ x ∈ aheadP s t, nth (L.take t) x = nth L x := fun x hx => nth_take (hin x hx)
  have hsu : sumP (L.take t) (aheadP s t) = sumP L (aheadP s t) := sumP_congr hnt
  have HSum : Hid (∀ W, Below w.heap.size w W → Calls Tryz.prog 47 #[.slice p0 t cap, .bool true] W fun e w' => e = .returned (.agg (sumP L (aheadP s t)).arr) ∧ Below W.heap.size W w') := Lib.hid fun W hb => by
    have := qsum p0 b off cap (L.take t) (aheadP s t) hs2 (fun x hx => by rw [hnt x hx]; exact hk x (ahead_sub x hx)) (fun x hx => by rw [hnt x hx]; exact hnb x (ahead_sub x hx)) (by omega) W ((hN.below hb).take t)
    rw [hlt2, hsu] at this
    exact this
  have HSt : Hid (∀ W, Below w.heap.size w W → Calls Tryz.prog 35 #[.slice p0 t cap] W fun e w' => (∃ v, e = .returned v ∧ IRow W v (aheadP s t) w') ∧ Below W.heap.size W w') := Lib.hid fun W hb => by
    have := qstarts p0 b off cap (L.take t) (aheadP s t) W ((hN.below hb).take t) hs2 (fun x hx => by rw [hnt x hx]; exact hk x (ahead_sub x hx))
    rw [hlt2] at this
    exact this
  have hsl := hs2.len
  have H := Lib.hid hN
  have HIn := Lib.hid hin
  have HNb := Lib.hid (fun x (hx : x ∈ aheadP s t) => hnb x (ahead_sub x hx))
  have HMs := Lib.hid (meas_sized L s t depth)
  obtain ⟨⟨u1, u2⟩, _, _⟩ := sum_bound (L := L) (s := aheadP s t) (fun x hx => hnb x (ahead_sub x hx)) (by omega)
  obtain ⟨T, hT⟩ : ∃ T, sumP L (aheadP s t) = T := ⟨_, rfl⟩
  rw [hT] at HSum u1 u2 HMs
  obtain ⟨s', hs'⟩ : ∃ s', aheadP s t = s' := ⟨_, rfl⟩
  rw [hs'] at HSt hsl HIn HNb HMs
  have ht1 : (0 : Int) ≤ (t : Int) := by omega
  have ht2 : (t : Int) ≤ (cap : Int) := by omega
  have ht3 : (t : Int) ≤ (L.length : Int) := by omega
  have hb0 : Below w.heap.size w (w.alloc (.cells (Tt.mk 0 0 0 0 0 0 0 0 0).arr 57)) := (Below.refl _ _).alloc (Nat.le_refl _) _
  have bR : TAt (w.alloc (.cells (Tt.mk 0 0 0 0 0 0 0 0 0).arr 57)) w.heap.size ⟨0, 0, 0, 0, 0, 0, 0, 0, 0⟩ := heap_alloc_new w _
  rw [hlt2] at hsl
  clear hs hk hnb ht hs2 hin hnt hsu hT hs' hN hlt2
  go_enter Tryz.func20, Tryz.ntmps20
  go_upto_region 1 with (fail)
  generalize w.alloc (.cells (Tt.mk 0 0 0 0 0 0 0 0 0).arr 57) = w1 at hb0 bR ⊢
  go_wp2_with fail
  refine (HSum.out _ hb0).mono ?_
  clear HSum
  rintro e w2 ⟨rfl, hb2⟩
  go_upto_region 2 with (fail)
  have cX := heap_alloc_new w2 (.cells T.arr 57)
  have cR : TAt w2 w.heap.size ⟨0, 0, 0, 0, 0, 0, 0, 0, 0⟩ := (hb2.block _ bR.lt).trans bR
  have eR : TAt (w2.alloc (.cells T.arr 57)) w.heap.size ⟨0, 0, 0, 0, 0, 0, 0, 0, 0⟩ := (Below.heap_alloc _ _ _ cR.lt).trans cR
  have eb := (hb0.trans (hb2.mono hb0.size)).alloc (hb0.trans (hb2.mono hb0.size)).size (.cells T.arr 57)
  have hXR : w.heap.size < w2.heap.size := cR.lt
  clear bR hb0 hb2 cR
  have eX : TAt (w2.alloc (.cells T.arr 57)) w2.heap.size T := cX
  clear cX
  generalize w2.alloc (.cells T.arr 57) = w3 at eX eR eb ⊢
  generalize w2.heap.size = X at eX hXR ⊢
  go_wp2_with fail
  refine (HSt.out _ eb).mono ?_
  clear HSt
  rintro e w4 ⟨⟨v, rfl, hrow⟩, hb4⟩
  have fX : TAt w4 X T := (hb4.block _ eX.lt).trans eX
  have fR : TAt w4 w.heap.size ⟨0, 0, 0, 0, 0, 0, 0, 0, 0⟩ := (hb4.block _ eR.lt).trans eR
  have fb := eb.trans (hb4.mono eb.size)
  have hrw : w4.ownsRow w3.heap.size 3 1 v s'.length (ints (ofN s')) := hrow
  obtain ⟨pv, cv, rfl⟩ := owns_form hrw
  clear hrow eX eR eb hb4
  have hln : IntKind.i64.wrap ((s'.length : Int) - 1) = (s'.length : Int) - 1 := Go.IntWalk.i64_in _ (by omega)
  go_wp2_with fail
  clear hln
  go_loopg [11] (s'.length + 1) (fun gg t11 wr => ∃ k : Nat, gg = k + 1 ∧ k ≤ s'.length ∧ t11 = .int .i64 ((k : Int) - 1) ∧ (∀ j, k ≤ j → (hj : j < s'.length) → lightK (nth L s'[j]).kind = true) ∧ Below w4.heap.size w4 wr)
  case atStart => exact ⟨s'.length, rfl, Nat.le_refl _, rfl, fun j h1 h2 => by omega, .refl _ _⟩
  case round =>
    obtain ⟨k, rfl, hk, rfl, hlt, hbl⟩ := hrel
    have HLt := Lib.hid hlt
    have gX : TAt wr X T := (hbl.block _ fX.lt).trans fX
    have gR : TAt wr w.heap.size ⟨0, 0, 0, 0, 0, 0, 0, 0, 0⟩ := (hbl.block _ fR.lt).trans fR
    have gb := fb.trans (hbl.mono fb.size)
    have grow := ownsRow_below hrw hbl
    have GX := Lib.hid gX
    have GR := Lib.hid gR
    have hFin : ∀ (A : World) (U : Tt) (d : Int), TAt A X U → TAt A w.heap.size ⟨0, 0, 0, 0, 0, 0, 0, 0, 0⟩ → Below w.heap.size w A → agg? A X 0 9 = some U.arr ∧ there? A w.heap.size 0 9 = true ∧ agg? (setAgg A w.heap.size 0 U.arr) w.heap.size 0 9 = some U.arr ∧ Below w.heap.size w (setAgg A w.heap.size 0 U.arr) := fun A U d h1 h2 h3 => ⟨h1.agg, h2.there, h2.store.agg, Below.setAgg h3 (Nat.le_refl _) _ _⟩
    have HFin := Lib.hid hFin
    clear hlt gX gR hFin
    cases k with
    | zero =>
      have hl0 : lastD L s'.reverse = 0 := by rw [lastD_take (k := 0) (fun j h1 h2 => HLt.out j h1 h2)]; rfl
      have hneg : ¬ (0 : Int) ≤ ((0 : Nat) : Int) - 1 := by omega
      have hms : measP L s t depth = capD T 0 depth := by rw [HMs.out, hl0]
      have HRs := Lib.hid hms
      have t0 := GX.out.cell 0 _ (Tt.get0 T)
      have f0 := GX.out.frozen 0
      clear hms hl0
      by_cases hdd : depth < 0
      · have Hc := Lib.hid (show capD T 0 depth = ({ T with nat := T.nat - depth }, depth) by
          unfold capD; rw [if_pos hdd]
          rw [show T.nat - 0 + (0 - depth) = T.nat - depth by omega])
        go_upto_region 13 with (fail)
        have hT7 : TAt (wr.setCell ⟨X, 0, none⟩ (.int .i64 (T.nat - depth))) X { T with nat := T.nat - depth } := GX.out.set 0 _ rfl
        have hR7 : TAt (wr.setCell ⟨X, 0, none⟩ (.int .i64 (T.nat - depth))) w.heap.size ⟨0, 0, 0, 0, 0, 0, 0, 0, 0⟩ := (Below.heap_setCell _ _ _ _ (by simp only; omega)).trans GR.out
        have hB7 : Below w.heap.size w (wr.setCell ⟨X, 0, none⟩ (.int .i64 (T.nat - depth))) := gb.setCell (p := ⟨X, 0, none⟩) (by simp only; omega) _
        generalize wr.setCell ⟨X, 0, none⟩ (.int .i64 (T.nat - depth)) = A7 at hT7 hR7 hB7 ⊢
        clear t0 f0
        obtain ⟨aX9, th9, ag9, hb9⟩ := HFin.out A7 { T with nat := T.nat - depth } 0 hT7 hR7 hB7
        go_wp2_with fail
        exact ⟨rfl, _, results_tt2 rfl _ _ w.heap.size _ rfl ag9, by rw [HRs.out, Hc.out]; rfl, hb9⟩
      · have Hc := Lib.hid (show capD T 0 depth = (T, 0) by
          unfold capD; rw [if_neg hdd]
          rw [show T.nat - 0 = T.nat by omega])
        have hdd2 : 0 ≤ depth := by omega
        go_upto_region 13 with (fail)
        obtain ⟨aX9, th9, ag9, hb9⟩ := HFin.out wr T 0 GX.out GR.out gb
        go_wp2_with fail
        exact ⟨rfl, _, results_tt2 rfl _ _ w.heap.size _ rfl ag9, by rw [HRs.out, Hc.out]; rfl, hb9⟩
    | succ j =>
      have hjl : j < s'.length := by omega
      have hj0 : ((j + 1 : Nat) : Int) - 1 = (j : Int) := by omega
      rw [hj0]
      clear hj0
      have hj1 : (0 : Int) ≤ (j : Int) := by omega
      have hj2 : (j : Int) < (s'.length : Int) := by omega
      obtain ⟨gi, c, hv, _, hcp, cI⟩ := irow_cell grow hjl
      simp only [Value.slice.injEq] at hv
      obtain ⟨rfl, _, rfl⟩ := hv
      have hxm := List.getElem_mem hjl
      have hxt := HIn.out _ hxm
      have hxn := HNb.out _ hxm
      have hN := H.out.below gb
      have hLD : lightK (nth L s'[j]).kind = false → lastD L s'.reverse = if solidK (nth L s'[j]).kind then (nth L s'[j]).d else 0 := fun h => by rw [lastD_take (k := j + 1) (fun i h1 h2 => HLt.out i h1 h2), lastD_at hjl h]
      have hLt2 : lightK (nth L s'[j]).kind = true → ∀ i, j ≤ i → (hi : i < s'.length) → lightK (nth L s'[i]).kind = true := fun h i h1 h2 => by
        by_cases e : i = j
        · subst e; exact h
        · exact HLt.out i (by omega) h2
      obtain ⟨x, hx⟩ : ∃ x, s'[j] = x := ⟨_, rfl⟩
      rw [hx] at cI hxt hxn hLD hLt2
      have hxl : x < L.length := by omega
      have xa := hN.nth hxl
      obtain rfl := hN.at_ hxl
      have hx1 : (0 : Int) ≤ (x : Int) := by omega
      have hx2 : (x : Int) < (L.length : Int) := by omega
      obtain ⟨n, hn⟩ : ∃ n, nth L x = n := ⟨_, rfl⟩
      rw [hn] at xa hxn hLD hLt2
      have HLD := Lib.hid hLD
      have HLt2 := Lib.hid hLt2
      have HLi := Lib.hid (qlight n wr)
      have hblt := hN.lt hxl
      clear hLD hLt2 hx hxm hn hN
      cases hli : lightK n.kind
      · rw [hli] at HLi
        have hld := HLD.out hli
        have hgl : gi < wr.heap.size := (grow.lt gi rfl).2
        cases hso : solidK n.kind
        · have hl0 : lastD L s'.reverse = 0 := by rw [hld, hso]; rfl
          have hms : measP L s t depth = capD T 0 depth := by rw [HMs.out, hl0]
          have HRs := Lib.hid hms
          have Hso := Lib.hid hso
          clear hms hl0 hld hli HLD HLt2 hso
          have hsoC : ∀ w5, Calls Tryz.prog 45 #[.agg n.arr] w5 fun e w' => e = .returned (.bool false) ∧ Below w5.heap.size w5 w' := fun w5 => by have := qsolid n w5; rwa [Hso.out] at this
          have HSo := Lib.hid hsoC
          clear hsoC
          go_upto_region 10 with (first | (go_at_call 48; refine HLi.out.mono ?_; rintro e w5 ⟨rfl, hb5⟩; (have xa5 := ((bfacts hb5).2.2.1 _ _ _ hblt).trans xa); (have cI5 := (hb5.cell (p := ⟨gi, j, none⟩) hgl).trans cI)) | (go_at_call 45; refine (HSo.out _).mono ?_; rintro e w6 ⟨rfl, hb6⟩))
          have hb56 := hb5.trans (hb6.mono hb5.size)
          have kX : TAt w6 X T := (hb56.block _ GX.out.lt).trans GX.out
          have kR : TAt w6 w.heap.size ⟨0, 0, 0, 0, 0, 0, 0, 0, 0⟩ := (hb56.block _ GR.out.lt).trans GR.out
          have kb := gb.trans (hb56.mono gb.size)
          have t0 := kX.cell 0 _ (Tt.get0 T)
          have f0 := kX.frozen 0
          clear xa xa5 cI cI5 hb5 hb6 hb56
          by_cases hdd : depth < 0
          · have Hc := Lib.hid (show capD T 0 depth = ({ T with nat := T.nat - depth }, depth) by
              unfold capD; rw [if_pos hdd]
              rw [show T.nat - 0 + (0 - depth) = T.nat - depth by omega])
            go_upto_region 13 with (fail)
            have hT7 : TAt (w6.setCell ⟨X, 0, none⟩ (.int .i64 (T.nat - depth))) X { T with nat := T.nat - depth } := kX.set 0 _ rfl
            have hR7 : TAt (w6.setCell ⟨X, 0, none⟩ (.int .i64 (T.nat - depth))) w.heap.size ⟨0, 0, 0, 0, 0, 0, 0, 0, 0⟩ := (Below.heap_setCell _ _ _ _ (by simp only; omega)).trans kR
            have hB7 : Below w.heap.size w (w6.setCell ⟨X, 0, none⟩ (.int .i64 (T.nat - depth))) := kb.setCell (p := ⟨X, 0, none⟩) (by simp only; omega) _
            generalize w6.setCell ⟨X, 0, none⟩ (.int .i64 (T.nat - depth)) = A7 at hT7 hR7 hB7 ⊢
            clear t0 f0
            obtain ⟨aX9, th9, ag9, hb9⟩ := HFin.out A7 { T with nat := T.nat - depth } 0 hT7 hR7 hB7
            go_wp2_with fail
            exact ⟨rfl, _, results_tt2 rfl _ _ w.heap.size _ rfl ag9, by rw [HRs.out, Hc.out]; rfl, hb9⟩
          · have Hc := Lib.hid (show capD T 0 depth = (T, 0) by
              unfold capD; rw [if_neg hdd]
              rw [show T.nat - 0 = T.nat by omega])
            have hdd2 : 0 ≤ depth := by omega
            go_upto_region 13 with (fail)
            obtain ⟨aX9, th9, ag9, hb9⟩ := HFin.out w6 T 0 kX kR kb
            go_wp2_with fail
            exact ⟨rfl, _, results_tt2 rfl _ _ w.heap.size _ rfl ag9, by rw [HRs.out, Hc.out]; rfl, hb9⟩
        · have hl0 : lastD L s'.reverse = n.d := by rw [hld, hso]; rfl
          have hms : measP L s t depth = capD T n.d depth := by rw [HMs.out, hl0]
          have HRs := Lib.hid hms
          have Hso := Lib.hid hso
          obtain ⟨_, e1, e2⟩ := hxn.solid hso
          clear hms hl0 hld hli HLD HLt2 hso
          have hsoC : ∀ w5, Calls Tryz.prog 45 #[.agg n.arr] w5 fun e w' => e = .returned (.bool true) ∧ Below w5.heap.size w5 w' := fun w5 => by have := qsolid n w5; rwa [Hso.out] at this
          have HSo := Lib.hid hsoC
          have HGX := Lib.hid GX.out
          clear hsoC
          go_upto_region 8 with (first | (go_at_call 48; refine HLi.out.mono ?_; rintro e w5 ⟨rfl, hb5⟩; (have xa5 := ((bfacts hb5).2.2.1 _ _ _ hblt).trans xa); (have cI5 := (hb5.cell (p := ⟨gi, j, none⟩) hgl).trans cI)) | (go_at_call 45; refine (HSo.out _).mono ?_; rintro e w6 ⟨rfl, hb6⟩))
          have hb56 := hb5.trans (hb6.mono hb5.size)
          have kX : TAt w6 X T := (hb56.block _ GX.out.lt).trans GX.out
          have kR : TAt w6 w.heap.size ⟨0, 0, 0, 0, 0, 0, 0, 0, 0⟩ := (hb56.block _ GR.out.lt).trans GR.out
          have kb := gb.trans (hb56.mono gb.size)
          have cI6 := (hb56.cell (p := ⟨gi, j, none⟩) hgl).trans cI
          have xa6 := ((bfacts hb56).2.2.1 _ _ _ hblt).trans xa
          have x5 : w6.cell? ⟨b, off + x * 19 + 5, none⟩ = some (.int .i64 n.d) := agg_cell xa6 5 (.int .i64 n.d) rfl
          have t0 := kX.cell 0 _ (Tt.get0 T)
          have f0 := kX.frozen 0
          clear xa xa5 xa6 cI cI5 hb5 hb6 hb56
          go_upto_region 10 with (fail)
          have hT7 : TAt (w6.setCell ⟨X, 0, none⟩ (.int .i64 (T.nat - n.d))) X { T with nat := T.nat - n.d } := kX.set 0 _ rfl
          have hR7 : TAt (w6.setCell ⟨X, 0, none⟩ (.int .i64 (T.nat - n.d))) w.heap.size ⟨0, 0, 0, 0, 0, 0, 0, 0, 0⟩ := (Below.heap_setCell _ _ _ _ (by simp only; omega)).trans kR
          have hB7 : Below w.heap.size w (w6.setCell ⟨X, 0, none⟩ (.int .i64 (T.nat - n.d))) := kb.setCell (p := ⟨X, 0, none⟩) (by simp only; omega) _
          generalize w6.setCell ⟨X, 0, none⟩ (.int .i64 (T.nat - n.d)) = A7 at hT7 hR7 hB7 ⊢
          clear t0 f0 cI6 x5
          have t0 := hT7.cell 0 _ (Tt.get0 _)
          have f0 := hT7.frozen 0
          by_cases hdd : depth < n.d
          · have Hc := Lib.hid (show capD T n.d depth = ({ T with nat := T.nat - depth }, depth) by
              unfold capD; rw [if_pos hdd]
              rw [show T.nat - n.d + (n.d - depth) = T.nat - depth by omega])
            go_upto_region 13 with (fail)
            have hT8 : TAt (A7.setCell ⟨X, 0, none⟩ (.int .i64 (T.nat - depth))) X { T with nat := T.nat - depth } := hT7.set 0 _ rfl
            have hR8 : TAt (A7.setCell ⟨X, 0, none⟩ (.int .i64 (T.nat - depth))) w.heap.size ⟨0, 0, 0, 0, 0, 0, 0, 0, 0⟩ := (Below.heap_setCell _ _ _ _ (by simp only; omega)).trans hR7
            have hB8 : Below w.heap.size w (A7.setCell ⟨X, 0, none⟩ (.int .i64 (T.nat - depth))) := hB7.setCell (p := ⟨X, 0, none⟩) (by simp only; omega) _
            generalize A7.setCell ⟨X, 0, none⟩ (.int .i64 (T.nat - depth)) = A8 at hT8 hR8 hB8 ⊢
            clear t0 f0
            obtain ⟨aX9, th9, ag9, hb9⟩ := HFin.out A8 { T with nat := T.nat - depth } 0 hT8 hR8 hB8
            go_wp2_with fail
            exact ⟨rfl, _, results_tt2 rfl _ _ w.heap.size _ rfl ag9, by rw [HRs.out, Hc.out]; rfl, hb9⟩
          · have Hc := Lib.hid (show capD T n.d depth = ({ T with nat := T.nat - n.d }, n.d) by unfold capD; rw [if_neg hdd])
            have hdd2 : n.d ≤ depth := by omega
            go_upto_region 13 with (fail)
            obtain ⟨aX9, th9, ag9, hb9⟩ := HFin.out A7 { T with nat := T.nat - n.d } 0 hT7 hR7 hB7
            go_wp2_with fail
            exact ⟨rfl, _, results_tt2 rfl _ _ w.heap.size _ rfl ag9, by rw [HRs.out, Hc.out]; rfl, hb9⟩
      · rw [hli] at HLi
        have HL3 := Lib.hid (HLt2.out hli)
        have hw1 : IntKind.i64.wrap ((j : Int) - 1) = (j : Int) - 1 := Go.IntWalk.i64_in _ (by omega)
        clear hli HLD HLt2
        go_wp2_with (go_at_call 48; refine HLi.out.mono ?_; rintro e w5 ⟨rfl, hb5⟩)
        go_roundg (j + 1)
        case measure => omega
        case rel => exact ⟨j, rfl, by omega, by go_num, HL3.out, hbl.trans (hb5.mono hbl.size)⟩
end Go.Proofs.YtomehdepjenilaaGreat

