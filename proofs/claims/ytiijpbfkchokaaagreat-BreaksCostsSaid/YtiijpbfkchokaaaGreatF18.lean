/-
  The law BreaksLines, walked: both sides' Line answer alike.
  Lists of numbers at whatever offset they lie: the program's lines and Cost, the document's has.
-/
import Derived.Test.YtiijpbfkchokaaaGreatL6
import Derived.Test.YtiijpbfkchokaaaGreatB24
import Derived.Test.YtiijpbfkchokaaaGreatF11
import Derived.Test.YtiijpbfkchokaaaGreatF16
import Derived.Test.YtiijpbfkchokaaaGreatG4

namespace Go.Proofs.YtiijpbfkchokaaaGreat
open Go.ChangeShapes Go.WideShapes Go.ChangeAt Go.RowKit
attribute [local go_sem ↓] Go.wp_at_zero Go.wp_at_succ
structure ZOn (w : World) (p : Option Addr) (g o c : Nat) (l : List Int) : Prop where
  hp : l ≠ [] → p = some ⟨g, o, none⟩
  cap : l.length ≤ c
  at_ : ∀ i (hi : i < l.length), w.cell? ⟨g, o + i, none⟩ = some (.int .i64 l[i])
theorem ZOn.below {w w' : World} {p : Option Addr} {g o c : Nat} {l : List Int} (h : ZOn w p g o c l) (hb : Below w.heap.size w w') : ZOn w' p g o c l :=
  ⟨h.hp, h.cap, fun i hi => cell_below9 (h.at_ i hi) hb⟩

set_option maxRecDepth 100000 in
set_option maxHeartbeats 8000000 in
theorem q9hasO (p : Option Addr) (g o c : Nat) (l : List Int) (x : Int) (w : World) (h : ZOn w p g o c l) (hl : l.length ≤ 100000) :
    Calls Tryz.prog 52 #[.slice p l.length c, .int .i64 x] w fun e w' => e = .returned (.bool (decide (x ∈ l))) ∧ w = w' := by
  have H := Lib.hid h
  have k1 := h.cap
  obtain ⟨R, hR⟩ : ∃ R, decide (x ∈ l) = R := ⟨_, rfl⟩
  rw [hR]
  have HR := Lib.hid hR
  clear h hR
  go_enter Tryz.func52, Tryz.ntmps52
  go_wp2_with fail
  go_loopg [5] (l.length + 1) (fun g t wr => ∃ k : Nat, g = l.length + 1 - k ∧ k ≤ l.length ∧ t = .int .i64 k ∧ x ∉ l.take k ∧ wr = w)
  case atStart => exact ⟨0, rfl, Nat.zero_le _, rfl, by simp, rfl⟩
  case round =>
    obtain ⟨k, rfl, hk, rfl, hn, rfl⟩ := hrel
    have hk1 : (0 : Int) ≤ (k : Int) := by omega
    by_cases hlt : k < l.length
    · have hk2 : (k : Int) < (l.length : Int) := by omega
      have x1 := H.out.at_ k hlt
      obtain rfl := H.out.hp (by intro e; rw [e] at hlt; simp at hlt)
      have htk : l.take (k + 1) = l.take k ++ [l[k]] := by
        rw [List.take_add_one, List.getElem?_eq_getElem hlt]; rfl
      have hmem : l[k] ∈ l := List.getElem_mem hlt
      generalize l[k] = y at x1 htk hmem
      by_cases hy : y = x
      · have hR1 : R = true := by rw [← HR.out]; subst hy; simp [hmem]
        have hyx : (y == x) = true := by simpa using hy
        subst hR1
        clear hn htk hmem hy
        go_wp2_with fail
        go_ret
        exact ⟨rfl, rfl⟩
      · have hyx : (y == x) = false := by simpa using hy
        have HN : Hid (x ∉ l.take (k + 1)) := Lib.hid (by rw [htk]; simp only [List.mem_append, List.mem_singleton]; rintro (h | h); exact hn h; exact hy h.symm)
        clear hn htk hmem hy
        go_wp2_with fail
        go_roundg (l.length + 1 - (k + 1))
        case measure => omega
        case rel => exact ⟨k + 1, rfl, hlt, by go_num, HN.out, rfl⟩
    · have hk2 : (l.length : Int) ≤ (k : Int) := by omega
      have hR1 : R = false := by
        rw [← HR.out]
        rw [List.take_of_length_le (by omega)] at hn
        simpa using hn
      subst hR1
      clear hn
      go_wp2_with fail
      go_ret
      exact ⟨rfl, rfl⟩

set_option maxRecDepth 100000 in
set_option maxHeartbeats 8000000 in
theorem vlinesO (Y X mb B : Nat) (P : Pm) (vs : Nat → Value) (L : List Nd) (b off cap : Nat) (p0 : Option Addr) (s : List Nat) (g off2 : Nat) (S : List Sh2) (tol ext : Int) (hok : TryOk P S L s tol ext) (c : List Int) (pc : Option Addr) (gc oc cc : Nat) (hcl : c.length ≤ 9223372036854775807) (w : World) (h : TryIn w Y X mb B P vs L b off cap p0 s g off2 S tol ext) (hc : ZOn w pc gc oc cc c) :
    Calls Tryz.prog 30 #[.pointer (some ⟨Y, 0, none⟩), .slice pc c.length cc] w (LinesPost w (lnsW (oneP L P S s tol ext) (brkP L P s) c none 1 2)) := by
  obtain ⟨p2, c2, e2⟩ := owns_form (h.para.para.rows 2 (by decide))
  obtain ⟨p3, c3, e3⟩ := owns_form (h.para.para.rows 3 (by decide))
  obtain ⟨n, hn⟩ : ∃ n, (brkP L P s).length = n := ⟨_, rfl⟩
  have hna : (atsI (brkP L P s)).length = n := by rw [← hn]; simp [atsI]
  have hnp : (pensI (brkP L P s)).length = n := by rw [← hn]; simp [pensI]
  have hpa : pxN (s ++ [L.length]) (sumsP L s) (atsI (brkP L P s)) (pensI (brkP L P s)) 2 = n := hna
  have hpp : pxN (s ++ [L.length]) (sumsP L s) (atsI (brkP L P s)) (pensI (brkP L P s)) 3 = n := hnp
  rw [hpa] at e2
  rw [hpp] at e3
  have hnl : n ≤ 2001 := by
    rw [← hn]
    have := brkP_len (L := L) (P := P) (s := s)
    have := hok.items.len
    have := (checkC_zero hok.chk).1
    omega
  have HR : Hid (∀ W, Below w.heap.size w W → W.cell? ⟨Y, 0, none⟩ = some (.pointer (some ⟨X, 0, none⟩)) ∧ W.cell? ⟨X, 28, none⟩ = some (.slice p2 n c2) ∧ W.cell? ⟨X, 29, none⟩ = some (.slice p3 n c3)) := Lib.hid fun W hb => by
    have h9 := h.still hb
    refine ⟨h9.cell.1, ?_, ?_⟩
    · have := h9.para.para.cell 28 (vs 2) rfl
      rw [e2] at this
      exact this
    · have := h9.para.para.cell 29 (vs 3) rfl
      rw [e3] at this
      exact this
  have HK : Hid (∀ W, Below w.heap.size w W → ∀ k x, (brkP L P s)[k]? = some x → (∃ g2, p2 = some ⟨g2, 0, none⟩ ∧ n ≤ c2 ∧ W.cell? ⟨g2, k, none⟩ = some (.int .i64 x.1)) ∧ (∃ g3, p3 = some ⟨g3, 0, none⟩ ∧ n ≤ c3 ∧ W.cell? ⟨g3, k, none⟩ = some (.int .i64 x.2))) := Lib.hid fun W hb k x hx => by
    have h9 := h.still hb
    have hk : k < (brkP L P s).length := (List.getElem?_eq_some_iff.1 hx).1
    refine ⟨?_, ?_⟩
    · have hr9 := h9.para.para.rows 2 (by decide)
      rw [e2, hpa] at hr9
      obtain ⟨g9, q1, _, q3, q4⟩ := zin_get9 (l := atsI (brkP L P s)) (i := k) hr9 (by rw [hna, ← hn]; exact hk)
      refine ⟨g9, q1, q3, ?_⟩
      rw [q4]
      have : (atsI (brkP L P s))[k]? = some (x.1 : Int) := by unfold atsI; rw [List.getElem?_map, hx]; rfl
      rw [(List.getElem?_eq_some_iff.1 this).2]
    · have hr9 := h9.para.para.rows 3 (by decide)
      rw [e3, hpp] at hr9
      obtain ⟨g9, q1, _, q3, q4⟩ := zin_get9 (l := pensI (brkP L P s)) (i := k) hr9 (by rw [hnp, ← hn]; exact hk)
      refine ⟨g9, q1, q3, ?_⟩
      rw [q4]
      have : (pensI (brkP L P s))[k]? = some x.2 := by unfold pensI; rw [List.getElem?_map, hx]; rfl
      rw [(List.getElem?_eq_some_iff.1 this).2]
  have HO : Hid (∀ W, Below w.heap.size w W → ∀ (f : Option Nat) (k : Nat) (z : Nat × Int) (line before : Int), (brkP L P s)[k]? = some z → (∀ x, f = some x → x ∈ s ∧ x < z.1) → (1 ≤ line ∧ line ≤ 1000000) → (-10 ≤ before ∧ before ≤ 10) → Calls Tryz.prog 55 #[.pointer (some ⟨Y, 0, none⟩), .int .i64 (fI f), .int .i64 k, .int .i64 line, .int .i64 before] W fun e w' => e = .returned (.agg (oneP L P S s tol ext f z line before).arr) ∧ Below W.heap.size W w') := Lib.hid fun W hb f k z line before hz hf hl hbf => vone Y X mb B P vs L b off cap p0 s g off2 S tol ext hok f k z hz hf line before hl hbf W (h.still hb)
  have HC : Hid (∀ W, Below w.heap.size w W → ZOn W pc gc oc cc c) := Lib.hid fun W hb => hc.below hb
  have hcc := hc.cap
  obtain ⟨one, hone⟩ : ∃ one, oneP L P S s tol ext = one := ⟨_, rfl⟩
  have Hcls : Hid (∀ f z line before, -10 ≤ (one f z line before).cls ∧ (one f z line before).cls ≤ 10) := Lib.hid fun f z line before => by rw [← hone]; exact one_cls L P S s tol ext f z line before
  rw [hone] at HO ⊢
  obtain ⟨BL, hBL⟩ : ∃ BL, brkP L P s = BL := ⟨_, rfl⟩
  have Hbb : Hid (∀ (i j : Nat) (x y : Nat × Int), BL[i]? = some x → BL[j]? = some y → i < j → x.1 ∈ s ∧ x.1 < y.1) := Lib.hid fun i j x y hi hj hij => by rw [← hBL] at hi hj; exact brk_before hok.items hi hj hij
  rw [hBL] at HK HO hn ⊢
  have Hn := Lib.hid hn
  obtain ⟨y0, y28, y29⟩ := HR.out w (Below.refl _ _)
  obtain ⟨nc, hnc⟩ : ∃ nc, c.length = nc := ⟨_, rfl⟩
  rw [hnc] at hcl hcc ⊢
  have Hnc := Lib.hid hnc
  clear h hc hok hn hna hnp hpa hpp e2 e3 hone hBL hnc
  go_enter Tryz.func30, Tryz.ntmps30
  go_wp2_with fail
  clear y0 y28 y29
  go_loopg [6, 7, 8, 9, 21] (n + 1) (fun gg t6 t7 t8 t9 t21 wr => ∃ (k j : Nat) (acc : List Bk) (v : Value) (f : Option Nat) (cl : Int), gg = n + 1 - k ∧ k ≤ n ∧ j ≤ nc ∧ acc.length ≤ k ∧ t6 = v ∧ t7 = .int .i64 j ∧ t8 = .int .i64 (fI f) ∧ t9 = .int .i64 cl ∧ t21 = .int .i64 k ∧ (-10 ≤ cl ∧ cl ≤ 10) ∧ (∀ x, f = some x → ∃ i q, i < k ∧ BL[i]? = some (x, q)) ∧ lnsW one BL c none 1 2 = (lnsW one (BL.drop k) (c.drop j) f ((acc.length : Int) + 1) cl).map (acc ++ ·) ∧ wr.ownsRow w.heap.size 91 6 v acc.length (acc.flatMap Bk.cells) ∧ Below w.heap.size w wr)
  case atStart => exact ⟨0, 0, [], _, none, 2, rfl, Nat.zero_le _, Nat.zero_le _, Nat.le_refl _, rfl, rfl, rfl, rfl, rfl, by omega, (fun x hx => by cases hx), by simp [List.drop_zero], World.ownsRow_nil _ _ _ _, Below.refl _ _⟩
  case round =>
    obtain ⟨k, j, acc, v, f, cl, rfl, hk, hj, hak, rfl, rfl, rfl, rfl, rfl, hcl9, hf, hln, hrow, hb⟩ := hrel
    obtain ⟨po, co, eo⟩ := owns_form hrow
    have Hln := Lib.hid hln
    have Hf := Lib.hid hf
    have Hrow := Lib.hid hrow
    have HB := Lib.hid hb
    have hk0 : (0 : Int) ≤ (k : Int) := by omega
    have hj0 : (0 : Int) ≤ (j : Int) := by omega
    subst eo
    clear hln hf hrow hb
    by_cases hlt : k < n
    · have hk1 : (k : Int) < (n : Int) := by omega
      obtain ⟨z, hz⟩ : ∃ z, BL[k]? = some z := ⟨_, List.getElem?_eq_getElem (by rw [Hn.out]; exact hlt)⟩
      obtain ⟨⟨g2, hg2, hc2, cg2⟩, ⟨g3, hg3, hc3, cg3⟩⟩ := HK.out _ HB.out k z hz
      subst hg2
      subst hg3
      obtain ⟨a, q⟩ := z
      simp only at cg2 cg3
      have hdr : BL.drop k = (a, q) :: BL.drop (k + 1) := by
        have hk9 : k < BL.length := by rw [Hn.out]; exact hlt
        rw [List.drop_eq_getElem_cons hk9]
        congr 1
        exact (List.getElem?_eq_some_iff.1 hz).2
      have Hdr := Lib.hid hdr
      have Hz := Lib.hid hz
      obtain ⟨mt, hmt⟩ : ∃ mt, (decide (j < nc) && (c.getD j 0 == (a : Int))) = mt := ⟨_, rfl⟩
      have Hmt := Lib.hid hmt
      have hlt2 : decide (k < n) = true := decide_eq_true hlt
      clear hz hdr hmt hlt
      go_upto_region 6 with (fail)
      go_cut [37] from 26 to 37 (fun s37 wx => s37 = .bool mt ∧ wr = wx)
      case first =>
        by_cases hjn : j < nc
        · have hj1 : (j : Int) < (nc : Int) := by omega
          have hj2 : decide (j < nc) = true := decide_eq_true hjn
          have hcz := HC.out _ HB.out
          have hjc : j < c.length := by rw [Hnc.out]; exact hjn
          have cj := hcz.at_ j hjc
          obtain rfl := hcz.hp (by intro e; rw [e] at hjc; simp at hjc)
          have e1 : (c[j] == (a : Int)) = mt := by rw [← Hmt.out]; simp [hjn, List.getElem?_eq_getElem hjc]
          generalize c[j] = y at cj e1
          clear hcz hjn hjc
          go_wp2_with fail
          go_meet
          exact ⟨rfl, rfl⟩
        · have hj2 : decide (j < nc) = false := decide_eq_false hjn
          have e1 : mt = false := by rw [← Hmt.out]; simp [hjn]
          subst e1
          clear hjn
          go_wp2_with fail
          go_meet
          exact ⟨rfl, rfl⟩
      case rest =>
        obtain ⟨rfl, rfl⟩ := hcut
        cases hb9 : mt
        case true =>
          subst hb9
          have hm := Hmt.out
          simp only [Bool.and_eq_true, decide_eq_true_eq, beq_iff_eq] at hm
          obtain ⟨hjn, hca⟩ := hm
          have hjc : j < c.length := by rw [Hnc.out]; exact hjn
          have hcd : c.drop j = (a : Int) :: c.drop (j + 1) := by
            rw [List.drop_eq_getElem_cons hjc]
            congr 1
            rw [← hca]
            simp [List.getElem?_eq_getElem hjc]
          have hal : (acc.length : Int) + 1 ≤ 1000000 := by omega
          obtain ⟨x, hx⟩ : ∃ x, one f (a, q) ((acc.length : Int) + 1) cl = x := ⟨_, rfl⟩
          have HOn := HO.out wr HB.out f k (a, q) ((acc.length : Int) + 1) cl Hz.out (fun y hy => by
            obtain ⟨i, q9, hi, hiz⟩ := Hf.out y hy
            exact Hbb.out i k (y, q9) (a, q) hiz Hz.out hi) (by omega) hcl9
          rw [hx] at HOn
          have HOn2 := Lib.hid HOn
          have hxc : -10 ≤ x.cls ∧ x.cls ≤ 10 := by rw [← hx]; exact Hcls.out _ _ _ _
          have Hln2 : Hid (lnsW one BL c none 1 2 = (lnsW one (BL.drop (k + 1)) (c.drop (j + 1)) (some a) (((acc ++ [x]).length : Int) + 1) x.cls).map ((acc ++ [x]) ++ ·)) := Lib.hid (by
            rw [Hln.out, Hdr.out, hcd]
            have := lns_hit one (x := (a, q)) (r := BL.drop (k + 1)) (t := c.drop (j + 1)) (f := f) (line := (acc.length : Int) + 1) (before := cl)
            simp only at this
            rw [this, hx, Option.map_map, List.length_append, List.length_singleton]
            have e9 : (((acc.length + 1 : Nat) : Int)) + 1 = (acc.length : Int) + 1 + 1 := by omega
            rw [e9]
            congr 1
            funext l
            simp)
          clear hx HOn Hln hca hcd hjc Hmt cg3
          go_upto_region 8 with (go_at_call 55; refine HOn2.out.mono ?_; rintro e w3 ⟨rfl, hb3⟩)
          have hb4 := (Below.refl w3.heap.size w3).alloc (Nat.le_refl _) (.cells x.arr 91)
          obtain ⟨V, hV⟩ : ∃ V, w3.heap.size = V := ⟨_, rfl⟩
          have hx4 : BkAt (w3.alloc (.cells x.arr 91)) V x := by rw [← hV]; exact heap_alloc_new w3 _
          have hV1 : wr.heap.size ≤ V := by rw [← hV]; exact hb3.size
          have hb4' := hb3.trans (hb4.mono hb3.size)
          have hB4 := HB.out.trans (hb4'.mono HB.out.size)
          have hrow4 := ownsRow_below Hrow.out hb4'
          have hrl : ∀ q, (Value.slice po acc.length co).ownBlock = some q → w.heap.size ≤ q ∧ q < wr.heap.size := fun q hq => Hrow.out.lt q hq
          rw [hV]
          have ax := hx4.agg
          have Hx4 := Lib.hid hx4
          have HB4 := Lib.hid hB4
          have Hrl := Lib.hid hrl
          clear hV hb4 hb4' hB4 hb3 HOn2 hrl hx4 HB Hrow
          generalize w3.alloc (.cells x.arr 91) = w4 at Hx4 HB4 hrow4 ax ⊢
          obtain ⟨i0, hi0', hz0, hz1, hz2'⟩ := info_parts info_bkb
          have Hrow4 := Lib.hid (hrow4.alloc (.cells x.arr 91))
          have H1 := Lib.hid (bks_one x)
          have hbase : w.heap.size ≤ (w4.alloc (.cells x.arr 91)).heap.size := by rw [World.size_alloc]; exact Nat.le_succ_of_le HB4.out.size
          clear hrow4
          go_upto_region 9 with (at_builtin; refine wpList_append_lies _ rfl (.tmp 46) (.tmp 48) 29 rfl w.heap.size 91 i0 (.agg Bk.zero.arr) 6 48 Tryz.underlying29 hi0' hz0 hz1 hz2' rfl (by decide) (.slice po acc.length co) acc.length (acc.flatMap Bk.cells) rfl Hrow4.out ⟨w4.heap.size, 0, none⟩ 1 1 x.cells rfl rfl (World.news_of_block (cs := x.cells.toArray) (heap_alloc_new _ _)) H1.out (by decide) (by unfold maxLen; omega) (by omega) hbase _ rfl ?_; intro g5 cap5 w5 hown5 hgrow5 hat5 hlt5)
          have hb5 : Below w.heap.size (w4.alloc (.cells x.arr 91)) w5 := grown_below hgrow5 hbase fun q hq => (Hrl.out q hq).1
          have hB5 := HB4.out.trans (((Below.refl w4.heap.size w4).alloc (Nat.le_refl _) (.cells x.arr 91)).mono HB4.out.size)
          have HB5 := Lib.hid (hB5.trans hb5)
          have hx5 : BkAt w5 V x := (hgrow5.block V (by rw [World.size_alloc]; exact Nat.lt_succ_of_lt Hx4.out.lt) (fun e => by have := (Hrl.out V e.symm).2; omega)).trans ((Below.heap_alloc _ _ _ Hx4.out.lt).trans Hx4.out)
          have y2 := hx5.cell 2 _ rfl
          have Hrow5 : Hid (w5.ownsRow w.heap.size 91 6 (.slice (some ⟨g5, 0, none⟩) (acc.length + 1) cap5) (acc ++ [x]).length ((acc ++ [x]).flatMap Bk.cells)) := Lib.hid (by
            rw [List.length_append, List.length_singleton, List.flatMap_append]
            simpa using hown5)
          clear hown5 hgrow5 hat5 hlt5 hb5 hB5 hx5 ax Hrow4 H1 hbase Hx4 HB4 hi0' hz0 hz1 hz2'
          refine Rest.region follows ?_
          refine Rest.tame 5 (fun W => w5.drew = W) (by kernel_rfl) rfl ?_
          simp only [Nat.reduceSub, List.drop_zero, List.take_succ_cons, List.take_zero]
          iterate 5 first
            | (refine TW.cons_n rfl _ (by intro wT hT R hR K hK; simp only [Act.put, List.setIfInBounds_toArray, List.set_cons_zero, List.set_cons_succ] at hK; subst hT; have y3 : w5.drew.cell? ⟨V, 2, none⟩ = some (.int .i64 x.cls) := y2; go_step; exact hK _ _ (hR _ rfl)) ?_; try simp only [Act.put, List.setIfInBounds_toArray, List.set_cons_zero, List.set_cons_succ])
          refine TW.nil fun w6 h6 => ?_
          subst h6
          refine Rest.done ?_
          have hk9 : k + 1 ≤ n := by omega
          have hal2 : (acc ++ [x]).length ≤ k + 1 := by rw [List.length_append, List.length_singleton]; omega
          go_wp2_with fail
          go_roundg (n + 1 - (k + 1))
          case measure => omega
          case rel => exact ⟨k + 1, j + 1, acc ++ [x], _, some a, x.cls, rfl, hk9, hjn, hal2, rfl, by go_num, rfl, rfl, by go_num, hxc, (fun y hy => by
            cases hy
            exact ⟨k, q, by omega, Hz.out⟩), Hln2.out, ownsRow_same Hrow5.out fun _ _ _ => rfl, HB5.out.drew⟩
        case false =>
          subst hb9
          have hm : ∀ y t, c.drop j = y :: t → y ≠ (a : Int) := fun y t hyt e => by
            have hjc : j < c.length := by
              rcases Nat.lt_or_ge j c.length with h1 | h1
              · exact h1
              · rw [List.drop_eq_nil_of_le h1] at hyt; cases hyt
            rw [List.drop_eq_getElem_cons hjc] at hyt
            have h1 := Hmt.out
            have h2 : c.getD j 0 = (a : Int) := by
              rw [← e, ← (List.cons.inj hyt).1]
              simp [List.getElem?_eq_getElem hjc]
            rw [h2, show decide (j < nc) = true from decide_eq_true (by rw [← Hnc.out]; exact hjc)] at h1
            simp at h1
          have hms := lns_miss one (x := (a, q)) (r := BL.drop (k + 1)) (c := c.drop j) (f := f) (line := (acc.length : Int) + 1) (before := cl) hm
          obtain ⟨y0, y28, y29⟩ := HR.out _ HB.out
          by_cases hq : q ≤ -10000
          · have hln2 : lnsW one BL c none 1 2 = none := by
              rw [Hln.out, Hdr.out, hms, if_pos hq]; rfl
            have Hln2 := Lib.hid hln2
            have hq2 : decide (q ≤ -10000) = true := decide_eq_true hq
            clear hms hm hln2 hq
            go_wp2_with fail
            go_ret2
            exact ⟨⟨.slice none 0 0, false, rfl, by rw [Hln2.out]; rfl, fun l hl => by rw [Hln2.out] at hl; cases hl⟩, HB.out⟩
          · have Hln2 : Hid (lnsW one BL c none 1 2 = (lnsW one (BL.drop (k + 1)) (c.drop j) f ((acc.length : Int) + 1) cl).map (acc ++ ·)) := Lib.hid (by
              rw [Hln.out, Hdr.out, hms, if_neg hq])
            have hq2 : decide (q ≤ -10000) = false := decide_eq_false hq
            have hk9 : k + 1 ≤ n := by omega
            clear hms hm hq Hln
            go_wp2_with fail
            go_roundg (n + 1 - (k + 1))
            case measure => omega
            case rel => exact ⟨k + 1, j, acc, _, f, cl, rfl, hk9, hj, by omega, rfl, rfl, rfl, rfl, by go_num, hcl9, (fun x hx => by
              obtain ⟨i, q9, hi, hiz⟩ := Hf.out x hx
              exact ⟨i, q9, by omega, hiz⟩), Hln2.out, Hrow.out, HB.out⟩
    · have hlt2 : decide (k < n) = false := decide_eq_false hlt
      have hkn : k = n := by omega
      have hdr : BL.drop k = [] := List.drop_eq_nil_of_le (by rw [Hn.out]; omega)
      have Hln2 : Hid (lnsW one BL c none 1 2 = if j = nc then some acc else none) := Lib.hid (by
        rw [Hln.out, hdr]
        have h1 : lnsW one [] (c.drop j) f ((acc.length : Int) + 1) cl = if (c.drop j).isEmpty then some [] else none := by
          cases c.drop j <;> rfl
        rw [h1]
        by_cases hjn : j = nc
        · rw [if_pos hjn, List.drop_eq_nil_of_le (by rw [Hnc.out]; omega)]; simp
        · rw [if_neg hjn]
          have : c.drop j ≠ [] := by
            intro e
            have := congrArg List.length e
            rw [List.length_drop, Hnc.out] at this
            simp at this
            omega
          have h2 : (c.drop j).isEmpty = false := by
            cases h3 : c.drop j with
            | nil => exact absurd h3 this
            | cons => rfl
          rw [h2]; rfl)
      clear Hln hlt hdr hkn
      by_cases hjn : j = nc
      · have h2 : (j == nc) = true := by simpa using hjn
        have h3 : ((j : Int) == (nc : Int)) = true := by rw [beq_iff_eq]; omega
        have Hln3 := Lib.hid (Hln2.out.trans (if_pos hjn))
        clear hjn
        go_wp2_with fail
        go_ret2
        exact ⟨⟨.slice po acc.length co, true, rfl, by rw [Hln3.out]; rfl, fun l hl => by rw [Hln3.out] at hl; cases hl; exact Hrow.out⟩, HB.out⟩
      · have h2 : (j == nc) = false := by simpa using hjn
        have h3 : ((j : Int) == (nc : Int)) = false := by rw [beq_eq_false_iff_ne]; omega
        have Hln3 := Lib.hid (Hln2.out.trans (if_neg hjn))
        clear hjn
        go_wp2_with fail
        go_ret2
        exact ⟨⟨.slice po acc.length co, false, rfl, by rw [Hln3.out]; rfl, fun l hl => by rw [Hln3.out] at hl; cases hl⟩, HB.out⟩

set_option maxRecDepth 100000 in
set_option maxHeartbeats 8000000 in
theorem vCostO (P : Pm) (g off2 : Nat) (S : List Sh2) (L : List Nd) (b off cap : Nat) (p0 : Option Addr) (s : List Nat) (hs : checkC L = 0 → Items L 0 s) (tol ext : Int) (c : List Int) (pc : Option Addr) (gc oc cc : Nat) (hcl : c.length ≤ 9223372036854775807) (w : World) (hS : ShIn w P g off2 S) (hN : NIn w p0 b off cap L) (hc : ZOn w pc gc oc cc c) :
    Calls Tryz.prog 14 #[.slice p0 L.length cap, .agg P.arr, .int .i64 tol, .int .i64 ext, .slice pc c.length cc] w (RowPost w (cstR P S L s tol ext c)) := by
  have hb0 : Below w.heap.size w (w.alloc (.cells P.arr 27)) := (Below.refl _ _).alloc (Nat.le_refl _) _
  have d0 : PAt (w.alloc (.cells P.arr 27)) w.heap.size P := heap_alloc_new w _
  have HO := Lib.hid (vbegun P g off2 S L b off cap p0 s hs tol ext _ (hS.below hb0) (hN.below hb0))
  have HC := Lib.hid (hc.below hb0)
  have Hs := Lib.hid hs
  clear hs hS hN hc
  go_enter Tryz.func14, Tryz.ntmps14
  go_upto_region 1 with (fail)
  obtain ⟨X0, hX0⟩ : ∃ X0, w.heap.size = X0 := ⟨_, rfl⟩
  rw [hX0] at d0 ⊢
  generalize w.alloc (.cells P.arr 27) = w1 at hb0 d0 HO HC ⊢
  have a0 : agg? w1 X0 0 24 = some P.arr := by rw [agg?_blk' d0 0 24 (by rw [Pm.size_arr]; decide)]; simp [Pm.arr, Pm.cells]
  obtain ⟨E, hE⟩ : ∃ E, tryE P S L s tol ext = E := ⟨_, rfl⟩
  have HE := Lib.hid hE
  have Hb0 := Lib.hid hb0
  clear hb0 d0 hX0
  by_cases h0 : E = 0
  · subst h0
    have hok := tryE_zero Hs.out HE.out
    have Hok := Lib.hid hok
    clear hok
    go_upto_region 4 with (go_at_call 27; refine HO.out.mono ?_; clear HO; rintro e w2 ho; obtain ⟨Y, X, mb, B, vs, rfl, hT, hmb⟩ := ho.good hE; have hb2 := ho.below)
    have HL := Lib.hid (vlinesO Y X mb B P vs L b off cap p0 s g off2 S tol ext Hok.out c pc gc oc cc hcl w2 hT (HC.out.below hb2))
    have Hb2 := Lib.hid (Hb0.out.trans (hb2.mono Hb0.out.size))
    clear hb2 ho hmb hT a0 hE
    obtain ⟨r, hr⟩ : ∃ r, lnsW (oneP L P S s tol ext) (brkP L P s) c none 1 2 = r := ⟨_, rfl⟩
    rw [hr] at HL
    have HR : Hid (cstR P S L s tol ext c = cstM r) := Lib.hid (by unfold cstR; rw [if_pos HE.out, hr])
    clear hr
    cases r with
    | none =>
      go_wp2_with (go_at_call 30; refine HL.out.mono ?_; clear HL; rintro e w3 hl; obtain ⟨v, ok, rfl, hok9, _⟩ := hl.out; obtain rfl : ok = false := hok9; have hb3 := hl.below; clear hl)
      go_ret2
      rw [HR.out]
      exact ⟨⟨.slice none 0 0, rfl, World.ownsRow_nil _ _ _ _⟩, Hb2.out.trans (hb3.mono Hb2.out.size)⟩
    | some l =>
      go_wp2_with (go_at_call 30; refine HL.out.mono ?_; clear HL; rintro e w3 hl; obtain ⟨v, ok, rfl, hok9, hrow⟩ := hl.out; obtain rfl : ok = true := hok9; have hb3 := hl.below; have Hrow := Lib.hid (hrow l rfl); clear hl hrow)
      go_ret2
      rw [HR.out]
      exact ⟨⟨v, rfl, ownsRow_base Hrow.out (Nat.le_trans Hb2.out.size (Nat.le_refl _))⟩, Hb2.out.trans (hb3.mono Hb2.out.size)⟩
  · have hne : (E != 0) = true := by simpa using h0
    have HR : Hid (cstR P S L s tol ext c = ([], E)) := Lib.hid (by unfold cstR; rw [if_neg (by rw [HE.out]; exact h0), HE.out])
    go_wp2_with (go_at_call 27; refine HO.out.mono ?_; clear HO; rintro e w2 ho; obtain he := ho.bad (by rw [HE.out]; exact h0); rw [HE.out] at he; subst he; have hb2 := ho.below; clear ho)
    go_ret2
    rw [HR.out]
    exact ⟨⟨.slice none 0 0, rfl, World.ownsRow_nil _ _ _ _⟩, Hb0.out.trans (hb2.mono Hb0.out.size)⟩
end Go.Proofs.YtiijpbfkchokaaaGreat
