/-
  Layer 9: the list of four boxes (the law's four).
-/
import Derived.Test.YtiijpbfkchokaaaGreatVBs
import Derived.Test.YtiijpbfkchokaaaGreatB33
set_option maxRecDepth 100000
set_option maxHeartbeats 4000000
namespace Go.Proofs.YtiijpbfkchokaaaGreat
open Go.ChangeShapes Go.WideShapes Go.ChangeAt Go.RowKit
attribute [local go_sem ↓] Go.wp_at_zero Go.wp_at_succ
def hboxN (x : Int) : Nd := { Nd.zero with kind := 4, w := x }
def endN9 : Nd := { Nd.zero with kind := 6 }
def bdGl9 (parts : Array (Nat × Value)) : Sem Value := Instr.build 24 parts
@[go_sem ↓] theorem execOp_buildGl9 (ρ : Operand → Value) (dst : Option Tmp) (x : Array (Nat × Operand)) (ty : TypeId) (pos : String) (after : Array Edge) (guard : Option (Nat × Bool)) :
    execOp ρ { dst, op := .build 24 x, type := ty, pos, after, guard } = (do pure (.value (← bdGl9 (x.map fun (i, y) => (i, ρ y))))) := rfl
@[go_sem] theorem run_bdGl9_3 (a b c : Int) (w : World) : (bdGl9 #[(0, .int .i64 a), (1, .int .i64 b), (2, .int .i64 c)]).run Tryz.prog w = .ok (.agg (Gl.mk a b c 0 0).arr) w := by kernel_rfl
def gap9 : Gl := ⟨327680, 196608, 65536, 0, 0⟩
def midN : Nat → List Nd → List Nd
  | 0, l => l
  | _ + 1, l => l ++ [skipN gap9]
def fourN : Nat → List Nd
  | 0 => []
  | k + 1 => midN k (fourN k) ++ [hboxN 1966080, endN9]
theorem fourN_len : ∀ k, (fourN k).length ≤ 3 * k
  | 0 => Nat.le_refl _
  | k + 1 => by
    have := fourN_len k
    cases k with
    | zero => simp [fourN, midN]
    | succ j => simp only [fourN, midN, List.length_append, List.length_cons, List.length_nil] at *; omega
theorem midN_len (k : Nat) : (midN k (fourN k)).length ≤ 3 * k + 1 := by
  have := fourN_len k
  cases k with
  | zero => simp [fourN, midN]
  | succ j => simp only [midN, List.length_append, List.length_cons, List.length_nil] at *; omega
theorem nd_ones (l : List Nd) : ∀ u ∈ l.flatMap Nd.cells, u.oneCell' = true := nodes_one l
theorem four_any (w : World) : Calls Tryz.prog 36 #[] w fun e w' => ∃ v, e = .returned v ∧ w'.ownsRow w.heap.size 69 19 v (fourN 4).length ((fourN 4).flatMap Nd.cells) ∧ Below w.heap.size w w' := by
  obtain ⟨i0, hi0', hz0, hz1, hz2⟩ := info_parts info_node
  go_enter Tryz.func36, Tryz.ntmps36
  go_wp2_with fail
  go_loopg [1, 2] 5 (fun gg t1 t2 wr => ∃ k : Nat, gg = 5 - k ∧ k ≤ 4 ∧ t2 = .int .i64 k ∧ wr.ownsRow w.heap.size 69 19 t1 (fourN k).length ((fourN k).flatMap Nd.cells) ∧ Below w.heap.size w wr)
  case atStart => exact ⟨0, rfl, Nat.zero_le _, rfl, World.ownsRow_nil _ _ _ _, Below.refl _ _⟩
  case round =>
    obtain ⟨k, rfl, hk, rfl, hrow, hb⟩ := hrel
    have hk0 : (0 : Int) ≤ (k : Int) := by omega
    by_cases hlt : k < 4
    · have hk1 : (k : Int) < 4 := by omega
      have hlt2 : decide ((k : Int) < 4) = true := decide_eq_true hk1
      obtain ⟨p1, q1, rfl⟩ := owns_form hrow
      have H := Lib.hid (And.intro hrow hb)
      have hl3 := fourN_len k
      clear hrow hb hlt
      go_upto_if 8 with (fail)
      go_cut [1, 8] from 9 to 13 (fun t1 _ wx => wx.ownsRow w.heap.size 69 19 t1 (midN k (fourN k)).length ((midN k (fourN k)).flatMap Nd.cells) ∧ Below w.heap.size w wx)
      case first =>
        cases k with
        | zero =>
          have H2 := H
          go_wp2_with fail
          go_meet
          exact H2.out
        | succ j =>
          have hd : decide (0 < j + 1) = true := by simp
          have hd2 : decide ((0 : Int) < ((j + 1 : Nat) : Int)) = true := decide_eq_true (by omega)
          have Hrow : Hid ((wr.alloc (.cells (skipN gap9).arr 69)).ownsRow w.heap.size 69 19 (.slice p1 (fourN (j + 1)).length q1) (fourN (j + 1)).length ((fourN (j + 1)).flatMap Nd.cells)) := Lib.hid (H.out.1.alloc _)
          have hbase : w.heap.size ≤ (wr.alloc (.cells (skipN gap9).arr 69)).heap.size := by rw [World.size_alloc]; have := H.out.2.size; omega
          have H1 : Hid (∀ u ∈ (skipN gap9).cells, u.oneCell' = true) := Lib.hid (by have := nd_ones [skipN gap9]; simpa using this)
          have hqq : Hid (∀ q, (Value.slice p1 (fourN (j + 1)).length q1).ownBlock = some q → w.heap.size ≤ q) := Lib.hid fun q hq => (H.out.1.lt q hq).1
          have hbb := H.out.2.trans (((Below.refl wr.heap.size wr).alloc (Nat.le_refl _) (.cells (skipN gap9).arr 69)).mono H.out.2.size)
          have Hbb := Lib.hid hbb
          obtain ⟨ln, hln⟩ : ∃ ln, (fourN (j + 1)).length = ln := ⟨_, rfl⟩
          rw [hln] at Hrow hqq hl3
          have Hln := Lib.hid hln
          rw [hln]
          clear hbb hln H
          go_wp2_with (at_builtin; refine wpList_append_lies _ rfl (.tmp 9) (.tmp 12) 22 rfl w.heap.size 69 i0 (.agg Nd.zero.arr) 19 160 Tryz.underlying22 hi0' hz0 hz1 hz2 rfl (by decide) (.slice p1 ln q1) ln ((fourN (j + 1)).flatMap Nd.cells) rfl Hrow.out ⟨wr.heap.size, 0, none⟩ 1 1 (skipN gap9).cells rfl rfl (World.news_of_block (cs := (skipN gap9).arr) (heap_alloc_new _ _)) H1.out (by decide) (by unfold maxLen; omega) (by omega) hbase _ rfl ?_; intro g7 cap7 w7 hown7 hgrow7 hat7 hlt7)
          go_meet
          refine ⟨?_, Hbb.out.trans (grown_below hgrow7 hbase hqq.out)⟩
          have e1 : midN (j + 1) (fourN (j + 1)) = fourN (j + 1) ++ [skipN gap9] := rfl
          rw [e1, List.length_append, List.flatMap_append, List.length_singleton, Hln.out]
          simpa using hown7
      case rest =>
        obtain ⟨hrow, hb⟩ := hcut
        obtain ⟨p2, q2, rfl⟩ := owns_form hrow
        have hl4 := midN_len k
        have Hrow : Hid ((wc.alloc (.cells ((hboxN 1966080).cells ++ endN9.cells).toArray 69)).ownsRow w.heap.size 69 19 (.slice p2 (midN k (fourN k)).length q2) (midN k (fourN k)).length ((midN k (fourN k)).flatMap Nd.cells)) := Lib.hid (hrow.alloc _)
        have hbase : w.heap.size ≤ (wc.alloc (.cells ((hboxN 1966080).cells ++ endN9.cells).toArray 69)).heap.size := by rw [World.size_alloc]; have := hb.size; omega
        have H1 : Hid (∀ u ∈ (hboxN 1966080).cells ++ endN9.cells, u.oneCell' = true) := Lib.hid (by have := nd_ones [hboxN 1966080, endN9]; simpa using this)
        have hqq : Hid (∀ q, (Value.slice p2 (midN k (fourN k)).length q2).ownBlock = some q → w.heap.size ≤ q) := Lib.hid fun q hq => (hrow.lt q hq).1
        have Hbb := Lib.hid (hb.trans (((Below.refl wc.heap.size wc).alloc (Nat.le_refl _) (.cells ((hboxN 1966080).cells ++ endN9.cells).toArray 69)).mono hb.size))
        obtain ⟨ln, hln⟩ : ∃ ln, (midN k (fourN k)).length = ln := ⟨_, rfl⟩
        rw [hln] at Hrow hqq hl4 ⊢
        have Hln := Lib.hid hln
        clear hln H hrow hb
        go_wp2_with (at_builtin; refine wpList_append_lies _ rfl (.tmp 14) (.tmp 17) 22 rfl w.heap.size 69 i0 (.agg Nd.zero.arr) 19 160 Tryz.underlying22 hi0' hz0 hz1 hz2 rfl (by decide) (.slice p2 ln q2) ln ((midN k (fourN k)).flatMap Nd.cells) rfl Hrow.out ⟨wc.heap.size, 0, none⟩ 2 2 ((hboxN 1966080).cells ++ endN9.cells) rfl rfl (World.news_of_block (cs := ((hboxN 1966080).cells ++ endN9.cells).toArray) (heap_alloc_new _ _)) H1.out (by decide) (by unfold maxLen; omega) (by omega) hbase _ rfl ?_; intro g7 cap7 w7 hown7 hgrow7 hat7 hlt7)
        have HF : Hid (w7.ownsRow w.heap.size 69 19 (.slice (some ⟨g7, 0, none⟩) (ln + 2) cap7) (fourN (k + 1)).length ((fourN (k + 1)).flatMap Nd.cells) ∧ Below w.heap.size w w7) := Lib.hid ⟨by
          have e1 : fourN (k + 1) = midN k (fourN k) ++ [hboxN 1966080, endN9] := rfl
          rw [e1, List.length_append, List.flatMap_append, Hln.out]
          simpa using hown7, Hbb.out.trans (grown_below hgrow7 hbase hqq.out)⟩
        clear hown7 hgrow7 hat7 hlt7 Hrow H1 hqq Hbb Hln hbase
        go_wp2_with fail
        go_roundg (5 - (k + 1))
        case measure => omega
        case rel => exact ⟨k + 1, rfl, by omega, by go_num, HF.out.1, HF.out.2⟩
    · obtain rfl : k = 4 := by omega
      have H := Lib.hid (And.intro hrow hb)
      clear hrow hb hlt
      go_wp2_with fail
      go_ret
      exact ⟨_, rfl, H.out.1, H.out.2⟩
def four9 : List Nd := fourN 4
def parm9 : Pm := { (default : Pm) with hsize := 4259840, linep := 10 }
end Go.Proofs.YtiijpbfkchokaaaGreat
namespace Go.Proofs.YtiijpbfkchokaaaGreat
open Go.ChangeShapes Go.WideShapes Go.ChangeAt Go.RowKit
attribute [local go_sem ↓] Go.wp_at_zero Go.wp_at_succ
theorem four_items : Items four9 0 [0, 2, 3, 5, 6, 8, 9] :=
  .step (m := 2) (by decide) (by decide +kernel) (.step (m := 1) (by decide) (by decide +kernel) (.step (m := 2) (by decide) (by decide +kernel) (.step (m := 1) (by decide) (by decide +kernel) (.step (m := 2) (by decide) (by decide +kernel) (.step (m := 1) (by decide) (by decide +kernel) (.step (m := 2) (by decide) (by decide +kernel) .done))))))
theorem four_choose : chR parm9 [] four9 [0, 2, 3, 5, 6, 8, 9] 100 0 false = ([⟨5, 0, 2, 100, 0, false⟩, ⟨11, 0, 2, 100, 0, false⟩], 0, 0) := by decide +kernel
def bdPm (parts : Array (Nat × Value)) : Sem Value := Instr.build 27 parts
@[go_sem ↓] theorem execOp_buildPm (ρ : Operand → Value) (dst : Option Tmp) (x : Array (Nat × Operand)) (ty : TypeId) (pos : String) (after : Array Edge) (guard : Option (Nat × Bool)) :
    execOp ρ { dst, op := .build 27 x, type := ty, pos, after, guard } = (do pure (.value (← bdPm (x.map fun (i, y) => (i, ρ y))))) := rfl
@[go_sem] theorem run_bdPm9 (w : World) : (bdPm #[(12, .int .i64 4259840), (2, .int .i64 10)]).run Tryz.prog w = .ok (.agg parm9.arr) w := by kernel_rfl
theorem num9_any (x : Int) (w : World) : Calls Tryz.prog 11 #[.int .i64 x] w fun e w' => e = .returned (.int .i64 x) ∧ w = w' := by
  go_enter Tryz.func11, Tryz.ntmps11
  go_wp2
  go_ret
  exact ⟨rfl, rfl⟩
theorem bk_row9 {w : World} {B : Nat} {v : Value} {ls : List Bk} {n : Nat} (hr : w.ownsRow B 91 6 v n (ls.flatMap Bk.cells)) {i : Nat} (hi : i < ls.length) :
    ∃ g cap, v = .slice (some ⟨g, 0, none⟩) ls.length cap ∧ ls.length ≤ cap ∧ B ≤ g ∧ agg? w g (i * 6) 6 = some ls[i].arr := row_agg Bk.cells (size := 6) (fun _ => rfl) hr (by decide) hi
theorem knows9_any (w : World) : Calls Tryz.prog 13 #[] w fun e w' => e = .returned (.bool true) ∧ Below w.heap.size w w' := by
  go_enter Tryz.func13, Tryz.ntmps13
  go_wp2_with fail
  refine (four_any w).mono ?_
  rintro e w1 ⟨v, rfl, hrow, hb1⟩
  obtain ⟨_, p, g, cap, rfl, hN, -⟩ := row_nodes hrow (by decide)
  have hS : ShIn w1 parm9 0 0 [] := ⟨fun e => absurd rfl e, fun e => absurd rfl e, rfl, fun i hi => by simp at hi, Nat.le_refl _, by simp⟩
  have HC := vChoose parm9 0 0 [] four9 g 0 cap p [0, 2, 3, 5, 6, 8, 9] (fun _ => four_items) 100 0 false w1 hS hN
  rw [four_choose] at HC
  have HC := Lib.hid HC
  have Hb1 := Lib.hid hb1
  clear hrow hb1 hN hS
  go_upto_region 2 with (go_at_call 8; refine HC.out.mono ?_; clear HC; rintro e w2 hc; obtain ⟨v2, rfl, hrow2⟩ := hc.out; have hb2 := hc.below; clear hc)
  obtain ⟨g2, c2, rfl, hc2, -, a0⟩ := bk_row9 (i := 0) hrow2 (by decide)
  obtain ⟨g3, c3, e3, -, -, a1⟩ := bk_row9 (i := 1) hrow2 (by decide)
  cases e3
  have x0 : w2.cell? ⟨g2, 0, none⟩ = some (.int .i64 5) := agg_cell a0 0 _ rfl
  have x3 : w2.cell? ⟨g2, 3, none⟩ = some (.int .i64 100) := agg_cell a0 3 _ rfl
  have x6 : w2.cell? ⟨g2, 6, none⟩ = some (.int .i64 11) := agg_cell a1 0 _ rfl
  have Hb := Lib.hid (Hb1.out.trans (hb2.mono Hb1.out.size))
  simp only [List.length_cons, List.length_nil, Nat.reduceAdd] at hc2 ⊢
  clear a0 a1 hrow2 hb2
  go_wp2_with (go_at_call 11; refine (num9_any _ _).mono ?_; rintro e w' ⟨rfl, rfl⟩)
  go_ret
  exact ⟨rfl, Hb.out⟩
end Go.Proofs.YtiijpbfkchokaaaGreat
