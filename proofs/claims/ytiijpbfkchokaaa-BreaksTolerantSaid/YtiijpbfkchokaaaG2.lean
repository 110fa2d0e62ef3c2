/-
  How lines weigh: the law's weigh.
  Which of two weights is the lesser: the law's least.
-/
import Derived.Test.YtiijpbfkchokaaaB28
import Derived.Test.YtiijpbfkchokaaaW9
import Derived.Test.YtiijpbfkchokaaaW10
namespace Go.Proofs.Ytiijpbfkchokaaa
open Go.ChangeShapes Go.WideShapes Go.ChangeAt Go.RowKit
attribute [local go_sem ↓] Go.wp_at_zero Go.wp_at_succ
theorem bk_row {w : World} {B : Nat} {v : Value} {ls : List Bk} (hr : w.ownsRow B 37 6 v ls.length (ls.flatMap Bk.cells)) {i : Nat} (hi : i < ls.length) :
    ∃ g cap, v = .slice (some ⟨g, 0, none⟩) ls.length cap ∧ ls.length ≤ cap ∧ B ≤ g ∧ agg? w g (i * 6) 6 = some ls[i].arr := row_agg Bk.cells (size := 6) (fun _ => rfl) hr (by decide) hi
def I3At (W : World) (b : Nat) (t : I3) : Prop := W.heap[b]? = some (.cells t.arr 34 (0, 0))
theorem I3At.cell {W : World} {b : Nat} {t : I3} (h : I3At W b t) (k : Nat) (v : Value) (hv : t.arr[k]? = some v) : W.cell? ⟨b, k, none⟩ = some v := by rw [cell?_blk' h, hv]
theorem I3At.frozen {W : World} {b : Nat} {t : I3} (h : I3At W b t) (k : Nat) : W.frozen? ⟨b, k, none⟩ = false := frozen_of_row W b k _ _ h
theorem I3At.set {W : World} {b : Nat} {t u : I3} (h : I3At W b t) (k : Nat) (v : Value) (hu : t.arr.setIfInBounds k v = u.arr) : I3At (W.setCell ⟨b, k, none⟩ v) b u := by
  unfold I3At
  rw [heap_setCell_same _ _ _ _ _ _ h, hu]
theorem I3At.agg {W : World} {b : Nat} {t : I3} (h : I3At W b t) : agg? W b 0 3 = some t.arr := by
  rw [agg?_blk' h 0 3 (by rw [I3.size_arr]; decide)]; simp [I3.arr, I3.cells]
theorem I3At.there {W : World} {b : Nat} {t : I3} (h : I3At W b t) : there? W b 0 3 = true := there_blk h 0 3 (by simp [I3.size_arr])
theorem I3At.store {W : World} {b : Nat} {t u : I3} (h : I3At W b t) : I3At (setAgg W b 0 u.arr) b u := by
  have := heap_setCells_same b _ (0, 0) u.arr.toList 0 t.arr W h
  rw [show u.arr.toList = u.cells from rfl, setMany_I3] at this
  exact this
def i3W (x : Int × Int × Int) : I3 := ⟨x.1, x.2.1, x.2.2⟩
def badI (x : Bk) : Int := if x.isBad then 1 else 0
/-- sums of lines' numbers stay small -/
structure SumB (k : Nat) (x : Int × Int × Int) : Prop where
  a : -(100000000000000 * (k : Int)) ≤ x.1 ∧ x.1 ≤ 100000000000000 * (k : Int)
  b : 0 ≤ x.2.1 ∧ x.2.1 ≤ k
  c : -(10000000000 * (k : Int)) ≤ x.2.2 ∧ x.2.2 ≤ 10000000000 * (k : Int)
def addK (x : Int × Int × Int) (b : Bk) : Int × Int × Int := (x.1 + b.over, x.2.1 + badI b, x.2.2 + b.dem)
theorem weighW_fold : ∀ (ls : List Bk) (x : Int × Int × Int), ls.foldl addK x = (x.1 + (weighW ls).1, x.2.1 + (weighW ls).2.1, x.2.2 + (weighW ls).2.2)
  | [], x => by simp [weighW]
  | b :: r, x => by
    rw [List.foldl_cons, weighW_fold r]
    simp only [weighW, addK, List.map_cons, List.sum_cons, badI, Prod.mk.injEq]
    refine ⟨by omega, ?_, by omega⟩
    split <;> omega
theorem weighW_eq (ls : List Bk) : ls.foldl addK (0, 0, 0) = weighW ls := by rw [weighW_fold]; simp
theorem SumB.add {k : Nat} {x : Int × Int × Int} (h : SumB k x) {b : Bk} (hb : BkB b) : SumB (k + 1) (addK x b) := by
  obtain ⟨h1, h2, h3⟩ := h
  obtain ⟨b1, b2, b3⟩ := hb
  refine ⟨?_, ?_, ?_⟩
  · show _ ≤ x.1 + b.over ∧ x.1 + b.over ≤ _
    omega
  · show 0 ≤ x.2.1 + badI b ∧ x.2.1 + badI b ≤ _
    unfold badI
    split <;> omega
  · show _ ≤ x.2.2 + b.dem ∧ x.2.2 + b.dem ≤ _
    omega
set_option maxRecDepth 100000 in
set_option maxHeartbeats 8000000 in
theorem vweigh (B : Nat) (v : Value) (ls : List Bk) (hB : ∀ x ∈ ls, BkB x) (hl : ls.length ≤ 3000) (w : World) (hr : w.ownsRow B 37 6 v ls.length (ls.flatMap Bk.cells)) :
    Calls Try.prog 9 #[v] w fun e w' => e = .returned (.agg (i3W (weighW ls)).arr) ∧ Below w.heap.size w w' := by
  obtain ⟨pv, cv, ev⟩ := owns_form hr
  have Hr : Hid (∀ W, Below w.heap.size w W → ∀ i (hi : i < ls.length), ∃ g, pv = some ⟨g, 0, none⟩ ∧ ls.length ≤ cv ∧ g < w.heap.size ∧ agg? W g (i * 6) 6 = some ls[i].arr) := Lib.hid fun W hb i hi => by
    obtain ⟨g, cap, e1, e2, _, e4⟩ := bk_row (ownsRow_below hr hb) hi
    rw [ev] at e1
    cases e1
    exact ⟨g, rfl, e2, (hr.lt g (by rw [ev]; rfl)).2, e4⟩
  have HB := Lib.hid hB
  subst ev
  obtain ⟨n, hn⟩ : ∃ n, ls.length = n := ⟨_, rfl⟩
  have Hn := Lib.hid hn
  rw [hn] at hl ⊢
  have d0 : I3At ((w.alloc (.cells #[.int .i64 0, .int .i64 0, .int .i64 0] 34)).alloc (.cells #[.int .i64 0, .int .i64 0, .int .i64 0] 34)) w.heap.size ⟨0, 0, 0⟩ := (Below.heap_alloc _ _ _ (by simp)).trans (heap_alloc_new w _)
  have d1 : I3At ((w.alloc (.cells #[.int .i64 0, .int .i64 0, .int .i64 0] 34)).alloc (.cells #[.int .i64 0, .int .i64 0, .int .i64 0] 34)) (w.heap.size + 1) ⟨0, 0, 0⟩ := by
    have h1 := heap_alloc_new (w.alloc (.cells #[.int .i64 0, .int .i64 0, .int .i64 0] 34)) (.cells #[.int .i64 0, .int .i64 0, .int .i64 0] 34)
    rw [World.size_alloc] at h1
    exact h1
  have hb0 : Below w.heap.size w ((w.alloc (.cells #[.int .i64 0, .int .i64 0, .int .i64 0] 34)).alloc (.cells #[.int .i64 0, .int .i64 0, .int .i64 0] 34)) := ((Below.refl _ _).alloc (Nat.le_refl _) _).alloc (by simp) _
  clear hr hB hn
  go_enter Try.func9, Try.ntmps9
  go_upto_region 2 with (fail)
  obtain ⟨Z, hZ⟩ : ∃ Z, w.heap.size = Z := ⟨_, rfl⟩
  generalize (w.alloc (.cells #[.int .i64 0, .int .i64 0, .int .i64 0] 34)).alloc (.cells #[.int .i64 0, .int .i64 0, .int .i64 0] 34) = w1 at d0 d1 hb0 ⊢
  rw [hZ] at d0 d1 ⊢
  have HZ := Lib.hid hZ
  have HD := Lib.hid (And.intro d0 (And.intro d1 hb0))
  clear hZ d0 d1 hb0
  go_wp2_with fail
  go_loopg [4] (n + 1) (fun gg t4 wr => ∃ k : Nat, gg = n + 1 - k ∧ k ≤ n ∧ t4 = .int .i64 k ∧ ∃ x, SumB k x ∧ (ls.drop k).foldl addK x = weighW ls ∧ I3At wr Z ⟨0, 0, 0⟩ ∧ I3At wr (Z + 1) (i3W x) ∧ Below w.heap.size w wr)
  case atStart => exact ⟨0, rfl, Nat.zero_le _, rfl, (0, 0, 0), ⟨by simp, by simp, by simp⟩, weighW_eq ls, HD.out.1, HD.out.2.1, HD.out.2.2⟩
  case round =>
    clear HD
    obtain ⟨k, rfl, hk, rfl, x, hx, hf, hz, hw, hb⟩ := hrel
    by_cases hlt : k < n
    · have hk1 : (0 : Int) ≤ (k : Int) := by omega
      have hk2 : (k : Int) < (n : Int) := by omega
      have hkl : k < ls.length := by rw [Hn.out]; exact hlt
      obtain ⟨g, rfl, hc, hg, -⟩ := Hr.out wr hb k hkl
      rw [Hn.out] at hc
      have HA : Hid (∀ W, Below w.heap.size w W → agg? W g (k * 6) 6 = some ls[k].arr) := Lib.hid fun W hW => by
        obtain ⟨g', e, _, _, h4⟩ := Hr.out W hW k hkl
        cases e
        exact h4
      have hbk := HB.out ls[k] (List.getElem_mem hkl)
      have hf2 : (ls.drop (k + 1)).foldl addK (addK x ls[k]) = weighW ls := by rw [← hf, List.drop_eq_getElem_cons hkl]; rfl
      generalize ls[k] = y at HA hbk hf2
      have hx2 := hx.add hbk
      obtain ⟨q1, q2, q3⟩ := hx
      obtain ⟨r1, r2, r3⟩ := hbk
      obtain ⟨x1, x2, x3⟩ := x
      simp only at q1 q2 q3
      have hw1 : IntKind.i64.wrap (x1 + y.over) = x1 + y.over := Go.IntWalk.i64_in _ (by omega)
      have hw2 : IntKind.i64.wrap (x2 + 1) = x2 + 1 := Go.IntWalk.i64_in _ (by omega)
      have hw3 : IntKind.i64.wrap (x3 + y.dem) = x3 + y.dem := Go.IntWalk.i64_in _ (by omega)
      have a1 : wr.cell? ⟨Z + 1, 0, none⟩ = some (.int .i64 x1) := hw.cell 0 _ rfl
      have f1 := hw.frozen 0
      have c1 : wr.cell? ⟨g, k * 6 + 4, none⟩ = some (.int .i64 y.over) := agg_cell (HA.out wr hb) 4 _ rfl
      have HX2 := Lib.hid hx2
      have HF2 := Lib.hid hf2
      have HQ := Lib.hid (And.intro q1 (And.intro q2 (And.intro q3 (And.intro r1 r2))))
      clear hx2 hf2 hf hkl hlt q1 q2 q3 r1 r2 r3
      go_upto_region 5 with (fail)
      go_region
      have hw9 : I3At (wr.setCell ⟨Z + 1, 0, none⟩ (.int .i64 (x1 + y.over))).drew (Z + 1) ⟨x1 + y.over, x2, x3⟩ := hw.set 0 _ rfl
      have hz9 : I3At (wr.setCell ⟨Z + 1, 0, none⟩ (.int .i64 (x1 + y.over))).drew Z ⟨0, 0, 0⟩ := (Below.heap_setCell _ _ _ _ (by simp only; omega)).trans hz
      have hb9 : Below w.heap.size w (wr.setCell ⟨Z + 1, 0, none⟩ (.int .i64 (x1 + y.over))).drew := (hb.setCell (p := ⟨Z + 1, 0, none⟩) (by simp only; rw [HZ.out]; omega) _).drew
      clear hw hz hb a1 f1 c1 hw1
      generalize (wr.setCell ⟨Z + 1, 0, none⟩ (.int .i64 (x1 + y.over))).drew = w2 at hw9 hz9 hb9 ⊢
      have c2 : w2.cell? ⟨g, k * 6 + 5, none⟩ = some (.bool y.isBad) := agg_cell (HA.out w2 hb9) 5 _ rfl
      have a2 : w2.cell? ⟨Z + 1, 1, none⟩ = some (.int .i64 x2) := hw9.cell 1 _ rfl
      have f2 := hw9.frozen 1
      have HW9 := Lib.hid (And.intro hw9 (And.intro hz9 hb9))
      clear hw9 hz9 hb9
      go_upto_if 24 with (fail)
      go_cut [24] from 25 to 28 (fun _ wx => I3At wx (Z + 1) ⟨x1 + y.over, x2 + badI y, x3⟩ ∧ I3At wx Z ⟨0, 0, 0⟩ ∧ Below w.heap.size w wx)
      case first =>
        obtain ⟨hw9, hz9, hb9⟩ := HW9.out
        cases hq : y.isBad
        · rw [hq] at c2
          have e0 : badI y = 0 := by unfold badI; rw [hq]; rfl
          have HW9' : Hid (I3At w2 (Z + 1) ⟨x1 + y.over, x2 + badI y, x3⟩ ∧ I3At w2 Z ⟨0, 0, 0⟩ ∧ Below w.heap.size w w2) := Lib.hid (by rw [e0, Int.add_zero]; exact And.intro hw9 (And.intro hz9 hb9))
          clear hw9 hz9 hb9 e0
          go_wp2_with fail
          go_meet
          exact HW9'.out
        · rw [hq] at c2
          have e0 : badI y = 1 := by unfold badI; rw [hq]; rfl
          have hz10 : I3At (w2.setCell ⟨Z + 1, 1, none⟩ (.int .i64 (x2 + 1))) Z ⟨0, 0, 0⟩ := (Below.heap_setCell _ _ _ _ (by simp only; omega)).trans hz9
          have hb10 : Below w.heap.size w (w2.setCell ⟨Z + 1, 1, none⟩ (.int .i64 (x2 + 1))) := hb9.setCell (p := ⟨Z + 1, 1, none⟩) (by simp only; rw [HZ.out]; omega) _
          have HW10 : Hid (I3At (w2.setCell ⟨Z + 1, 1, none⟩ (.int .i64 (x2 + 1))) (Z + 1) ⟨x1 + y.over, x2 + badI y, x3⟩ ∧ I3At (w2.setCell ⟨Z + 1, 1, none⟩ (.int .i64 (x2 + 1))) Z ⟨0, 0, 0⟩ ∧ Below w.heap.size w (w2.setCell ⟨Z + 1, 1, none⟩ (.int .i64 (x2 + 1)))) := Lib.hid (And.intro (by rw [e0]; exact hw9.set 1 _ rfl) (And.intro hz10 hb10))
          clear hw9 hz9 hb9 hz10 hb10 e0
          go_wp2_with fail
          go_meet
          exact HW10.out
      case rest =>
        obtain ⟨hw9, hz9, hb9⟩ := hcut
        clear HW9 c2 a2 f2
        have c3 : wc.cell? ⟨g, k * 6 + 3, none⟩ = some (.int .i64 y.dem) := agg_cell (HA.out wc hb9) 3 _ rfl
        have a3 : wc.cell? ⟨Z + 1, 2, none⟩ = some (.int .i64 x3) := hw9.cell 2 _ rfl
        have f3 := hw9.frozen 2
        go_upto_region 8 with (fail)
        go_region
        have hw10 : I3At (wc.setCell ⟨Z + 1, 2, none⟩ (.int .i64 (x3 + y.dem))).drew (Z + 1) ⟨x1 + y.over, x2 + badI y, x3 + y.dem⟩ := hw9.set 2 _ rfl
        have hz10 : I3At (wc.setCell ⟨Z + 1, 2, none⟩ (.int .i64 (x3 + y.dem))).drew Z ⟨0, 0, 0⟩ := (Below.heap_setCell _ _ _ _ (by simp only; omega)).trans hz9
        have hb10 : Below w.heap.size w (wc.setCell ⟨Z + 1, 2, none⟩ (.int .i64 (x3 + y.dem))).drew := (hb9.setCell (p := ⟨Z + 1, 2, none⟩) (by simp only; rw [HZ.out]; omega) _).drew
        have HW10 := Lib.hid (And.intro hz10 (And.intro hw10 hb10))
        clear hw9 hz9 hb9 hw10 hz10 hb10 c3 a3 f3 hw3
        go_wp2_with fail
        go_roundg (n + 1 - (k + 1))
        case measure => omega
        case rel => exact ⟨k + 1, rfl, by omega, by go_num, _, HX2.out, HF2.out, HW10.out.1, HW10.out.2.1, HW10.out.2.2⟩
    · have hlt2 : decide (k < n) = false := decide_eq_false hlt
      have hxe : x = weighW ls := by
        rw [List.drop_eq_nil_of_le (by rw [Hn.out]; omega)] at hf
        exact hf
      subst hxe
      have aw := hw.agg
      have tR := hz.there
      clear hf hx hlt
      go_wp2_with fail
      exact ret_i3 rfl Z 0 (i3W (weighW ls)) rfl (hz.store (u := i3W (weighW ls))).agg rfl ⟨rfl, Below.setAgg hb (by rw [HZ.out]; omega) _ _⟩
end Go.Proofs.Ytiijpbfkchokaaa
namespace Go.Proofs.Ytiijpbfkchokaaa
open Go.ChangeShapes Go.WideShapes Go.ChangeAt Go.RowKit
attribute [local go_sem ↓] Go.wp_at_zero Go.wp_at_succ
def I3.get (t : I3) : Nat → Int
  | 0 => t.a
  | 1 => t.b
  | _ => t.c
theorem I3.arr_get (t : I3) {k : Nat} (hk : k < 3) : t.arr[k]? = some (.int .i64 (t.get k)) := by
  rcases k with _ | _ | _ | k
  · rfl
  · rfl
  · rfl
  · omega
theorem least_done {a b : I3} (h : ∀ i, i < 3 → a.get i = b.get i) : leastW (a.a, a.b, a.c) (b.a, b.b, b.c) = true := by
  have h0 : a.a = b.a := h 0 (by decide)
  have h1 : a.b = b.b := h 1 (by decide)
  have h2 : a.c = b.c := h 2 (by decide)
  unfold leastW
  simp [h0, h1, h2]
theorem least_at {a b : I3} {k : Nat} (hk : k < 3) (h : ∀ i, i < k → a.get i = b.get i) (hn : a.get k ≠ b.get k) : leastW (a.a, a.b, a.c) (b.a, b.b, b.c) = decide (a.get k < b.get k) := by
  unfold leastW
  simp only
  rcases k with _ | _ | _ | k
  · have hn : a.a ≠ b.a := hn
    rw [if_neg hn]; rfl
  · have h0 : a.a = b.a := h 0 (by decide)
    have hn : a.b ≠ b.b := hn
    rw [if_pos h0, if_neg hn]; rfl
  · have h0 : a.a = b.a := h 0 (by decide)
    have h1 : a.b = b.b := h 1 (by decide)
    have hn : a.c ≠ b.c := hn
    rw [if_pos h0, if_pos h1, if_neg hn]; rfl
  · omega
set_option maxRecDepth 100000 in
set_option maxHeartbeats 4000000 in
theorem vleast (a b : I3) (w : World) : Calls Try.prog 13 #[.agg a.arr, .agg b.arr] w fun e w' => e = .returned (.bool (leastW (a.a, a.b, a.c) (b.a, b.b, b.c))) ∧ Below w.heap.size w w' := by
  have d0 : I3At ((w.alloc (.cells a.arr 34)).alloc (.cells b.arr 34)) w.heap.size a := (Below.heap_alloc _ _ _ (by simp)).trans (heap_alloc_new w _)
  have d1 : I3At ((w.alloc (.cells a.arr 34)).alloc (.cells b.arr 34)) (w.heap.size + 1) b := by
    have h1 := heap_alloc_new (w.alloc (.cells a.arr 34)) (.cells b.arr 34)
    rw [World.size_alloc] at h1
    exact h1
  have hb0 : Below w.heap.size w ((w.alloc (.cells a.arr 34)).alloc (.cells b.arr 34)) := ((Below.refl _ _).alloc (Nat.le_refl _) _).alloc (by simp) _
  obtain ⟨r, hr⟩ : ∃ r, leastW (a.a, a.b, a.c) (b.a, b.b, b.c) = r := ⟨_, rfl⟩
  rw [hr]
  have Hr := Lib.hid hr
  clear hr
  go_enter Try.func13, Try.ntmps13
  go_upto_region 1 with (fail)
  obtain ⟨Z, hZ⟩ : ∃ Z, w.heap.size = Z := ⟨_, rfl⟩
  generalize (w.alloc (.cells a.arr 34)).alloc (.cells b.arr 34) = w1 at d0 d1 hb0 ⊢
  rw [hZ] at d0 d1 ⊢
  have HD := Lib.hid (And.intro d0 (And.intro d1 hb0))
  clear d0 d1 hb0 hZ
  go_wp2_with fail
  go_loopg [5] 4 (fun gg t5 wr => ∃ k : Nat, gg = 4 - k ∧ k ≤ 3 ∧ t5 = .int .i64 k ∧ (∀ i, i < k → a.get i = b.get i) ∧ I3At wr Z a ∧ I3At wr (Z + 1) b ∧ Below w.heap.size w wr)
  case atStart => exact ⟨0, rfl, Nat.zero_le _, rfl, (fun i hi => by omega), HD.out.1, HD.out.2.1, HD.out.2.2⟩
  case round =>
    clear HD
    obtain ⟨k, rfl, hk, rfl, hpre, h0, h1, hb⟩ := hrel
    by_cases hlt : k < 3
    · have hk0 : (0 : Int) ≤ (k : Int) := by omega
      have hk1 : (k : Int) < 3 := by omega
      have c0 := h0.cell k _ (I3.arr_get a hlt)
      have c1 := h1.cell k _ (I3.arr_get b hlt)
      by_cases he : a.get k = b.get k
      · have hpre2 : ∀ i, i < k + 1 → a.get i = b.get i := fun i hi => by
          rcases Nat.lt_or_ge i k with h | h
          · exact hpre i h
          · rw [show i = k by omega]; exact he
        have he2 : (a.get k != b.get k) = false := by simpa using he
        have H := Lib.hid (And.intro h0 (And.intro h1 (And.intro hb hpre2)))
        clear h0 h1 hb hpre hpre2 he
        go_wp2_with fail
        go_region
        go_wp2_with fail
        go_roundg (4 - (k + 1))
        case measure => omega
        case rel => exact ⟨k + 1, rfl, by omega, by go_num, H.out.2.2.2, H.out.1, H.out.2.1, H.out.2.2.1.drew⟩
      · have he2 : (a.get k != b.get k) = true := by simpa using he
        have hl := least_at hlt hpre he
        rw [Hr.out] at hl
        have H := Lib.hid (And.intro hb hl)
        clear h0 h1 hb hpre hl he
        go_wp2_with fail
        go_region
        have c0' : wr.drew.cell? ⟨Z, k, none⟩ = some (.int .i64 (a.get k)) := c0
        have c1' : wr.drew.cell? ⟨Z + 1, k, none⟩ = some (.int .i64 (b.get k)) := c1
        go_wp2_with fail
        go_region
        go_wp2_with fail
        go_ret
        exact ⟨by rw [H.out.2]; rfl, H.out.1.drew.drew⟩
    · obtain rfl : k = 3 := by omega
      have hl := least_done hpre
      rw [Hr.out] at hl
      have H := Lib.hid (And.intro hb hl)
      clear h0 h1 hb hpre hl
      go_wp2_with fail
      go_ret
      exact ⟨by rw [H.out.2]; rfl, H.out.1⟩
end Go.Proofs.Ytiijpbfkchokaaa
