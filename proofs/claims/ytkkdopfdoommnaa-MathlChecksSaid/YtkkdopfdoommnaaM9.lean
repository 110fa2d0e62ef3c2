/-
  Layer 20: the classes of a formula's items: the walk.
-/
import Derived.Test.YtkkdopfdoommnaaM8
import Derived.Deep.OwnRows
import Derived.Deep.DeepCutAuto
import Derived.Deep.DeepCutAuto
namespace Go.Proofs.Ytkkdopfdoommnaa
open Go.ChangeShapes Go.WideShapes Go.ChangeAt Go.RowKit
attribute [local go_sem ↓] Go.wp_at_zero Go.wp_at_succ

theorem flat_items : ∀ (its : List It) (i : Nat) (hi : i < its.length), ((its.flatMap It.cells).drop (i * 21)).take 21 = its[i].cells
  | it :: r, 0, _ => by
    rw [Nat.zero_mul, List.drop_zero, List.flatMap_cons, List.getElem_cons_zero]
    exact List.take_left' rfl
  | it :: r, i + 1, hi => by
    rw [List.flatMap_cons, show (i + 1) * 21 = it.cells.length + i * 21 by rw [show it.cells.length = 21 from rfl]; omega, List.drop_append, List.getElem_cons_succ]
    rw [List.drop_eq_nil_of_le (by omega), List.nil_append, Nat.add_sub_cancel_left]
    exact flat_items r i (by simpa using hi)
theorem flat_len : ∀ (its : List It), (its.flatMap It.cells).length = its.length * 21
  | [] => rfl
  | it :: r => by rw [List.flatMap_cons, List.length_append, flat_len r, show it.cells.length = 21 from rfl, List.length_cons]; omega
theorem items_seen {w : World} {B : Nat} {v : Value} {its : List It} (h : w.ownsRow B 145 21 v its.length (its.flatMap It.cells)) :
    ∃ (p : Option Addr) (g cap : Nat), v = .slice p its.length cap ∧ its.length ≤ cap ∧ (0 < its.length → p = some ⟨g, 0, none⟩) ∧ (0 < its.length → g < w.heap.size) ∧ ∀ i (hi : i < its.length), agg? w g (i * 21) 21 = some its[i].arr := by
  obtain ⟨hl, ⟨rfl, h0⟩ | ⟨g, cap, cur, rfl, hb, hg, hn, hm, hs, ht⟩⟩ := h
  · exact ⟨none, 0, 0, by rw [h0], by omega, by omega, by omega, fun i hi => by omega⟩
  · refine ⟨_, g, cap, rfl, hn, fun _ => rfl, fun _ => (Array.getElem?_eq_some_iff.1 hg).1, fun i hi => ?_⟩
    have h1 : i * 21 + 21 ≤ its.length * 21 := by omega
    have h2 : its.length * 21 ≤ cap * 21 := Nat.mul_le_mul_right _ hn
    unfold agg?
    rw [hg]
    simp only
    rw [if_pos (by omega)]
    congr 1
    have e := flat_items its i hi
    rw [← ht, List.drop_take, List.take_take, Nat.min_eq_left (by omega)] at e
    show cur.extract (i * 21) (i * 21 + 21) = (its[i]).cells.toArray
    rw [← e]
    apply Array.ext'
    simp [List.take_drop]
def ints (l : List Int) : List Value := l.map (Value.int .i64)
theorem ints_get (l : List Int) (i : Nat) : (ints l).toArray[i]? = (l[i]?).map (Value.int .i64) := by simp [ints]
theorem ints_set (l : List Int) (i : Nat) (x : Int) : (ints l).toArray.setIfInBounds i (.int .i64 x) = (ints (l.set i x)).toArray := by simp [ints, List.map_set]
theorem info_int : (Try.prog.info? 3).map (fun i => (i.zero, i.size, i.bytes)) = some (some (.int .i64 0), 1, 8) := by kernel_rfl

/-- in the middle of the counting: the first i items are counted; the array lies in block O -/
structure Counting (w : World) (its : List It) (O i : Nat) (last : Int) (acc outs : List Int) (wr : World) : Prop where
  len : outs.length = its.length
  blk : wr.heap[O]? = some (.cells (ints outs).toArray 3 (0, 0))
  rel : Counts outs last acc
  lt : last < i
  lo : -1 ≤ last
  zero : ∀ k, i ≤ k → k < outs.length → outs[k]? = some 0
  tn : Below w.heap.size w wr
  hO : w.heap.size ≤ O
section
variable {w : World} {its : List It} {O i : Nat} {last : Int} {acc outs : List Int} {wr w' : World}
theorem Counting.O_lt (h : Counting w its O i last acc outs wr) : O < wr.heap.size := (Array.getElem?_eq_some_iff.1 h.blk).1
theorem Counting.below (h : Counting w its O i last acc outs wr) (hb : Below wr.heap.size wr w') : Counting w its O i last acc outs w' :=
  ⟨h.len, (hb.block O h.O_lt).trans h.blk, h.rel, h.lt, h.lo, h.zero, h.tn.trans (hb.mono (Nat.le_trans h.hO (Nat.le_of_lt h.O_lt))), h.hO⟩
theorem Counting.skip (h : Counting w its O i last acc outs wr) : Counting w its O (i + 1) last acc outs wr :=
  ⟨h.len, h.blk, h.rel, by have := h.lt; omega, h.lo, fun k hk => h.zero k (by omega), h.tn, h.hO⟩
theorem Counting.put (h : Counting w its O i last acc outs wr) (hi : i < its.length) {c : Int} (hc : c ≠ 0) : Counting w its O (i + 1) i (c :: acc) (outs.set i c) (wr.setCell ⟨O, i, none⟩ (.int .i64 c)) :=
  ⟨by rw [List.length_set]; exact h.len, (heap_setCell_blk h.blk i _).trans (by rw [ints_set]), h.rel.put (by rw [h.len]; exact hi) h.zero hc, by omega, by omega,
    fun k hk hl => by rw [List.getElem?_set_ne (by omega)]; exact h.zero k (by omega) (by simpa using hl), h.tn.setCell h.hO _, h.hO⟩
theorem Counting.fix {m : Nat} (h : Counting w its O i m acc outs wr) {y : Int} (hy : y ≠ 0) : Counting w its O i m (y :: acc.tail) (outs.set m y) (wr.setCell ⟨O, m, none⟩ (.int .i64 y)) := by
  obtain ⟨x, r, _, rfl, _, hr⟩ := h.rel.head (by omega)
  refine ⟨by rw [List.length_set]; exact h.len, (heap_setCell_blk h.blk m _).trans (by rw [ints_set]), hr y hy, h.lt, h.lo, fun k hk hl => ?_, h.tn.setCell h.hO _, h.hO⟩
  have := h.lt
  rw [List.getElem?_set_ne (by omega)]; exact h.zero k hk (by simpa using hl)
theorem Counting.free (h : Counting w its O i last acc outs wr) (o : Nat) : wr.frozen? ⟨O, o, none⟩ = false := by simp [World.frozen?, h.blk]
theorem Counting.cell (h : Counting w its O i last acc outs wr) {m : Nat} {x : Int} (hx : outs[m]? = some x) : wr.cell? ⟨O, m, none⟩ = some (.int .i64 x) := by
  rw [cell?_blk h.blk, ints_get, hx]; rfl
theorem Counting.here (h : Counting w its O i last acc outs wr) (hi : i < its.length) : wr.cell? ⟨O, i, none⟩ = some (.int .i64 0) := h.cell (h.zero i (Nat.le_refl _) (by rw [h.len]; exact hi))
end
theorem foldl_take_succ {its : List It} {i : Nat} (hi : i < its.length) {acc : List Int} (h : acc = ((its.take i).map fun it => classI it.sign.kind).foldl countStep []) :
    countStep acc (classI its[i].sign.kind) = ((its.take (i + 1)).map fun it => classI it.sign.kind).foldl countStep [] := by
  rw [List.take_succ_eq_append_getElem hi, List.map_append, List.foldl_append, ← h]; rfl
theorem step_zero (acc : List Int) : countStep acc 0 = acc := rfl
theorem step_first {c : Int} (hc : c ≠ 0) : countStep [] c = [if c = 3 then 1 else c] := by unfold countStep; rw [if_neg hc]
theorem step_rel {c x : Int} (hc : c = 4 ∨ c = 6 ∨ c = 7) (r : List Int) : countStep (x :: r) c = c :: (if x = 3 then 1 :: r else x :: r) := by
  rcases hc with rfl | rfl | rfl <;> simp [countStep]
theorem step_other {c x : Int} (h0 : c ≠ 0) (hc : ¬ (c = 4 ∨ c = 6 ∨ c = 7)) (h3 : c ≠ 3) (r : List Int) : countStep (x :: r) c = c :: x :: r := by
  simp [countStep, h0, hc, h3]
theorem step_bin (x : Int) (r : List Int) : countStep (x :: r) 3 = (if x = 3 ∨ x = 2 ∨ x = 4 ∨ x = 5 ∨ x = 7 then 1 else 3) :: x :: r := by
  simp [countStep]

set_option maxRecDepth 100000 in
set_option maxHeartbeats 8000000 in
theorem counts_any (p : Option Addr) (g cap : Nat) (its : List It) (w : World) (hlen : its.length ≤ 2000) (_hcap : its.length ≤ cap) (hp : 0 < its.length → p = some ⟨g, 0, none⟩) (hg : 0 < its.length → g < w.heap.size)
    (hi : ∀ i (hi : i < its.length), agg? w g (i * 21) 21 = some its[i].arr) :
    Calls Try.prog 56 #[.slice p its.length cap] w fun e w' => ∃ (O : Nat) (outs : List Int), e = .returned (.slice (some ⟨O, 0, none⟩) its.length its.length) ∧ outs.length = its.length ∧ w'.heap[O]? = some (.cells (ints outs).toArray 3 (0, 0)) ∧
      outs.filter (· ≠ 0) = classesP (its.map (·.sign.kind)) ∧ Below w.heap.size w w' ∧ w.heap.size ≤ O := by
  have hmk := run_make_row' (P := Try.prog) 37 3 (.int .i64 0) 8 Try.underlying37 info_int rfl .i64 .i64 its.length (by omega) (by omega)
  have Hp := Lib.hid hp
  have Hi := Lib.hid hi
  have Hg := Lib.hid hg
  clear hp hi hg
  go_enter Try.func56, Try.ntmps56
  go_wp2_with fail
  go_loopg [4, 13] (its.length + 1) (fun g t4 t13 wr => ∃ (i : Nat) (last : Int) (acc outs : List Int), g = its.length + 1 - i ∧ i ≤ its.length ∧ t4 = .int .i64 last ∧ t13 = .int .i64 i ∧ Counting w its w.heap.size i last acc outs wr ∧ acc = ((its.take i).map fun it => classI it.sign.kind).foldl countStep [])
  case atStart =>
    refine ⟨0, -1, [], List.replicate its.length 0, rfl, Nat.zero_le _, rfl, rfl, ⟨by simp, ?_, .inl ⟨rfl, rfl, fun x hx => (List.mem_replicate.1 hx).2⟩, by omega, by omega, fun k _ hk => by simp at hk; simp [hk], (Below.refl _ _).alloc (Nat.le_refl _) _, Nat.le_refl _⟩, rfl⟩
    rw [heap_alloc_new]
    congr 2
    apply Array.ext'
    rw [toList_madeCells_one]
    simp [ints]
  case round =>
    clear hmk
    obtain ⟨i, last, acc, outs, rfl, hi, rfl, rfl, hC, hacc⟩ := hrel
    have Hacc := Lib.hid hacc
    clear hacc
    have hi1 : (0 : Int) ≤ (i : Int) := by omega
    by_cases hlt : i < its.length
    · have hi2 : (i : Int) < (its.length : Int) := by omega
      have hai := Hi.out i hlt
      have hg := Hg.out (by omega)
      obtain rfl := Hp.out (by omega)
      have Hst := Lib.hid (foldl_take_succ hlt Hacc.out)
      have hb := bfacts hC.tn
      have ha : agg? wr g (i * 21) 21 = some its[i].arr := (hb.2.2.1 g _ _ hg).trans hai
      clear hb hai
      generalize its[i] = it at ha Hst
      have HC0 := fun W => class_any it W
      generalize classI it.sign.kind = c at HC0 Hst
      have HC := Lib.hid HC0
      clear HC0 Hacc
      go_upto_region 7 with (go_at_call 82; refine (HC.out _).mono ?_; rintro e w3 ⟨rfl, hb3⟩)
      have h3 := hC.below ((Below.trans ((Below.refl _ _).alloc (Nat.le_refl _) _) (hb3.mono (by simp))))
      clear hC hb3 ha hg
      have hlo := h3.lo
      have hlt1 := h3.lt
      have hfz := h3.free i
      have hcl := h3.here hlt
      cases hc0 : ((c : Int) == 0)
      · have Hc0 := Lib.hid (show c ≠ 0 by simpa using hc0)
        by_cases hneg : last < 0
        · have hn1 := h3.rel.neg hneg
          have Hac := Lib.hid hn1.2
          obtain rfl := hn1.1
          clear hn1
          cases hc3 : ((c : Int) == 3)
          · have Hc3 := Lib.hid (show c ≠ 3 by simpa using hc3)
            go_wp2_with fail
            go_roundg (its.length + 1 - (i + 1))
            case measure => omega
            case rel => exact ⟨i + 1, i, c :: acc, _, rfl, hlt, rfl, by go_num, h3.put hlt Hc0.out, by rw [← Hst.out, Hac.out, step_first Hc0.out, if_neg Hc3.out]⟩
          · have Hc3 := Lib.hid (show c = 3 by simpa using hc3)
            go_wp2_with fail
            go_roundg (its.length + 1 - (i + 1))
            case measure => omega
            case rel => exact ⟨i + 1, i, 1 :: acc, _, rfl, hlt, rfl, by go_num, h3.put hlt (by omega), by rw [← Hst.out, Hac.out, step_first Hc0.out, if_pos Hc3.out]⟩
        · obtain ⟨m, rfl⟩ := Int.eq_ofNat_of_zero_le (show 0 ≤ last by omega)
          have hm1 : (0 : Int) ≤ (m : Int) := by omega
          have hm2 : (m : Int) < (its.length : Int) := by omega
          clear hneg
          obtain ⟨x, r, hx, hxr, hx0, _⟩ := h3.rel.head hm1
          have Hxr := Lib.hid hxr
          have hcx := h3.cell (m := m) (x := x) (by simpa using hx)
          have hfm := h3.free m
          clear hx hxr
          by_cases hrel : c = 4 ∨ c = 6 ∨ c = 7
          · have Hrel := Lib.hid hrel
            have hfix := h3.fix (y := 1) (by omega)
            cases hx3 : ((x : Int) == 3)
            · have Hx3 := Lib.hid (show x ≠ 3 by simpa using hx3)
              have Hfin : Hid (c :: acc = ((its.take (i + 1)).map fun it => classI it.sign.kind).foldl countStep []) := by rw [← Hst.out, Hxr.out, step_rel Hrel.out, if_neg Hx3.out]; rfl
              clear hfix hx0
              rcases hrel with rfl | rfl | rfl
              all_goals
                go_wp2_with fail
                go_roundg (its.length + 1 - (i + 1))
                case measure => omega
                case rel => exact ⟨i + 1, i, _, _, rfl, hlt, rfl, by go_num, h3.put hlt Hc0.out, Hfin.out⟩
            · have Hx3 := Lib.hid (show x = 3 by simpa using hx3)
              have Hfin : Hid (c :: 1 :: acc.tail = ((its.take (i + 1)).map fun it => classI it.sign.kind).foldl countStep []) := by rw [← Hst.out, Hxr.out, step_rel Hrel.out, if_pos Hx3.out]; rfl
              have hcl2 := hfix.here hlt
              have hfz2 := hfix.free i
              rcases hrel with rfl | rfl | rfl
              all_goals
                go_wp2_with fail
                go_roundg (its.length + 1 - (i + 1))
                case measure => omega
                case rel => exact ⟨i + 1, i, _, _, rfl, hlt, rfl, by go_num, hfix.put hlt Hc0.out, Hfin.out⟩
          · have h4 : ((c : Int) == 4) = false := by simp; omega
            have h6 : ((c : Int) == 6) = false := by simp; omega
            have h7 : ((c : Int) == 7) = false := by simp; omega
            have Hrel := Lib.hid hrel
            clear hrel
            cases hc3 : ((c : Int) == 3)
            · have Hc3 := Lib.hid (show c ≠ 3 by simpa using hc3)
              have Hfin : Hid (c :: acc = ((its.take (i + 1)).map fun it => classI it.sign.kind).foldl countStep []) := by rw [← Hst.out, Hxr.out, step_other Hc0.out Hrel.out Hc3.out]; exact Lib.hid rfl
              go_wp2_with fail
              go_roundg (its.length + 1 - (i + 1))
              case measure => omega
              case rel => exact ⟨i + 1, i, _, _, rfl, hlt, rfl, by go_num, h3.put hlt Hc0.out, Hfin.out⟩
            · obtain rfl : c = 3 := by simpa using hc3
              have Hfin : Hid ((if x = 3 ∨ x = 2 ∨ x = 4 ∨ x = 5 ∨ x = 7 then (1 : Int) else 3) :: acc = ((its.take (i + 1)).map fun it => classI it.sign.kind).foldl countStep []) := by rw [← Hst.out, Hxr.out, step_bin]; exact Lib.hid rfl
              by_cases hxs : x = 3 ∨ x = 2 ∨ x = 4 ∨ x = 5 ∨ x = 7
              · have Hf2 : Hid (1 :: acc = ((its.take (i + 1)).map fun it => classI it.sign.kind).foldl countStep []) := by have := Hfin.out; rwa [if_pos hxs] at this
                clear Hfin hx0
                rcases hxs with rfl | rfl | rfl | rfl | rfl
                all_goals
                  go_wp2_with fail
                  go_roundg (its.length + 1 - (i + 1))
                  case measure => omega
                  case rel => exact ⟨i + 1, i, _, _, rfl, hlt, rfl, by go_num, h3.put hlt (by omega), Hf2.out⟩
              · have Hf2 : Hid (3 :: acc = ((its.take (i + 1)).map fun it => classI it.sign.kind).foldl countStep []) := by have := Hfin.out; rwa [if_neg hxs] at this
                have g3 : ((x : Int) == 3) = false := by simp; omega
                have g2 : ((x : Int) == 2) = false := by simp; omega
                have g4 : ((x : Int) == 4) = false := by simp; omega
                have g5 : ((x : Int) == 5) = false := by simp; omega
                have g7 : ((x : Int) == 7) = false := by simp; omega
                clear Hfin hx0 hxs
                go_wp2_with fail
                go_roundg (its.length + 1 - (i + 1))
                case measure => omega
                case rel => exact ⟨i + 1, i, _, _, rfl, hlt, rfl, by go_num, h3.put hlt (by omega), Hf2.out⟩
      · obtain rfl : c = 0 := by simpa using hc0
        go_wp2_with fail
        go_roundg (its.length + 1 - (i + 1))
        case measure => omega
        case rel => exact ⟨i + 1, last, acc, outs, rfl, hlt, rfl, by go_num, h3.skip, by rw [← Hst.out, step_zero]⟩
    · have hi2 : (its.length : Int) ≤ (i : Int) := by omega
      have Hall : Hid (classesP (its.map (·.sign.kind)) = (countEnd acc).reverse) := by
        rw [Hacc.out, List.take_of_length_le (by omega)]
        unfold classesP
        rw [List.map_map]; rfl
      have hlo := hC.lo
      have hlt1 := hC.lt
      by_cases hneg : last < 0
      · have hn1 := hC.rel.neg hneg
        have Hac := Lib.hid hn1.2
        obtain rfl := hn1.1
        clear hn1
        go_wp2_with fail
        go_ret
        exact ⟨_, outs, rfl, hC.len, hC.blk, by rw [hC.rel.filter, Hall.out, Hac.out]; rfl, hC.tn, hC.hO⟩
      · obtain ⟨m, rfl⟩ := Int.eq_ofNat_of_zero_le (show 0 ≤ last by omega)
        have hm1 : (0 : Int) ≤ (m : Int) := by omega
        have hm2 : (m : Int) < (its.length : Int) := by omega
        clear hneg
        obtain ⟨x, r, hx, hxr, hx0, _⟩ := hC.rel.head hm1
        have Hxr := Lib.hid hxr
        have hcx := hC.cell (m := m) (x := x) (by simpa using hx)
        have hfm := hC.free m
        clear hx hxr
        have hfix := hC.fix (y := 1) (by omega)
        cases hx3 : ((x : Int) == 3)
        · have Hx3 := Lib.hid (show x ≠ 3 by simpa using hx3)
          go_wp2_with fail
          go_ret
          exact ⟨_, outs, rfl, hC.len, hC.blk, by rw [hC.rel.filter, Hall.out, Hxr.out, countEnd, if_neg Hx3.out], hC.tn, hC.hO⟩
        · have Hx3 := Lib.hid (show x = 3 by simpa using hx3)
          go_wp2_with fail
          go_ret
          exact ⟨_, _, rfl, hfix.len, hfix.blk, by rw [hfix.rel.filter, Hall.out, Hxr.out, countEnd, if_pos Hx3.out]; rfl, hfix.tn, hfix.hO⟩
end Go.Proofs.Ytkkdopfdoommnaa
