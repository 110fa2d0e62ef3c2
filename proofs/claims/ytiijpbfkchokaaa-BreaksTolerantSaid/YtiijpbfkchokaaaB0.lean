/-
  What stands ahead of a place in a column, item by item (plain).
  (*vlist.meter).pass, .size: an item; so far.
  (*vlist.meter).size: so far.
  vlist.measured: what stands ahead of a place of a good column.
  vlist.Size: what stands ahead of a place.
  The document's Sum and Sized against the meter (plain).
  The document's Along, light, Sum.
  The document's Sized.
  The document's Size.
  What a break costs: of totals, a height and a penalty: the program's and the document's.
  What a break costs: the program's cost.
  What a break costs: the document's Bad, Priced, price.
  What a break costs: the document's price; bounds of what is measured.
  Badness of great numbers: the program's, in package breaks.
-/
import Derived.Test.YtiijpbfkchokaaaQ4
import Derived.Test.YtiijpbfkchokaaaC1
import Derived.Test.YtiijpbfkchokaaaK6
import Derived.RegionTactic
import Derived.Deep.CutBlock
namespace Go.Proofs.Ytiijpbfkchokaaa
open Go.ChangeShapes Go.WideShapes Go.ChangeAt Go.RowKit
def Tt.st (t : Tt) : Nat → Int
  | 0 => t.s0 | 1 => t.s1 | 2 => t.s2 | _ => t.s3
def Tt.sh (t : Tt) : Nat → Int
  | 0 => t.h0 | 1 => t.h1 | 2 => t.h2 | _ => t.h3
def Tt.setS (t : Tt) (j : Nat) (x : Int) : Tt := match j with
  | 0 => { t with s0 := x } | 1 => { t with s1 := x } | 2 => { t with s2 := x } | _ => { t with s3 := x }
def Tt.setH (t : Tt) (j : Nat) (x : Int) : Tt := match j with
  | 0 => { t with h0 := x } | 1 => { t with h1 := x } | 2 => { t with h2 := x } | _ => { t with h3 := x }
/-- glue's stretch and shrink -/
def Tt.glue (t : Tt) (g : Gl) : Tt :=
  let t1 := t.setS g.so.toNat (t.st g.so.toNat + g.str)
  t1.setH g.ho.toNat (t1.sh g.ho.toNat + g.shr)
structure NdB (n : Nd) : Prop where
  solid : solidK n.kind = true → (-1073741823 ≤ n.h ∧ n.h ≤ 1073741823) ∧ -1073741823 ≤ n.d ∧ n.d ≤ 1073741823
  kern : n.kind = 8 → -1073741823 ≤ n.w ∧ n.w ≤ 1073741823
  nat : n.kind = 7 → -1073741823 ≤ n.glue.nat ∧ n.glue.nat ≤ 1073741823
  str : n.kind = 7 → -1073741823 ≤ n.glue.str ∧ n.glue.str ≤ 1073741823
  shr : n.kind = 7 → -1073741823 ≤ n.glue.shr ∧ n.glue.shr ≤ 1073741823
  so : n.kind = 7 → 0 ≤ n.glue.so ∧ n.glue.so ≤ 3
  ho : n.kind = 7 → 0 ≤ n.glue.ho ∧ n.glue.ho ≤ 3
theorem good_at {n : Nd} {k : Nat} (h : rightB n = true) (hk : n.kind = (k : Int)) : goodN k n = true := by
  unfold rightB at h
  simp only [Bool.and_eq_true] at h
  have := h.1.2
  rwa [hk, Int.toNat_natCast] at this
theorem nb_of {n : Nd} (h : rightB n = true) : NdB n := by
  have g7 : n.kind = 7 → n.glue.good = true := fun hk => by
    have := good_at (k := 7) h hk
    simp [goodN, skipB] at this
    exact this.1
  refine ⟨fun hk => ?_, fun hk => ?_, fun hk => ?_, fun hk => ?_, fun hk => ?_, fun hk => ?_, fun hk => ?_⟩
  · have hk' : n.kind = 4 ∨ n.kind = 5 ∨ n.kind = 3 := by simp [solidK] at hk; omega
    rcases hk' with e | e | e
    · have := good_at (k := 4) h e
      simp [goodN, boxB, dims4, dimenB] at this; omega
    · have := good_at (k := 5) h e
      simp [goodN, boxB, dims4, dimenB] at this; omega
    · have := good_at (k := 3) h e
      simp [goodN, ruleB, dims3, dimenB] at this; omega
  · have := good_at (k := 8) h hk
    simp [goodN, kernB, dims1, dimenB] at this; omega
  all_goals
    have := g7 hk
    simp [Gl.good, dimenB, withinB] at this
    omega
theorem st_setS (t : Tt) (j i : Nat) (x : Int) : (t.setS j x).st i = if min i 3 = min j 3 then x else t.st i := by
  match j, i with
  | 0, 0 | 0, 1 | 0, 2 | 1, 0 | 1, 1 | 1, 2 | 2, 0 | 2, 1 | 2, 2 => rfl
  | 0, i + 3 | 1, i + 3 | 2, i + 3 => rw [if_neg (by omega)]; rfl
  | j + 3, 0 | j + 3, 1 | j + 3, 2 => rw [if_neg (by omega)]; rfl
  | j + 3, i + 3 => rw [if_pos (by omega)]; rfl
theorem sh_setH (t : Tt) (j i : Nat) (x : Int) : (t.setH j x).sh i = if min i 3 = min j 3 then x else t.sh i := by
  match j, i with
  | 0, 0 | 0, 1 | 0, 2 | 1, 0 | 1, 1 | 1, 2 | 2, 0 | 2, 1 | 2, 2 => rfl
  | 0, i + 3 | 1, i + 3 | 2, i + 3 => rw [if_neg (by omega)]; rfl
  | j + 3, 0 | j + 3, 1 | j + 3, 2 => rw [if_neg (by omega)]; rfl
  | j + 3, i + 3 => rw [if_pos (by omega)]; rfl
theorem sh_setS (t : Tt) (j i : Nat) (x : Int) : (t.setS j x).sh i = t.sh i := by
  match j with
  | 0 | 1 | 2 | _ + 3 => match i with | 0 | 1 | 2 | _ + 3 => rfl
theorem st_setH (t : Tt) (j i : Nat) (x : Int) : (t.setH j x).st i = t.st i := by
  match j with
  | 0 | 1 | 2 | _ + 3 => match i with | 0 | 1 | 2 | _ + 3 => rfl
theorem nat_setS (t : Tt) (j : Nat) (x : Int) : (t.setS j x).nat = t.nat := by
  match j with
  | 0 | 1 | 2 | _ + 3 => rfl
theorem nat_setH (t : Tt) (j : Nat) (x : Int) : (t.setH j x).nat = t.nat := by
  match j with
  | 0 | 1 | 2 | _ + 3 => rfl
end Go.Proofs.Ytiijpbfkchokaaa
namespace Go.Proofs.Ytiijpbfkchokaaa
open Go.ChangeShapes Go.WideShapes Go.ChangeAt Go.RowKit
/-- but for the block b of a meter, and new ones, all is as it was -/
structure Met1 (W W' : World) (b : Nat) : Prop where
  by_ : W.grownBy W' (some b)
  others : KeepsOthers W W'
theorem Met1.refl (W : World) (b : Nat) : Met1 W W b := ⟨⟨rfl, rfl, rfl, Nat.le_refl _, fun _ _ _ => rfl⟩, KeepsOthers.refl _⟩
theorem Met1.trans {A B C : World} {b : Nat} (h : Met1 A B b) (k : Met1 B C b) : Met1 A C b := ⟨⟨k.by_.os.trans h.by_.os, k.by_.tape.trans h.by_.tape, k.by_.output.trans h.by_.output, Nat.le_trans h.by_.size k.by_.size, fun j hj hne => (k.by_.block j (Nat.lt_of_lt_of_le hj h.by_.size) hne).trans (h.by_.block j hj hne)⟩, h.others.trans k.others⟩
theorem Met1.alloc {A B : World} {b : Nat} (h : Met1 A B b) (o : Obj) : Met1 A (B.alloc o) b := h.trans ⟨World.grownBy_alloc B o _, KeepsOthers.alloc _ _⟩
theorem Met1.set {A B : World} {b : Nat} (h : Met1 A B b) (k : Nat) (v : Value) : Met1 A (B.setCell ⟨b, k, none⟩ v) b := h.trans ⟨⟨rfl, rfl, rfl, (KeepsWalks.setCell B _ v).size, fun j _ hne => Below.heap_setCell _ _ _ j (fun e => hne (by rw [e]))⟩, KeepsOthers.setCell _ _ _⟩
theorem Met1.drew {A B : World} {b : Nat} (h : Met1 A B b) : Met1 A B.drew b := h.trans ⟨⟨rfl, rfl, rfl, Nat.le_refl _, fun _ _ _ => rfl⟩, KeepsOthers.drew _⟩
end Go.Proofs.Ytiijpbfkchokaaa
namespace Go.Proofs.Ytiijpbfkchokaaa
open Go.ChangeShapes Go.WideShapes Go.ChangeAt Go.RowKit
/-- a variable that holds totals -/
def TAt (W : World) (b : Nat) (T : Tt) : Prop := W.heap[b]? = some (.cells T.arr 89 (0, 0))
theorem TAt.lt {W : World} {b : Nat} {T : Tt} (h : TAt W b T) : b < W.heap.size := (Array.getElem?_eq_some_iff.1 h).1
theorem TAt.agg {W : World} {b : Nat} {T : Tt} (h : TAt W b T) : agg? W b 0 9 = some T.arr := by rw [agg?_blk' h 0 9 (by simp [Tt.size_arr])]; simp [Tt.arr, Tt.cells]
theorem TAt.there {W : World} {b : Nat} {T : Tt} (h : TAt W b T) : there? W b 0 9 = true := there_blk h 0 9 (by simp [Tt.size_arr])
theorem TAt.store {W : World} {b : Nat} {T U : Tt} (h : TAt W b T) : TAt (setAgg W b 0 U.arr) b U := by
  have := heap_setCells_same b _ (0, 0) U.arr.toList 0 T.arr W h
  rw [show U.arr.toList = U.cells from rfl, setMany_Tt] at this
  exact this
theorem TAt.other {W : World} {b c : Nat} {T U : Tt} (h : TAt W b T) (hne : b ≠ c) : TAt (setAgg W c 0 U.arr) b T := (heap_setCells_other c b hne _ _ _).trans h
end Go.Proofs.Ytiijpbfkchokaaa


namespace Go.Proofs.Ytiijpbfkchokaaa
open Go.ChangeShapes Go.WideShapes Go.ChangeAt Go.RowKit
/-- the meter's totals with its depth -/
def Mt.all (m : Mt) : Tt := { m.t with nat := m.t.nat + m.d }
end Go.Proofs.Ytiijpbfkchokaaa
namespace Go.Proofs.Ytiijpbfkchokaaa
open Go.ChangeShapes Go.WideShapes Go.ChangeAt Go.RowKit
attribute [local go_sem ↓] Go.wp_at_zero Go.wp_at_succ
theorem tt_get_st (T : Tt) : ∀ j, j ≤ 3 → T.arr[1 + j]? = some (.int .i64 (T.st j))
  | 0, _ | 1, _ | 2, _ | 3, _ => rfl
theorem tt_get_sh (T : Tt) : ∀ j, j ≤ 3 → T.arr[5 + j]? = some (.int .i64 (T.sh j))
  | 0, _ | 1, _ | 2, _ | 3, _ => rfl
theorem tt_set_st (T : Tt) (x : Int) : ∀ j, j ≤ 3 → T.arr.setIfInBounds (1 + j) (.int .i64 x) = (T.setS j x).arr
  | 0, _ | 1, _ | 2, _ | 3, _ => rfl
theorem tt_set_sh (T : Tt) (x : Int) : ∀ j, j ≤ 3 → T.arr.setIfInBounds (5 + j) (.int .i64 x) = (T.setH j x).arr
  | 0, _ | 1, _ | 2, _ | 3, _ => rfl
theorem TAt.cell {W : World} {b : Nat} {T : Tt} (h : TAt W b T) (k : Nat) (v : Value) (hv : T.arr[k]? = some v) : W.cell? ⟨b, k, none⟩ = some v := by rw [cell?_blk' h, hv]
theorem TAt.frozen {W : World} {b : Nat} {T : Tt} (h : TAt W b T) (k : Nat) : W.frozen? ⟨b, k, none⟩ = false := frozen_of_row W b k _ _ h
theorem TAt.set {W : World} {b : Nat} {T T' : Tt} (h : TAt W b T) (k : Nat) (v : Value) (hm : T.arr.setIfInBounds k v = T'.arr) : TAt (W.setCell ⟨b, k, none⟩ v) b T' := by
  have := heap_setCell_same W b k _ _ v h
  rw [hm] at this
  exact this
end Go.Proofs.Ytiijpbfkchokaaa


namespace Go.Proofs.Ytiijpbfkchokaaa
open Go.ChangeShapes Go.WideShapes Go.ChangeAt Go.RowKit
def badM (x s : Int) : Int := badP (min x 2147483647) (max (-2147483647) (min s 2147483647))
theorem badM_v {x s a b : Int} (ha : a = min x 2147483647) (hb : b = max (-2147483647) (min s 2147483647)) : badP a b = badM x s := by rw [ha, hb]; rfl
theorem ret_i1 {a b : Int} (h : a = b) : Ending.returned (.int .i64 a) = .returned (.int .i64 b) := by rw [h]
theorem badP_range (t s : Int) : 0 ≤ badP t s ∧ badP t s ≤ 10000 ∨ t < 0 := by
  by_cases h : t < 0
  · exact .inr h
  · left
    unfold badP
    split
    · omega
    split
    · omega
    split
    · omega
    have h0 : 0 ≤ badR t s := by
      unfold badR
      split
      · exact Int.ediv_nonneg (by omega) (by omega)
      split
      · exact Int.ediv_nonneg (by omega) (by omega)
      · omega
    obtain ⟨a, b, c, d⟩ := cube_le (badR t s) h0 (by omega)
    omega
theorem badM_range (x s : Int) (h : 0 ≤ x) : 0 ≤ badM x s ∧ badM x s ≤ 10000 := by
  rcases badP_range (min x 2147483647) (max (-2147483647) (min s 2147483647)) with h | h
  · exact h
  · omega
end Go.Proofs.Ytiijpbfkchokaaa



namespace Go.Proofs.Ytiijpbfkchokaaa
open Go.ChangeShapes Go.WideShapes Go.ChangeAt Go.RowKit
set_option maxHeartbeats 1000000 in
theorem vbad9 (x s : Int) (w : World) (hx : 0 ≤ x) : Calls Try.prog 46 #[.int .i64 x, .int .i64 s] w fun e w' => e = .returned (.int .i64 (badM x s)) ∧ Below w.heap.size w w' := by
  go_enter Try.func46, Try.ntmps46
  go_wp2_with (go_at_call 74; refine (vbadness _ _ _ (by omega) (by omega) (by omega) (by omega)).mono ?_; rintro e w1 ⟨rfl, hb⟩)
  all_goals go_ret
  all_goals exact ⟨ret_i1 (badM_v (by omega) (by omega)), hb⟩
end Go.Proofs.Ytiijpbfkchokaaa
