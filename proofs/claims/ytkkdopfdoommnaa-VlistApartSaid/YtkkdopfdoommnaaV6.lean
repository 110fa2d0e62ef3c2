/-
  Layer 11: the law VlistApart: what it computes: true, of any numbers.
-/
import Derived.Test.YtkkdopfdoommnaaV5
namespace Go.Proofs.Ytkkdopfdoommnaa
open Go.ChangeShapes Go.WideShapes Go.ChangeAt Go.RowKit
attribute [local go_sem ↓] Go.wp_at_zero Go.wp_at_succ

/-- two glues are the same: closed to the walk -/
def eqGl (a b : Gl) : Bool := decide (a = b)
theorem Gl.eq_iff (a b : Gl) : (a = b) ↔ (a.nat = b.nat ∧ a.str = b.str ∧ a.shr = b.shr ∧ a.so = b.so ∧ a.ho = b.ho) := by
  cases a; cases b; simp
theorem run_eqGl (a b : Gl) (w : World) : (Op.equalIn 10000 23 (.agg a.arr) (.agg b.arr)).run Try.prog w = .ok (decide (a = b)) w := by
  simp only [Gl.arr, Gl.cells]
  simp [go_sem]
  by_cases h : a = b
  · subst h; simp
  · rw [decide_eq_false h]
    rw [Gl.eq_iff] at h
    by_cases h0 : a.nat = b.nat
    case neg => rw [if_neg h0]
    rw [if_pos h0]
    by_cases h1 : a.str = b.str
    case neg => rw [if_neg h1]
    rw [if_pos h1]
    by_cases h2 : a.shr = b.shr
    case neg => rw [if_neg h2]
    rw [if_pos h2]
    by_cases h3 : a.so = b.so
    case neg => rw [if_neg h3]
    rw [if_pos h3]
    by_cases h4 : a.ho = b.ho
    case neg => simp [h4]
    exact absurd ⟨h0, h1, h2, h3, h4⟩ h
def eqOpGl (X Y : Operand) (x y : Value) : Sem Value := do eqGuard .eql 23 X Y x y; binOp .eql 23 x y
@[go_sem ↓] theorem execOp_eqGl (ρ : Operand → Value) (dst : Option Tmp) (x y : Operand) (k ty : TypeId) (pos : String) (after : Array Edge) (guard : Option (Nat × Bool)) :
    execOp ρ { dst, op := .binOp .eql 23 x y k, type := ty, pos, after, guard } = (do pure (.value (← eqOpGl x y (ρ x) (ρ y)))) := rfl
theorem eqGuardGl : Try.prog.eqGuardType Try.prog.depth 23 = false := by kernel_rfl
@[go_sem] theorem run_eqOpGl (a b : Gl) (X Y : Operand) (w : World) : (eqOpGl X Y (.agg a.arr) (.agg b.arr)).run Try.prog w = .ok (.bool (eqGl a b)) w := by
  unfold eqOpGl
  have h1 := run_eqGuard_agg (P := Try.prog) w .eql 23 X Y a.arr b.arr eqGuardGl
  have h2 : (binOp .eql 23 (.agg a.arr) (.agg b.arr)).run Try.prog w = .ok (.bool (eqGl a b)) w := by rw [run_eql_struct, run_eqGl]; rfl
  simp only [Sem.run_bind, h1, Result.andThen_ok, h2]
theorem wrap64_in' (n : Int) (h : -9223372036854775808 ≤ n ∧ n ≤ 9223372036854775807) : wrap64 n = n := by unfold wrap64; omega
theorem tmod_lo (a : Int) (n : Int) (h : 0 < n) : -n < a.tmod n := Int.lt_tmod_of_pos a h
theorem tmod_hi (a : Int) (n : Int) (h : 0 < n) : a.tmod n < n := Int.tmod_lt_of_pos a h
set_option maxRecDepth 100000 in
set_option maxHeartbeats 8000000 in
theorem apart_walk (h d before skip limit : Int) (w : World) :
    Calls Try.prog 3 #[.int .i64 h, .int .i64 d, .int .i64 before, .int .i64 skip, .int .i64 limit] w fun e w' => e = .returned (.bool true) ∧ Below w.heap.size w w' := by
  go_enter Try.func3, Try.ntmps3
  go_upto_region 6 with (fail)
  have h1 := tmod_lo h 134217728 (by decide)
  have h2 := tmod_hi h 134217728 (by decide)
  have d1 := tmod_lo d 134217728 (by decide)
  have d2 := tmod_hi d 134217728 (by decide)
  have s1 := tmod_lo skip 134217728 (by decide)
  have s2 := tmod_hi skip 134217728 (by decide)
  have l1 := tmod_lo limit 134217728 (by decide)
  have l2 := tmod_hi limit 134217728 (by decide)
  have b1 : 0 ≤ (wrap64 (before.tmod 33554432 + 33554432)).tmod 33554432 := by
    have x1 := tmod_lo before 33554432 (by decide)
    have x2 := tmod_hi before 33554432 (by decide)
    rw [wrap64_in' _ (by omega)]
    exact Int.tmod_nonneg _ (by omega)
  have b2 := tmod_hi (wrap64 (before.tmod 33554432 + 33554432)) 33554432 (by decide)
  generalize h.tmod 134217728 = h' at h1 h2 ⊢
  generalize d.tmod 134217728 = d' at d1 d2 ⊢
  generalize skip.tmod 134217728 = s' at s1 s2 ⊢
  generalize limit.tmod 134217728 = l' at l1 l2 ⊢
  generalize (wrap64 (before.tmod 33554432 + 33554432)).tmod 33554432 = b' at b1 b2 ⊢
  have hN1 : NIn (w.alloc (.cells ((boxN 5 h' d').cells ++ endN.cells).toArray 25)) (some ⟨w.heap.size, 0, none⟩) w.heap.size 0 2 [boxN 5 h' d', endN] := nodes_two (heap_alloc_new _ _)
  have hb1 : Below w.heap.size w (w.alloc (.cells ((boxN 5 h' d').cells ++ endN.cells).toArray 25)) := (Below.refl _ _).alloc (Nat.le_refl _) _
  have dm : ∀ x : Int, -1073741823 ≤ x ∧ x ≤ 1073741823 → dimenB x = true := fun x hx => by simp [dimenB]; exact hx
  obtain ⟨c1, c2⟩ := box_list (k := 5) (h := h') (d := d') (.inr rfl) (dm _ (by omega)) (dm _ (by omega))
  have hg : Gl.good (Gl.mk s' 5 0 0 0) = true := by
    unfold Gl.good
    rw [show (Gl.mk s' 5 0 0 0).nat = s' from rfl, dm s' (by omega)]
    exact (by decide : (true && dimenB 5 && dimenB 0 && withinB 0 0 3 && withinB 0 0 3) = true)
  have HA := Lib.hid (append_good b' l' _ w.heap.size 0 2 [boxN 5 h' d', endN] (Gl.mk s' 5 0 0 0) (Gl.mk 77 0 0 0 0) (boxN 5 h' d') _ hN1 (dm _ (by omega)) (dm _ (by omega)) hg (by decide) c1 (by simp) rfl (.inr rfl) c2 (by simp) (by omega) (dm _ (by show -1073741823 ≤ h' ∧ h' ≤ 1073741823; omega)) (dm _ (by show -1073741823 ≤ s' - (b' + h') ∧ s' - (b' + h') ≤ 1073741823; omega)))
  have Hb1 := Lib.hid hb1
  clear hN1 hb1 dm c1 c2 hg
  go_wp2_with fail
  refine HA.out.mono ?_
  clear HA
  rintro e w4 ⟨⟨p, g4, c, rfl, hN4⟩, hb4⟩
  have hbw := Hb1.out.trans (hb4.mono Hb1.out.size)
  clear Hb1 hb4
  obtain rfl := hN4.at_ (j := 0) (by simp)
  have hd' : (boxN 5 h' d').d = d' := rfl
  have hcap := hN4.cap'
  have hlt := hN4.lt (j := 0) (by simp)
  by_cases hx : s' - (b' + h') < l'
  · have hx1 : s' - b' - h' < l' := by omega
    have e1 : skipN (Gl.mk s' 5 0 0 0) (Gl.mk 77 0 0 0 0) (s' - (b' + h')) l' = { Nd.zero with kind := 7, glue := Gl.mk 77 0 0 0 0, sub := 1 } := by unfold skipN; rw [if_pos hx]
    have x1 : agg? w4 g4 7 5 = some (Gl.mk 77 0 0 0 0).arr := by
      have := agg_sub (hN4.nd 0 (by simp)) 7 5 (by omega)
      rw [List.getElem_cons_zero, show (Gl.mk s' 5 0 0 0).nat - (b' + (boxN 5 h' d').h) = s' - (b' + h') from rfl, e1] at this
      exact this
    have x2 : w4.cell? ⟨g4, 17, none⟩ = some (.int .i64 1) := by
      have := agg_cell (hN4.nd 0 (by simp)) 17 (.int .i64 1) (by rw [List.getElem_cons_zero, show (Gl.mk s' 5 0 0 0).nat - (b' + (boxN 5 h' d').h) = s' - (b' + h') from rfl, e1]; rfl)
      simpa using this
    have heq : eqGl (Gl.mk 77 0 0 0 0) (Gl.mk 77 0 0 0 0) = true := by decide
    clear hN4 e1 hx
    go_wp2_with (first | (go_at_call 14; refine (num11_any _ _).mono ?_; rintro e w' ⟨rfl, rfl⟩) | (go_at_call 15; refine (knows_any _).mono ?_; rintro e w5 ⟨rfl, hb5⟩; (obtain ⟨k1, _, k3, _⟩ := bfacts hb5)))
    go_ret
    exact ⟨rfl, hbw.trans (hb5.mono hbw.size)⟩
  · have hx1 : l' ≤ s' - b' - h' := by omega
    have e1 : skipN (Gl.mk s' 5 0 0 0) (Gl.mk 77 0 0 0 0) (s' - (b' + h')) l' = { Nd.zero with kind := 7, glue := Gl.mk (s' - (b' + h')) 5 0 0 0, sub := 2 } := by unfold skipN; rw [if_neg hx]
    have x0 : w4.cell? ⟨g4, 7, none⟩ = some (.int .i64 (s' - (b' + h'))) := by
      have := agg_cell (hN4.nd 0 (by simp)) 7 (.int .i64 (s' - (b' + h'))) (by rw [List.getElem_cons_zero, show (Gl.mk s' 5 0 0 0).nat - (b' + (boxN 5 h' d').h) = s' - (b' + h') from rfl, e1]; rfl)
      simpa using this
    have x1 : w4.cell? ⟨g4, 8, none⟩ = some (.int .i64 5) := by
      have := agg_cell (hN4.nd 0 (by simp)) 8 (.int .i64 5) (by rw [List.getElem_cons_zero, show (Gl.mk s' 5 0 0 0).nat - (b' + (boxN 5 h' d').h) = s' - (b' + h') from rfl, e1]; rfl)
      simpa using this
    have x2 : w4.cell? ⟨g4, 17, none⟩ = some (.int .i64 2) := by
      have := agg_cell (hN4.nd 0 (by simp)) 17 (.int .i64 2) (by rw [List.getElem_cons_zero, show (Gl.mk s' 5 0 0 0).nat - (b' + (boxN 5 h' d').h) = s' - (b' + h') from rfl, e1]; rfl)
      simpa using this
    have hsum : b' + (s' - (b' + h')) + h' = s' := by omega
    clear hN4 e1 hx
    go_wp2_with (first | (go_at_call 14; refine (num11_any _ _).mono ?_; rintro e w' ⟨rfl, rfl⟩) | (go_at_call 15; refine (knows_any _).mono ?_; rintro e w5 ⟨rfl, hb5⟩; (obtain ⟨k1, _, k3, _⟩ := bfacts hb5)))
    go_ret
    exact ⟨rfl, hbw.trans (hb5.mono hbw.size)⟩
end Go.Proofs.Ytkkdopfdoommnaa
