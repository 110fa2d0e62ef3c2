/-
  Layer 11: what must come (knows), VlistApart: what it computes.
-/
import Derived.Test.YtkkdopfdoommnaaV4
namespace Go.Proofs.Ytkkdopfdoommnaa
open Go.ChangeShapes Go.WideShapes Go.ChangeAt Go.RowKit
attribute [local go_sem ↓] Go.wp_at_zero Go.wp_at_succ

@[go_sem] theorem run_bdNd_box (k h d : Int) (w : World) : (bdNd #[(0, .int .i64 k), (4, .int .i64 h), (5, .int .i64 d)]).run Try.prog w = .ok (.agg ({ Nd.zero with kind := k, h := h, d := d } : Nd).arr) w := by kernel_rfl
def boxN (k h d : Int) : Nd := { Nd.zero with kind := k, h := h, d := d }
def endN : Nd := { Nd.zero with kind := 6 }
theorem box_any (w : World) : Calls Try.prog 52 #[] w fun e w' => ∃ g, e = .returned (.slice (some ⟨g, 0, none⟩) 2 2) ∧ NIn w' (some ⟨g, 0, none⟩) g 0 2 [boxN 4 458752 131072, endN] ∧ Below w.heap.size w w' := by
  go_enter Try.func52, Try.ntmps52
  go_wp2_with fail
  go_ret
  exact ⟨_, rfl, nodes_two (n := boxN 4 458752 131072) (m := endN) (heap_alloc_new _ _), (Below.refl _ _).alloc (Nat.le_refl _) _⟩
theorem box_list {k h d : Int} (hk : k = 4 ∨ k = 5) (h1 : dimenB h = true) (h2 : dimenB d = true) : checkC [boxN k h d, endN] = 0 ∧ behC [boxN k h d, endN] 0 = some 2 := by
  have hr : rightB (boxN k h d) = true := by
    have h0 : dimenB 0 = true := by decide
    rcases hk with rfl | rfl
    · simp [rightB, boxN, Nd.zero, withinB, goodN, boxB, dims4, h1, h2, h0, eqNd, restN]
    · simp [rightB, boxN, Nd.zero, withinB, goodN, boxB, dims4, h1, h2, h0, eqNd, restN]
  have he : rightB endN = true := by decide
  have h6 : endN.kind = 6 := rfl
  rcases hk with rfl | rfl
  · have h4 : (boxN 4 h d).kind = 4 := rfl
    refine ⟨?_, ?_⟩
    · unfold checkC
      rw [if_neg (by simp)]
      simp only [runC, hr, he, if_true, h4, h6]
      rfl
    · simp only [behC, behN, h4, h6]; rfl
  · have h4 : (boxN 5 h d).kind = 5 := rfl
    refine ⟨?_, ?_⟩
    · unfold checkC
      rw [if_neg (by simp)]
      simp only [runC, hr, he, if_true, h4, h6]
      rfl
    · simp only [behC, behN, h4, h6]; rfl
def bdGl (parts : Array (Nat × Value)) : Sem Value := Instr.build 23 parts
@[go_sem ↓] theorem execOp_buildGl (ρ : Operand → Value) (dst : Option Tmp) (x : Array (Nat × Operand)) (ty : TypeId) (pos : String) (after : Array Edge) (guard : Option (Nat × Bool)) :
    execOp ρ { dst, op := .build 23 x, type := ty, pos, after, guard } = (do pure (.value (← bdGl (x.map fun (i, y) => (i, ρ y))))) := rfl
@[go_sem] theorem run_bdGl_1 (k : Int) (w : World) : (bdGl #[(0, .int .i64 k)]).run Try.prog w = .ok (.agg (Gl.mk k 0 0 0 0).arr) w := by kernel_rfl
@[go_sem] theorem run_bdGl_2 (k s : Int) (w : World) : (bdGl #[(0, .int .i64 k), (1, .int .i64 s)]).run Try.prog w = .ok (.agg (Gl.mk k s 0 0 0).arr) w := by kernel_rfl
theorem pt_12 (w : World) : Calls Try.prog 53 #[.int .i64 12] w fun e w' => e = .returned (.agg (Gl.mk 786432 0 0 0 0).arr) ∧ Below w.heap.size w w' := by
  go_enter Try.func53, Try.ntmps53
  go_wp2_with fail
  exact ret_gl rfl w.heap.size 0 (Gl.mk 786432 0 0 0 0) rfl (agg?_gl _ _ _ _ _ rfl) rfl ⟨rfl, (Below.refl _ _).alloc (Nat.le_refl _) _⟩
theorem pt_1 (w : World) : Calls Try.prog 53 #[.int .i64 1] w fun e w' => e = .returned (.agg (Gl.mk 65536 0 0 0 0).arr) ∧ Below w.heap.size w w' := by
  go_enter Try.func53, Try.ntmps53
  go_wp2_with fail
  exact ret_gl rfl w.heap.size 0 (Gl.mk 65536 0 0 0 0) rfl (agg?_gl _ _ _ _ _ rfl) rfl ⟨rfl, (Below.refl _ _).alloc (Nat.le_refl _) _⟩
set_option maxRecDepth 100000 in
set_option maxHeartbeats 4000000 in
theorem knows_any (w : World) : Calls Try.prog 15 #[] w fun e w' => e = .returned (.bool true) ∧ Below w.heap.size w w' := by
  go_enter Try.func15, Try.ntmps15
  go_wp2_with fail
  refine (box_any w).mono ?_
  rintro e w1 ⟨g, rfl, hN1, hb1⟩
  go_wp2_with fail
  refine (pt_12 _).mono ?_
  rintro e w2 ⟨rfl, hb2⟩
  go_wp2_with fail
  refine (pt_1 _).mono ?_
  rintro e w3 ⟨rfl, hb3⟩
  have hb13 := hb2.trans (hb3.mono hb2.size)
  have hN3 := hN1.below hb13
  have hb := hb1.trans (hb13.mono hb1.size)
  obtain ⟨l1, l2⟩ := box_list (k := 4) (h := 458752) (d := 131072) (.inl rfl) (by decide) (by decide)
  have HA := Lib.hid (append_good 131072 0 _ g 0 2 [boxN 4 458752 131072, endN] (Gl.mk 786432 0 0 0 0) (Gl.mk 65536 0 0 0 0) (boxN 4 458752 131072) w3 hN3 (by decide) (by decide) (by decide) (by decide) l1 (by simp) rfl (.inl rfl) l2 (by simp) (by decide) (by decide) (by decide))
  clear hN1 hb1 hb2 hb3 hb13 hN3 l1 l2
  go_wp2_with fail
  refine HA.out.mono ?_
  clear HA
  rintro e w4 ⟨⟨p, g4, c, rfl, hN4⟩, hb4⟩
  have hbw := hb.trans (hb4.mono hb.size)
  obtain rfl := hN4.at_ (j := 0) (by simp)
  have x1 : w4.cell? ⟨g4, 7, none⟩ = some (.int .i64 196608) := by have := agg_cell (hN4.nd 0 (by simp)) 7 (.int .i64 196608) (by rfl); simpa using this
  have hcap := hN4.cap'
  clear hN4 hb hb4
  go_wp2_with (go_at_call 14; refine (num11_any _ _).mono ?_; rintro e w' ⟨rfl, rfl⟩)
  go_ret
  exact ⟨rfl, hbw⟩
end Go.Proofs.Ytkkdopfdoommnaa
