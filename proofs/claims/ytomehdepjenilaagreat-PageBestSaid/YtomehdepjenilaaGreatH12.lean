/-
  slices.Clone of nodes.
-/
import Derived.Test.YtomehdepjenilaaGreatH10
import Derived.Test.YtomehdepjenilaaGreatQ13
import Derived.Lib.SliceRun
set_option maxRecDepth 100000
set_option maxHeartbeats 4000000
namespace Go.Proofs.YtomehdepjenilaaGreat
open Go.ChangeShapes Go.WideShapes Go.ChangeAt Go.RowKit
def bsNd0 (parts : Array (Nat × Value)) : Sem Value := Instr.buildSlice 27 0 parts
@[go_sem ↓] theorem execOp_bsNd0 (ρ : Operand → Value) (dst : Option Tmp) (x : Array (Nat × Operand)) (ty : TypeId) (pos : String) (after : Array Edge) (guard : Option (Nat × Bool)) :
    execOp ρ { dst, op := .buildSlice 27 0 x, type := ty, pos, after, guard } = (do pure (.value (← bsNd0 (x.map fun (i, y) => (i, ρ y))))) := rfl
@[go_sem] theorem run_bsNd0 (w : World) : (bsNd0 #[]).run Tryz.prog w = .ok (.slice (some ⟨w.heap.size, 0, none⟩) 0 0) (w.alloc (.cells #[] 49)) := by
  obtain ⟨i, hi, hz, hs, hb⟩ := info_parts info_node
  unfold bsNd0
  simp [Instr.buildSlice, run_underlying Tryz.underlying27, sizeOf, typeInfo, hi, newRow, Instr.fill]
  exact congrArg (fun c => w.alloc (.cells c 49)) (Array.eq_empty_of_size_eq_zero (by simp))
theorem eql_nil (w : World) (a : Option Addr) (n c : Nat) : (binOp .eql 27 (.slice a n c) (.slice none 0 0)).run Tryz.prog w = .ok (.bool a.isNone) w := Lib.run_eql_slice_nil w _ _ a n c 0 0 Tryz.underlying27
theorem own_empty (w : World) : (w.alloc (.cells #[] 49)).ownsRow w.heap.size 49 19 (.slice (some ⟨w.heap.size, 0, none⟩) 0 0) 0 [] :=
  ⟨rfl, .inr ⟨w.heap.size, 0, #[], rfl, Nat.le_refl _, heap_alloc_new w _, Nat.le_refl _, by decide, rfl, rfl⟩⟩
theorem clone_nil (w : World) : Calls Tryz.prog 41 #[.slice none 0 0] w fun e w' => e = .returned (.slice none 0 0) ∧ w' = w := by
  have hq := eql_nil
  go_enter Tryz.func41, Tryz.ntmps41
  go_wp2_with fail
  go_ret
  exact ⟨rfl, rfl⟩
theorem clone_some (a : Addr) (b off cap : Nat) (L : List Nd) (w : World) (hN : NIn w (some a) b off cap L) (hlen : L.length ≤ 800000000000) : Calls Tryz.prog 41 #[.slice (some a) L.length cap] w fun e w' => (∃ v, e = .returned v ∧ NRow w v L w') ∧ Below w.heap.size w w' := by
  have hb1 : Below w.heap.size w (w.alloc (.cells #[] 49)) := (Below.refl _ _).alloc (Nat.le_refl _) _
  obtain ⟨i0, hi0', hz0, hz1, hz2'⟩ := info_parts info_node
  have HO := Lib.hid (own_empty w)
  have hN1 := hN.below hb1
  have HN1 := Lib.hid hN1
  have Hb1 := Lib.hid hb1
  have Hnews := Lib.hid (And.intro hN1.news (nodes_one L))
  clear hN1 hb1
  have hq := eql_nil
  by_cases hne : L = []
  · subst hne
    go_enter Tryz.func41, Tryz.ntmps41
    go_wp2_with (at_builtin; refine wpList_append_own _ rfl _ _ _ rfl w.heap.size 49 i0 (.agg Nd.zero.arr) 19 160 Tryz.underlying27 hi0' hz0 hz1 hz2' rfl (by decide) (.slice (some ⟨w.heap.size, 0, none⟩) 0 0) 0 [] rfl HO.out a 0 cap [] rfl rfl (fun j u h => by simp at h) (fun u h => by cases h) (by decide) (by decide) (by simp) ?_; intro v7 w7 hown7 hgrow7 hw7)
    go_ret
    exact ⟨⟨_, rfl, hown7⟩, Hb1.out.grown hgrow7 Hb1.out.size (fun k hk => by simp only [Value.ownBlock, Option.some.injEq] at hk; omega)⟩
  · obtain rfl := Option.some.inj (hN.hp hne)
    have hp : 0 < L.length := by cases L with | nil => exact absurd rfl hne | cons => simp
    clear hN
    go_enter Tryz.func41, Tryz.ntmps41
    go_wp2_with (at_builtin; refine wpList_append_lies _ rfl _ _ _ rfl w.heap.size 49 i0 (.agg Nd.zero.arr) 19 160 Tryz.underlying27 hi0' hz0 hz1 hz2' rfl (by decide) (.slice (some ⟨w.heap.size, 0, none⟩) 0 0) 0 [] rfl HO.out ⟨b, off, none⟩ L.length _ (L.flatMap Nd.cells) rfl (flat_len L) Hnews.out.1 Hnews.out.2 hp (by unfold maxLen; omega) (by omega) (by simp) _ rfl ?_; intro g7 cap7 w7 hown7 hgrow7 hat7 hlt7)
    go_ret
    refine ⟨⟨_, rfl, ?_⟩, Hb1.out.grown hgrow7 Hb1.out.size (fun k hk => by simp only [Value.ownBlock, Option.some.injEq] at hk; omega)⟩
    unfold NRow
    simpa using hown7
theorem ins_sort0 (w : World) (f : Value) : Calls Tryz.prog 181 #[.slice none 0 0, .int .i64 0, .int .i64 0, f] w fun e w' => e = .returned (.tuple #[]) ∧ w' = w := by
  go_enter Tryz.func181, Tryz.ntmps181
  go_wp2_with fail
  go_loopg [8] 1 (fun gg t8 wr => gg = 1 ∧ t8 = .int .i64 1 ∧ wr = w)
  case atStart => exact ⟨rfl, rfl, rfl⟩
  case round =>
    obtain ⟨rfl, rfl, rfl⟩ := hrel
    go_wp2_with fail
    exact ⟨rfl, _, results_none rfl _ _ _, rfl, rfl⟩
theorem len64_0 (w : World) : Calls Tryz.prog 190 #[.int .u64 0] w fun e w' => e = .returned (.int .i64 0) ∧ w' = w := by
  go_enter Tryz.func190, Tryz.ntmps190
  go_wp2_with fail
  go_ret
  exact ⟨by first | rfl | kernel_rfl | decide, rfl⟩
theorem bitsLen_0 (w : World) : Calls Tryz.prog 173 #[.int .u64 0] w fun e w' => e = .returned (.int .i64 0) ∧ w' = w := by
  go_enter Tryz.func173, Tryz.ntmps173
  go_wp2_with (go_at_call 190; refine (len64_0 _).mono ?_; rintro e w1 ⟨rfl, rfl⟩)
  go_ret
  exact ⟨rfl, rfl⟩
theorem pdq_0 (w : World) (f : Value) : Calls Tryz.prog 172 #[.slice none 0 0, .int .i64 0, .int .i64 0, .int .i64 0, f] w fun e w' => e = .returned (.tuple #[]) ∧ w' = w := by
  go_enter Tryz.func172, Tryz.ntmps172
  go_wp2_with fail
  go_loopg [1, 2, 3] 1 (fun gg t1 t2 t3 wr => gg = 1 ∧ t1 = .int .i64 0 ∧ t2 = .int .i64 0 ∧ t3 = .int .i64 0 ∧ wr = w)
  case atStart => exact ⟨rfl, rfl, rfl, rfl, rfl⟩
  case round =>
    obtain ⟨rfl, rfl, rfl, rfl, rfl⟩ := hrel
    go_wp2_with (go_at_call 181; refine (ins_sort0 _ _).mono ?_; rintro e w1 ⟨rfl, rfl⟩)
    exact ⟨rfl, _, results_none rfl _ _ _, rfl, rfl⟩
theorem sort_0 (w : World) (f : Value) : Calls Tryz.prog 157 #[.slice none 0 0, f] w fun e w' => e = .returned (.tuple #[]) ∧ w' = w := by
  go_enter Tryz.func157, Tryz.ntmps157
  go_wp2_with (first | (go_at_call 173; refine (bitsLen_0 _).mono ?_; rintro e w1 ⟨rfl, rfl⟩) | (go_at_call 172; refine (pdq_0 _ _).mono ?_; rintro e w1 ⟨rfl, rfl⟩))
  exact ⟨rfl, _, results_none rfl _ _ _, rfl, rfl⟩
end Go.Proofs.YtomehdepjenilaaGreat
