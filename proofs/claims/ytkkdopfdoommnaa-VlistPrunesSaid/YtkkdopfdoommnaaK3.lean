/-
  The laws' own functions over lists of nodes: a list written over.
-/
import Derived.Test.YtkkdopfdoommnaaK2
namespace Go.Proofs.Ytkkdopfdoommnaa
open Go.ChangeShapes Go.WideShapes Go.ChangeAt Go.RowKit Go.Shelf
/-- but the cells of one block, all is as it was -/
structure Turn1 (b : Nat) (w w' : World) : Prop where
  base : Below 0 w w'
  size : w'.heap.size = w.heap.size
  other : ∀ k, k ≠ b → w'.heap[k]? = w.heap[k]?
  same : ∀ c t, w.heap[b]? = some (.cells c t (0, 0)) → ∃ c', w'.heap[b]? = some (.cells c' t (0, 0)) ∧ c'.size = c.size
theorem Turn1.refl (b : Nat) (w : World) : Turn1 b w w := ⟨Below.refl _ _, rfl, fun _ _ => rfl, fun c _ h => ⟨c, h, rfl⟩⟩
theorem Turn1.setAgg {b : Nat} {w w' : World} (h : Turn1 b w w') (o : Nat) (c : Array Value) : Turn1 b w (setAgg w' b o c) := by
  refine ⟨Below.setAgg h.base (Nat.zero_le _) o c, by rw [size_setAgg, h.size], fun k hk => (heap_setCells_other b k hk _ _ _).trans (h.other k hk), fun c0 t h0 => ?_⟩
  obtain ⟨c', h1, h2⟩ := h.same c0 t h0
  exact ⟨_, heap_setCells_same b t (0, 0) c.toList o c' w' h1, by rw [size_setMany, h2]⟩
theorem Turn1.there {b : Nat} {w w' : World} (h : Turn1 b w w') {c : Array Value} {t : TypeId} (hb : w.heap[b]? = some (.cells c t (0, 0))) {o n : Nat} (hn : o + n ≤ c.size) : there? w' b o n = true := by
  obtain ⟨c', h1, h2⟩ := h.same c t hb
  unfold there?
  rw [h1]
  simp; omega
set_option maxRecDepth 100000 in
set_option maxHeartbeats 4000000 in
theorem spoil_any (b o c : Nat) (p : Option Addr) (n : Nat) (hp : n ≠ 0 → p = some ⟨b, o, none⟩) (cs : Array Value) (t : TypeId) (w : World) (hb : n ≠ 0 → w.heap[b]? = some (.cells cs t (0, 0)) ∧ o + n * 19 ≤ cs.size) (hn : n ≤ 4611686018427387904) :
    Calls Try.prog 34 #[.slice p n c] w fun e w' => e = .returned (.tuple #[]) ∧ Turn1 b w w' := by
  have HB := Lib.hid hb
  clear hb
  go_enter Try.func34, Try.ntmps34
  go_wp2_with fail
  go_loopg [2] (n + 1) (fun g t wr => ∃ k : Nat, g = n + 1 - k ∧ k ≤ n ∧ t = .int .i64 k ∧ Turn1 b w wr)
  case atStart => exact ⟨0, rfl, Nat.zero_le _, rfl, Turn1.refl _ _⟩
  case round =>
    obtain ⟨k, rfl, hk, rfl, ht⟩ := hrel
    have hk1 : (0 : Int) ≤ (k : Int) := by omega
    by_cases hlt : k < n
    · have hk2 : (k : Int) < (n : Int) := by omega
      obtain rfl := hp (by omega)
      have hth : there? wr b (o + k * 19) 19 = true := ht.there (HB.out (by omega)).1 (by have := (HB.out (by omega)).2; omega)
      have HT := Lib.hid ht
      clear ht
      go_wp2_with fail
      go_roundg (n + 1 - (k + 1))
      case measure => omega
      case rel => exact ⟨k + 1, rfl, hlt, by go_num, HT.out.setAgg _ _⟩
    · have hk2 : (n : Int) ≤ (k : Int) := by omega
      have HT := Lib.hid ht
      clear ht
      go_wp2_with fail
      exact ⟨rfl, _, results_none rfl _ _ _, rfl, HT.out⟩
end Go.Proofs.Ytkkdopfdoommnaa
