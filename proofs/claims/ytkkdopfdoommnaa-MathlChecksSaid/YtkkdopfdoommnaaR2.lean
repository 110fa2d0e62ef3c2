/-
  Layer 20, the document's side: the small functions of its reader: which sign is next; what is asked of a sign without fields.
-/
import Derived.Test.YtkkdopfdoommnaaR1
import Derived.Test.YtkkdopfdoommnaaM15
namespace Go.Proofs.Ytkkdopfdoommnaa
open Go.ChangeShapes Go.WideShapes Go.ChangeAt Go.RowKit
attribute [local go_sem ↓] Go.wp_at_zero Go.wp_at_succ

set_option maxHeartbeats 1000000 in
theorem rfam_any (s : Sn) (w : World) : Calls Try.prog 145 #[.agg s.arr] w fun e w' => e = .returned (.bool (famB s)) ∧ Below w.heap.size w w' := by
  go_enter Try.func145, Try.ntmps145
  go_wp2_with (go_at_call 54; refine (rwithin_any _ _ _ _).mono ?_; rintro e w' ⟨rfl, rfl⟩)
  go_ret
  exact ⟨rfl, (Below.refl _ _).alloc (Nat.le_refl _) _⟩
theorem rdimen_any (x : Int) (w : World) : Calls Try.prog 137 #[.int .i64 x] w fun e w' => e = .returned (.bool (dimenB x)) ∧ w = w' := by
  go_enter Try.func137, Try.ntmps137
  go_wp2
  all_goals go_ret
  all_goals exact ⟨by simp [dimenB]; omega, rfl⟩
set_option maxHeartbeats 1000000 in
theorem rgcheck_any (g : Gl) (w : World) : Calls Try.prog 87 #[.agg g.arr] w fun e w' => e = .returned (.int .i64 (if g.good then 0 else 30)) ∧ Below w.heap.size w w' := by
  go_enter Try.func87, Try.ntmps87
  go_wp2_with (go_at_call 137; refine (rdimen_any _ _).mono ?_; rintro e w' ⟨rfl, rfl⟩)
  all_goals go_ret
  all_goals refine ⟨ret_int ?_, (Below.refl _ _).alloc (Nat.le_refl _) _⟩
  all_goals simp_all [Gl.good, withinB]
  all_goals omega
set_option maxHeartbeats 4000000 in
theorem rlone_any (s : Sn) (w : World) : Calls Try.prog 146 #[.agg s.arr] w fun e w' => e = .returned (.bool (loneB s)) ∧ Below w.heap.size w w' := by
  go_enter Try.func146, Try.ntmps146
  go_wp2_with (first | (go_at_call 54; refine (rwithin_any _ _ _ _).mono ?_; rintro e w' ⟨rfl, rfl⟩) | (go_at_call 144; refine (rplain_any _ _ _ _).mono ?_; rintro e w1 ⟨rfl, hb1⟩; obtain ⟨hc1, hf1, ha1, ht1⟩ := bfacts hb1) | (go_at_call 87; refine (rgcheck_any _ _).mono ?_; rintro e w1 ⟨rfl, hb1⟩))
  all_goals go_ret
  all_goals refine ⟨ret_bool ?_, ?_⟩
  all_goals first
    | exact (Below.refl _ _).alloc (Nat.le_refl _) _
    | exact ((Below.refl _ _).alloc (Nat.le_refl _) _).trans (hb1.mono (by simp))
    | (simp_all [loneB]; done)
    | (simp_all [loneB]; omega)
/-- the document's reader in block R: its signs L, the next one is number i, so many fields deep; broken: it is no formula -/
structure RRdr (w : World) (R b off cap : Nat) (p : Option Addr) (L : List Sn) (i deep : Nat) (broken : Bool) : Prop where
  blk : w.heap[R]? = some (.cells #[.slice p L.length cap, .int .i64 i, .int .i64 deep, .bool broken] 149 (0, 0))
  ne : L ≠ [] → R ≠ b
  ltb : L ≠ [] → b < w.heap.size
  hp : L ≠ [] → p = some ⟨b, off, none⟩
  sg : ∀ j, (h : j < L.length) → agg? w b (off + j * 9) 9 = some L[j].arr
  len : L.length ≤ 2000
  cap' : L.length ≤ cap
section
variable {w w' : World} {R b off cap i j deep d2 : Nat} {p : Option Addr} {L : List Sn} {broken b2 : Bool}
theorem RRdr.c0 (h : RRdr w R b off cap p L i deep broken) : w.cell? ⟨R, 0, none⟩ = some (.slice p L.length cap) := by simp [World.cell?, h.blk]
theorem RRdr.c1 (h : RRdr w R b off cap p L i deep broken) : w.cell? ⟨R, 1, none⟩ = some (.int .i64 i) := by simp [World.cell?, h.blk]
theorem RRdr.c2 (h : RRdr w R b off cap p L i deep broken) : w.cell? ⟨R, 2, none⟩ = some (.int .i64 deep) := by simp [World.cell?, h.blk]
theorem RRdr.c3 (h : RRdr w R b off cap p L i deep broken) : w.cell? ⟨R, 3, none⟩ = some (.bool broken) := by simp [World.cell?, h.blk]
theorem RRdr.fr (h : RRdr w R b off cap p L i deep broken) (o : Nat) : w.frozen? ⟨R, o, none⟩ = false := by simp [World.frozen?, h.blk]
theorem RRdr.ltR (h : RRdr w R b off cap p L i deep broken) : R < w.heap.size := (Array.getElem?_eq_some_iff.1 h.blk).1
theorem RRdr.of (h : RRdr w R b off cap p L i deep broken) (hb : w'.heap[R]? = some (.cells #[.slice p L.length cap, .int .i64 j, .int .i64 d2, .bool b2] 149 (0, 0))) (hz : w.heap.size ≤ w'.heap.size) (hk : L ≠ [] → w'.heap[b]? = w.heap[b]?) : RRdr w' R b off cap p L j d2 b2 :=
  ⟨hb, h.ne, fun e => Nat.lt_of_lt_of_le (h.ltb e) hz, h.hp, fun k hk' => (agg?_block (hk (by intro e; rw [e] at hk'; simp at hk'))).trans (h.sg k hk'), h.len, h.cap'⟩
theorem RRdr.below (h : RRdr w R b off cap p L i deep broken) (ht : Below w.heap.size w w') : RRdr w' R b off cap p L i deep broken :=
  h.of ((ht.block R h.ltR).trans h.blk) ht.size fun e => ht.block b (h.ltb e)
theorem RRdr.drewN (h : RRdr w R b off cap p L i deep broken) (n : Nat) : RRdr (w.drewN n) R b off cap p L i deep broken := ⟨h.blk, h.ne, h.ltb, h.hp, h.sg, h.len, h.cap'⟩
theorem RRdr.alloc0 (h : RRdr w R b off cap p L i deep broken) (o : Obj) : RRdr (w.alloc o) R b off cap p L i deep broken := h.below ((Below.refl _ _).alloc (Nat.le_refl _) o)
theorem RRdr.next (h : RRdr w R b off cap p L i deep broken) (j : Nat) : RRdr (w.setCell ⟨R, 1, none⟩ (.int .i64 j)) R b off cap p L j deep broken :=
  h.of ((heap_setCell_blk h.blk 1 _).trans (by rfl)) (by simp [World.setCell]) fun e => Below.heap_setCell _ _ _ _ (Ne.symm (h.ne e))
theorem RRdr.down (h : RRdr w R b off cap p L i deep broken) (d2 : Nat) : RRdr (w.setCell ⟨R, 2, none⟩ (.int .i64 d2)) R b off cap p L i d2 broken :=
  h.of ((heap_setCell_blk h.blk 2 _).trans (by rfl)) (by simp [World.setCell]) fun e => Below.heap_setCell _ _ _ _ (Ne.symm (h.ne e))
theorem RRdr.brk (h : RRdr w R b off cap p L i deep broken) (b2 : Bool) : RRdr (w.setCell ⟨R, 3, none⟩ (.bool b2)) R b off cap p L i deep b2 :=
  h.of ((heap_setCell_blk h.blk 3 _).trans (by rfl)) (by simp [World.setCell]) fun e => Below.heap_setCell _ _ _ _ (Ne.symm (h.ne e))
end
set_option maxHeartbeats 1000000 in
theorem rkind_some (R b off cap i deep : Nat) (p : Option Addr) (L : List Sn) (broken : Bool) (w : World) (h : RRdr w R b off cap p L i deep broken) (hi : i < L.length) :
    Calls Try.prog 129 #[.pointer (some ⟨R, 0, none⟩)] w fun e w' => e = .returned (.int .i64 L[i].kind) ∧ ∃ n, w' = w.drewN n := by
  have c0 := h.c0
  have c1 := h.c1
  have ck : w.cell? ⟨b, off + i * 9, none⟩ = some (.int .i64 L[i].kind) := agg_cell (h.sg i hi) 0 _ rfl
  have hcap := h.cap'
  have hl := h.len
  rw [h.hp (by intro e; rw [e] at hi; simp at hi)] at c0
  have hi1 : (0 : Int) ≤ (i : Int) := by omega
  have hi2 : (i : Int) < (L.length : Int) := by omega
  clear h
  go_enter Try.func129, Try.ntmps129
  go_wp2
  go_quiet (fail)
  go_wp2
  go_quiet (fail)
  go_wp2
  go_ret
  exact ⟨rfl, _, World.drewN_drewN _ _ _⟩
theorem rkind_none (R b off cap i deep : Nat) (p : Option Addr) (L : List Sn) (broken : Bool) (w : World) (h : RRdr w R b off cap p L i deep broken) (hi : L.length ≤ i) :
    Calls Try.prog 129 #[.pointer (some ⟨R, 0, none⟩)] w fun e w' => e = .returned (.int .i64 0) ∧ ∃ n, w' = w.drewN n := by
  have c0 := h.c0
  have c1 := h.c1
  have hcap := h.cap'
  have hl := h.len
  have hi1 : (0 : Int) ≤ (i : Int) := by omega
  have hi2 : (L.length : Int) ≤ (i : Int) := by omega
  clear h
  go_enter Try.func129, Try.ntmps129
  go_wp2
  go_quiet (fail)
  go_wp2
  go_ret
  exact ⟨rfl, _, rfl⟩
theorem rkind_any (R b off cap i deep : Nat) (p : Option Addr) (L : List Sn) (broken : Bool) (w : World) (h : RRdr w R b off cap p L i deep broken) :
    Calls Try.prog 129 #[.pointer (some ⟨R, 0, none⟩)] w fun e w' => e = .returned (.int .i64 (kindAt L i)) ∧ ∃ n, w' = w.drewN n := by
  by_cases hlt : i < L.length
  · have := rkind_some R b off cap i deep p L broken w h hlt
    rw [show L[i].kind = kindAt L i by simp [kindAt, hlt]] at this
    exact this
  · have := rkind_none R b off cap i deep p L broken w h (by omega)
    rw [show (0 : Int) = kindAt L i by simp [kindAt, hlt]] at this
    exact this
end Go.Proofs.Ytkkdopfdoommnaa
