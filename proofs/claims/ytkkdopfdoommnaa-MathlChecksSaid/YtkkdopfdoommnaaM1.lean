/-
  Layer 20: the small functions of the reader: which sign is next, how many fields a sign has, the class of an item.
-/
import Derived.Test.YtkkdopfdoommnaaMPlain
import Derived.Deep.QuietTactic
import Derived.BigQuiet
import Derived.RegionTactic
import Derived.Deep.DrawnRows
namespace Go.Proofs.Ytkkdopfdoommnaa
open Go.ChangeShapes Go.WideShapes Go.ChangeAt Go.RowKit
attribute [local go_sem ↓] Go.wp_at_zero Go.wp_at_succ

theorem agg_cell {w : World} {b o n : Nat} {c : Array Value} (h : agg? w b o n = some c) (k : Nat) (v : Value) (hk : c[k]? = some v) : w.cell? ⟨b, o + k, none⟩ = some v := by
  obtain ⟨hs, hr⟩ := rangeAt_of_agg? h
  exact hr k v (by simpa using hk)

/-- the reader in block R: the signs L in block b, the next one is number i -/
structure Rdr (w : World) (R b cap : Nat) (p : Option Addr) (L : List Sn) (i : Nat) : Prop where
  blk : w.heap[R]? = some (.cells #[.slice p L.length cap, .int .i64 i] 139 (0, 0))
  ne : R ≠ b
  ltb : L ≠ [] → b < w.heap.size
  hp : L ≠ [] → p = some ⟨b, 0, none⟩
  sg : ∀ j, (h : j < L.length) → agg? w b (j * 9) 9 = some L[j].arr
  len : L.length ≤ 2000
  cap' : L.length ≤ cap

section
variable {w : World} {R b cap i : Nat} {p : Option Addr} {L : List Sn}
theorem Rdr.c0 (h : Rdr w R b cap p L i) : w.cell? ⟨R, 0, none⟩ = some (.slice p L.length cap) := by simp [World.cell?, h.blk]
theorem Rdr.c1 (h : Rdr w R b cap p L i) : w.cell? ⟨R, 1, none⟩ = some (.int .i64 i) := by simp [World.cell?, h.blk]
theorem Rdr.fr (h : Rdr w R b cap p L i) : w.frozen? ⟨R, 1, none⟩ = false := by simp [World.frozen?, h.blk]
theorem Rdr.ltR (h : Rdr w R b cap p L i) : R < w.heap.size := (Array.getElem?_eq_some_iff.1 h.blk).1
end
def kindAt (L : List Sn) (i : Nat) : Int := match L[i]? with | some s => s.kind | none => 0

theorem mdimen_any (x : Int) (w : World) : Calls Try.prog 143 #[.int .i64 x] w fun e w' => e = .returned (.bool (dimenB x)) ∧ w = w' := by
  go_enter Try.func143, Try.ntmps143
  go_wp2
  all_goals go_ret
  all_goals exact ⟨by simp [dimenB]; omega, rfl⟩

set_option maxHeartbeats 400000 in
theorem mfields_any (s : Sn) (w : World) : Calls Try.prog 126 #[.agg s.arr] w fun e w' => e = .returned (.int .i64 (partsI s)) ∧ Below w.heap.size w w' := by
  go_enter Try.func126, Try.ntmps126
  go_wp2
  all_goals go_ret
  all_goals exact ⟨by simp_all [partsI], (Below.refl _ _).alloc (Nat.le_refl _) _⟩

set_option maxHeartbeats 400000 in
theorem mpeek_some (R b cap i : Nat) (p : Option Addr) (L : List Sn) (w : World) (h : Rdr w R b cap p L i) (hi : i < L.length) :
    Calls Try.prog 124 #[.pointer (some ⟨R, 0, none⟩)] w fun e w' => e = .returned (.int .i64 L[i].kind) ∧ ∃ n, w' = w.drewN n := by
  have c0 := h.c0
  have c1 := h.c1
  have ck : w.cell? ⟨b, i * 9, none⟩ = some (.int .i64 L[i].kind) := agg_cell (h.sg i hi) 0 _ rfl
  have hcap := h.cap'
  have hl := h.len
  rw [h.hp (by intro e; rw [e] at hi; simp at hi)] at c0
  have hi1 : (0 : Int) ≤ (i : Int) := by omega
  have hi2 : (i : Int) < (L.length : Int) := by omega
  clear h
  go_enter Try.func124, Try.ntmps124
  go_wp2
  go_quiet (fail)
  go_wp2
  go_quiet (fail)
  go_wp2
  go_ret
  exact ⟨rfl, _, World.drewN_drewN _ _ _⟩
theorem mpeek_none (R b cap i : Nat) (p : Option Addr) (L : List Sn) (w : World) (h : Rdr w R b cap p L i) (hi : L.length ≤ i) (hi' : i ≤ L.length) :
    Calls Try.prog 124 #[.pointer (some ⟨R, 0, none⟩)] w fun e w' => e = .returned (.int .i64 0) ∧ ∃ n, w' = w.drewN n := by
  have c0 := h.c0
  have c1 := h.c1
  have hcap := h.cap'
  have hl := h.len
  have hi1 : (0 : Int) ≤ (i : Int) := by omega
  have hi2 : (L.length : Int) ≤ (i : Int) := by omega
  clear h
  go_enter Try.func124, Try.ntmps124
  go_wp2
  go_quiet (fail)
  go_wp2
  go_ret
  exact ⟨rfl, _, rfl⟩
theorem mpeek_any (R b cap i : Nat) (p : Option Addr) (L : List Sn) (w : World) (h : Rdr w R b cap p L i) (hi : i ≤ L.length) :
    Calls Try.prog 124 #[.pointer (some ⟨R, 0, none⟩)] w fun e w' => e = .returned (.int .i64 (kindAt L i)) ∧ ∃ n, w' = w.drewN n := by
  by_cases hlt : i < L.length
  · have := mpeek_some R b cap i p L w h hlt
    rw [show L[i].kind = kindAt L i by simp [kindAt, hlt]] at this
    exact this
  · have := mpeek_none R b cap i p L w h (by omega) hi
    rw [show (0 : Int) = kindAt L i by simp [kindAt, hlt]] at this
    exact this
end Go.Proofs.Ytkkdopfdoommnaa
