/-
  The laws' own functions over lists of nodes: a marker; a lent list.
-/
import Derived.Test.YtomehdepjenilaaGreatTame
import Derived.Test.YtomehdepjenilaaGreatH0
import Derived.Test.YtomehdepjenilaaGreatV11b
import Derived.Deep.QuietTactic
import Derived.Deep.LoopGhost
import Derived.ArgAppend
namespace Go.Proofs.YtomehdepjenilaaGreat
open Go.ChangeShapes Go.WideShapes Go.ChangeAt Go.RowKit Go.Shelf
theorem owns_cap {W : World} {B size n c : Nat} {e : TypeId} {a : Addr} {xs : List Value} (h : W.ownsRow B e size (.slice (some a) n c) n xs) : n ≤ c := by
  obtain ⟨_, ⟨h, _⟩ | ⟨g, c2, cur, h, _, _, h1, _⟩⟩ := h
  · cases h
  · cases h; exact h1
def neqlNd (X Y : Operand) (x y : Value) : Sem Value := do eqGuard .neq 49 X Y x y; binOp .neq 49 x y
@[go_sem ↓] theorem execOp_neqNd (ρ : Operand → Value) (dst : Option Tmp) (x y : Operand) (k ty : TypeId) (pos : String) (after : Array Edge) (guard : Option (Nat × Bool)) :
    execOp ρ { dst, op := .binOp .neq 49 x y k, type := ty, pos, after, guard } = (do pure (.value (← neqlNd x y (ρ x) (ρ y)))) := by
  rfl
@[go_sem] theorem run_neqlNd' (a b : Nd) (X Y : Operand) (w : World) : (neqlNd X Y (.agg a.arr) (.agg b.arr)).run Tryz.prog w = .ok (.bool (!eqNd a b)) w := by
  unfold neqlNd
  have h1 := run_eqGuard_agg (P := Tryz.prog) w .neq 49 X Y a.arr b.arr eqGuardNd
  have h2 : (binOp .neq 49 (.agg a.arr) (.agg b.arr)).run Tryz.prog w = .ok (.bool (!eqNd a b)) w := run_neqNd a b w
  simp only [Sem.run_bind, h1, Result.andThen_ok, h2]
set_option maxRecDepth 100000 in
set_option maxHeartbeats 4000000 in
theorem same_any (p q : Option Addr) (b1 o1 c1 b2 o2 c2 : Nat) (l1 l2 : List Nd) (w : World) (h1 : NIn w p b1 o1 c1 l1) (h2 : NIn w q b2 o2 c2 l2) :
    Calls Tryz.prog 16 #[.slice p l1.length c1, .slice q l2.length c2] w fun e w' => e = .returned (.bool (decide (l1 = l2))) ∧ ∃ n, w' = w.drewN n := by
  have hm1 := h1.len
  by_cases hlen : l1.length = l2.length
  · have hL := Lib.hid hlen
    have H1 := Lib.hid h1
    have H2 := Lib.hid h2
    have hll : ((l1.length : Int) != (l2.length : Int)) = false := by simp [hlen]
    have k1 := h1.cap'
    have k2 := h2.cap'
    clear hlen h1 h2
    go_enter Tryz.func16, Tryz.ntmps16
    go_wp2_with fail
    go_loopg [5] (l1.length + 1) (fun g t wr => ∃ k m : Nat, g = l1.length + 1 - k ∧ k ≤ l1.length ∧ t = .int .i64 k ∧ wr = w.drewN m ∧ l1.take k = l2.take k)
    case atStart => exact ⟨0, 0, rfl, Nat.zero_le _, rfl, rfl, rfl⟩
    case round =>
      obtain ⟨k, m, rfl, hk, rfl, rfl, heq⟩ := hrel
      have Heq := Lib.hid heq
      clear heq
      have hk1 : (0 : Int) ≤ (k : Int) := by omega
      by_cases hlt : k < l1.length
      · have hk2 : (k : Int) < (l1.length : Int) := by omega
        have hk3 : (k : Int) < (l2.length : Int) := by have := hL.out; omega
        have hlt2 : k < l2.length := by omega
        have x1 : agg? w b1 (o1 + k * 19) 19 = some (l1[k]).arr := H1.out.nd k hlt
        have x2 : agg? w b2 (o2 + k * 19) 19 = some (l2[k]).arr := H2.out.nd k hlt2
        have t1 := Lib.hid (List.take_succ_eq_append_getElem hlt)
        have t2 := Lib.hid (List.take_succ_eq_append_getElem hlt2)
        have e1 := Lib.hid (List.getElem?_eq_getElem hlt)
        have e2 := Lib.hid (List.getElem?_eq_getElem hlt2)
        obtain rfl := H1.out.hp (by intro e; rw [e] at hlt; simp at hlt)
        obtain rfl := H2.out.hp (by intro e; rw [e] at hlt2; simp at hlt2)
        generalize l1[k] = y1 at x1 t1 e1
        generalize l2[k] = y2 at x2 t2 e2
        cases hy : eqNd y1 y2
        · have Hy := Lib.hid (show y1 ≠ y2 by simpa [eqNd] using hy)
          go_wp2_with fail
          go_quiet (fail)
          go_wp2_with fail
          go_ret
          refine ⟨ret_bool ?_, m + nq, by first | rfl | exact World.drewN_drewN _ _ _⟩
          rw [eq_comm, decide_eq_false_iff_not]
          intro e
          have := e1.out
          rw [e, e2.out] at this
          exact Hy.out (Option.some.inj this).symm
        · have Hy := Lib.hid (show y1 = y2 by simpa [eqNd] using hy)
          go_wp2_with fail
          go_quiet (fail)
          go_wp2_with fail
          go_roundg (l1.length + 1 - (k + 1))
          case measure => omega
          case rel => exact ⟨k + 1, _, rfl, hlt, by go_num, rfl, by rw [t1.out, t2.out, Heq.out, Hy.out]⟩
      · have hk2 : (l1.length : Int) ≤ (k : Int) := by omega
        have Hfin := Lib.hid (show l1 = l2 by
          have := Heq.out
          rw [List.take_of_length_le (by omega), List.take_of_length_le (by have := hL.out; omega)] at this
          exact this)
        go_wp2_with fail
        go_ret
        exact ⟨ret_bool (by rw [eq_comm, decide_eq_true_iff]; exact Hfin.out), _, rfl⟩
  · have hll : ((l1.length : Int) != (l2.length : Int)) = true := by simp; omega
    have Hne := Lib.hid (show ¬ l1 = l2 from fun e => hlen (by rw [e]))
    clear hlen h1 h2
    go_enter Tryz.func16, Tryz.ntmps16
    go_wp2_with fail
    go_ret
    exact ⟨ret_bool (by rw [eq_comm, decide_eq_false_iff_not]; exact Hne.out), 0, rfl⟩
end Go.Proofs.YtomehdepjenilaaGreat





