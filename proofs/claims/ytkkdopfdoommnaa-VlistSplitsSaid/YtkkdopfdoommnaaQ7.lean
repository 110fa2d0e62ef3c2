/-
  The document's side: whether a row of nodes is a list.
-/
import Derived.Test.YtkkdopfdoommnaaQ4
import Derived.Test.YtkkdopfdoommnaaQ6
import Derived.Great.BuildSlice
namespace Go.Proofs.Ytkkdopfdoommnaa
open Go.ChangeShapes Go.WideShapes Go.ChangeAt Go.RowKit
attribute [local go_sem ↓] Go.wp_at_zero Go.wp_at_succ

/-- what is open, as the document keeps it -/
def opn (x : Int) : List Value := [.bool (decide (0 ≤ x)), .int .i64 (if 0 ≤ x then 2 - x else 0)]
def opns (st : List Int) : List Value := st.flatMap opn
theorem opns_len : ∀ st : List Int, (opns st).length = st.length * 2
  | [] => rfl
  | x :: r => by unfold opns; rw [List.flatMap_cons, List.length_append]; have := opns_len r; unfold opns at this; rw [this]; simp [opn]; omega
theorem opns_append (a b : List Int) : opns (a ++ b) = opns a ++ opns b := by simp [opns]
theorem opns_at : ∀ (st : List Int) (j : Nat) (x : Int), st[j]? = some x → (opns st)[j * 2]? = some (.bool (decide (0 ≤ x))) ∧ (opns st)[j * 2 + 1]? = some (.int .i64 (if 0 ≤ x then 2 - x else 0))
  | [], _, _, h => by cases h
  | y :: r, 0, x, h => by
    simp at h; subst h
    exact ⟨rfl, rfl⟩
  | y :: r, j + 1, x, h => by
    have := opns_at r j x (by simpa using h)
    rw [show (j + 1) * 2 = j * 2 + 2 by omega]
    exact this
theorem opns_set : ∀ (st : List Int) (j : Nat) (x : Int), st[j]? = some x → 1 ≤ x → (opns st).set (j * 2 + 1) (.int .i64 (2 - x + 1)) = opns (st.set j (x - 1))
  | [], _, _, h, _ => by cases h
  | y :: r, 0, x, h, hx => by
    simp at h; subst h
    show (opn y ++ opns r).set 1 _ = opn (y - 1) ++ opns r
    have e1 : decide (0 ≤ y) = true := by simp; omega
    have e2 : decide (0 ≤ y - 1) = true := by simp; omega
    simp only [opn, e1, e2, if_pos (show 0 ≤ y by omega), if_pos (show 0 ≤ y - 1 by omega)]
    show [Value.bool true, .int .i64 (2 - y + 1)] ++ opns r = [Value.bool true, .int .i64 (2 - (y - 1))] ++ opns r
    rw [show 2 - y + 1 = 2 - (y - 1) by omega]
  | y :: r, j + 1, x, h, hx => by
    have := opns_set r j x (by simpa using h) hx
    rw [show (j + 1) * 2 + 1 = (j * 2 + 1) + 2 by omega]
    show (opn y ++ opns r).set ((j * 2 + 1) + 2) _ = opn y ++ opns (r.set j (x - 1))
    rw [← this]; rfl
theorem opns_take : ∀ (st : List Int) (m : Nat), (opns st).take (m * 2) = opns (st.take m)
  | [], m => by simp [opns]
  | y :: r, 0 => by simp [opns]
  | y :: r, m + 1 => by
    have := opns_take r m
    rw [show (m + 1) * 2 = m * 2 + 2 by omega]
    show (opn y ++ opns r).take (m * 2 + 2) = opn y ++ opns (r.take m)
    rw [← this]; rfl
theorem info_opn : (Try.prog.info? 175).map (fun i => (i.zero, i.size, i.bytes)) = some (some (.agg #[.bool false, .int .i64 0]), 2, 16) := by kernel_rfl
def bdOpn (parts : Array (Nat × Value)) : Sem Value := Instr.build 175 parts
@[go_sem ↓] theorem execOp_bdOpn (ρ : Operand → Value) (dst : Option Tmp) (x : Array (Nat × Operand)) (ty : TypeId) (pos : String) (after : Array Edge) (guard : Option (Nat × Bool)) :
    execOp ρ { dst, op := .build 175 x, type := ty, pos, after, guard } = (do pure (.value (← bdOpn (x.map fun (i, y) => (i, ρ y))))) := rfl
@[go_sem] theorem run_bdOpn (q : Bool) (w : World) : (bdOpn #[(0, .bool q)]).run Try.prog w = .ok (.agg #[.bool q, .int .i64 0]) w := by kernel_rfl
def bsOpn (parts : Array (Nat × Value)) : Sem Value := Instr.buildSlice 173 1 parts
@[go_sem ↓] theorem execOp_bsOpn (ρ : Operand → Value) (dst : Option Tmp) (x : Array (Nat × Operand)) (ty : TypeId) (pos : String) (after : Array Edge) (guard : Option (Nat × Bool)) :
    execOp ρ { dst, op := .buildSlice 173 1 x, type := ty, pos, after, guard } = (do pure (.value (← bsOpn (x.map fun (i, y) => (i, ρ y))))) := rfl
theorem fill_opn (a b : Value) : Instr.fill (fun i => some (i * 2, 2)) ((Array.range (1 * 2)).map ((Value.agg #[.bool false, .int .i64 0]).cells[· % (Value.agg #[.bool false, .int .i64 0]).cells.size]!)) [(0, .agg #[a, b])] = some #[a, b] := by kernel_rfl
theorem info_opn0 : (Try.prog.info? 175).map (fun i => (i.zero, i.size)) = some (some (.agg #[.bool false, .int .i64 0]), 2) := by kernel_rfl
@[go_sem] theorem run_bsOpn (a b : Value) (w : World) : (bsOpn #[(0, .agg #[a, b])]).run Try.prog w = .ok (.slice (some ⟨w.heap.size, 0, none⟩) 1 1) (w.alloc (.cells #[a, b] 175)) := by
  obtain ⟨i, hi, hzz⟩ := Option.map_eq_some_iff.1 info_opn0
  simp only [Prod.mk.injEq] at hzz
  obtain ⟨hz, hs⟩ := hzz
  refine run_buildSlice w _ 175 1 _ _ i (.agg #[.bool false, .int .i64 0]) Try.underlying173 hi hz (by rw [hs]; decide) (by rw [hs]; decide) ?_
  rw [hs]
  exact fill_opn a b
/-- the stack of what is open -/
structure Chq (w : World) (a : Option Addr) (c : Nat) (st : List Int) (wr : World) : Prop where
  below : Below w.heap.size w wr
  row : wr.ownsRow w.heap.size 175 2 (.slice a st.length c) st.length (opns st)
section
variable {w wr w' : World} {c : Nat} {a : Option Addr} {st : List Int}
theorem Chq.call (h : Chq w a c st wr) (hb : Below wr.heap.size wr w') : Chq w a c st w' := ⟨h.below.trans (hb.mono h.below.size), ownsRow_below h.row hb⟩
theorem Chq.alloc (h : Chq w a c st wr) (o : Obj) : Chq w a c st (wr.alloc o) := h.call ((Below.refl _ _).alloc (Nat.le_refl _) o)
theorem Chq.form (h : Chq w a c st wr) (hn : 0 < st.length) : ∃ g, a = some ⟨g, 0, none⟩ := by
  obtain ⟨g, cap, e, _⟩ := h.row.form hn
  simp only [Value.slice.injEq] at e
  exact ⟨g, e.1⟩
theorem Chq.cap (h : Chq w a c st wr) : st.length ≤ c := by
  obtain ⟨_, ⟨h1, h2⟩ | ⟨g, cap, cur, h, _, _, h3, _⟩⟩ := h.row
  · omega
  · cases h; exact h3
theorem Chq.cell0 {g : Nat} (h : Chq w (some ⟨g, 0, none⟩) c st wr) {j : Nat} (hj : j < st.length) {x : Int} (hx : st[j]? = some x) : wr.cell? ⟨g, j * 2, none⟩ = some (.bool (decide (0 ≤ x))) := by
  rw [h.row.cellAt (j * 2) (by omega)]; exact (opns_at st j x hx).1
theorem Chq.cell1 {g : Nat} (h : Chq w (some ⟨g, 0, none⟩) c st wr) {j : Nat} (hj : j < st.length) {x : Int} (hx : st[j]? = some x) : wr.cell? ⟨g, j * 2 + 1, none⟩ = some (.int .i64 (if 0 ≤ x then 2 - x else 0)) := by
  rw [h.row.cellAt (j * 2 + 1) (by omega)]; exact (opns_at st j x hx).2
theorem Chq.free {g : Nat} (h : Chq w (some ⟨g, 0, none⟩) c st wr) (j : Nat) : wr.frozen? ⟨g, j, none⟩ = false := h.row.frozenAt j
theorem Chq.set {g : Nat} (h : Chq w (some ⟨g, 0, none⟩) c st wr) {j : Nat} {x : Int} (hx : st[j]? = some x) (h1 : 1 ≤ x) : Chq w (some ⟨g, 0, none⟩) c (st.set j (x - 1)) (wr.setCell ⟨g, j * 2 + 1, none⟩ (.int .i64 (2 - x + 1))) := by
  obtain ⟨h2, _⟩ := h.row.stored (j * 2 + 1) (.int .i64 (2 - x + 1))
  rw [opns_set st j x hx h1] at h2
  refine ⟨h.below.setCell (p := ⟨g, j * 2 + 1, none⟩) (h.row.lt g rfl).1 _, ?_⟩
  rw [List.length_set]; exact h2
theorem Chq.pop {m : Nat} {g : Nat} (h : Chq w (some ⟨g, 0, none⟩) c st wr) (hm : st.length = m + 1) : Chq w (some ⟨g, 0, none⟩) c st.dropLast wr := by
  refine ⟨h.below, ?_⟩
  have hd : st.dropLast.length = m := by rw [List.length_dropLast, hm]; rfl
  rw [hd]
  obtain ⟨hl, ⟨h1, h2⟩ | ⟨g', cap, cur, h1, h3, h4, h5, h6, h7, h8⟩⟩ := h.row
  · omega
  · simp only [Value.slice.injEq] at h1
    obtain ⟨h0, _, rfl⟩ := h1
    refine ⟨by rw [opns_len, hd], .inr ⟨g', c, cur, by rw [h0], h3, h4, by omega, h6, h7, ?_⟩⟩
    rw [List.dropLast_eq_take, ← opns_take, ← h8, List.take_take, hm]
    congr 1; omega
theorem Chq.grown {g cap : Nat} {x : Int} (h : Chq w a c st wr) (hown : w'.ownsRow w.heap.size 175 2 (.slice (some ⟨g, 0, none⟩) (st.length + 1) cap) (st.length + 1) (opns st ++ opn x)) (hg : wr.grownBy w' (Value.slice a st.length c).ownBlock) :
    Chq w (some ⟨g, 0, none⟩) cap (st ++ [x]) w' := by
  refine ⟨Below.grown h.below hg h.below.size (fun k hk => (h.row.lt k hk).1), ?_⟩
  rw [List.length_append, opns_append, show opns [x] = opn x by simp [opns]]; exact hown
end
end Go.Proofs.Ytkkdopfdoommnaa
