/-
  All ways to a paragraph's end: the program's ways: what its rounds leave.
-/
import Derived.Test.YtiijpbfkchokaaaGreatB29
import Derived.Test.YtiijpbfkchokaaaGreatW9
namespace Go.Proofs.YtiijpbfkchokaaaGreat
open Go.ChangeShapes Go.WideShapes Go.ChangeAt Go.RowKit
theorem upE_at (E : Nat → List Wy) (k : Nat) (l : List Wy) : upE E k l k = l := by unfold upE; rw [if_pos rfl]
theorem upE_ne (E : Nat → List Wy) {k j : Nat} (l : List Wy) (h : j ≠ k) : upE E k l j = E j := by unfold upE; rw [if_neg h]
theorem upE_up (E : Nat → List Wy) (k : Nat) (l l' : List Wy) : upE (upE E k l) k l' = upE E k l' := by
  funext j
  by_cases h : j = k
  · rw [h, upE_at, upE_at]
  · rw [upE_ne _ _ h, upE_ne _ _ h, upE_ne _ _ h]
theorem WyB.mono {m n : Nat} {a : Wy} (h : WyB m a) (hmn : m ≤ n) : WyB n a := ⟨Nat.le_trans h.len hmn, h.over, h.total, h.bad, h.cls⟩
section
variable (one : Option Nat → Nat × Int → Int → Int → Bk) (all : Bool) (B : List (Nat × Int))
/-- the ends that are known at round k -/
def Ew (k : Nat) : Nat → List Wy := fun j => (endsW one all B k).getD j []
theorem Ew_zero : Ew one all B 0 = fun _ => [] := by
  funext j
  simp [Ew, endsW]
theorem Ew_none {k j : Nat} (h : k ≤ j) : Ew one all B k j = [] := by
  unfold Ew
  rw [List.getD_eq_getElem?_getD, List.getElem?_eq_none (by rw [endsW_len]; exact h)]
  rfl
theorem Ew_succ (k : Nat) : Ew one all B (k + 1) = upE (Ew one all B k) k (endW one all B (endsW one all B k) k) := by
  funext j
  by_cases h : j = k
  · subst h
    rw [upE_at]
    exact endsW_get one all B (Nat.lt_succ_self j)
  · rw [upE_ne _ _ h]
    unfold Ew
    rw [endsW]
    rcases Nat.lt_or_ge j k with h1 | h1
    · rw [List.getD_eq_getElem?_getD, List.getElem?_append_left (by rw [endsW_len]; exact h1), ← List.getD_eq_getElem?_getD]
    · rw [List.getD_eq_getElem?_getD, List.getElem?_eq_none (by rw [List.length_append, endsW_len, List.length_singleton]; omega), List.getD_eq_getElem?_getD, List.getElem?_eq_none (by rw [endsW_len]; exact h1)]
/-- the ways from one break -/
def stepW (k : Nat) (x : Nat × Int) (acc : List Wy) (o : Option Nat) : List Wy := (aheadW (endsW one all B k) o).foldl (extW one all (atA B o) x) acc
theorem endW_fold (k : Nat) : endW one all B (endsW one all B k) k = (preds (penA B) k).foldl (stepW one all B k (B.getD k (0, 0))) [] := rfl
end
theorem preds_fold {pen : Nat → Int} (F : List Wy → Option Nat → List Wy) (acc : List Wy) (m : Nat) : (preds pen (m + 1)).foldl F acc = if pen m ≤ -10000 then F acc (some m) else (preds pen m).foldl F (F acc (some m)) := by
  rw [preds, List.foldl_cons]
  split
  · rfl
  · rfl
/-- rows of rows, all empty -/
theorem made_none (n : Nat) : madeCells (Value.slice none 0 0).cells (n * 1) = ((List.range n).map fun _ => Value.slice none 0 0).toArray := by
  rw [Nat.mul_one]
  apply Array.ext
  · simp [madeCells]
  · intro i h1 h2
    simp [madeCells, Value.cells, Nat.mod_one]
theorem info_rows : (Tryz.prog.info? 125).map (fun i => (i.zero, i.size, i.bytes)) = some (some (.slice none 0 0), 1, 24) := by kernel_rfl
theorem run_mkRows (n : Nat) (hn : n ≤ 1000000) (w : World) : (Instr.makeSlice 120 (.int .i64 (n : Int)) (.int .i64 (n : Int))).run Tryz.prog w = .ok (.slice (some ⟨w.heap.size, 0, none⟩) n n) (w.alloc (.cells ((List.range n).map fun _ => Value.slice none 0 0).toArray 125)) := by
  obtain ⟨i, hi, hz, hs, hb⟩ := info_parts info_rows
  have h := run_make (P := Tryz.prog) w 120 125 i (.slice none 0 0) Tryz.underlying120 hi hz .i64 .i64 n n (by omega) (Int.le_refl _) (by rw [hb]; omega) (by omega)
  rw [hs] at h
  simp only [Int.toNat_natCast] at h
  rw [h, made_none]
/-- .. as they lie when the rounds begin -/
theorem WaI.init {w0 W : World} {N Y n : Nat} {all : Bool} (hN : w0.heap.size = N) (hb : Below w0.heap.size w0 W) (hx : W.heap[N]? = some (.cells #[.pointer (some ⟨Y, 0, none⟩)] 71 (0, 0))) (ha : W.heap[N + 1]? = some (.cells #[.bool all] 4 (0, 0))) (hm : MapV W (N + 2) [])
    (hcb : W.heap[N + 3]? = some (.cells #[.map (some (N + 2))] 119 (0, 0))) (hob : W.heap[N + 4]? = some (.cells ((List.range n).map fun _ => Value.slice none 0 0).toArray 125 (0, 0))) (hco : W.heap[N + 5]? = some (.cells #[.slice (some ⟨N + 4, 0, none⟩) n n] 120 (0, 0))) :
    WaI w0 N Y n all (fun _ => .slice none 0 0) [] (fun _ => []) W :=
  ⟨hb, hx, ha, hm, hcb, hob, hco, fun _ _ => World.ownsRow_nil _ _ _ _, fun _ _ _ _ _ q hq => (by cases hq), fun _ _ _ ha => (by cases ha), fun _ _ hp => (by cases hp), fun _ _ _ ha => (by cases ha), hN, fun _ _ => List.nodup_nil⟩
/-- an element of a row of states -/
theorem WaI.elem {w0 : World} {N Y n : Nat} {all : Bool} {vals : Nat → Value} {D : List (St3 × Nat)} {E : Nat → List Wy} {W : World} (h : WaI w0 N Y n all vals D E W) {j : Nat} (hj : j < n) {i : Nat} (hi : i < (E j).length) :
    ∃ g cap, vals j = .slice (some ⟨g, 0, none⟩) (E j).length cap ∧ (E j).length ≤ cap ∧ N + 6 ≤ g ∧ agg? W g (i * 3) 3 = some (stOf j (E j)[i]).arr :=
  row_agg (fun a => (stOf j a).cells) (size := 3) (fun _ => rfl) (h.rows j hj) (by decide) hi
/-- pointers in a row of one's own -/
def ptrs (ps : List Nat) : List Value := ps.map fun p => .pointer (some ⟨p, 0, none⟩)
theorem ptrs_flat (ps : List Nat) : ptrs ps = ps.flatMap fun p => [Value.pointer (some ⟨p, 0, none⟩)] := by
  induction ps with
  | nil => rfl
  | cons x r ih => rw [List.flatMap_cons, ← ih]; rfl
/-- .. are ways, if what they name is -/
theorem WysIn.of_row {W : World} {B : Nat} {v : Value} {ps : List Nat} {l : List Wy} (h : W.ownsRow B 76 1 v ps.length (ptrs ps)) (hl : ps.length = l.length) (hw : ∀ (i : Nat) (p : Nat) (a : Wy), ps[i]? = some p → l[i]? = some a → WayAt W p a) :
    ∃ p0 g c, v = .slice p0 l.length c ∧ WysIn W p0 g c ps l := by
  obtain ⟨p0, c, e⟩ := owns_form h
  by_cases hne : ps = []
  · subst hne
    have : l = [] := by
      cases l with
      | nil => rfl
      | cons _ _ => simp at hl
    subst this
    exact ⟨p0, 0, c, e, fun h => absurd rfl h, rfl, Nat.zero_le _, fun i p hi => (by simp at hi), fun i p a hi => (by simp at hi)⟩
  · have hpos : 0 < ps.length := List.length_pos_iff.2 hne
    rw [ptrs_flat] at h
    obtain ⟨g, cap, e1, e2, _, _⟩ := row_agg (fun p : Nat => [Value.pointer (some ⟨p, 0, none⟩)]) (size := 1) (fun _ => rfl) h (by decide) hpos
    refine ⟨some ⟨g, 0, none⟩, g, cap, by rw [e1, hl], fun _ => rfl, hl, by omega, fun i p hi => ?_, hw⟩
    have hil : i < ps.length := (List.getElem?_eq_some_iff.1 hi).1
    obtain ⟨g', cap', e1', _, _, h4⟩ := row_agg (fun p : Nat => [Value.pointer (some ⟨p, 0, none⟩)]) (size := 1) (fun _ => rfl) h (by decide) hil
    rw [e1] at e1'
    cases e1'
    rw [(List.getElem?_eq_some_iff.1 hi).2, Nat.mul_one] at h4
    have := agg_cell h4 0 _ rfl
    simpa using this
end Go.Proofs.YtiijpbfkchokaaaGreat
