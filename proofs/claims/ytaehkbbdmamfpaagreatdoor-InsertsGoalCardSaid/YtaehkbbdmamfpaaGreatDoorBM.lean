/-
  Maps from whole numbers: what a look-up gives, what a store leaves. No statement of the seat stands here.
-/
import Derived.Test.YtaehkbbdmamfpaaGreatDoorBase
import Derived.Maps.Own
import Derived.Maps.OwnOps
namespace Go.Proofs.YtaehkbbdmamfpaaGreatDoor
open Go.ChangeShapes Go.WideShapes Go.ChangeAt Go.RowKit Go.MapKept
def MapV (W : World) (mb : Nat) (M : List (Value × Value)) : Prop := ∃ es clock, W.heap[mb]? = some (.map es clock) ∧ es.toList.map (fun e => (e.key, e.val)) = M
def intM (M : List (Int × Value)) : List (Value × Value) := M.map fun p => (.int .i64 p.1, p.2)
theorem MapV.lt {W : World} {mb : Nat} {M : List (Value × Value)} (h : MapV W mb M) : mb < W.heap.size := by
  obtain ⟨es, c, hb, _⟩ := h
  exact (Array.getElem?_eq_some_iff.1 hb).1
theorem MapV.same {W W' : World} {mb : Nat} {M : List (Value × Value)} (h : MapV W mb M) (hs : W'.heap[mb]? = W.heap[mb]?) : MapV W' mb M := by
  obtain ⟨es, c, hb, hm⟩ := h
  exact ⟨es, c, hs.trans hb, hm⟩
theorem MapV.new (W : World) : MapV (W.alloc (.map #[] 0)) W.heap.size [] := ⟨#[], 0, heap_alloc_new W _, rfl⟩
theorem intM_keys {M : List (Int × Value)} {es : Array MapEntry} (hm : es.toList.map (fun e => (e.key, e.val)) = intM M) : ∀ x ∈ es.toList, IsKey (.int .i64) x.key := by
  intro x hx
  have : (x.key, x.val) ∈ intM M := by rw [← hm]; exact List.mem_map.2 ⟨x, hx, rfl⟩
  obtain ⟨p, _, e⟩ := List.mem_map.1 this
  have : x.key = .int .i64 p.1 := (congrArg Prod.fst e).symm
  rw [this]
  rfl
section
variable {P : Program} {w : World} {mty kt et : TypeId}
theorem run_update_int {mb : Nat} {M : List (Int × Value)} (h : MapV w mb (intM M)) (hm : P.underlying mty = some (.map kt et)) (hk : P.underlying kt = some (.int .i64)) {a : Int} (v : Value) (hno : ∀ p ∈ M, p.1 ≠ a) :
    ∃ w', (Instr.mapUpdate mty (.map (some mb)) (.int .i64 a) v).run P w = .ok () w' ∧ MapV w' mb (intM (M ++ [(a, v)])) ∧ w.grownBy w' (some mb) := by
  obtain ⟨es, clock, hb, hes⟩ := h
  have hks := intM_keys hes
  have hik : IsKey (.int .i64) (.int .i64 a) := rfl
  rcases findNow_spec hik es.toList 0 hks with ⟨h1, h2⟩ | ⟨j, e, h1, h2, h3⟩
  · refine ⟨{ w with heap := w.heap.setIfInBounds mb (.map (es.push { key := .int .i64 a, val := v, born := clock }) (clock + 1)) }, ?_, ⟨_, _, (heap_set hb).1, ?_⟩, ⟨rfl, rfl, rfl, by simp, fun q hq hne => (heap_set hb).2 q fun e => hne (by rw [e])⟩⟩
    · simp [Instr.mapUpdate, run_underlying hm, MapKept.run_getObj_map hb, run_checkKey hk hik, run_findKey hk h1, MapKept.run_setObj_map _ hb, Result.andThen]
    · rw [Array.toList_push, List.map_append, hes]
      simp [intM]
  · exfalso
    have hmem : (e.key, e.val) ∈ intM M := by rw [← hes]; exact List.mem_map.2 ⟨e, List.mem_of_getElem? h2, rfl⟩
    obtain ⟨p, hp, ep⟩ := List.mem_map.1 hmem
    have := congrArg Prod.fst ep
    simp only [h3, Value.int.injEq, true_and] at this
    exact hno p hp this
end
theorem wpList_update_int {P : Program} (w : World) {ops : Array Oper} {rest : List Oper} {o : Oper} {a : Act} {Q : Exit → Act → World → Prop} (hg : o.guard = none) (m x v : Operand) (t : TypeId) (hop : o.op = Op.mapUpdate t m x v)
    (kt et : TypeId) (ht : P.underlying t = some (.map kt et)) (hk : P.underlying kt = some (.int .i64)) (mb : Nat) (M : List (Int × Value)) (hm : a.eval m = .map (some mb)) (h : MapV w mb (intM M)) (k : Int) (val : Value) (hx : a.eval x = .int .i64 k) (hv : a.eval v = val) (hno : ∀ p ∈ M, p.1 ≠ k)
    (hK : ∀ w', MapV w' mb (intM (M ++ [(k, val)])) → w.grownBy w' (some mb) → wpList P ops Q rest (a.put o.dst undef) w') : wpList P ops Q (o :: rest) a w := by
  refine wpList_plain hg fun K' hK' => ?_
  obtain ⟨w', hrun, r1, r2⟩ := run_update_int (P := P) h ht hk val hno
  unfold Oper.wp
  simp [execOp, hop, hm, hx, hv, hrun, Result.andThen]
  exact hK' _ _ (hK w' r1 r2)
end Go.Proofs.YtaehkbbdmamfpaaGreatDoor
