/-
  Inserts: maps from whole numbers to what a class holds. No statement of the seat stands here.
-/
import Derived.Test.YtaehkbbdmamfpaaGreatDoorI1
import Derived.Test.YtaehkbbdmamfpaaGreatDoorBM
namespace Go.Proofs.YtaehkbbdmamfpaaGreatDoor
open Go.ChangeShapes Go.WideShapes Go.ChangeAt Go.RowKit Go.MapKept
def hoM (M : List (Int × Ho)) : List (Int × Value) := M.map fun p => (p.1, .agg p.2.arr)
theorem hoM_keys (M : List (Int × Ho)) : (hoM M).map (·.1) = M.map (·.1) := by simp [hoM]
theorem getI_mem {M : List (Int × Ho)} (hnd : (M.map (·.1)).Nodup) {a : Int} {h : Ho} (hm : (a, h) ∈ M) : getI M a = some h := by
  induction M with
  | nil => cases hm
  | cons p r ih =>
    obtain ⟨k, x⟩ := p
    rw [List.map_cons, List.nodup_cons] at hnd
    unfold getI
    rcases List.mem_cons.1 hm with e | e
    · cases e; rw [if_pos rfl]
    · rw [if_neg, ih hnd.2 e]
      intro e2
      subst e2
      exact hnd.1 (List.mem_map.2 ⟨_, e, rfl⟩)
theorem getI_not {M : List (Int × Ho)} {a : Int} (h : ∀ p ∈ M, p.1 ≠ a) : getI M a = none := by
  induction M with
  | nil => rfl
  | cons p r ih =>
    obtain ⟨k, x⟩ := p
    unfold getI
    rw [if_neg (fun e => h (k, x) List.mem_cons_self e.symm)]
    exact ih fun p hp => h p (List.mem_cons_of_mem _ hp)
theorem run_lookHo {W : World} {mb : Nat} {M : List (Int × Ho)} (h : MapV W mb (intM (hoM M))) (hnd : (M.map (·.1)).Nodup) (a : Int) :
    (Instr.lookup 91 (.map (some mb)) (.int .i64 a) true).run Tryz.prog W = .ok (.tuple #[.agg ((getI M a).getD ⟨0, 0⟩).arr, .bool (getI M a).isSome]) W := by
  obtain ⟨es, clock, hb, hes⟩ := h
  have hks := intM_keys hes
  have hik : IsKey (.int .i64) (.int .i64 a) := rfl
  rcases findNow_spec hik es.toList 0 hks with ⟨h1, h2⟩ | ⟨j, e, h1, h2, h3⟩
  · have hg : getI M a = none := getI_not fun p hp e => by
      have : (Value.int .i64 p.1, Value.agg p.2.arr) ∈ intM (hoM M) := List.mem_map.2 ⟨(p.1, .agg p.2.arr), List.mem_map.2 ⟨p, hp, rfl⟩, rfl⟩
      rw [← hes] at this
      obtain ⟨x, hx, ex⟩ := List.mem_map.1 this
      exact h2 x hx ((congrArg Prod.fst ex).trans (by rw [e]))
    rw [hg]
    simp [Instr.lookup, run_underlying Tryz.underlying91, MapKept.run_getObj_map hb, run_checkKey Tryz.underlying3 hik, run_findKey Tryz.underlying3 h1, Result.andThen]
    rfl
  · have hmem : (e.key, e.val) ∈ intM (hoM M) := by rw [← hes]; exact List.mem_map.2 ⟨e, List.mem_of_getElem? h2, rfl⟩
    obtain ⟨p, hp, ep⟩ := List.mem_map.1 hmem
    obtain ⟨q, hq, eq⟩ := List.mem_map.1 hp
    have e1 : p.1 = a := by
      have := congrArg Prod.fst ep
      simp only [h3, Value.int.injEq, true_and] at this
      exact this
    have e2 : p.2 = e.val := congrArg Prod.snd ep
    have hg : getI M a = some q.2 := getI_mem hnd (by rw [← e1, ← eq]; exact hq)
    have hev : e.val = .agg q.2.arr := by rw [← e2, ← eq]
    rw [hg]
    simp [Instr.lookup, run_underlying Tryz.underlying91, MapKept.run_getObj_map hb, run_checkKey Tryz.underlying3 hik, run_findKey Tryz.underlying3 h1, Result.andThen, hev]
theorem map_erase {α β : Type} (f : α → β) : ∀ (l : List α) (i : Nat), (l.eraseIdx i).map f = (l.map f).eraseIdx i
  | [], _ => rfl
  | _ :: _, 0 => rfl
  | a :: l, i + 1 => by rw [List.eraseIdx_cons_succ, List.map_cons, map_erase f l i, List.map_cons, List.eraseIdx_cons_succ]
theorem erase_filter {M : List (Int × Value)} {a : Int} : ∀ (j : Nat) (v : Value), (M.map (·.1)).Nodup → M[j]? = some (a, v) → M.eraseIdx j = M.filter fun p => p.1 != a := by
  induction M with
  | nil => intro j v _ h; cases h
  | cons p r ih =>
    intro j v hnd h
    rw [List.map_cons, List.nodup_cons] at hnd
    cases j with
    | zero =>
      simp only [List.getElem?_cons_zero, Option.some.injEq] at h
      subst h
      rw [List.eraseIdx_cons_zero, List.filter_cons, if_neg (by simp)]
      symm
      rw [List.filter_eq_self]
      intro q hq
      have : q.1 ≠ a := fun e => hnd.1 (List.mem_map.2 ⟨q, hq, e⟩)
      simpa using this
    | succ j =>
      simp only [List.getElem?_cons_succ] at h
      have hne : p.1 ≠ a := fun e => hnd.1 (List.mem_map.2 ⟨_, List.mem_of_getElem? h, e.symm⟩)
      rw [List.eraseIdx_cons_succ, List.filter_cons, if_pos (by simpa using hne), ih j v hnd.2 h]
theorem hoM_del (M : List (Int × Ho)) (a : Int) : (hoM M).filter (fun p => p.1 != a) = hoM (delI M a) := by
  unfold hoM delI
  rw [List.filter_map]
  rfl
theorem run_delHo {W : World} {mb : Nat} {M : List (Int × Ho)} (h : MapV W mb (intM (hoM M))) (hnd : (M.map (·.1)).Nodup) (a : Int) (T : TypeId) :
    ∃ W', (Builtin.delete_ #[91, 3] T #[.map (some mb), .int .i64 a]).run Tryz.prog W = .ok (.tuple #[]) W' ∧ MapV W' mb (intM (hoM (delI M a))) ∧ W.grownBy W' (some mb) := by
  obtain ⟨es, clock, hb, hes⟩ := h
  have hks := intM_keys hes
  have hik : IsKey (.int .i64) (.int .i64 a) := rfl
  rcases findNow_spec hik es.toList 0 hks with ⟨h1, h2⟩ | ⟨j, e, h1, h2, h3⟩
  · refine ⟨{ W with heap := W.heap.setIfInBounds mb (.map es clock) }, ?_, ⟨_, _, (heap_set hb).1, ?_⟩, ⟨rfl, rfl, rfl, by simp, fun q hq hne => (heap_set hb).2 q fun e => hne (by rw [e])⟩⟩
    · simp [Builtin.delete_, run_underlying Tryz.underlying91, MapKept.run_getObj_map hb, run_checkKey Tryz.underlying3 hik, run_findKey Tryz.underlying3 h1, MapKept.run_setObj_map _ hb, Result.andThen]
    · rw [hes, ← hoM_del]
      congr 1
      symm
      rw [List.filter_eq_self]
      intro p hp
      have : p.1 ≠ a := fun e => by
        have h4 : (Value.int .i64 p.1, p.2) ∈ intM (hoM M) := List.mem_map.2 ⟨p, hp, rfl⟩
        rw [← hes] at h4
        obtain ⟨x, hx, ex⟩ := List.mem_map.1 h4
        exact h2 x hx ((congrArg Prod.fst ex).trans (by rw [e]))
      simpa using this
  · refine ⟨{ W with heap := W.heap.setIfInBounds mb (.map (es.eraseIdxIfInBounds j) clock) }, ?_, ⟨_, _, (heap_set hb).1, ?_⟩, ⟨rfl, rfl, rfl, by simp, fun q hq hne => (heap_set hb).2 q fun e => hne (by rw [e])⟩⟩
    · simp [Builtin.delete_, run_underlying Tryz.underlying91, MapKept.run_getObj_map hb, run_checkKey Tryz.underlying3 hik, run_findKey Tryz.underlying3 h1, MapKept.run_setObj_map _ hb, Result.andThen]
    · have h4 : (intM (hoM M))[j]? = some (e.key, e.val) := by rw [← hes, List.getElem?_map, h2]; rfl
      have h5 : ∃ v, (hoM M)[j]? = some (a, v) := by
        unfold intM at h4
        rw [List.getElem?_map] at h4
        cases hj : (hoM M)[j]? with
        | none => rw [hj] at h4; cases h4
        | some p =>
          rw [hj] at h4
          simp only [Option.map_some, Option.some.injEq, Prod.mk.injEq] at h4
          refine ⟨p.2, ?_⟩
          have : p.1 = a := by have := h4.1.trans h3; simpa using this
          rw [← this]
      obtain ⟨v, h5⟩ := h5
      have hjl : j < es.size := by have := (List.getElem?_eq_some_iff.1 h2).1; simpa using this
      rw [Array.eraseIdxIfInBounds, dif_pos hjl, Array.toList_eraseIdx, map_erase, hes]
      unfold intM
      rw [← map_erase, erase_filter j v (by rw [hoM_keys]; exact hnd) h5, hoM_del]
theorem wpList_delHo (w : World) {ops : Array Oper} {rest : List Oper} {o : Oper} {a : Act} {Q : Exit → Act → World → Prop} (hg : o.guard = none) (m x : Operand) (hop : o.op = .call { callee := .builtin .delete, args := #[m, x], argTypes := #[91, 3] })
    (mb : Nat) (M : List (Int × Ho)) (hm : a.eval m = .map (some mb)) (h : MapV w mb (intM (hoM M))) (hnd : (M.map (·.1)).Nodup) (k : Int) (hx : a.eval x = .int .i64 k)
    (hK : ∀ w', MapV w' mb (intM (hoM (delI M k))) → w.grownBy w' (some mb) → ∀ u, wpList Tryz.prog ops Q rest (a.put o.dst u) w') : wpList Tryz.prog ops Q (o :: rest) a w := by
  refine wpList_plain hg fun K' hK' => ?_
  obtain ⟨w', hrun, r1, r2⟩ := run_delHo h hnd k o.type
  unfold Oper.wp
  simp [execOp, hop, resolve, invoke, builtin, hm, hx, hrun, Result.andThen]
  exact hK' _ _ (hK w' r1 r2 _)
end Go.Proofs.YtaehkbbdmamfpaaGreatDoor
