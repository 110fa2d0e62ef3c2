/-
  Maps from whole numbers: what a look-up gives, what a store leaves. No statement of the seat stands here.
-/
import Derived.Test.YtiijpbfkchokaaaGreatNodes2
import Derived.Maps.Own
import Derived.Maps.OwnOps
import Derived.Laws.StructEq
namespace Go.Proofs.YtiijpbfkchokaaaGreat
open Go.ChangeShapes Go.WideShapes Go.ChangeAt Go.RowKit Go.MapKept
def MapV (W : World) (mb : Nat) (M : List (Value × Value)) : Prop := ∃ es clock, W.heap[mb]? = some (.map es clock) ∧ es.toList.map (fun e => (e.key, e.val)) = M
def intM (M : List (Int × Value)) : List (Value × Value) := M.map fun p => (.int .i64 p.1, p.2)
theorem MapV.lt {W : World} {mb : Nat} {M : List (Value × Value)} (h : MapV W mb M) : mb < W.heap.size := by
  obtain ⟨es, c, hb, _⟩ := h
  exact (Array.getElem?_eq_some_iff.1 hb).1
theorem MapV.same {W W' : World} {mb : Nat} {M : List (Value × Value)} (h : MapV W mb M) (hs : W'.heap[mb]? = W.heap[mb]?) : MapV W' mb M := by
  obtain ⟨es, c, hb, hm⟩ := h
  exact ⟨es, c, hs.trans hb, hm⟩
theorem MapV.new (W : World) : MapV (W.alloc (.map #[] 0)) W.heap.size [] := ⟨#[], 0, heap_alloc_new W _, rfl⟩
theorem intM_keys {M : List (Int × Value)} {es : Array MapEntry} (hm : es.toList.map (fun e => (e.key, e.val)) = intM M) : ∀ x ∈ es.toList, IsKey (.int .i64) x.key := by
  intro x hx
  have : (x.key, x.val) ∈ intM M := by rw [← hm]; exact List.mem_map.2 ⟨x, hx, rfl⟩
  obtain ⟨p, _, e⟩ := List.mem_map.1 this
  have : x.key = .int .i64 p.1 := (congrArg Prod.fst e).symm
  rw [this]
  rfl
section
variable {P : Program} {w : World} {mty kt et : TypeId}
theorem run_lookup_int {mb : Nat} {M : List (Int × Value)} (h : MapV w mb (intM M)) (hm : P.underlying mty = some (.map kt et)) (hk : P.underlying kt = some (.int .i64)) (hnd : (M.map (·.1)).Nodup) {a : Int} {v : Value} (hv : (a, v) ∈ M) :
    (Instr.lookup mty (.map (some mb)) (.int .i64 a) false).run P w = .ok v w := by
  obtain ⟨es, clock, hb, hes⟩ := h
  have hks := intM_keys hes
  have hik : IsKey (.int .i64) (.int .i64 a) := rfl
  rcases findNow_spec hik es.toList 0 hks with ⟨_, h2⟩ | ⟨j, e, h1, h2, h3⟩
  · exfalso
    have : (Value.int .i64 a, v) ∈ intM M := List.mem_map.2 ⟨(a, v), hv, rfl⟩
    rw [← hes] at this
    obtain ⟨x, hx, ex⟩ := List.mem_map.1 this
    exact h2 x hx (congrArg Prod.fst ex)
  · have hev : e.val = v := by
      have hmem : (e.key, e.val) ∈ intM M := by rw [← hes]; exact List.mem_map.2 ⟨e, List.mem_of_getElem? h2, rfl⟩
      obtain ⟨p, hp, ep⟩ := List.mem_map.1 hmem
      have e1 : p.1 = a := by
        have := congrArg Prod.fst ep
        simp only [h3, Value.int.injEq, true_and] at this
        exact this
      have e2 : p.2 = e.val := congrArg Prod.snd ep
      obtain ⟨i1, hi1, q1⟩ := List.getElem_of_mem hp
      obtain ⟨i2, hi2, q2⟩ := List.getElem_of_mem hv
      have hii : i1 = i2 := by
        have h5 : (M.map (·.1))[i1]'(by simpa using hi1) = (M.map (·.1))[i2]'(by simpa using hi2) := by simp [q1, q2, e1]
        exact (List.getElem_inj hnd).1 h5
      subst hii
      rw [q1] at q2
      rw [← e2, q2]
    simp [Instr.lookup, run_underlying hm, MapKept.run_getObj_map hb, run_checkKey hk hik, run_findKey hk h1, Result.andThen, hev]
theorem run_update_int {mb : Nat} {M : List (Int × Value)} (h : MapV w mb (intM M)) (hm : P.underlying mty = some (.map kt et)) (hk : P.underlying kt = some (.int .i64)) {a : Int} (v : Value) (hno : ∀ p ∈ M, p.1 ≠ a) :
    ∃ w', (Instr.mapUpdate mty (.map (some mb)) (.int .i64 a) v).run P w = .ok () w' ∧ MapV w' mb (intM (M ++ [(a, v)])) ∧ w.grownBy w' (some mb) := by
  obtain ⟨es, clock, hb, hes⟩ := h
  have hks := intM_keys hes
  have hik : IsKey (.int .i64) (.int .i64 a) := rfl
  rcases findNow_spec hik es.toList 0 hks with ⟨h1, h2⟩ | ⟨j, e, h1, h2, h3⟩
  · refine ⟨{ w with heap := w.heap.setIfInBounds mb (.map (es.push { key := .int .i64 a, val := v, born := clock }) (clock + 1)) }, ?_, ⟨_, _, (heap_set hb).1, ?_⟩, ⟨rfl, rfl, rfl, by simp, fun q hq hne => (heap_set hb).2 q fun e => hne (by rw [e])⟩⟩
    · simp [Instr.mapUpdate, run_underlying hm, MapKept.run_getObj_map hb, run_checkKey hk hik, run_findKey hk h1, MapKept.run_setObj_map _ hb, Result.andThen]
    · rw [Array.toList_push, List.map_append, hes]
      simp [intM]
  · exfalso
    have hmem : (e.key, e.val) ∈ intM M := by rw [← hes]; exact List.mem_map.2 ⟨e, List.mem_of_getElem? h2, rfl⟩
    obtain ⟨p, hp, ep⟩ := List.mem_map.1 hmem
    have := congrArg Prod.fst ep
    simp only [h3, Value.int.injEq, true_and] at this
    exact hno p hp this
end
theorem wpList_update_int {P : Program} (w : World) {ops : Array Oper} {rest : List Oper} {o : Oper} {a : Act} {Q : Exit → Act → World → Prop} (hg : o.guard = none) (m x v : Operand) (t : TypeId) (hop : o.op = Op.mapUpdate t m x v)
    (kt et : TypeId) (ht : P.underlying t = some (.map kt et)) (hk : P.underlying kt = some (.int .i64)) (mb : Nat) (M : List (Int × Value)) (hm : a.eval m = .map (some mb)) (h : MapV w mb (intM M)) (k : Int) (val : Value) (hx : a.eval x = .int .i64 k) (hv : a.eval v = val) (hno : ∀ p ∈ M, p.1 ≠ k)
    (hK : ∀ w', MapV w' mb (intM (M ++ [(k, val)])) → w.grownBy w' (some mb) → wpList P ops Q rest (a.put o.dst undef) w') : wpList P ops Q (o :: rest) a w := by
  refine wpList_plain hg fun K' hK' => ?_
  obtain ⟨w', hrun, r1, r2⟩ := run_update_int (P := P) h ht hk val hno
  unfold Oper.wp
  simp [execOp, hop, hm, hx, hv, hrun, Result.andThen]
  exact hK' _ _ (hK w' r1 r2)
structure St3 where
  k : Int
  line : Int
  cls : Int
deriving Inhabited, DecidableEq
def St3.cells (n : St3) : List Value := [.int .i64 n.k, .int .i64 n.line, .int .i64 n.cls]
def St3.arr (n : St3) : Array Value := n.cells.toArray
@[go_sem] theorem St3.size_arr (n : St3) : n.arr.size = 3 := id rfl
theorem St3.one (n : St3) : n.arr.all (·.oneCell') = true := by simp [St3.arr, St3.cells, Value.oneCell']
theorem u_st3 : Tryz.prog.underlying 122 = some (.struct (Tryz.prog.fieldsOf 122)) := by kernel_rfl
theorem i_st3 : (Tryz.prog.info? 122).map (·.size) = some 3 := by kernel_rfl
@[go_sem ↓] theorem execOp_loadst3 (ρ : Operand → Value) (dst : Option Tmp) (x : Operand) (ty : TypeId) (pos : String) (after : Array Edge) (guard : Option (Nat × Bool)) :
    execOp ρ { dst, op := .load 122 x, type := ty, pos, after, guard } = (do pure (.value (← ldOp 122 (ρ x)))) := rfl
@[go_sem ↓] theorem execOp_storest3 (ρ : Operand → Value) (dst : Option Tmp) (x y : Operand) (ty : TypeId) (pos : String) (after : Array Edge) (guard : Option (Nat × Bool)) :
    execOp ρ { dst, op := .store 122 x y, type := ty, pos, after, guard } = (do stOp 122 (ρ x) (ρ y); pure .skip) := rfl
@[go_sem] theorem run_loadst3 (b o : Nat) (w : World) : (ldOp 122 (.pointer (some ⟨b, o, none⟩))).run Tryz.prog w = ldRow Tryz.prog 122 b o w (agg? w b o 3) := run_loadAt_row _ _ _ u_st3 rfl i_st3 b o w
@[go_sem] theorem run_storest3 (b o : Nat) (n : St3) (w : World) : (stOp 122 (.pointer (some ⟨b, o, none⟩)) (.agg n.arr)).run Tryz.prog w = stRow Tryz.prog 122 b o n.arr w (there? w b o 3) := run_storeAt_row _ _ i_st3 b o _ (St3.size_arr n) (St3.one n) w
def bdSt (parts : Array (Nat × Value)) : Sem Value := Instr.build 122 parts
@[go_sem ↓] theorem execOp_buildSt (ρ : Operand → Value) (dst : Option Tmp) (x : Array (Nat × Operand)) (ty : TypeId) (pos : String) (after : Array Edge) (guard : Option (Nat × Bool)) :
    execOp ρ { dst, op := .build 122 x, type := ty, pos, after, guard } = (do pure (.value (← bdSt (x.map fun (i, y) => (i, ρ y))))) := rfl
@[go_sem] theorem run_bdSt3 (a b c : Int) (w : World) : (bdSt #[(0, .int .i64 a), (1, .int .i64 b), (2, .int .i64 c)]).run Tryz.prog w = .ok (.agg (St3.mk a b c).arr) w := by kernel_rfl
@[go_sem] theorem run_bdSt1 (c : Int) (w : World) : (bdSt #[(2, .int .i64 c)]).run Tryz.prog w = .ok (.agg (St3.mk 0 0 c).arr) w := by kernel_rfl
set_option maxRecDepth 100000 in
theorem run_eqSt (a b : St3) (w : World) : (Op.equalIn 10000 122 (.agg a.arr) (.agg b.arr)).run Tryz.prog w = .ok (decide (a = b)) w := by
  simp only [St3.arr, St3.cells]
  simp [go_sem]
  by_cases h : a = b
  · subst h; simp
  · rw [decide_eq_false h]
    by_cases h0 : a.k = b.k
    case neg => rw [if_neg h0]
    rw [if_pos h0]
    by_cases h1 : a.line = b.line
    case neg => rw [if_neg h1]
    rw [if_pos h1]
    by_cases h2 : a.cls = b.cls
    case neg => rw [if_neg h2]
    exact absurd (by cases a; cases b; simp_all) h
theorem run_checkSt (a : St3) (e : Bool) (w : World) : (Instr.checkKey e 10000 122 (.agg a.arr)).run Tryz.prog w = .ok () w := by
  cases e <;> kernel_rfl
def stM (D : List (St3 × Nat)) : List (Value × Value) := D.map fun p => (.agg p.1.arr, .pointer (some ⟨p.2, 0, none⟩))
def getS : List (St3 × Nat) → St3 → Option Nat
  | [], _ => none
  | (k, p) :: r, a => if a = k then some p else getS r a
def idxS : List (St3 × Nat) → St3 → Nat → Option (Nat × Nat)
  | [], _, _ => none
  | (k, p) :: r, a, i => if a = k then some (i, p) else idxS r a (i + 1)
def upS : List (St3 × Nat) → St3 → Nat → List (St3 × Nat)
  | [], a, p => [(a, p)]
  | (k, q) :: r, a, p => if a = k then (k, p) :: r else (k, q) :: upS r a p
theorem getS_up : ∀ (D : List (St3 × Nat)) (a b : St3) (p : Nat), getS (upS D a p) b = if b = a then some p else getS D b
  | [], a, b, p => by simp [upS, getS]
  | (k, q) :: r, a, b, p => by
    unfold upS
    split
    · rename_i h
      subst h
      simp only [getS]
      split <;> rfl
    · rename_i h
      simp only [getS]
      rw [getS_up r a b p]
      by_cases h1 : b = k
      · rw [if_pos h1, if_pos h1, if_neg (fun e => h (by rw [← e, h1]))]
      · rw [if_neg h1, if_neg h1]
theorem getS_idx : ∀ (D : List (St3 × Nat)) (a : St3) (i : Nat), getS D a = (idxS D a i).map (·.2)
  | [], _, _ => rfl
  | (k, p) :: r, a, i => by
    unfold getS idxS
    split
    · rfl
    · exact getS_idx r a (i + 1)
theorem run_askSt (a : St3) (w : World) : ∀ (es : List MapEntry) (D : List (St3 × Nat)) (i : Nat), es.map (fun e => (e.key, e.val)) = stM D → (Instr.findAsking 122 (.agg a.arr) es i).run Tryz.prog w = .ok ((idxS D a i).map fun q => (q.1, .pointer (some ⟨q.2, 0, none⟩))) w
  | [], D, i, h => by
    cases D with
    | nil => rfl
    | cons p r => cases h
  | e :: es, D, i, h => by
    cases D with
    | nil => cases h
    | cons p r =>
      obtain ⟨k, q⟩ := p
      simp only [stM, List.map_cons, List.cons.injEq, Prod.mk.injEq] at h
      obtain ⟨⟨h1, h2⟩, h3⟩ := h
      unfold Instr.findAsking idxS
      rw [h1]
      have he : (Op.equal 122 (.agg a.arr) (.agg k.arr)).run Tryz.prog w = .ok (decide (a = k)) w := run_eqSt a k w
      simp only [Sem.run_bind, he, Result.andThen]
      by_cases hk : a = k
      · simp [hk, h2]
      · simp only [hk, decide_false, Bool.false_eq_true, if_false]
        exact run_askSt a w es r (i + 1) h3
theorem run_keySt (a : St3) (w : World) (es : List MapEntry) (D : List (St3 × Nat)) (h : es.map (fun e => (e.key, e.val)) = stM D) : (Instr.findKey 122 (.agg a.arr) es).run Tryz.prog w = .ok ((idxS D a 0).map fun q => (q.1, .pointer (some ⟨q.2, 0, none⟩))) w := by
  have ha := run_askSt a w es D 0 h
  unfold Instr.findKey
  simp only [Sem.run_bind, run_underlying u_st3, Result.andThen]
  cases es with
  | nil =>
    cases D with
    | nil => rfl
    | cons p r => cases h
  | cons e es =>
    cases D with
    | nil => cases h
    | cons p r =>
      simp only [stM, List.map_cons, List.cons.injEq, Prod.mk.injEq] at h
      have h1 : Instr.findNow (.struct (Tryz.prog.fieldsOf 122)) (.agg a.arr) (e :: es) 0 = none := by
        unfold Instr.findNow
        rw [h.1.1]
        rfl
      rw [h1]
      exact ha
def ptrO : Option Nat → Value
  | none => .pointer none
  | some p => .pointer (some ⟨p, 0, none⟩)
theorem run_lookSt {W : World} {mb : Nat} {D : List (St3 × Nat)} (h : MapV W mb (stM D)) (a : St3) :
    (Instr.lookup 119 (.map (some mb)) (.agg a.arr) false).run Tryz.prog W = .ok (ptrO (getS D a)) W := by
  obtain ⟨es, clock, hb, hes⟩ := h
  have hk := run_keySt a W es.toList D hes
  rw [getS_idx D a 0]
  cases hi : idxS D a 0 with
  | none =>
    rw [hi] at hk
    simp [Instr.lookup, run_underlying Tryz.underlying119, MapKept.run_getObj_map hb, run_checkSt, hk, Result.andThen, ptrO]
  | some q =>
    rw [hi] at hk
    simp [Instr.lookup, run_underlying Tryz.underlying119, MapKept.run_getObj_map hb, run_checkSt, hk, Result.andThen, ptrO]
theorem run_lookStOk {W : World} {mb : Nat} {D : List (St3 × Nat)} (h : MapV W mb (stM D)) (a : St3) :
    (Instr.lookup 119 (.map (some mb)) (.agg a.arr) true).run Tryz.prog W = .ok (.tuple #[ptrO (getS D a), .bool (getS D a).isSome]) W := by
  obtain ⟨es, clock, hb, hes⟩ := h
  have hk := run_keySt a W es.toList D hes
  rw [getS_idx D a 0]
  cases hi : idxS D a 0 with
  | none =>
    rw [hi] at hk
    simp [Instr.lookup, run_underlying Tryz.underlying119, MapKept.run_getObj_map hb, run_checkSt, hk, Result.andThen, ptrO]
  | some q =>
    rw [hi] at hk
    simp [Instr.lookup, run_underlying Tryz.underlying119, MapKept.run_getObj_map hb, run_checkSt, hk, Result.andThen, ptrO]
theorem up_none : ∀ (D : List (St3 × Nat)) (a : St3) (p i : Nat), idxS D a i = none → upS D a p = D ++ [(a, p)]
  | [], _, _, _, _ => rfl
  | (k, q) :: r, a, p, i, h => by
    unfold idxS at h
    split at h
    · cases h
    · rename_i hk
      unfold upS
      rw [if_neg hk, up_none r a p (i + 1) h]
      rfl
theorem up_some : ∀ (D : List (St3 × Nat)) (a : St3) (p i : Nat) (q : Nat × Nat), idxS D a i = some q → i ≤ q.1 ∧ D[q.1 - i]? = some (a, q.2) ∧ upS D a p = D.set (q.1 - i) (a, p)
  | [], _, _, _, _, h => by cases h
  | (k, x) :: r, a, p, i, q, h => by
    unfold idxS at h
    split at h
    · rename_i hk
      cases h
      subst hk
      simp [upS]
    · rename_i hk
      obtain ⟨h1, h2, h3⟩ := up_some r a p (i + 1) q h
      refine ⟨by omega, ?_, ?_⟩
      · rw [show q.1 - i = (q.1 - (i + 1)) + 1 by omega]
        simpa using h2
      · unfold upS
        rw [if_neg hk, h3, show q.1 - i = (q.1 - (i + 1)) + 1 by omega]
        rfl
theorem run_staySt (a : St3) (w : World) : (Instr.keyThatStays (.agg a.arr) (.agg a.arr)).run Tryz.prog w = .ok (.agg a.arr) w := by
  unfold Instr.keyThatStays
  have h : Instr.sameBits 10000 (.agg a.arr) (.agg a.arr) = true := by
    simp [Instr.sameBits, St3.arr, St3.cells]
  rw [if_pos h]
  rfl
theorem run_upSt {W : World} {mb : Nat} {D : List (St3 × Nat)} (h : MapV W mb (stM D)) (a : St3) (p : Nat) :
    ∃ w', (Instr.mapUpdate 119 (.map (some mb)) (.agg a.arr) (.pointer (some ⟨p, 0, none⟩))).run Tryz.prog W = .ok () w' ∧ MapV w' mb (stM (upS D a p)) ∧ W.grownBy w' (some mb) := by
  obtain ⟨es, clock, hb, hes⟩ := h
  have hk := run_keySt a W es.toList D hes
  cases hi : idxS D a 0 with
  | none =>
    rw [hi] at hk
    refine ⟨{ W with heap := W.heap.setIfInBounds mb (.map (es.push { key := .agg a.arr, val := .pointer (some ⟨p, 0, none⟩), born := clock }) (clock + 1)) }, ?_, ⟨_, _, (heap_set hb).1, ?_⟩, ⟨rfl, rfl, rfl, by simp, fun q hq hne => (heap_set hb).2 q fun e => hne (by rw [e])⟩⟩
    · simp [Instr.mapUpdate, run_underlying Tryz.underlying119, MapKept.run_getObj_map hb, run_checkSt, hk, MapKept.run_setObj_map _ hb, Result.andThen]
    · rw [Array.toList_push, List.map_append, hes, up_none D a p 0 hi]
      simp [stM]
  | some q =>
    rw [hi] at hk
    obtain ⟨_, h2, h3⟩ := up_some D a p 0 q hi
    rw [Nat.sub_zero] at h2 h3
    have he : ∃ e, es[q.1]? = some e ∧ e.key = .agg a.arr := by
      have h4 : (es.toList.map (fun e => (e.key, e.val)))[q.1]? = some (.agg a.arr, .pointer (some ⟨q.2, 0, none⟩)) := by
        rw [hes, stM, List.getElem?_map, h2]; rfl
      rw [List.getElem?_map] at h4
      cases h5 : es.toList[q.1]? with
      | none => rw [h5] at h4; cases h4
      | some e =>
        rw [h5] at h4
        simp only [Option.map_some, Option.some.injEq, Prod.mk.injEq] at h4
        exact ⟨e, by simpa using h5, h4.1⟩
    obtain ⟨e, he1, he2⟩ := he
    refine ⟨{ W with heap := W.heap.setIfInBounds mb (.map (es.modify q.1 fun e => { e with key := .agg a.arr, val := .pointer (some ⟨p, 0, none⟩) }) clock) }, ?_, ⟨_, _, (heap_set hb).1, ?_⟩, ⟨rfl, rfl, rfl, by simp, fun q hq hne => (heap_set hb).2 q fun e => hne (by rw [e])⟩⟩
    · simp [Instr.mapUpdate, run_underlying Tryz.underlying119, MapKept.run_getObj_map hb, run_checkSt, hk, MapKept.run_setObj_map _ hb, Result.andThen, he1, he2, run_staySt]
    · rw [h3, stM, List.map_set]
      apply List.ext_getElem?
      intro j
      rw [List.getElem?_map, List.getElem?_set]
      have h6 : ((D.map fun p => (Value.agg p.1.arr, Value.pointer (some ⟨p.2, 0, none⟩))))[j]? = (es.toList[j]?).map fun e => (e.key, e.val) := by
        have : (stM D)[j]? = (es.toList.map (fun e => (e.key, e.val)))[j]? := by rw [hes]
        rw [List.getElem?_map] at this
        exact this
      simp only [Array.toList_modify, List.getElem?_modify]
      by_cases hj : q.1 = j
      · subst hj
        have hlt : q.1 < es.size := (Array.getElem?_eq_some_iff.1 he1).1
        have hlt2 : q.1 < D.length := (List.getElem?_eq_some_iff.1 h2).1
        simp [hlt, hlt2]
      · rw [if_neg hj, h6]
        simp [hj]
theorem wpList_upSt {w : World} {ops : Array Oper} {rest : List Oper} {o : Oper} {a : Act} {Q : Exit → Act → World → Prop} (hg : o.guard = none) (m x v : Operand) (hop : o.op = Op.mapUpdate 119 m x v)
    (mb : Nat) (D : List (St3 × Nat)) (hm : a.eval m = .map (some mb)) (h : MapV w mb (stM D)) (k : St3) (p : Nat) (hx : a.eval x = .agg k.arr) (hv : a.eval v = .pointer (some ⟨p, 0, none⟩))
    (hK : ∀ w', MapV w' mb (stM (upS D k p)) → w.grownBy w' (some mb) → wpList Tryz.prog ops Q rest (a.put o.dst undef) w') : wpList Tryz.prog ops Q (o :: rest) a w := by
  refine wpList_plain hg fun K' hK' => ?_
  obtain ⟨w', hrun, r1, r2⟩ := run_upSt h k p
  unfold Oper.wp
  simp [execOp, hop, hm, hx, hv, hrun, Result.andThen]
  exact hK' _ _ (hK w' r1 r2)
end Go.Proofs.YtiijpbfkchokaaaGreat
