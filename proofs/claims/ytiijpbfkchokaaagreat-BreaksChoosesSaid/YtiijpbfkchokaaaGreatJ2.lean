/-
  The document's side of layer 9: what holds between two operations that make a way (Ways, the region of the literal).
-/
import Derived.Test.YtiijpbfkchokaaaGreatF28
import Derived.Test.YtiijpbfkchokaaaGreatJ1
import Derived.Maps.AppendAt
namespace Go.Proofs.YtiijpbfkchokaaaGreat
open Go.ChangeShapes Go.WideShapes Go.ChangeAt Go.RowKit
theorem info_intJ : (Tryz.prog.info? 3).map (fun i => (i.zero, i.size, i.bytes)) = some (some (.int .i64 0), 1, 8) := by kernel_rfl
theorem run_append_ints {w : World} {base : Nat} {v : Value} {n : Nat} {xs : List Value} (hown : w.ownsRow base 3 1 v n xs) {B : Nat} {x : Value} {L : List Int} {c0 : World} (hx : c0.ownsRow B 3 1 x L.length (ints L)) (hc : ∀ q, x.ownBlock = some q → q < c0.heap.size → w.heap[q]? = c0.heap[q]?) (hn : n + L.length ≤ 1000000) (hbase : base ≤ w.heap.size) (ty : TypeId) :
    ∃ v' w', (Builtin.append_ #[41, 41] ty #[v, x]).run Tryz.prog w = .ok v' w' ∧ w'.ownsRow base 3 1 v' (n + L.length) (xs ++ ints L) ∧ w.grownBy w' v.ownBlock ∧ (v'.ownBlock = v.ownBlock ∨ v'.ownBlock = some w.heap.size) := by
  obtain ⟨i, hi, hz, hs, hb⟩ := info_parts info_intJ
  have hx2 := ownsRow_same hx hc
  rcases hx.2 with ⟨rfl, h0⟩ | ⟨g, cap, cur, rfl, _⟩
  · have hr := run_append_owned_none (P := Tryz.prog) (w := w) base 41 ty 3 i 1 Tryz.underlying41 hi v n xs hown
    have hL : L = [] := List.eq_nil_of_length_eq_zero h0
    subst hL
    refine ⟨v, w, hr, ?_, ⟨rfl, rfl, rfl, Nat.le_refl _, fun _ _ _ => rfl⟩, .inl rfl⟩
    simpa [ints] using hown
  · obtain ⟨v', w', h1, h2, h3, _, h5⟩ := run_append_own_at (P := Tryz.prog) (w := w) base 41 ty 3 i (.int .i64 0) 1 8 Tryz.underlying41 hi hz hs hb rfl (by decide) v n xs hown ⟨g, 0, none⟩ L.length cap (ints L) (by simp [ints]) (hx2.cells (g := g) rfl) (fun u hu => by
      obtain ⟨z, _, rfl⟩ := List.mem_map.1 hu
      rfl) (by unfold maxLen; omega) (by omega) hbase
    exact ⟨v', w', h1, h2, h3, h5⟩
theorem below_grown {c w w' : World} {r : Option Nat} (h : Below c.heap.size c w) (hg : w.grownBy w' r) (hr : ∀ q, r = some q → c.heap.size ≤ q) : Below c.heap.size c w' :=
  ⟨hg.os.trans h.os, hg.tape.trans h.tape, hg.output.trans h.output, Nat.le_trans h.size hg.size, fun j hj => (hg.block j (Nat.lt_of_lt_of_le hj h.size) (fun e => by have := hr j e.symm; omega)).trans (h.block j hj)⟩
def Qw.at (y : Qw) (p : Option Addr) (n c : Nat) : Qw := { y with atA := p, atN := n, atC := c }
structure J19 (wc : World) (L : List Int) (zz : Int) (y : Qw) (m : Nat → Bool) (us : Nat → Value) (w : World) : Prop where
  below : Below wc.heap.size wc w
  d6 : m 6 = true → m 0 = true
  d12 : m 12 = true → m 6 = true ∧ m 11 = true
  d36 : m 36 = true → m 12 = true
  d38 : m 38 = true → m 36 = true ∧ m 37 = true
  s0 : m 0 = true → m 6 = false → w.ownsRow wc.heap.size 3 1 (us 0) 0 []
  s6 : m 6 = true → m 12 = false → w.ownsRow wc.heap.size 3 1 (us 6) L.length (ints L)
  s11 : m 11 = true → m 12 = false → ∃ g, us 11 = .slice (some ⟨g, 0, none⟩) 1 1 ∧ wc.heap.size ≤ g ∧ w.heap[g]? = some (.cells #[.int .i64 zz] 3 (0, 0)) ∧ (m 0 = true → m 6 = false → (us 0).ownBlock ≠ some g) ∧ (m 6 = true → (us 6).ownBlock ≠ some g)
  s12 : m 12 = true → w.ownsRow wc.heap.size 3 1 (us 12) (L.length + 1) (ints (L ++ [zz]))
  s36 : m 36 = true → ∃ p c, us 12 = .slice p (L.length + 1) c ∧ us 36 = .agg (y.at p (L.length + 1) c).arr
  s37 : m 37 = true → ∃ V x, us 37 = .pointer (some ⟨V, 0, none⟩) ∧ wc.heap.size ≤ V ∧ QwAt w V x ∧ (m 38 = true → us 36 = .agg x.arr)
section
variable {wc : World} {L : List Int} {zz : Int} {y : Qw} {m : Nat → Bool} {us : Nat → Value} {w : World}
theorem J19.init : J19 wc L zz y (fun _ => false) us wc.drew :=
  ⟨(Below.refl _ _).drew, by simp, by simp, by simp, by simp, by simp, by simp, by simp, by simp, by simp, by simp⟩
theorem J19.fresh (h : J19 wc L zz y m us w) {w' : World} (hb : Below w.heap.size w w') : J19 wc L zz y m us w' := by
  have hr : ∀ {v : Value} {n : Nat} {xs : List Value}, w.ownsRow wc.heap.size 3 1 v n xs → w'.ownsRow wc.heap.size 3 1 v n xs := fun hv => ownsRow_same hv fun q _ hq => hb.block q hq
  refine ⟨h.below.trans (hb.mono h.below.size), h.d6, h.d12, h.d36, h.d38, fun a b => hr (h.s0 a b), fun a b => hr (h.s6 a b), fun a b => ?_, fun a => hr (h.s12 a), h.s36, fun a => ?_⟩
  · obtain ⟨g, e1, e2, e3, e4⟩ := h.s11 a b
    exact ⟨g, e1, e2, (hb.block g (Array.getElem?_eq_some_iff.1 e3).1).trans e3, e4⟩
  · obtain ⟨V, x, e1, e2, e3, e4⟩ := h.s37 a
    exact ⟨V, x, e1, e2, e3.still hb, e4⟩
theorem off_of {b : Bool} (h : b = true → False) : b = false := by
  cases b with
  | false => rfl
  | true => exact (h rfl).elim
theorem J19.step0 (h : J19 wc L zz y m us w) (h0 : m 0 = false) : J19 wc L zz y (fun j => m j || j == 0) (fun j => if j = 0 then .slice (some ⟨w.heap.size, 0, none⟩) 0 0 else us j) (w.alloc (.cells #[] 3)) := by
  have h6 : m 6 = false := off_of fun e => by have := h.d6 e; rw [h0] at this; cases this
  have h2 := h.fresh ((Below.refl _ w).alloc (Nat.le_refl _) (.cells #[] 3))
  refine ⟨h2.below, by simp, by simpa using h2.d12, by simpa using h2.d36, by simpa using h2.d38, fun _ _ => ?_, by simpa using h2.s6, fun a b => ?_, by simpa using h2.s12, by simpa using h2.s36, by simpa using h2.s37⟩
  · exact ⟨rfl, .inr ⟨w.heap.size, 0, #[], rfl, h.below.size, heap_alloc_new w _, Nat.le_refl _, Nat.zero_le _, rfl, rfl⟩⟩
  · obtain ⟨g, e1, e2, e3, e4, e5⟩ := h.s11 (by simpa using a) (by simpa using b)
    obtain ⟨g', e1', e2', e3', _, _⟩ := h2.s11 (by simpa using a) (by simpa using b)
    rw [e1] at e1'
    simp only [Value.slice.injEq, Option.some.injEq, Addr.mk.injEq, and_true] at e1'
    obtain rfl : g = g' := e1'
    have hg := (Array.getElem?_eq_some_iff.1 e3).1
    refine ⟨g, by simpa using e1, e2, e3', fun _ _ => ?_, by simpa using e5⟩
    simp only [if_true, Value.ownBlock, ne_eq, Option.some.injEq]
    omega
theorem J19.grown (h : J19 wc L zz y m us w) {w' : World} {v : Value} {n : Nat} {xs : List Value} (hv : w.ownsRow wc.heap.size 3 1 v n xs) (hg : w.grownBy w' v.ownBlock) : Below wc.heap.size wc w' ∧ (∀ g c, w.heap[g]? = some c → v.ownBlock ≠ some g → w'.heap[g]? = some c) ∧ ∀ V x, QwAt w V x → QwAt w' V x := by
  refine ⟨below_grown h.below hg fun q hq => (hv.lt q hq).1, fun g c hc hne => (hg.block g (Array.getElem?_eq_some_iff.1 hc).1 (fun e => hne e.symm)).trans hc, fun V x hx => (hg.block V hx.lt (fun e => ?_)).trans hx⟩
  obtain ⟨cur, hc⟩ := row_typ hv e.symm
  have h2 : w.heap[V]? = _ := hx
  rw [hc] at h2
  simp only [Option.some.injEq, Obj.cells.injEq] at h2
  exact way_ne_int h2.2.1.symm
theorem J19.step6 (h : J19 wc L zz y m us w) (h6 : m 6 = false) (h0 : m 0 = true) {v' : Value} {w' : World} (hr : w'.ownsRow wc.heap.size 3 1 v' (0 + L.length) ([] ++ ints L)) (hg : w.grownBy w' (us 0).ownBlock) (ho : v'.ownBlock = (us 0).ownBlock ∨ v'.ownBlock = some w.heap.size) : J19 wc L zz y (fun j => m j || j == 6) (fun j => if j = 6 then v' else us j) w' := by
  obtain ⟨g1, g2, g3⟩ := h.grown (h.s0 h0 h6) hg
  have h12 : m 12 = false := off_of fun e => by have := (h.d12 e).1; rw [h6] at this; cases this
  have h36 : m 36 = false := off_of fun e => by have := h.d36 e; rw [h12] at this; cases this
  rw [Nat.zero_add, List.nil_append] at hr
  refine ⟨g1, by simp [h0], by simp [h12], by simpa using h.d36, by simpa using h.d38, by simp, fun _ _ => by simpa using hr, fun a b => ?_, by simp [h12], by simp [h36], fun a => ?_⟩
  · obtain ⟨g, e1, e2, e3, e4, e5⟩ := h.s11 (by simpa using a) h12
    have e6 := e4 h0 h6
    refine ⟨g, by simpa using e1, e2, g2 g _ e3 e6, by simp, fun _ => ?_⟩
    simp only [if_true]
    rcases ho with ho | ho
    · rw [ho]; exact e6
    · rw [ho]
      have := (Array.getElem?_eq_some_iff.1 e3).1
      simp only [ne_eq, Option.some.injEq]
      omega
  · obtain ⟨V, x, e1, e2, e3, e4⟩ := h.s37 (by simpa using a)
    exact ⟨V, x, by simpa using e1, e2, g3 V x e3, by simpa using e4⟩
theorem J19.step11 (h : J19 wc L zz y m us w) (h11 : m 11 = false) : J19 wc L zz y (fun j => m j || j == 11) (fun j => if j = 11 then .slice (some ⟨w.heap.size, 0, none⟩) 1 1 else us j) (w.alloc (.cells #[.int .i64 zz] 3)) := by
  have h12 : m 12 = false := off_of fun e => by have := (h.d12 e).2; rw [h11] at this; cases this
  have h2 := h.fresh ((Below.refl _ w).alloc (Nat.le_refl _) (.cells #[.int .i64 zz] 3))
  refine ⟨h2.below, by simpa using h2.d6, by simp [h12], by simpa using h2.d36, by simpa using h2.d38, by simpa using h2.s0, by simpa using h2.s6, fun a b => ⟨w.heap.size, by simp, h.below.size, heap_alloc_new w _, fun c d => ?_, fun c => ?_⟩, by simp [h12], by simpa using h2.s36, by simpa using h2.s37⟩
  · have c' : m 0 = true := by simpa using c
    have d' : m 6 = false := by simpa using d
    intro e
    have := ((h.s0 c' d').lt _ (by simpa using e)).2
    omega
  · have c' : m 6 = true := by simpa using c
    intro e
    have := ((h.s6 c' h12).lt _ (by simpa using e)).2
    omega
theorem J19.step12 (h : J19 wc L zz y m us w) (h12 : m 12 = false) (h6 : m 6 = true) (h11 : m 11 = true) {v' : Value} {w' : World} (hr : w'.ownsRow wc.heap.size 3 1 v' (L.length + [zz].length) (ints L ++ ints [zz])) (hg : w.grownBy w' (us 6).ownBlock) : J19 wc L zz y (fun j => m j || j == 12) (fun j => if j = 12 then v' else us j) w' := by
  obtain ⟨g1, g2, g3⟩ := h.grown (h.s6 h6 h12) hg
  have h36 : m 36 = false := off_of fun e => by have := h.d36 e; rw [h12] at this; cases this
  refine ⟨g1, by simpa using h.d6, fun _ => by simp [h6, h11], by simp [h36], by simpa using h.d38, fun _ b => ?_, by simp, by simp, fun _ => ?_, by simp [h36], fun a => ?_⟩
  · have b' : m 6 = false := by simpa using b
    rw [h6] at b'; cases b'
  · have : ints (L ++ [zz]) = ints L ++ ints [zz] := by simp [ints]
    rw [this]
    simpa using hr
  · obtain ⟨V, x, e1, e2, e3, e4⟩ := h.s37 (by simpa using a)
    exact ⟨V, x, by simpa using e1, e2, g3 V x e3, by simpa using e4⟩
theorem J19.step36 (h : J19 wc L zz y m us w) (h36 : m 36 = false) (h12 : m 12 = true) {p : Option Addr} {c : Nat} (hu : us 12 = .slice p (L.length + 1) c) : J19 wc L zz y (fun j => m j || j == 36) (fun j => if j = 36 then .agg (y.at p (L.length + 1) c).arr else us j) w := by
  have h38 : m 38 = false := off_of fun e => by have := (h.d38 e).1; rw [h36] at this; cases this
  refine ⟨h.below, by simpa using h.d6, by simpa using h.d12, fun _ => by simp [h12], by simp [h38], by simpa using h.s0, by simpa using h.s6, by simpa using h.s11, by simpa using h.s12, fun _ => ⟨p, c, by simpa using hu, by simp⟩, fun a => ?_⟩
  obtain ⟨V, x, e1, e2, e3, e4⟩ := h.s37 (by simpa using a)
  exact ⟨V, x, by simpa using e1, e2, e3, by simp [h38]⟩
theorem J19.step37 (h : J19 wc L zz y m us w) (h37 : m 37 = false) (x : Qw) : J19 wc L zz y (fun j => m j || j == 37) (fun j => if j = 37 then .pointer (some ⟨w.heap.size, 0, none⟩) else us j) (w.alloc (.cells x.arr 86)) := by
  have h38 : m 38 = false := off_of fun e => by have := (h.d38 e).2; rw [h37] at this; cases this
  have h2 := h.fresh ((Below.refl _ w).alloc (Nat.le_refl _) (.cells x.arr 86))
  exact ⟨h2.below, by simpa using h2.d6, by simpa using h2.d12, by simpa using h2.d36, by simp [h38], by simpa using h2.s0, by simpa using h2.s6, by simpa using h2.s11, by simpa using h2.s12, by simpa using h2.s36, fun _ => ⟨w.heap.size, x, by simp, h.below.size, heap_alloc_new w _, by simp [h38]⟩⟩
theorem J19.step38 (h : J19 wc L zz y m us w) (h36 : m 36 = true) (h37 : m 37 = true) {V : Nat} (hV : us 37 = .pointer (some ⟨V, 0, none⟩)) {x : Qw} (hx : us 36 = .agg x.arr) (u : Value) : J19 wc L zz y (fun j => m j || j == 38) (fun j => if j = 38 then u else us j) (setAgg w V 0 x.arr) := by
  obtain ⟨V', x', e1, e2, e3, _⟩ := h.s37 h37
  rw [hV] at e1
  simp only [Value.pointer.injEq, Option.some.injEq, Addr.mk.injEq, and_true] at e1
  obtain rfl : V = V' := e1
  have h12 := h.d36 h36
  have hk : KeepZ w (setAgg w V 0 x.arr) (some V) := KeepZ.setAgg e3 way_ne_int
  refine ⟨Below.setAgg h.below e2 _ _, by simpa using h.d6, by simpa using h.d12, by simpa using h.d36, fun _ => by simp [h36, h37], fun a b => ?_, fun a b => ?_, fun a b => ?_, fun a => ?_, by simpa using h.s36, fun _ => ⟨V, x, by simpa using hV, e2, e3.store, fun _ => by simpa using hx⟩⟩
  · have b' : m 6 = false := by simpa using b
    rw [(h.d12 h12).1] at b'; cases b'
  · have b' : m 12 = false := by simpa using b
    rw [h12] at b'; cases b'
  · have b' : m 12 = false := by simpa using b
    rw [h12] at b'; cases b'
  · have h9 := h.s12 h12
    have : (setAgg w V 0 x.arr).ownsRow wc.heap.size 3 1 (us 12) (L.length + 1) (ints (L ++ [zz])) := ownsRow_same h9 fun q hq hlt => hk.grown.block q hlt fun e => by
      cases e
      obtain ⟨cur, hc⟩ := row_typ h9 hq
      have h2 : w.heap[V]? = _ := e3
      rw [hc] at h2
      simp only [Option.some.injEq, Obj.cells.injEq] at h2
      exact way_ne_int h2.2.1.symm
    simpa using this
theorem J19.row11 (h : J19 wc L zz y m us w) (h11 : m 11 = true) (h12 : m 12 = false) : w.ownsRow wc.heap.size 3 1 (us 11) [zz].length (ints [zz]) := by
  obtain ⟨g, e1, e2, e3, _⟩ := h.s11 h11 h12
  rw [e1]
  exact ⟨rfl, .inr ⟨g, 1, _, rfl, e2, e3, Nat.le_refl _, by unfold maxLen; omega, rfl, rfl⟩⟩
theorem J19.end (h : J19 wc L zz y m us w) (h38 : m 38 = true) : ∃ V p c, us 37 = .pointer (some ⟨V, 0, none⟩) ∧ wc.heap.size ≤ V ∧ QwAt w V (y.at p (L.length + 1) c) ∧ w.ownsRow wc.heap.size 3 1 (.slice p (L.length + 1) c) (L.length + 1) (ints (L ++ [zz])) := by
  obtain ⟨h36, h37⟩ := h.d38 h38
  obtain ⟨V, x, e1, e2, e3, e4⟩ := h.s37 h37
  obtain ⟨p, c, f1, f2⟩ := h.s36 h36
  have h12 := h.s12 (h.d36 h36)
  rw [f1] at h12
  refine ⟨V, p, c, e1, e2, ?_, h12⟩
  have e5 := e4 h38
  rw [f2] at e5
  simp only [Value.agg.injEq] at e5
  unfold QwAt at e3 ⊢
  rw [e5]
  exact e3
end
theorem run_bs0 (w : World) : (Instr.buildSlice 41 0 #[]).run Tryz.prog w = .ok (.slice (some ⟨w.heap.size, 0, none⟩) 0 0) (w.alloc (.cells #[] 3)) := by
  obtain ⟨i, hi, hz, hs, hb⟩ := info_parts info_intJ
  simp [Instr.buildSlice, run_underlying Tryz.underlying41, sizeOf, typeInfo, hi, newRow, Instr.fill]
  exact congrArg (fun c => w.alloc (.cells c 3)) (Array.eq_empty_of_size_eq_zero (by simp))
theorem fill_i1 (z : Int) : Instr.fill (fun i => some (i * 1, 1)) ((Array.range (1 * 1)).map ((Value.int .i64 0).cells[· % (Value.int .i64 0).cells.size]!)) [(0, .int .i64 z)] = some #[.int .i64 z] := by kernel_rfl
theorem run_bs1 (w : World) (z : Int) : (Instr.buildSlice 41 1 #[(0, .int .i64 z)]).run Tryz.prog w = .ok (.slice (some ⟨w.heap.size, 0, none⟩) 1 1) (w.alloc (.cells #[.int .i64 z] 3)) := by
  obtain ⟨i, hi, hz, hs, hb⟩ := info_parts info_intJ
  refine run_buildSlice w _ 3 1 _ _ i (.int .i64 0) Tryz.underlying41 hi hz (by rw [hs]; decide) (by rw [hs]; decide) ?_
  rw [hs]
  exact fill_i1 z
section
variable {P : Program} {o : Oper} {a : Act} {w : World} {K : Act → World → Prop} {Q : Exit → Act → World → Prop}
theorem wp_bs0 (ho : o.op = .buildSlice 41 0 #[]) (h : K (a.put o.dst (.slice (some ⟨w.heap.size, 0, none⟩) 0 0)) (w.alloc (.cells #[] 3))) : o.wp Tryz.prog a w K Q := by
  unfold Oper.wp execOp
  simp only [ho, Sem.run_bind]
  have := run_bs0 w
  simp only [List.map_toArray, List.map_nil, this, Result.andThen_ok]
  exact h
theorem wp_bs1 (x : Operand) (z : Int) (ho : o.op = .buildSlice 41 1 #[(0, x)]) (hx : a.eval x = .int .i64 z) (h : K (a.put o.dst (.slice (some ⟨w.heap.size, 0, none⟩) 1 1)) (w.alloc (.cells #[.int .i64 z] 3))) : o.wp Tryz.prog a w K Q := by
  unfold Oper.wp execOp
  simp only [ho, Sem.run_bind]
  have := run_bs1 w z
  simp only [List.map_toArray, List.map_cons, List.map_nil, hx, this, Result.andThen_ok]
  exact h
theorem wp_appI (s x : Operand) (t : TypeId) (ho : o.op = .call { callee := .builtin .append, args := #[s, x], argTypes := #[t, t] }) (vs vx : Value) (hs : a.eval s = vs) (hx : a.eval x = vx) {v' : Value} {w' : World} (hr : (Builtin.append_ #[t, t] o.type #[vs, vx]).run P w = .ok v' w') (h : K (a.put o.dst v') w') : o.wp P a w K Q := by
  unfold Oper.wp execOp
  simp only [ho, resolve, invoke, builtin, Sem.run_bind, Sem.run_pure, Result.andThen_ok, List.map_toArray, List.map_cons, List.map_nil, hs, hx, hr]
  exact h
end
end Go.Proofs.YtiijpbfkchokaaaGreat
