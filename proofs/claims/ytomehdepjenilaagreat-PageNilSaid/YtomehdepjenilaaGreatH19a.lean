/-
  The page builder: the table of ways; a row of pages.
-/
import Derived.Test.YtomehdepjenilaaGreatH22
namespace Go.Proofs.YtomehdepjenilaaGreat
open Go.ChangeShapes Go.WideShapes Go.ChangeAt Go.RowKit
set_option maxRecDepth 10000
abbrev wSolid : Value := .func (.func 88) #[] #[]
abbrev wPass : Value := .func (.func 89) #[] #[]
abbrev wLoose : Value := .func (.func 90) #[] #[]
abbrev wIns : Value := .func (.func 91) #[] #[]
def waysA : Array Value := #[.nilFunc, .nilFunc, .nilFunc, wSolid, wSolid, wSolid, .nilFunc, wLoose, wLoose, wLoose, .nilFunc, .nilFunc, wPass, wIns, wPass, .nilFunc, .nilFunc, .nilFunc]
abbrev nilsA : Array Value := #[.nilFunc, .nilFunc, .nilFunc, .nilFunc, .nilFunc, .nilFunc, .nilFunc, .nilFunc, .nilFunc, .nilFunc, .nilFunc, .nilFunc, .nilFunc, .nilFunc, .nilFunc, .nilFunc, .nilFunc, .nilFunc]
theorem waysA_one : waysA.all (·.oneCell') = true := by kernel_rfl
theorem u_wy : Tryz.prog.underlying 125 = some (.array 18 124) := by kernel_rfl
theorem i_wy : (Tryz.prog.info? 125).map (·.size) = some 18 := by kernel_rfl
def bdWy (parts : Array (Nat × Value)) : Sem Value := Instr.build 125 parts
@[go_sem ↓] theorem execOp_buildWy (ρ : Operand → Value) (dst : Option Tmp) (x : Array (Nat × Operand)) (ty : TypeId) (pos : String) (after : Array Edge) (guard : Option (Nat × Bool)) :
    execOp ρ { dst, op := .build 125 x, type := ty, pos, after, guard } = (do pure (.value (← bdWy (x.map fun (i, y) => (i, ρ y))))) := rfl
@[go_sem] theorem run_bdWy (w : World) : (bdWy #[(4, wSolid), (5, wSolid), (3, wSolid), (12, wPass), (14, wPass), (7, wLoose), (8, wLoose), (9, wLoose), (13, wIns)]).run Tryz.prog w = .ok (.agg waysA) w := by kernel_rfl
@[go_sem ↓] theorem execOp_storewy (ρ : Operand → Value) (dst : Option Tmp) (x y : Operand) (ty : TypeId) (pos : String) (after : Array Edge) (guard : Option (Nat × Bool)) :
    execOp ρ { dst, op := .store 125 x y, type := ty, pos, after, guard } = (do stOp 125 (ρ x) (ρ y); pure .skip) := rfl
@[go_sem] theorem run_storewy (b o : Nat) (w : World) : (stOp 125 (.pointer (some ⟨b, o, none⟩)) (.agg waysA)).run Tryz.prog w = stRow Tryz.prog 125 b o waysA w (there? w b o 18) := run_storeAt_row _ _ i_wy b o _ rfl waysA_one w
theorem setMany_wy : setMany nilsA 0 waysA.toList = waysA := by kernel_rfl
@[go_sem] theorem setAgg_wy (w : World) (t : TypeId) (b : Nat) (h : b = w.heap.size) : setAgg (w.alloc (.cells nilsA t)) b 0 waysA = w.alloc (.cells waysA t) := by
  subst h
  unfold setAgg
  rw [setCells_alloc_at, setMany_wy]
theorem ret_wy {fn : Func} {R : Ending → World → Prop} {a : Act} {w : World} {p : Tmp} (h : fn.results = #[.cell p 125]) (b o : Nat) (hp : a.tmps.getD p undef = .pointer (some ⟨b, o, none⟩)) (hc : agg? w b o 18 = some waysA) (hdf : a.defers = []) (hR : R (.returned (.agg waysA)) w) : bodyPost Tryz.prog fn R .ret a w :=
  ret_row _ _ _ u_wy rfl i_wy h b o _ hp hc hdf hR
set_option maxHeartbeats 4000000 in
theorem ways_any (w : World) : Calls Tryz.prog 65 #[] w fun e w' => e = .returned (.agg waysA) ∧ Below w.heap.size w w' := by
  go_enter Tryz.func65, Tryz.ntmps65
  go_wp2_with fail
  refine ret_wy rfl _ 0 rfl ?_ rfl ⟨rfl, (Below.refl _ _).alloc (Nat.le_refl _) _⟩
  have := (Cb.new w waysA 125).agg 0 18 (by show 0 + 18 ≤ 18; decide)
  rw [this]
  exact congrArg some (show waysA.extract 0 (0 + 18) = waysA by kernel_rfl)
/-! ### Rows of pages -/
def bsPg1 (parts : Array (Nat × Value)) : Sem Value := Instr.buildSlice 39 1 parts
@[go_sem ↓] theorem execOp_bsPg1 (ρ : Operand → Value) (dst : Option Tmp) (x : Array (Nat × Operand)) (ty : TypeId) (pos : String) (after : Array Edge) (guard : Option (Nat × Bool)) :
    execOp ρ { dst, op := .buildSlice 39 1 x, type := ty, pos, after, guard } = (do pure (.value (← bsPg1 (x.map fun (i, y) => (i, ρ y))))) := rfl
theorem fill_pg1 (n : Pc) : Instr.fill (fun i => some (i * 8, 8)) ((Array.range (1 * 8)).map ((Value.agg Pc.zero.arr).cells[· % (Value.agg Pc.zero.arr).cells.size]!)) [(0, .agg n.arr)] = some n.arr := by kernel_rfl
theorem info_pg : (Tryz.prog.info? 46).map (fun i => (i.zero, i.size, i.bytes)) = some (some (.agg Pc.zero.arr), 8, 136) := by kernel_rfl
@[go_sem] theorem run_bsPg1 (n : Pc) (w : World) : (bsPg1 #[(0, .agg n.arr)]).run Tryz.prog w = .ok (.slice (some ⟨w.heap.size, 0, none⟩) 1 1) (w.alloc (.cells n.arr 46)) := by
  obtain ⟨i, hi, hz, hs, hb⟩ := info_parts info_pg
  refine run_buildSlice w _ 46 1 _ n.arr i (.agg Pc.zero.arr) Tryz.underlying39 hi hz (by rw [hs]; decide) (by rw [hs]; decide) ?_
  rw [hs]
  exact fill_pg1 n
theorem pc_len (c : Pc) : c.cells.length = 8 := rfl
theorem pc_one (T : Pc) : ∀ u ∈ T.cells, u.oneCell' = true := fun u hu => by
  have := Pc.one T
  simp only [Pc.arr] at this
  exact List.all_eq_true.1 (by simpa using this) u hu
structure PgRow (w : World) (base : Nat) (v : Value) (out : List PgP) (Ts : List Pc) (own : Nat → Prop) : Prop where
  len : Ts.length = out.length
  row : w.ownsRow base 46 8 v Ts.length (Ts.flatMap Pc.cells)
  pg : ∀ (i : Nat) (T : Pc) (p : PgP), Ts[i]? = some T → out[i]? = some p → PgIn w base T p
  sep : ∀ T ∈ Ts, ∀ k, pgK T k → v.ownBlock ≠ some k ∧ ¬ own k
  off : ∀ k, v.ownBlock = some k → ¬ own k
theorem PgRow.nil (w : World) (base : Nat) (own : Nat → Prop) : PgRow w base (.slice none 0 0) [] [] own :=
  ⟨rfl, World.ownsRow_nil _ _ _ _, fun i T p h => by simp at h, fun T h => (by cases h), fun k h => (by cases h)⟩
theorem PgRow.at_ {w : World} {base : Nat} {v : Value} {out : List PgP} {Ts : List Pc} {own : Nat → Prop} (h : PgRow w base v out Ts own) {T : Pc} (hT : T ∈ Ts) : ∃ p, PgIn w base T p := by
  obtain ⟨i, hi, hiT⟩ := List.getElem_of_mem hT
  exact ⟨_, h.pg i T (out[i]'(by rw [← h.len]; exact hi)) (by rw [List.getElem?_eq_getElem hi, hiT]) (List.getElem?_eq_getElem _)⟩
theorem PgRow.frm {w w' : World} {base : Nat} {v : Value} {out : List PgP} {Ts : List Pc} {r r' : Nat → Option Nat} (h : PgRow w base v out Ts (owns r)) (hf : Frm (owns r) w w') (hl : later r r' w) : PgRow w' base v out Ts (owns r') := by
  refine ⟨h.len, ownsRow_same h.row fun g hg hlt => hf.block g hlt (h.off g hg), fun i T p h1 h2 => (h.pg i T p h1 h2).frm hf fun k hk9 => (h.sep T (List.mem_of_getElem? h1) k hk9).2, fun T hT k hk9 => ⟨(h.sep T hT k hk9).1, fun e => ?_⟩, fun k hk9 e => h.off k hk9 (hl.owns k (h.row.lt k hk9).2 e)⟩
  obtain ⟨p, hp⟩ := h.at_ hT
  exact (h.sep T hT k hk9).2 (hl.owns k (hp.ge k hk9).2 e)
theorem PgRow.below {w w' : World} {base : Nat} {v : Value} {out : List PgP} {Ts : List Pc} {own : Nat → Prop} (h : PgRow w base v out Ts own) (hb : Below w.heap.size w w') : PgRow w' base v out Ts own :=
  ⟨h.len, ownsRow_below h.row hb, fun i T p h1 h2 => (h.pg i T p h1 h2).frm (Frm.of_below (K := fun _ => False) hb) fun _ _ e => e, h.sep, h.off⟩
theorem PgRow.push {w w' : World} {base g cap : Nat} {v : Value} {out : List PgP} {Ts : List Pc} {own : Nat → Prop} {T : Pc} {p : PgP} (h : PgRow w base v out Ts own) (hT : PgIn w base T p) (hk : ∀ k, pgK T k → v.ownBlock ≠ some k ∧ ¬ own k) (hown : ∀ k, own k → k < w.heap.size)
    (ho : w'.ownsRow base 46 8 (.slice (some ⟨g, 0, none⟩) (Ts.length + 1) cap) (Ts.length + 1) (Ts.flatMap Pc.cells ++ T.cells)) (hg : (w.alloc (.cells T.arr 46)).grownBy w' v.ownBlock) (hat : v.ownBlock = some g ∨ g = (w.alloc (.cells T.arr 46)).heap.size) :
    PgRow w' base (.slice (some ⟨g, 0, none⟩) (Ts.length + 1) cap) (out ++ [p]) (Ts ++ [T]) own := by
  have hf : Frm (fun k => v.ownBlock = some k) w w' := ((Frm.refl _ _).alloc _).grown hg fun k e _ => e
  have hz : (w.alloc (.cells T.arr 46)).heap.size = w.heap.size + 1 := by simp
  have hgk : ∀ k, k < w.heap.size → v.ownBlock ≠ some k → k ≠ g := fun k h1 h2 e => by
    subst e
    rcases hat with h3 | h3
    · exact h2 h3
    · omega
  refine ⟨by simp [h.len], ?_, fun i X q h1 h2 => ?_, fun X hX k hk9 => ?_, fun k e => ?_⟩
  · rw [List.flatMap_append, List.flatMap_cons, List.flatMap_nil, List.append_nil, List.length_append, List.length_singleton]
    exact ho
  · by_cases hi : i < Ts.length
    · rw [List.getElem?_append_left hi] at h1
      rw [List.getElem?_append_left (by rw [← h.len]; exact hi)] at h2
      exact (h.pg i X q h1 h2).frm hf fun k hk9 e => (h.sep X (List.mem_of_getElem? h1) k hk9).1 e
    · have hi2 : i = Ts.length := by have := (List.getElem?_eq_some_iff.1 h1).1; simp at this; omega
      subst hi2
      rw [List.getElem?_append_right (Nat.le_refl _)] at h1
      rw [h.len, List.getElem?_append_right (Nat.le_refl _)] at h2
      simp only [Nat.sub_self, List.getElem?_cons_zero, Option.some.injEq] at h1 h2
      subst h1
      subst h2
      exact hT.frm hf fun k hk9 e => (hk k hk9).1 e
  · rcases List.mem_append.1 hX with hX | hX
    · obtain ⟨q, hq⟩ := h.at_ hX
      refine ⟨fun e => ?_, (h.sep X hX k hk9).2⟩
      simp only [Value.ownBlock, Option.some.injEq] at e
      exact hgk k (hq.ge k hk9).2 (h.sep X hX k hk9).1 e.symm
    · simp only [List.mem_singleton] at hX
      subst hX
      refine ⟨fun e => ?_, (hk k hk9).2⟩
      simp only [Value.ownBlock, Option.some.injEq] at e
      exact hgk k (hT.ge k hk9).2 (hk k hk9).1 e.symm
  · simp only [Value.ownBlock, Option.some.injEq] at e
    subst e
    rcases hat with h3 | h3
    · exact h.off g h3
    · intro ho9
      have := hown g ho9
      omega
end Go.Proofs.YtomehdepjenilaaGreat
