/-
  Rows of nodes in memory; which nodes open, which are small; whether a row is a list (plain).
-/
import Derived.Test.YtomehdepjenilaaGreatEq
import Derived.Test.YtomehdepjenilaaGreatNodes6
import Derived.Deep.AppendLies
import Derived.Laws.OwnMore
import Derived.OwnWalk
import Derived.Great.BuildSlice
set_option maxHeartbeats 1000000
namespace Go.Proofs.YtomehdepjenilaaGreat
open Go.ChangeShapes Go.WideShapes Go.ChangeAt Go.RowKit

/-! ### Small things -/
theorem agg_cell {w : World} {b o n : Nat} {c : Array Value} (h : agg? w b o n = some c) (k : Nat) (v : Value) (hk : c[k]? = some v) : w.cell? ⟨b, o + k, none⟩ = some v := by
  obtain ⟨hs, hr⟩ := rangeAt_of_agg? h
  exact hr k v (by simpa using hk)
theorem agg_of_cells {w : World} {b o n : Nat} {c : Array Value} (hn : 0 < n) (hs : c.size = n) (h : ∀ k, k < n → w.cell? ⟨b, o + k, none⟩ = c[k]?) : agg? w b o n = some c := by
  have h0 := h 0 hn
  rw [Array.getElem?_eq_getElem (by omega)] at h0
  unfold World.cell? at h0
  split at h0
  · rename_i C t fr hb
    simp only at hb
    have h1 : ∀ k, k < n → C[o + k]? = c[k]? := fun k hk => by rw [← h k hk, cell?_blk' hb]
    have hlast := h1 (n - 1) (by omega)
    rw [Array.getElem?_eq_getElem (show n - 1 < c.size by omega)] at hlast
    have hsz : o + (n - 1) < C.size := (Array.getElem?_eq_some_iff.1 hlast).1
    unfold agg?
    rw [hb]
    simp only
    rw [if_pos (by omega)]
    congr 1
    apply Array.ext_getElem?
    intro k
    rw [Array.getElem?_extract]
    split
    · exact h1 k (by omega)
    · rw [Array.getElem?_eq_none (by omega)]
  · cases h0
theorem agg?_block {w w' : World} {k o n : Nat} (h : w'.heap[k]? = w.heap[k]?) : agg? w' k o n = agg? w k o n := by unfold agg?; rw [h]
@[go_sem] theorem heap_drewN (w : World) (n : Nat) : (w.drewN n).heap = w.heap := rfl
@[go_sem] theorem agg?_drewN (w : World) (n b o m : Nat) : agg? (w.drewN n) b o m = agg? w b o m := rfl
@[go_sem] theorem there?_drewN (w : World) (n b o m : Nat) : there? (w.drewN n) b o m = there? w b o m := rfl
theorem there_blk {w : World} {X : Nat} {c : Array Value} {t : TypeId} (h : w.heap[X]? = some (.cells c t (0, 0))) (o n : Nat) (hn : o + n ≤ c.size) : there? w X o n = true := by
  unfold there?; rw [h]; simpa using hn
theorem ownsRow_same {w w' : World} {base : Nat} {e : TypeId} {size : Nat} {v : Value} {n : Nat} {xs : List Value} (h : w.ownsRow base e size v n xs) (hs : ∀ g, v.ownBlock = some g → g < w.heap.size → w'.heap[g]? = w.heap[g]?) : w'.ownsRow base e size v n xs := by
  obtain ⟨hl, h | ⟨g, cap, cur, rfl, hb, hg, hr⟩⟩ := h
  · exact ⟨hl, .inl h⟩
  · exact ⟨hl, .inr ⟨g, cap, cur, rfl, hb, (hs g rfl (Array.getElem?_eq_some_iff.1 hg).1).trans hg, hr⟩⟩
theorem ownsRow_below {w w' : World} {base : Nat} {e : TypeId} {size : Nat} {v : Value} {n : Nat} {xs : List Value} (h : w.ownsRow base e size v n xs) (hb : Below w.heap.size w w') : w'.ownsRow base e size v n xs :=
  ownsRow_same h fun g _ hlt => hb.block g hlt
theorem ownsRow_base {w : World} {base base' : Nat} {e : TypeId} {size : Nat} {v : Value} {n : Nat} {xs : List Value} (h : w.ownsRow base e size v n xs) (hb : base' ≤ base) : w.ownsRow base' e size v n xs := by
  obtain ⟨hl, h | ⟨g, cap, cur, rfl, hg, hr⟩⟩ := h
  · exact ⟨hl, .inl h⟩
  · exact ⟨hl, .inr ⟨g, cap, cur, rfl, Nat.le_trans hb hg, hr⟩⟩
theorem below_drewN {B : Nat} {w w' : World} (h : Below B w w') (n : Nat) : Below B w (w'.drewN n) := ⟨h.os, h.tape, h.output, h.size, h.block⟩
theorem below_drewN_refl (B : Nat) (w : World) (n : Nat) : Below B w (w.drewN n) := below_drewN (Below.refl _ _) n

/-! ### Rows of whole numbers -/
def ints (l : List Int) : List Value := l.map (Value.int .i64)
theorem ints_append (a b : List Int) : ints (a ++ b) = ints a ++ ints b := by simp [ints]
theorem info_int : (Tryz.prog.info? 3).map (fun i => (i.zero, i.size, i.bytes)) = some (some (.int .i64 0), 1, 8) := by kernel_rfl
theorem ints_idx (l : List Int) (i : Nat) : (ints l)[i]? = (l[i]?).map (Value.int .i64) := by simp [ints]
theorem ints_lset (l : List Int) (i : Nat) (x : Int) : (ints l).set i (.int .i64 x) = ints (l.set i x) := by simp [ints, List.map_set]
theorem ints_take (l : List Int) (i : Nat) : (ints l).take i = ints (l.take i) := by simp [ints]
theorem ints_len (l : List Int) : (ints l).length = l.length := by simp [ints]

/-! ### Rows of nodes -/
theorem info_node : (Tryz.prog.info? 49).map (fun i => (i.zero, i.size, i.bytes)) = some (some (.agg Nd.zero.arr), 19, 160) := by kernel_rfl
structure NIn (w : World) (p : Option Addr) (b off cap : Nat) (L : List Nd) : Prop where
  hp : L ≠ [] → p = some ⟨b, off, none⟩
  hb : L ≠ [] → b < w.heap.size
  nd : ∀ j, (h : j < L.length) → agg? w b (off + j * 19) 19 = some L[j].arr
  cap' : L.length ≤ cap
  len : L.length * 160 ≤ 140737488351232
section
variable {w w' : World} {p : Option Addr} {b off cap : Nat} {L : List Nd}
theorem NIn.below (h : NIn w p b off cap L) (hb : Below w.heap.size w w') : NIn w' p b off cap L :=
  ⟨h.hp, fun e => Nat.lt_of_lt_of_le (h.hb e) hb.size, fun j hj => ((bfacts hb).2.2.1 _ _ _ (h.hb (by intro e; rw [e] at hj; simp at hj))).trans (h.nd j hj), h.cap', h.len⟩
theorem NIn.drew (h : NIn w p b off cap L) : NIn w.drew p b off cap L := ⟨h.hp, h.hb, h.nd, h.cap', h.len⟩
theorem NIn.ne (_h : NIn w p b off cap L) {j : Nat} (hj : j < L.length) : L ≠ [] := by intro e; rw [e] at hj; simp at hj
theorem NIn.at_ (h : NIn w p b off cap L) {j : Nat} (hj : j < L.length) : p = some ⟨b, off, none⟩ := h.hp (h.ne hj)
theorem NIn.lt (h : NIn w p b off cap L) {j : Nat} (hj : j < L.length) : b < w.heap.size := h.hb (h.ne hj)
theorem NIn.drop (h : NIn w p b off cap L) (k : Nat) (hk : k ≤ L.length) : NIn w (p.map fun a => ⟨a.block, a.off + k * 19, a.spot⟩) b (off + k * 19) (cap - k) (L.drop k) := by
  refine ⟨fun e => ?_, fun e => h.hb fun e2 => e (by rw [e2]; simp), fun j hj => ?_, ?_, ?_⟩
  · rw [h.hp fun e2 => e (by rw [e2]; simp)]; rfl
  · have hj' : k + j < L.length := by simp at hj; omega
    have := h.nd (k + j) hj'
    rw [Nat.add_mul, ← Nat.add_assoc] at this
    rw [this, List.getElem_drop]
  · have := h.cap'; simp; omega
  · have := h.len; simp; omega
theorem NIn.take (h : NIn w p b off cap L) (k : Nat) : NIn w p b off cap (L.take k) := by
  refine ⟨fun e => h.hp fun e2 => e (by rw [e2]; simp), fun e => h.hb fun e2 => e (by rw [e2]; simp), fun j hj => ?_, ?_, ?_⟩
  · have hj' : j < L.length := by simp at hj; omega
    rw [h.nd j hj', List.getElem_take]
  · have := h.cap'; simp; omega
  · have := h.len; simp; omega
end
theorem flat_nodes : ∀ (L : List Nd) (i : Nat) (hi : i < L.length), ((L.flatMap Nd.cells).drop (i * 19)).take 19 = L[i].cells
  | s :: r, 0, _ => by
    rw [Nat.zero_mul, List.drop_zero, List.flatMap_cons, List.getElem_cons_zero]
    exact List.take_left' rfl
  | s :: r, i + 1, hi => by
    rw [List.flatMap_cons, show (i + 1) * 19 = s.cells.length + i * 19 by rw [show s.cells.length = 19 from rfl]; omega, List.drop_append, List.getElem_cons_succ]
    rw [List.drop_eq_nil_of_le (by omega), List.nil_append, Nat.add_sub_cancel_left]
    exact flat_nodes r i (by simpa using hi)
theorem flat_len : ∀ L : List Nd, (L.flatMap Nd.cells).length = L.length * 19
  | [] => rfl
  | s :: r => by rw [List.flatMap_cons, List.length_append, flat_len r, show s.cells.length = 19 from rfl, List.length_cons]; omega
theorem row_nodes {w : World} {B : Nat} {v : Value} {n : Nat} {L : List Nd} (h : w.ownsRow B 49 19 v n (L.flatMap Nd.cells)) (hlen : L.length * 160 ≤ 140737488351232) :
    L.length = n ∧ ∃ p g cap, v = .slice p L.length cap ∧ NIn w p g 0 cap L ∧ (L ≠ [] → B ≤ g) := by
  obtain ⟨hl, h2⟩ := h
  have hn : L.length = n := by rw [flat_len] at hl; omega
  subst hn
  refine ⟨rfl, ?_⟩
  rcases h2 with ⟨rfl, h0⟩ | ⟨g, cap, cur, rfl, hb, hg, hn, hm, hs, ht⟩
  · have hL : L = [] := List.length_eq_zero_iff.1 h0
    subst hL
    exact ⟨none, 0, 0, rfl, ⟨fun e => absurd rfl e, fun e => absurd rfl e, fun j hj => by simp at hj, Nat.le_refl _, by simp⟩, fun e => absurd rfl e⟩
  · refine ⟨_, g, cap, rfl, ⟨fun _ => rfl, fun _ => (Array.getElem?_eq_some_iff.1 hg).1, fun i hi => ?_, hn, hlen⟩, fun _ => hb⟩
    have h1 : i * 19 + 19 ≤ L.length * 19 := by omega
    have h2 : L.length * 19 ≤ cap * 19 := Nat.mul_le_mul_right _ hn
    unfold agg?
    rw [hg]
    simp only
    rw [if_pos (by omega)]
    congr 1
    have e := flat_nodes L i hi
    rw [← ht, List.drop_take, List.take_take, Nat.min_eq_left (by omega)] at e
    show cur.extract (0 + i * 19) (0 + i * 19 + 19) = (L[i]).cells.toArray
    rw [← e]
    apply Array.ext'
    simp [List.take_drop]
theorem NIn.news {w : World} {p : Option Addr} {b off cap : Nat} {L : List Nd} (h : NIn w p b off cap L) : ∀ j u, (L.flatMap Nd.cells)[j]? = some u → w.cell? ((⟨b, off, none⟩ : Addr).add j) = some u := fun j u hu => by
  have hj : j < L.length * 19 := by have := (List.getElem?_eq_some_iff.1 hu).1; rwa [flat_len] at this
  have hi : j / 19 < L.length := by omega
  have h1 := agg_cell (h.nd (j / 19) hi) (j % 19) u (by
    have e := flat_nodes L (j / 19) hi
    have : (L[j / 19].cells)[j % 19]? = some u := by
      rw [← e, List.getElem?_take_of_lt (by omega), List.getElem?_drop, show j / 19 * 19 + j % 19 = j by omega]
      exact hu
    rw [← this]
    simp [Nd.arr])
  have hadd : (⟨b, off, none⟩ : Addr).add j = ⟨b, off + j, none⟩ := by unfold Addr.add; split <;> simp_all
  rw [hadd, ← h1]
  congr 2
  omega
theorem nodes_one (L : List Nd) : ∀ u ∈ L.flatMap Nd.cells, u.oneCell' = true := by
  intro u hu
  obtain ⟨n, _, hn⟩ := List.mem_flatMap.1 hu
  have := Nd.one n
  simp only [Nd.arr] at this
  have := List.all_eq_true.1 (by simpa using this) u hn
  exact this
def smallK (k : Int) : Bool := k == 1 || k == 2 || k == 8 || k == 3 || k == 4 || k == 5
def opensK (k : Int) : Bool := k == 4 || k == 5 || k == 10 || k == 13 || k == 17
theorem small_any (n : Nd) (w : World) : Calls Tryz.prog 97 #[.agg n.arr] w fun e w' => e = .returned (.bool (smallK n.kind)) ∧ Below w.heap.size w w' := by
  cases h0 : (n.kind == 1)
  rotate_left
  · go_enter Tryz.func97, Tryz.ntmps97
    go_wp2_with fail
    go_ret
    exact ⟨ret_bool (by simp [smallK, h0]), (Below.refl _ _).alloc (Nat.le_refl _) _⟩
  cases h1 : (n.kind == 2)
  rotate_left
  · go_enter Tryz.func97, Tryz.ntmps97
    go_wp2_with fail
    go_ret
    exact ⟨ret_bool (by simp [smallK, h0, h1]), (Below.refl _ _).alloc (Nat.le_refl _) _⟩
  cases h2 : (n.kind == 8)
  rotate_left
  · go_enter Tryz.func97, Tryz.ntmps97
    go_wp2_with fail
    go_ret
    exact ⟨ret_bool (by simp [smallK, h0, h1, h2]), (Below.refl _ _).alloc (Nat.le_refl _) _⟩
  cases h3 : (n.kind == 3)
  rotate_left
  · go_enter Tryz.func97, Tryz.ntmps97
    go_wp2_with fail
    go_ret
    exact ⟨ret_bool (by simp [smallK, h0, h1, h2, h3]), (Below.refl _ _).alloc (Nat.le_refl _) _⟩
  cases h4 : (n.kind == 4)
  rotate_left
  · go_enter Tryz.func97, Tryz.ntmps97
    go_wp2_with fail
    go_ret
    exact ⟨ret_bool (by simp [smallK, h0, h1, h2, h3, h4]), (Below.refl _ _).alloc (Nat.le_refl _) _⟩
  cases h5 : (n.kind == 5)
  rotate_left
  · go_enter Tryz.func97, Tryz.ntmps97
    go_wp2_with fail
    go_ret
    exact ⟨ret_bool (by simp [smallK, h0, h1, h2, h3, h4, h5]), (Below.refl _ _).alloc (Nat.le_refl _) _⟩
  go_enter Tryz.func97, Tryz.ntmps97
  go_wp2_with fail
  go_ret
  exact ⟨ret_bool (by simp [smallK, h0, h1, h2, h3, h4, h5]), (Below.refl _ _).alloc (Nat.le_refl _) _⟩
theorem opens_any (n : Nd) (w : World) : Calls Tryz.prog 98 #[.agg n.arr] w fun e w' => e = .returned (.bool (opensK n.kind)) ∧ Below w.heap.size w w' := by
  cases h0 : (n.kind == 4)
  rotate_left
  · go_enter Tryz.func98, Tryz.ntmps98
    go_wp2_with fail
    go_ret
    exact ⟨ret_bool (by simp [opensK, h0]), (Below.refl _ _).alloc (Nat.le_refl _) _⟩
  cases h1 : (n.kind == 5)
  rotate_left
  · go_enter Tryz.func98, Tryz.ntmps98
    go_wp2_with fail
    go_ret
    exact ⟨ret_bool (by simp [opensK, h0, h1]), (Below.refl _ _).alloc (Nat.le_refl _) _⟩
  cases h2 : (n.kind == 10)
  rotate_left
  · go_enter Tryz.func98, Tryz.ntmps98
    go_wp2_with fail
    go_ret
    exact ⟨ret_bool (by simp [opensK, h0, h1, h2]), (Below.refl _ _).alloc (Nat.le_refl _) _⟩
  cases h3 : (n.kind == 13)
  rotate_left
  · go_enter Tryz.func98, Tryz.ntmps98
    go_wp2_with fail
    go_ret
    exact ⟨ret_bool (by simp [opensK, h0, h1, h2, h3]), (Below.refl _ _).alloc (Nat.le_refl _) _⟩
  cases h4 : (n.kind == 17)
  rotate_left
  · go_enter Tryz.func98, Tryz.ntmps98
    go_wp2_with fail
    go_ret
    exact ⟨ret_bool (by simp [opensK, h0, h1, h2, h3, h4]), (Below.refl _ _).alloc (Nat.le_refl _) _⟩
  go_enter Tryz.func98, Tryz.ntmps98
  go_wp2_with fail
  go_ret
  exact ⟨ret_bool (by simp [opensK, h0, h1, h2, h3, h4]), (Below.refl _ _).alloc (Nat.le_refl _) _⟩

/-! ### Is it a list? -/
def stepC (k : Int) (st : List Int) (d : Int) : Option (List Int × Int) :=
  if k = 6 then (match st.getLast? with | none => none | some x => if 0 < x then none else some (st.dropLast, d))
  else if k = 11 then (match st.getLast? with | none => none | some x => if x < 1 then none else some (st.set (st.length - 1) (x - 1), d))
  else if (match st.getLast? with | none => false | some x => decide (0 ≤ x) && !smallK k) then none
  else some (if opensK k then st ++ [if k = 10 then 2 else -1] else st, max d (st.length + 1))
def runC : List Nd → List Int → Int → Option (List Int × Int)
  | [], st, d => some (st, d)
  | n :: l, st, d => if rightB n then (stepC n.kind st d).bind fun s => runC l s.1 s.2 else none
def codeC : Option (List Int × Int) → Int
  | none => 50
  | some (st, d) => if 0 < st.length then 50 else if 40 < d then 51 else 0
def checkC (L : List Nd) : Int := if 2000 < L.length then 6 else codeC (runC L [] 0)

def bsNd1 (parts : Array (Nat × Value)) : Sem Value := Instr.buildSlice 27 1 parts
def bsNd2 (parts : Array (Nat × Value)) : Sem Value := Instr.buildSlice 27 2 parts
@[go_sem ↓] theorem execOp_bsNd1 (ρ : Operand → Value) (dst : Option Tmp) (x : Array (Nat × Operand)) (ty : TypeId) (pos : String) (after : Array Edge) (guard : Option (Nat × Bool)) :
    execOp ρ { dst, op := .buildSlice 27 1 x, type := ty, pos, after, guard } = (do pure (.value (← bsNd1 (x.map fun (i, y) => (i, ρ y))))) := rfl
@[go_sem ↓] theorem execOp_bsNd2 (ρ : Operand → Value) (dst : Option Tmp) (x : Array (Nat × Operand)) (ty : TypeId) (pos : String) (after : Array Edge) (guard : Option (Nat × Bool)) :
    execOp ρ { dst, op := .buildSlice 27 2 x, type := ty, pos, after, guard } = (do pure (.value (← bsNd2 (x.map fun (i, y) => (i, ρ y))))) := rfl
theorem fill_nd1 (n : Nd) : Instr.fill (fun i => some (i * 19, 19)) ((Array.range (1 * 19)).map ((Value.agg Nd.zero.arr).cells[· % (Value.agg Nd.zero.arr).cells.size]!)) [(0, .agg n.arr)] = some n.arr := by kernel_rfl
theorem fill_nd2 (n m : Nd) : Instr.fill (fun i => some (i * 19, 19)) ((Array.range (2 * 19)).map ((Value.agg Nd.zero.arr).cells[· % (Value.agg Nd.zero.arr).cells.size]!)) [(0, .agg n.arr), (1, .agg m.arr)] = some (n.cells ++ m.cells).toArray := by kernel_rfl
theorem info_nd0 : (Tryz.prog.info? 49).map (fun i => (i.zero, i.size)) = some (some (.agg Nd.zero.arr), 19) := by kernel_rfl
@[go_sem] theorem run_bsNd1 (n : Nd) (w : World) : (bsNd1 #[(0, .agg n.arr)]).run Tryz.prog w = .ok (.slice (some ⟨w.heap.size, 0, none⟩) 1 1) (w.alloc (.cells n.arr 49)) := by
  obtain ⟨i, hi, hzz⟩ := Option.map_eq_some_iff.1 info_nd0
  simp only [Prod.mk.injEq] at hzz
  obtain ⟨hz, hs⟩ := hzz
  refine run_buildSlice w _ 49 1 _ n.arr i (.agg Nd.zero.arr) Tryz.underlying27 hi hz (by rw [hs]; decide) (by rw [hs]; decide) ?_
  rw [hs]
  exact fill_nd1 n
@[go_sem] theorem run_bsNd2 (n m : Nd) (w : World) : (bsNd2 #[(0, .agg n.arr), (1, .agg m.arr)]).run Tryz.prog w = .ok (.slice (some ⟨w.heap.size, 0, none⟩) 2 2) (w.alloc (.cells (n.cells ++ m.cells).toArray 49)) := by
  obtain ⟨i, hi, hzz⟩ := Option.map_eq_some_iff.1 info_nd0
  simp only [Prod.mk.injEq] at hzz
  obtain ⟨hz, hs⟩ := hzz
  refine run_buildSlice w _ 49 2 _ _ i (.agg Nd.zero.arr) Tryz.underlying27 hi hz (by rw [hs]; decide) (by rw [hs]; decide) ?_
  rw [hs]
  exact fill_nd2 n m
theorem nodes_blk {w : World} {L : List Nd} {g : Nat} (h : w.heap[g]? = some (.cells (L.flatMap Nd.cells).toArray 49 (0, 0))) (hlen : L.length * 160 ≤ 140737488351232) : NIn w (some ⟨g, 0, none⟩) g 0 L.length L := by
  refine ⟨fun _ => rfl, fun _ => (Array.getElem?_eq_some_iff.1 h).1, fun i hi => ?_, Nat.le_refl _, hlen⟩
  have hs : (L.flatMap Nd.cells).toArray.size = L.length * 19 := by rw [List.size_toArray, flat_len]
  rw [agg?_blk' h _ _ (by rw [hs]; omega)]
  congr 1
  have e := flat_nodes L i hi
  show _ = (L[i]).cells.toArray
  rw [← e]
  apply Array.ext'
  simp [List.take_drop]
end Go.Proofs.YtomehdepjenilaaGreat
namespace Go.Proofs.YtomehdepjenilaaGreat
open Go.ChangeShapes Go.WideShapes Go.ChangeAt Go.RowKit Go.MapKept
structure Frm (K : Nat → Prop) (w w' : World) : Prop where
  os : w'.os = w.os
  tape : w'.tape = w.tape
  output : w'.output = w.output
  size : w.heap.size ≤ w'.heap.size
  block : ∀ k, k < w.heap.size → ¬ K k → w'.heap[k]? = w.heap[k]?
theorem Frm.refl (K : Nat → Prop) (w : World) : Frm K w w := ⟨rfl, rfl, rfl, Nat.le_refl _, fun _ _ _ => rfl⟩
theorem Frm.trans {K K' : Nat → Prop} {a b c : World} (h : Frm K a b) (k : Frm K' b c) (hK : ∀ i, i < a.heap.size → K' i → K i) : Frm K a c :=
  ⟨k.os.trans h.os, k.tape.trans h.tape, k.output.trans h.output, Nat.le_trans h.size k.size, fun i hi hn => (k.block i (Nat.lt_of_lt_of_le hi h.size) fun e => hn (hK i hi e)).trans (h.block i hi hn)⟩
theorem Frm.of_below {K : Nat → Prop} {w w' : World} (h : Below w.heap.size w w') : Frm K w w' := ⟨h.os, h.tape, h.output, h.size, fun k hk _ => h.block k hk⟩
theorem Frm.below {K : Nat → Prop} {w w' : World} {B : Nat} (h : Frm K w w') (hB : B ≤ w.heap.size) (hK : ∀ k, K k → B ≤ k) : Below B w w' :=
  ⟨h.os, h.tape, h.output, h.size, fun k hk => h.block k (by omega) fun e => by have := hK k e; omega⟩
theorem Frm.drew {K : Nat → Prop} {a w : World} (h : Frm K a w) : Frm K a w.drew := ⟨h.os, h.tape, h.output, h.size, h.block⟩
theorem Frm.alloc {K : Nat → Prop} {a w : World} (h : Frm K a w) (o : Obj) : Frm K a (w.alloc o) :=
  h.trans (K' := fun _ => False) ⟨rfl, rfl, rfl, by simp, fun k hk _ => Below.heap_alloc _ _ _ hk⟩ (fun _ _ e => e.elim)
theorem Frm.setCell {K : Nat → Prop} {a w : World} (h : Frm K a w) {p : Addr} (hp : p.block < a.heap.size → K p.block) (u : Value) : Frm K a (w.setCell p u) :=
  h.trans (K' := fun k => k = p.block) ⟨rfl, rfl, rfl, by simp [World.setCell], fun k _ hn => Below.heap_setCell _ _ _ _ hn⟩ (fun i hi e => by subst e; exact hp hi)
theorem Frm.grown {K : Nat → Prop} {a w w' : World} {row : Option Nat} (h : Frm K a w) (hg : w.grownBy w' row) (hr : ∀ k, row = some k → k < a.heap.size → K k) : Frm K a w' :=
  h.trans (K' := fun k => row = some k) ⟨hg.os, hg.tape, hg.output, hg.size, fun k hk hn => hg.block k hk fun e => hn e.symm⟩ (fun i hi e => hr i e hi)
theorem Frm.setAgg {K : Nat → Prop} {a w : World} (h : Frm K a w) {b : Nat} (hb : b < a.heap.size → K b) (o : Nat) (c : Array Value) : Frm K a (setAgg w b o c) := by
  by_cases hlt : b < a.heap.size
  · unfold Go.Proofs.YtomehdepjenilaaGreat.setAgg
    generalize c.toList = vs
    induction vs generalizing o w with
    | nil => exact h
    | cons v r ih => exact ih (h.setCell (p := ⟨b, o, none⟩) hb v) (o + 1)
  · unfold Go.Proofs.YtomehdepjenilaaGreat.setAgg
    generalize c.toList = vs
    induction vs generalizing o w with
    | nil => exact h
    | cons v r ih => exact ih (h.setCell (p := ⟨b, o, none⟩) hb v) (o + 1)
theorem Frm.set1 {S : Nat} {a w : World} (h : Frm (· = S) a w) (k : Nat) (u : Value) : Frm (· = S) a (w.setCell ⟨S, k, none⟩ u) := h.setCell (p := ⟨S, k, none⟩) (fun _ => rfl) u
theorem Frm.setAgg1 {S : Nat} {a w : World} (h : Frm (· = S) a w) (o : Nat) (c : Array Value) : Frm (· = S) a (Go.Proofs.YtomehdepjenilaaGreat.setAgg w S o c) := h.setAgg (b := S) (fun _ => rfl) o c
theorem Frm.mono {K K' : Nat → Prop} {w w' : World} (h : Frm K w w') (hK : ∀ k, k < w.heap.size → K k → K' k) : Frm K' w w' := ⟨h.os, h.tape, h.output, h.size, fun k hk hn => h.block k hk fun e => hn (hK k hk e)⟩
/-! ### An object's block -/
def Cb (w : World) (b : Nat) (c : Array Value) (t : TypeId) : Prop := w.heap[b]? = some (.cells c t (0, 0))
section
variable {w w' : World} {b : Nat} {c c' : Array Value} {t : TypeId}
theorem Cb.lt (h : Cb w b c t) : b < w.heap.size := (Array.getElem?_eq_some_iff.1 h).1
theorem Cb.below (h : Cb w b c t) (hb : Below w.heap.size w w') : Cb w' b c t := (hb.block b h.lt).trans h
theorem Cb.frm {K : Nat → Prop} (h : Cb w b c t) (hf : Frm K w w') (hn : ¬ K b) : Cb w' b c t := (hf.block b h.lt hn).trans h
theorem Cb.drew (h : Cb w b c t) : Cb w.drew b c t := h
theorem Cb.alloc (h : Cb w b c t) (o : Obj) : Cb (w.alloc o) b c t := (Below.heap_alloc _ _ _ h.lt).trans h
theorem Cb.new (w : World) (c : Array Value) (t : TypeId) : Cb (w.alloc (.cells c t)) w.heap.size c t := heap_alloc_new w _
theorem Cb.cell (h : Cb w b c t) (k : Nat) (v : Value) (hv : c[k]? = some v) : w.cell? ⟨b, k, none⟩ = some v := by rw [cell?_blk' h, hv]
theorem Cb.frozen (h : Cb w b c t) (k : Nat) : w.frozen? ⟨b, k, none⟩ = false := frozen_of_row w b k _ _ h
theorem Cb.set (h : Cb w b c t) (k : Nat) (v : Value) (hc : c.setIfInBounds k v = c') : Cb (w.setCell ⟨b, k, none⟩ v) b c' t := by
  have := heap_setCell_same w b k _ _ v h
  rw [hc] at this
  exact this
theorem Cb.other (h : Cb w b c t) {q k : Nat} (hq : b ≠ q) (v : Value) : Cb (w.setCell ⟨q, k, none⟩ v) b c t := (Below.heap_setCell _ _ _ _ hq).trans h
theorem Cb.agg (h : Cb w b c t) (o n : Nat) (hn : o + n ≤ c.size) : agg? w b o n = some (c.extract o (o + n)) := agg?_blk' h o n hn
theorem Cb.there (h : Cb w b c t) (o n : Nat) (hn : o + n ≤ c.size) : there? w b o n = true := there_blk h o n hn
theorem Cb.setAgg (h : Cb w b c t) (o : Nat) (a : Array Value) (hc : setMany c o a.toList = c') : Cb (setAgg w b o a) b c' t := by
  have := heap_setCells_same b t (0, 0) a.toList o c w h
  rw [hc] at this
  exact this
end
/-! ### Own blocks, by what they are for -/
structure Own (base : Nat) (r : Nat → Option Nat) (w : World) : Prop where
  lt : ∀ i q, r i = some q → base ≤ q ∧ q < w.heap.size
  sep : ∀ i j q, i ≠ j → r i = some q → r j ≠ some q
def owns (r : Nat → Option Nat) (k : Nat) : Prop := ∃ i, r i = some k
def setR (r : Nat → Option Nat) (i : Nat) (v : Option Nat) : Nat → Option Nat := fun j => if j = i then v else r j
theorem setR_same (r : Nat → Option Nat) (i : Nat) (v : Option Nat) : setR r i v i = v := by simp [setR]
theorem setR_other (r : Nat → Option Nat) {i j : Nat} (v : Option Nat) (h : j ≠ i) : setR r i v j = r j := by simp [setR, h]
theorem Own.grow {base : Nat} {r : Nat → Option Nat} {w w' : World} (h : Own base r w) (hs : w.heap.size ≤ w'.heap.size) : Own base r w' :=
  ⟨fun i q e => ⟨(h.lt i q e).1, Nat.lt_of_lt_of_le (h.lt i q e).2 hs⟩, h.sep⟩
theorem Own.set {base : Nat} {r : Nat → Option Nat} {w w' : World} (h : Own base r w) (hB : base ≤ w.heap.size) (hs : w.heap.size ≤ w'.heap.size) (i : Nat) (v : Option Nat) (hv : ∀ q, v = some q → r i = some q ∨ w.heap.size ≤ q ∧ q < w'.heap.size) : Own base (setR r i v) w' := by
  refine ⟨fun j q e => ?_, fun j k q hne e1 e2 => ?_⟩
  · unfold setR at e
    split at e
    · rcases hv q e with h1 | h1
      · exact ⟨(h.lt i q h1).1, Nat.lt_of_lt_of_le (h.lt i q h1).2 hs⟩
      · exact ⟨by omega, h1.2⟩
    · exact ⟨(h.lt j q e).1, Nat.lt_of_lt_of_le (h.lt j q e).2 hs⟩
  · unfold setR at e1 e2
    split at e1
    · rename_i hj
      subst hj
      rw [if_neg (Ne.symm hne)] at e2
      rcases hv q e1 with h1 | h1
      · exact h.sep j k q hne h1 e2
      · have := (h.lt k q e2).2; omega
    · rename_i hj
      split at e2
      · rename_i hk
        subst hk
        rcases hv q e2 with h1 | h1
        · exact h.sep j k q hne e1 h1
        · have := (h.lt j q e1).2; omega
      · exact h.sep j k q hne e1 e2
def later (r r' : Nat → Option Nat) (w : World) : Prop := ∀ i q, r' i = some q → r i = some q ∨ w.heap.size ≤ q
theorem later.refl (r : Nat → Option Nat) (w : World) : later r r w := fun _ _ e => .inl e
theorem later.trans {r r' r'' : Nat → Option Nat} {w w' : World} (h : later r r' w) (k : later r' r'' w') (hs : w.heap.size ≤ w'.heap.size) : later r r'' w := fun i q e => by
  rcases k i q e with h1 | h1
  · exact h i q h1
  · exact .inr (by omega)
theorem later.set {r r' : Nat → Option Nat} {w : World} (h : later r r' w) (i : Nat) (v : Option Nat) (hv : ∀ q, v = some q → r i = some q ∨ w.heap.size ≤ q) : later r (setR r' i v) w := fun j q e => by
  unfold setR at e
  split at e
  · rename_i hj; subst hj; exact hv q e
  · exact h j q e
theorem later.owns {r r' : Nat → Option Nat} {w : World} (h : later r r' w) : ∀ k, k < w.heap.size → owns r' k → owns r k := fun k hk ⟨i, e⟩ => by
  rcases h i k e with h1 | h1
  · exact ⟨i, h1⟩
  · omega
/-! ### A map from whole numbers as a function -/
structure MapF (W : World) (mb : Nat) (f : Int → Option Value) : Prop where
  ex : ∃ M, MapV W mb (intM M) ∧ (M.map (·.1)).Nodup ∧ (∀ p ∈ M, f p.1 = some p.2) ∧ ∀ a v, f a = some v → (a, v) ∈ M
theorem MapF.lt {W : World} {mb : Nat} {f : Int → Option Value} (h : MapF W mb f) : mb < W.heap.size := by
  obtain ⟨M, h1, _⟩ := h.ex
  exact h1.lt
theorem MapF.same {W W' : World} {mb : Nat} {f : Int → Option Value} (h : MapF W mb f) (hs : W'.heap[mb]? = W.heap[mb]?) : MapF W' mb f := by
  obtain ⟨M, h1, h2⟩ := h.ex
  exact ⟨M, h1.same hs, h2⟩
theorem MapF.new (W : World) : MapF (W.alloc (.map #[] 0)) W.heap.size (fun _ => none) :=
  ⟨[], MapV.new W, by simp, by simp, fun a v e => by cases e⟩
section
variable {P : Program} {w : World} {mty kt et : TypeId}
end
end Go.Proofs.YtomehdepjenilaaGreat
