/-
  Layer 20: the law's argument, a slice of the document's signs; 'signs' makes the program's of them.
-/
import Derived.Test.YtkkdopfdoommnaaM12
import Derived.Deep.Slices
import Derived.Deep.RegionHeld3
import Derived.Deep.AppendLies
namespace Go.Proofs.Ytkkdopfdoommnaa
open Go.ChangeShapes Go.WideShapes Go.ChangeAt Go.RowKit
attribute [local go_sem ↓] Go.wp_at_zero Go.wp_at_succ

theorem agg_of_cells {w : World} {b o n : Nat} {c : Array Value} (hn : 0 < n) (hs : c.size = n) (h : ∀ k, k < n → w.cell? ⟨b, o + k, none⟩ = c[k]?) : agg? w b o n = some c := by
  have h0 := h 0 hn
  rw [Array.getElem?_eq_getElem (by omega)] at h0
  unfold World.cell? at h0
  split at h0
  · rename_i C t fr hb
    simp only at hb
    have h1 : ∀ k, k < n → C[o + k]? = c[k]? := fun k hk => by rw [← h k hk, cell?_blk hb]
    have hlast := h1 (n - 1) (by omega)
    rw [Array.getElem?_eq_getElem (show n - 1 < c.size by omega)] at hlast
    have hsz : o + (n - 1) < C.size := (Array.getElem?_eq_some_iff.1 hlast).1
    unfold agg?
    rw [hb]
    simp only
    rw [if_pos (by omega)]
    congr 1
    apply Array.ext_getElem?
    intro k
    rw [Array.getElem?_extract]
    split
    · exact h1 k (by omega)
    · rw [Array.getElem?_eq_none (by omega)]
  · cases h0
theorem agg_sub {w : World} {b o n : Nat} {c : Array Value} (h : agg? w b o n = some c) (m k : Nat) (hm : m + k ≤ n) : agg? w b (o + m) k = some (c.extract m (m + k)) := by
  unfold agg? at h ⊢
  split at h
  · rename_i C t fr hb
    split at h
    · rename_i hle
      cases h
      rw [if_pos (by omega)]
      simp only [Array.extract_extract]
      congr 2
      · omega
    · cases h
  · cases h

/-- the document's signs L, handed over as a slice -/
structure RSigns (w : World) (p : Option Addr) (b off cap : Nat) (L : List Sn) : Prop where
  hp : L ≠ [] → p = some ⟨b, off, none⟩
  hb : L ≠ [] → b < w.heap.size
  sg : ∀ j, (h : j < L.length) → agg? w b (off + j * 9) 9 = some L[j].arr
  cap' : L.length ≤ cap
  len : L.length * 72 ≤ 140737488351232
theorem RSigns.below {w w' : World} {p : Option Addr} {b off cap : Nat} {L : List Sn} (h : RSigns w p b off cap L) (hb : Below w.heap.size w w') : RSigns w' p b off cap L :=
  ⟨h.hp, fun e => Nat.lt_of_lt_of_le (h.hb e) hb.size, fun j hj => ((bfacts hb).2.2.1 _ _ _ (h.hb (by intro e; rw [e] at hj; simp at hj))).trans (h.sg j hj), h.cap', h.len⟩

theorem flat_signs : ∀ (L : List Sn) (i : Nat) (hi : i < L.length), ((L.flatMap Sn.cells).drop (i * 9)).take 9 = L[i].cells
  | s :: r, 0, _ => by
    rw [Nat.zero_mul, List.drop_zero, List.flatMap_cons, List.getElem_cons_zero]
    exact List.take_left' rfl
  | s :: r, i + 1, hi => by
    rw [List.flatMap_cons, show (i + 1) * 9 = s.cells.length + i * 9 by rw [show s.cells.length = 9 from rfl]; omega, List.drop_append, List.getElem_cons_succ]
    rw [List.drop_eq_nil_of_le (by omega), List.nil_append, Nat.add_sub_cancel_left]
    exact flat_signs r i (by simpa using hi)
theorem signs_seen {w : World} {B : Nat} {v : Value} {L : List Sn} (h : w.ownsRow B 50 9 v L.length (L.flatMap Sn.cells)) : ∃ (p : Option Addr) (g cap : Nat), v = .slice p L.length cap ∧ SignsIn w p g cap L := by
  obtain ⟨hl, ⟨rfl, h0⟩ | ⟨g, cap, cur, rfl, hb, hg, hn, hm, hs, ht⟩⟩ := h
  · have hL : L = [] := List.eq_nil_of_length_eq_zero h0
    subst hL
    exact ⟨none, 0, 0, rfl, fun e => absurd rfl e, fun e => absurd rfl e, fun i hi => by simp at hi, Nat.le_refl _⟩
  · refine ⟨_, g, cap, rfl, fun _ => rfl, fun _ => (Array.getElem?_eq_some_iff.1 hg).1, fun i hi => ?_, hn⟩
    have h1 : i * 9 + 9 ≤ L.length * 9 := by omega
    have h2 : L.length * 9 ≤ cap * 9 := Nat.mul_le_mul_right _ hn
    unfold agg?
    rw [hg]
    simp only
    rw [if_pos (by omega)]
    congr 1
    have e := flat_signs L i hi
    rw [← ht, List.drop_take, List.take_take, Nat.min_eq_left (by omega)] at e
    show cur.extract (i * 9) (i * 9 + 9) = (L[i]).cells.toArray
    rw [← e]
    apply Array.ext'
    simp [List.take_drop]

def bsSn1 (parts : Array (Nat × Value)) : Sem Value := Instr.buildSlice 40 1 parts
@[go_sem ↓] theorem execOp_bsSn1 (ρ : Operand → Value) (dst : Option Tmp) (x : Array (Nat × Operand)) (ty : TypeId) (pos : String) (after : Array Edge) (guard : Option (Nat × Bool)) :
    execOp ρ { dst, op := .buildSlice 40 1 x, type := ty, pos, after, guard } = (do pure (.value (← bsSn1 (x.map fun (i, y) => (i, ρ y))))) := rfl
theorem info_sign : (Try.prog.info? 50).map (fun i => (i.zero, i.size, i.bytes)) = some (some (.agg Sn.zero.arr), 9, 72) := by kernel_rfl
theorem fill_sn1 (a : Sn) : Instr.fill (fun i => some (i * 9, 9)) ((Array.range (1 * 9)).map ((Value.agg Sn.zero.arr).cells[· % (Value.agg Sn.zero.arr).cells.size]!)) [(0, .agg a.arr)] = some a.arr := by kernel_rfl
@[go_sem] theorem run_bsSn1 (a : Sn) (w : World) : (bsSn1 #[(0, .agg a.arr)]).run Try.prog w = .ok (.slice (some ⟨w.heap.size, 0, none⟩) 1 1) (w.alloc (.cells a.arr 50)) := by
  obtain ⟨i, hi, hzz⟩ := Option.map_eq_some_iff.1 info_sn0
  simp only [Prod.mk.injEq] at hzz
  obtain ⟨hz, hs⟩ := hzz
  refine run_buildSlice w _ 50 1 _ a.arr i (.agg Sn.zero.arr) Try.underlying40 hi hz (by rw [hs]; decide) (by rw [hs]; decide) ?_
  rw [hs]
  exact fill_sn1 a
@[go_sem] theorem run_bdSn_all (s : Sn) (w : World) : (bdSn #[(0, .int .i64 s.kind), (1, .int .i64 s.fam), (2, .int .u8 s.char), (3, .int .i64 s.n), (4, .agg s.glue.arr)]).run Try.prog w = .ok (.agg s.arr) w := by kernel_rfl

theorem keep5 {wr w8 : World} {b o : Nat} {s : Sn} (e : w8.heap[b]? = wr.heap[b]?) (c0 : wr.cell? ⟨b, o, none⟩ = some (.int .i64 s.kind)) (c1 : wr.cell? ⟨b, o + 1, none⟩ = some (.int .i64 s.fam)) (c2 : wr.cell? ⟨b, o + 2, none⟩ = some (.int .u8 s.char)) (c3 : wr.cell? ⟨b, o + 3, none⟩ = some (.int .i64 s.n)) (c4 : agg? wr b (o + 4) 5 = some s.glue.arr) :
    w8.cell? ⟨b, o, none⟩ = some (.int .i64 s.kind) ∧ w8.cell? ⟨b, o + 1, none⟩ = some (.int .i64 s.fam) ∧ w8.cell? ⟨b, o + 2, none⟩ = some (.int .u8 s.char) ∧ w8.cell? ⟨b, o + 3, none⟩ = some (.int .i64 s.n) ∧ agg? w8 b (o + 4) 5 = some s.glue.arr :=
  ⟨(World.cell?_of_block (w := wr) e).trans c0, (World.cell?_of_block (w := wr) e).trans c1, (World.cell?_of_block (w := wr) e).trans c2, (World.cell?_of_block (w := wr) e).trans c3, (agg?_block e).trans c4⟩
set_option maxRecDepth 100000 in
set_option maxHeartbeats 4000000 in
theorem signs_any (p : Option Addr) (b off cap : Nat) (L : List Sn) (w : World) (h : RSigns w p b off cap L) :
    Calls Try.prog 22 #[.slice p L.length cap] w fun e w' => ∃ v, e = .returned v ∧ w'.ownsRow w.heap.size 50 9 v L.length (L.flatMap Sn.cells) ∧ Below w.heap.size w w' := by
  have H := Lib.hid h
  have hlen := h.len
  have hcap := h.cap'
  clear h
  go_enter Try.func22, Try.ntmps22
  go_wp2_with fail
  go_loopg [3, 4] (L.length + 1) (fun g t3 t4 wr => ∃ k : Nat, g = L.length + 1 - k ∧ k ≤ L.length ∧ t4 = .int .i64 k ∧ wr.ownsRow w.heap.size 50 9 t3 k ((L.take k).flatMap Sn.cells) ∧ Below w.heap.size w wr)
  case atStart => exact ⟨0, rfl, Nat.zero_le _, rfl, World.ownsRow_nil _ _ _ _, .refl _ _⟩
  case round =>
    obtain ⟨k, rfl, hk, rfl, hown, hbl⟩ := hrel
    have hk1 : (0 : Int) ≤ (k : Int) := by omega
    by_cases hkn : k < L.length
    · have hk2 : (k : Int) < (L.length : Int) := by omega
      have hR := H.out.below hbl
      have hsg := hR.sg k hkn
      obtain rfl := hR.hp (by intro e; rw [e] at hkn; simp at hkn)
      have hblt := hR.hb (by intro e; rw [e] at hkn; simp at hkn)
      have hblt0 := H.out.hb (by intro e; rw [e] at hkn; simp at hkn)
      have Hfar : Hid (∀ (W w8 : World) (o : Obj), W.grownBy w8 u3.ownBlock → W.heap = (wr.alloc o).heap → w8.heap[b]? = wr.heap[b]?) := Lib.hid fun W w8 o hg e => by
        have h1 := hg.block b (by rw [e]; simp; omega) (fun e2 => by have := (hown.lt b e2.symm).1; omega)
        rw [h1, e]
        exact Below.heap_alloc _ _ _ hblt
      have Htk := Lib.hid (List.take_succ_eq_append_getElem hkn)
      generalize L[k] = s at hsg Htk
      have c0 : wr.cell? ⟨b, off + k * 9, none⟩ = some (.int .i64 s.kind) := agg_cell hsg 0 _ rfl
      have c1 : wr.cell? ⟨b, off + k * 9 + 1, none⟩ = some (.int .i64 s.fam) := agg_cell hsg 1 _ rfl
      have c2 : wr.cell? ⟨b, off + k * 9 + 2, none⟩ = some (.int .u8 s.char) := agg_cell hsg 2 _ rfl
      have c3 : wr.cell? ⟨b, off + k * 9 + 3, none⟩ = some (.int .i64 s.n) := agg_cell hsg 3 _ rfl
      have c4 : agg? wr b (off + k * 9 + 4) 5 = some s.glue.arr := agg_sub hsg 4 5 (by omega)
      have hsz := hbl.size
      clear hsg hR
      obtain ⟨i0, hi0', hz0, hz1, hz2⟩ := info_parts info_sign
      have hone : Hid (∀ u ∈ s.cells, u.oneCell' = true) := Lib.hid (by have := Sn.one s; simpa [Sn.arr] using this)
      go_wp2_with fail
      go_region_held3 (fun w' => w'.cell? ⟨b, off + k * 9, none⟩ = some (.int .i64 s.kind) ∧ w'.cell? ⟨b, off + k * 9 + 1, none⟩ = some (.int .i64 s.fam) ∧ w'.cell? ⟨b, off + k * 9 + 2, none⟩ = some (.int .u8 s.char) ∧ w'.cell? ⟨b, off + k * 9 + 3, none⟩ = some (.int .i64 s.n) ∧ agg? w' b (off + k * 9 + 4) 5 = some s.glue.arr)
        (first | (simp [*, World.cell?_alloc_some, agg?_drew, agg?_alloc_some]; done) | exact keep5 (Hfar.out _ _ (.cells s.arr 50) hgrow8 rfl) c0 c1 c2 c3 c4)
        ((refine step_append_lies _ (by rfl) _ _ _ (by rfl) w.heap.size 50 i0 (.agg Sn.zero.arr) 9 72 Try.underlying40 hi0' hz0 hz1 hz2 (by rfl) (by decide) u3 k ((L.take k).flatMap Sn.cells) (by rfl) (hown.alloc _) ⟨wr.heap.size, 0, none⟩ 1 1 s.cells (by rfl) (by rfl) (World.news_of_block (cs := s.arr) (heap_alloc_new _ _)) hone.out (by decide) (by unfold maxLen; omega) (by omega) (by simp; omega) _ rfl ?_; intro g8 cap8 w8 hown8 hgrow8 hat8 hlt8))
      go_wp2_with fail
      go_roundg (L.length + 1 - (k + 1))
      case measure => omega
      case rel =>
        refine ⟨k + 1, rfl, hkn, by go_num, ?_, ?_⟩
        · rw [Htk.out, List.flatMap_append, List.flatMap_cons, List.flatMap_nil, List.append_nil]; exact hown8
        · exact Below.grown ((hbl.alloc hsz _).drew) hgrow8 (by simp; omega) (fun k hk => (hown.lt k hk).1)
    · have hk2 : (L.length : Int) ≤ (k : Int) := by omega
      have hkL := Lib.hid (show L.take k = L by exact List.take_of_length_le (by omega))
      obtain rfl : k = L.length := by omega
      go_wp2_with fail
      go_ret
      rw [hkL.out] at hown
      exact ⟨_, rfl, hown, hbl⟩
end Go.Proofs.Ytkkdopfdoommnaa
