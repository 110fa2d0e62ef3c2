/-
  Layer 20, the document's side: a formula's items are read.
-/
import Derived.Test.YtkkdopfdoommnaaR10
import Derived.Test.YtkkdopfdoommnaaM10
import Derived.Great.BuildSlice
namespace Go.Proofs.Ytkkdopfdoommnaa
open Go.ChangeShapes Go.WideShapes Go.ChangeAt Go.RowKit
attribute [local go_sem ↓] Go.wp_at_zero Go.wp_at_succ

def bsRIt (parts : Array (Nat × Value)) : Sem Value := Instr.buildSlice 106 1 parts
@[go_sem ↓] theorem execOp_bsRIt (ρ : Operand → Value) (dst : Option Tmp) (x : Array (Nat × Operand)) (ty : TypeId) (pos : String) (after : Array Edge) (guard : Option (Nat × Bool)) :
    execOp ρ { dst, op := .buildSlice 106 1 x, type := ty, pos, after, guard } = (do pure (.value (← bsRIt (x.map fun (i, y) => (i, ρ y))))) := rfl
theorem fill_rit (it : RIt) : Instr.fill (fun i => some (i * 26, 26)) ((Array.range (1 * 26)).map ((Value.agg RIt.zero.arr).cells[· % (Value.agg RIt.zero.arr).cells.size]!)) [(0, .agg it.arr)] = some it.arr := by kernel_rfl
theorem info_rit0 : (Try.prog.info? 152).map (fun i => (i.zero, i.size)) = some (some (.agg RIt.zero.arr), 26) := by kernel_rfl
theorem info_rit : (Try.prog.info? 152).map (fun i => (i.zero, i.size, i.bytes)) = some (some (.agg RIt.zero.arr), 26, 208) := by kernel_rfl
@[go_sem] theorem run_bsRIt (it : RIt) (w : World) : (bsRIt #[(0, .agg it.arr)]).run Try.prog w = .ok (.slice (some ⟨w.heap.size, 0, none⟩) 1 1) (w.alloc (.cells it.arr 152)) := by
  obtain ⟨i, hi, hzz⟩ := Option.map_eq_some_iff.1 info_rit0
  simp only [Prod.mk.injEq] at hzz
  obtain ⟨hz, hs⟩ := hzz
  refine run_buildSlice w _ 152 1 _ it.arr i (.agg RIt.zero.arr) Try.underlying106 hi hz (by rw [hs]; decide) (by rw [hs]; decide) ?_
  rw [hs]
  exact fill_rit it

/-- the document's items, in memory of the call's own -/
def RItemsAt (w : World) (B : Nat) (v : Value) (ks : List Int) : Prop :=
  ∃ its : List RIt, its.map (·.sign.kind) = ks ∧ w.ownsRow B 152 26 v its.length (its.flatMap RIt.cells)
structure ItemsPost (w : World) (L : List Sn) (e : Ending) (w' : World) : Prop where
  ex : ∃ v, e = .returned (.tuple #[v, .bool (okB (readP L))]) ∧ ∀ ks, readP L = some ks → RItemsAt w' w.heap.size v ks
  below : Below w.heap.size w w'
/-- at the head of the loop: the reader lies in the first block of the call's own -/
structure ItsSt (w : World) (b off cap : Nat) (p : Option Addr) (L : List Sn) (j : Nat) (br : Bool) (wr : World) : Prop where
  rd : RRdr wr w.heap.size b off cap p L j 0 br
  below : Below w.heap.size w wr
  hb : L ≠ [] → b < w.heap.size
def LoopI (w : World) (b off cap : Nat) (p : Option Addr) (L : List Sn) (g : Nat) (v : Value) (wl : World) : Prop :=
  (∃ (j : Nat) (its : List RIt), g = L.length + 2 - j ∧ j ≤ L.length ∧ its.length ≤ j ∧ ItsSt w b off cap p L j false wl ∧ wl.ownsRow (w.heap.size + 1) 152 26 v its.length (its.flatMap RIt.cells) ∧
    fmlaP (fieldP 20) L.length L = addK (its.map (·.sign.kind)) (fmlaP (fieldP 20) (L.length - j) (L.drop j))) ∨
  (g = 1 ∧ readP L = none ∧ (∃ a n c, v = .slice a n c) ∧ ∃ j, j ≤ L.length + 20 ∧ ItsSt w b off cap p L j true wl)
section
variable {w wr w' : World} {b off cap j j2 : Nat} {p : Option Addr} {L : List Sn} {br b2 : Bool}
theorem ItsSt.turned (h : ItsSt w b off cap p L j br wr) (ht : Turned wr.heap.size w.heap.size wr w') (hr : RRdr w' w.heap.size b off cap p L j2 0 b2) : ItsSt w b off cap p L j2 b2 w' :=
  ⟨hr, ⟨ht.os.trans h.below.os, ht.tape.trans h.below.tape, ht.output.trans h.below.output, Nat.le_trans h.below.size ht.size, fun k hk => (ht.block k (Nat.lt_of_lt_of_le hk h.below.size) (by omega)).trans (h.below.block k hk)⟩, h.hb⟩
theorem ItsSt.later (h : ItsSt w b off cap p L j br wr) (hb : Below wr.heap.size wr w') : ItsSt w b off cap p L j br w' :=
  ⟨h.rd.below hb, h.below.trans (hb.mono h.below.size), h.hb⟩
theorem ItsSt.grown (h : ItsSt w b off cap p L j br wr) {o : Obj} {row : Option Nat} (hg : (wr.alloc o).grownBy w' row) (hr : ∀ k, row = some k → w.heap.size < k) : ItsSt w b off cap p L j br w' := by
  have hz := hg.size
  simp at hz
  have hs := h.below.size
  have hRl := h.rd.ltR
  refine ⟨h.rd.of ?_ (by omega) fun e => ?_, (h.below.alloc hs o).grown hg (by simp; omega) (fun k e => Nat.le_of_lt (hr k e)), h.hb⟩
  · rw [hg.block _ (by simp; omega) (fun e => by have := hr _ e.symm; omega), Below.heap_alloc _ _ _ hRl]; exact h.rd.blk
  · have := h.hb e
    rw [hg.block _ (by simp; omega) (fun e => by have := hr _ e.symm; omega), Below.heap_alloc _ _ _ (by omega)]
end
set_option maxRecDepth 100000 in
set_option maxHeartbeats 8000000 in
theorem ritems_any (p : Option Addr) (b off cap : Nat) (L : List Sn) (w : World) (hp : L ≠ [] → p = some ⟨b, off, none⟩) (hb : L ≠ [] → b < w.heap.size) (hsg : ∀ j, (h : j < L.length) → agg? w b (off + j * 9) 9 = some L[j].arr) (hl : L.length ≤ 2000) (hcap : L.length ≤ cap) :
    Calls Try.prog 57 #[.slice p L.length cap] w (ItemsPost w L) := by
  have h0 : ItsSt w b off cap p L 0 false (w.alloc (.cells #[.slice p L.length cap, .int .i64 0, .int .i64 0, .bool false] 149)) :=
    ⟨⟨heap_alloc_new _ _, fun e => by have := hb e; omega, fun e => by have := hb e; simp; omega, hp, fun j hj => (agg?_alloc_past _ _ _ _ _ (hb (by intro e; rw [e] at hj; simp at hj))).trans (hsg j hj), hl, hcap⟩, (Below.refl _ _).alloc (Nat.le_refl _) _, hb⟩
  clear hp hb hsg
  go_enter Try.func57, Try.ntmps57
  go_wp2_with fail
  go_loopg [5] (L.length + 2 - 0) (fun g v wl => LoopI w b off cap p L g v wl)
  case atStart => exact .inl ⟨0, [], rfl, Nat.zero_le _, Nat.le_refl _, h0, World.ownsRow_nil _ _ _ _, (addK_nil _).symm⟩
  case round =>
    clear h0
    obtain ⟨j, its, rfl, hj, hfew, h2, hrow, hres⟩ | ⟨rfl, hrn, ⟨a, n, c, rfl⟩, j, hj, h2⟩ := hrel
    · have Hres := Lib.hid hres
      have c3 := h2.rd.c3
      have c1 := h2.rd.c1
      have hj1 : (0 : Int) ≤ (j : Int) := by omega
      clear hres
      by_cases hlt : j < L.length
      · have hj2 : (j : Int) < (L.length : Int) := by omega
        have HI0 := ritem_any (rfield_ok 20 (Nat.le_refl _)) w.heap.size b off cap j 0 p L wr h2.rd hj (by omega)
        have HR0 : (itemR (fieldP 20) (L.drop j) = none → readP L = none) ∧ ∀ j', j' ≤ L.length → itemR (fieldP 20) (L.drop j) = some (L.drop j') → j < j' ∧ fmlaP (fieldP 20) L.length L = addK (its.map (·.sign.kind) ++ [L[j].kind]) (fmlaP (fieldP 20) (L.length - j') (L.drop j')) := by
          rw [List.drop_eq_getElem_cons hlt]
          by_cases hk2 : L[j].kind = 22
          · have e : itemR (fieldP 20) (L[j] :: L.drop (j + 1)) = none := item_bad (.inr (.inr (by omega))) _
            rw [e]
            refine ⟨fun _ => ?_, fun j' _ e => by cases e⟩
            rw [readP_eq, Hres.out, fmla_stop hj (fun _ => hk2)]
            show (if L.drop j = [] then _ else none) = none
            rw [if_neg (by rw [List.drop_eq_nil_iff]; omega)]
          · obtain ⟨g1, g2⟩ := fmla_item (field_ends 20) hlt hk2 Hres.out
            refine ⟨fun e => by rw [readP_eq, g1 e]; rfl, g2⟩
        have Hsj : Hid (L[j]? = some L[j]) := Lib.hid (List.getElem?_eq_getElem hlt)
        have HI := Lib.hid HI0
        have HR := Lib.hid HR0
        clear HI0 HR0 Hres
        generalize itemR (fieldP 20) (L.drop j) = r1 at HI HR
        generalize L[j] = s at HR Hsj
        go_wp2_with fail
        refine HI.out.mono ?_
        rintro e w4 hp
        obtain ⟨it, rfl, hsi⟩ := hp.ex
        have Hsi := Lib.hid hsi
        have Hrd := Lib.hid hp.rd
        have hrow4 := ownsRow_turned hrow hp.rd.turned (by omega)
        clear hp hsi c3 c1 HI hrow
        have hX4 : Hid (∀ br j2, RRdr w4 w.heap.size b off cap p L j2 0 br → ItsSt w b off cap p L j2 br w4) := Lib.hid fun br j2 hr => h2.turned Hrd.out.turned hr
        have hz4 : w.heap.size + 1 ≤ w4.heap.size := by have := Hrd.out.turned.size; have := h2.rd.ltR; omega
        clear h2
        have hN : its.length ≤ 2000 := by omega
        obtain ⟨i0, hi0', hz0, hz1, hz2⟩ := info_parts info_rit
        have hone : Hid (∀ u ∈ it.cells, u.oneCell' = true) := Lib.hid (by have := RIt.one' it; simpa [RIt.arr] using this)
        have hnews : Hid (∀ j u, it.cells[j]? = some u → ((w4.alloc (.cells it.arr 152)).alloc (.cells it.arr 152)).cell? ((⟨(w4.alloc (.cells it.arr 152)).heap.size, 0, none⟩ : Addr).add j) = some u) := World.news_of_block (cs := it.arr) (heap_alloc_new _ _)
        have hzz : Hid ((w4.alloc (.cells it.arr 152)).heap.size = w4.heap.size + 1) := Lib.hid (by simp)
        rw [hzz.out] at hnews
        cases r1 with
        | none =>
          obtain ⟨j', hj', h4⟩ := Hrd.out.no rfl
          have h5 := (hX4.out _ _ h4).later ((Below.refl _ _).alloc (Nat.le_refl _) (.cells it.arr 152))
          have Hrn := Lib.hid (HR.out.1 rfl)
          clear HR Hrd Hsi h4 hX4
          go_wp2_with (at_builtin; refine wpList_append_lies _ rfl _ _ _ rfl (w.heap.size + 1) 152 i0 (.agg RIt.zero.arr) 26 208 Try.underlying106 hi0' hz0 hz1 hz2 rfl (by decide) u5 its.length (its.flatMap RIt.cells) rfl ((hrow4.alloc _).alloc _) ⟨w4.heap.size + 1, 0, none⟩ 1 1 it.cells rfl rfl hnews.out hone.out (by decide) (by unfold maxLen; omega) (by omega) (by simp; omega) _ rfl ?_; intro g8 cap8 w8 hown8 hgrow8 hat8 hlt8)
          go_roundg 1
          case measure => omega
          case rel => exact .inr ⟨rfl, Hrn.out, ⟨_, _, _, rfl⟩, j', hj', h5.grown hgrow8 (fun k hk => by have := (hrow4.lt k hk).1; omega)⟩
        | some l =>
          obtain ⟨j', hj', e, h4⟩ := Hrd.out.yes l rfl
          have Hr2 := Lib.hid (HR.out.2 j' hj' (by rw [← e]))
          have hjj := Hr2.out.1
          have Hsg := Lib.hid (show it.sign = s from by have := Hsi.out l rfl; rw [Hsj.out] at this; exact (Option.some.inj this).symm)
          have h5 := (hX4.out _ _ h4).later ((Below.refl _ _).alloc (Nat.le_refl _) (.cells it.arr 152))
          clear HR Hrd Hsi h4 hX4 e Hsj
          go_wp2_with (at_builtin; refine wpList_append_lies _ rfl _ _ _ rfl (w.heap.size + 1) 152 i0 (.agg RIt.zero.arr) 26 208 Try.underlying106 hi0' hz0 hz1 hz2 rfl (by decide) u5 its.length (its.flatMap RIt.cells) rfl ((hrow4.alloc _).alloc _) ⟨w4.heap.size + 1, 0, none⟩ 1 1 it.cells rfl rfl hnews.out hone.out (by decide) (by unfold maxLen; omega) (by omega) (by simp; omega) _ rfl ?_; intro g8 cap8 w8 hown8 hgrow8 hat8 hlt8)
          go_roundg (L.length + 2 - j')
          case measure => omega
          case rel =>
            refine .inl ⟨j', its ++ [it], rfl, hj', by simp; omega, h5.grown hgrow8 (fun k hk => by have := (hrow4.lt k hk).1; omega), ?_, ?_⟩
            · rw [List.length_append, List.flatMap_append, List.flatMap_cons, List.flatMap_nil, List.append_nil]; exact hown8
            · rw [Hr2.out.2, List.map_append, List.map_cons, List.map_nil, Hsg.out]
      · have hj2 : (L.length : Int) ≤ (j : Int) := by omega
        have Hrs : Hid (readP L = some (its.map (·.sign.kind))) := Lib.hid (by
          rw [readP_eq, Hres.out, show L.length - j = 0 by omega, List.drop_eq_nil_iff.2 (show L.length ≤ j by omega)]
          show (if ([] : List Sn) = [] then _ else none) = _
          rw [if_pos rfl]; simp)
        obtain ⟨a, n, c, hv⟩ : ∃ a n c, u5 = .slice a n c := by
          obtain ⟨_, h | ⟨g, c, cur, h, _⟩⟩ := hrow
          · exact ⟨_, _, _, h.1⟩
          · exact ⟨_, _, _, h⟩
        subst hv
        go_wp2_with fail
        go_quiet (fail)
        go_wp2_with fail
        go_ret2
        refine ⟨⟨_, by rw [Hrs.out]; rfl, fun ks e => ⟨its, by rw [Hrs.out] at e; exact Option.some.inj e, ?_⟩⟩, h2.below.trans (by exact ⟨rfl, rfl, rfl, Nat.le_refl _, fun _ _ => rfl⟩)⟩
        obtain ⟨hl2, h1 | ⟨g, cap2, cur, h1, h3, h4⟩⟩ := hrow
        · exact ⟨hl2, .inl h1⟩
        · exact ⟨hl2, .inr ⟨g, cap2, cur, h1, by omega, h4⟩⟩
    · have Hrn := Lib.hid hrn
      have c3 := h2.rd.c3
      clear hrn
      go_wp2_with fail
      go_quiet (fail)
      go_wp2_with fail
      go_ret2
      exact ⟨⟨_, by rw [Hrn.out]; rfl, fun ks e => by rw [Hrn.out] at e; cases e⟩, h2.below.trans (by exact ⟨rfl, rfl, rfl, Nat.le_refl _, fun _ _ => rfl⟩)⟩
end Go.Proofs.Ytkkdopfdoommnaa
