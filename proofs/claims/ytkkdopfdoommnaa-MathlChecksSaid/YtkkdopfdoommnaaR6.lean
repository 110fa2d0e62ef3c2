/-
  Layer 20, the document's side: an item is read: what stands in its middle.
-/
import Derived.Test.YtkkdopfdoommnaaR5
import Derived.Test.YtkkdopfdoommnaaM6
namespace Go.Proofs.Ytkkdopfdoommnaa
open Go.ChangeShapes Go.WideShapes Go.ChangeAt Go.RowKit
attribute [local go_sem ↓] Go.wp_at_zero Go.wp_at_succ

/-- a fence is read -/
theorem fence_any (k : Int) (hk1 : k = 13 ∨ k = 14) (R b off cap i deep : Nat) (p : Option Addr) (L : List Sn) (w : World) (h : RRdr w R b off cap p L i deep false) (hi : i ≤ L.length) (hd : deep ≤ 20) :
    Calls Try.prog 130 #[.pointer (some ⟨R, 0, none⟩), .int .i64 k] w (FencePost w R b off cap p L i deep (fenceP k (L.drop i))) := by
  cases hk : ((kindAt L i : Int) != k)
  · have hlt : i < L.length := by
      apply Decidable.byContradiction
      intro hn
      simp [kindAt, show L[i]? = none by simp; omega] at hk
      omega
    have hkk : L[i].kind = k := by simpa [kindAt, hlt] using hk
    refine fence_yes k hk1 R b off cap i deep p L w h hlt hd hk _ (Lib.hid ?_)
    rw [List.drop_eq_getElem_cons hlt, fenceP]
    simp [hkk]
  · have : fenceP k (L.drop i) = none := by
      by_cases hlt : i < L.length
      · rw [List.drop_eq_getElem_cons hlt, fenceP, if_neg]
        intro e
        simp [kindAt, hlt, e.1] at hk
      · rw [List.drop_eq_nil_iff.2 (by omega)]; rfl
    rw [this]
    exact fence_no k R b off cap i deep p L w h hi hd hk
theorem good_script {s : Sn} (h : s.kind = 19 ∨ s.kind = 20) : goodB s = plainB s false false := by
  rw [plain_only]
  unfold goodB
  rw [if_neg (by omega), if_neg (by omega), if_neg (by omega), if_neg (by omega), if_neg (by omega), if_neg (by omega), if_neg (by omega), if_pos (by omega)]
/-- a script is read whose sign has been seen -/
theorem rscript_any {D : Nat} (hF : RFieldOK D) (k : Int) (hk : k = 19 ∨ k = 20) (R b off cap i deep : Nat) (p : Option Addr) (L : List Sn) (w : World) (h : RRdr w R b off cap p L i deep false) (hD : deep + D = 20) (hkk : kindAt L i = k) :
    Calls Try.prog 133 #[.pointer (some ⟨R, 0, none⟩)] w (RScriptPost w R b off cap p L deep (scriptP (fieldP D) k (L.drop i))) := by
  have hi : i < L.length := by
    apply Decidable.byContradiction
    intro hn
    rw [kindAt, show L[i]? = none by simp; omega] at hkk
    simp only at hkk
    omega
  have hki : L[i].kind = k := by simpa [kindAt, hi] using hkk
  rw [List.drop_eq_getElem_cons hi, scriptP, if_pos hki, good_script (by omega)]
  cases hg : plainB L[i] false false
  · exact rscript_no R b off cap i deep p L w h hi (by omega) _ rfl hg
  · exact rscript_yes D hF R b off cap i deep p L w h hi hD _ rfl hg _ (Lib.hid rfl)

/-- an item is being read: the result lies in the first block of the call's own, x in block X -/
structure BaseIt (w : World) (R b : Nat) (L : List Sn) (X : Nat) (it : RIt) (wr : World) : Prop where
  blk : wr.heap[X]? = some (.cells it.arr 152 (0, 0))
  q : wr.heap[w.heap.size]? = some (.cells RIt.zero.arr 152 (0, 0))
  tn : Turned w.heap.size R w wr
  hX : w.heap.size < X
  hR : R < w.heap.size
  hb : L ≠ [] → b < w.heap.size
section
variable {w wr w' : World} {R b off cap j deep X : Nat} {p : Option Addr} {L : List Sn} {it it' : RIt} {s : Sn} {r r1 : Option (List Sn)} {E E' : List Sn → Option (List Sn)}
theorem BaseIt.Xlt (h : BaseIt w R b L X it wr) : X < wr.heap.size := (Array.getElem?_eq_some_iff.1 h.blk).1
theorem BaseIt.call (h : BaseIt w R b L X it wr) (ht : Turned wr.heap.size R wr w') : BaseIt w R b L X it w' := by
  have := h.Xlt
  have := h.hX
  have := h.hR
  exact ⟨(ht.block X h.Xlt (by omega)).trans h.blk, (ht.block _ (by omega) (by omega)).trans h.q, h.tn.trans (ht.mono (by omega)), h.hX, h.hR, h.hb⟩
theorem BaseIt.set (h : BaseIt w R b L X it wr) (o : Nat) (c : Array Value) (hc : setMany it.arr o c.toList = it'.arr) : BaseIt w R b L X it' (setAgg wr X o c) := by
  have := h.hX
  refine ⟨?_, (heap_setCells_other X _ (by omega) _ _ _).trans h.q, h.tn.trans (.of_below (Below.setAgg (Below.refl _ _) (by omega) _ _)), h.hX, h.hR, h.hb⟩
  unfold setAgg; rw [heap_setCells_same X _ _ _ _ _ _ h.blk, hc]
theorem BaseIt.there (h : BaseIt w R b L X it wr) (o n : Nat) (hn : o + n ≤ 26) : there? wr X o n = true := there_blk h.blk o n (by simpa [RIt.size_arr] using hn)
theorem BaseIt.thereQ (h : BaseIt w R b L X it wr) : there? wr w.heap.size 0 26 = true := there_blk h.q 0 26 (by simp [RIt.size_arr])
theorem BaseIt.whole (h : BaseIt w R b L X it wr) : agg? wr X 0 26 = some it.arr := by
  rw [agg?_blk h.blk 0 26 (by simp [RIt.size_arr])]; simp [RIt.arr, RIt.cells]
theorem BaseIt.far (h : BaseIt w R b L X it wr) {d2 : Nat} {br : Bool} {Q o : Nat} {c : Array Value} (hQ : w.heap.size ≤ Q) (hr : RRdr w' R b off cap p L j d2 br) : RRdr (setAgg w' Q o c) R b off cap p L j d2 br :=
  hr.far (by have := h.hR; omega) fun e => by have := h.hb e; omega
/-- in the middle: what is left to be read is E of the rest -/
structure InIt (w : World) (R b off cap : Nat) (p : Option Addr) (L : List Sn) (deep X : Nat) (s : Sn) (r : Option (List Sn)) (E : List Sn → Option (List Sn)) (j : Nat) (it : RIt) (wr : World) : Prop where
  base : BaseIt w R b L X it wr
  hj : j ≤ L.length
  rd : RRdr wr R b off cap p L j deep false
  res : r = E (L.drop j)
  sgn : it.sign = s
/-- the reader is broken, so there is no item -/
structure OutIt (w : World) (R b off cap : Nat) (p : Option Addr) (L : List Sn) (deep X : Nat) (r : Option (List Sn)) (it : RIt) (wr : World) : Prop where
  base : BaseIt w R b L X it wr
  rd : ∃ j, j + deep ≤ L.length + 20 ∧ RRdr wr R b off cap p L j deep true
  res : r = none
/-- an item has been read -/
structure ItemPost (w : World) (R b off cap : Nat) (p : Option Addr) (L : List Sn) (i deep : Nat) (r : Option (List Sn)) (e : Ending) (w' : World) : Prop where
  ex : ∃ it : RIt, e = .returned (.agg it.arr) ∧ (∀ l, r = some l → L[i]? = some it.sign)
  rd : RTo w R b off cap p L deep r w'
theorem InIt.go (h : InIt w R b off cap p L deep X s r E j it wr) (rt : RTo wr R b off cap p L deep r1 w') {l : List Sn} (hr : r1 = some l) (hE : E (L.drop j) = r1.bind E') : ∃ j', InIt w R b off cap p L deep X s r E' j' it w' := by
  obtain ⟨j', h1, h2, h3⟩ := rt.yes l hr
  exact ⟨j', h.base.call rt.turned, h1, h3, by rw [h.res, hE, hr, ← h2]; rfl, h.sgn⟩
theorem InIt.halt (h : InIt w R b off cap p L deep X s r E j it wr) (rt : RTo wr R b off cap p L deep r1 w') (hr : r1 = none) (hE : E (L.drop j) = r1.bind E') : OutIt w R b off cap p L deep X r it w' :=
  ⟨h.base.call rt.turned, rt.no hr, by rw [h.res, hE, hr]; rfl⟩
theorem InIt.set (h : InIt w R b off cap p L deep X s r E j it wr) (o : Nat) (c : Array Value) (hc : setMany it.arr o c.toList = it'.arr) (hs : it'.sign = it.sign) : InIt w R b off cap p L deep X s r E j it' (setAgg wr X o c) :=
  ⟨h.base.set o c hc, h.hj, h.base.far (Nat.le_of_lt h.base.hX) h.rd, h.res, hs.trans h.sgn⟩
theorem OutIt.set (h : OutIt w R b off cap p L deep X r it wr) (o : Nat) (c : Array Value) (hc : setMany it.arr o c.toList = it'.arr) : OutIt w R b off cap p L deep X r it' (setAgg wr X o c) := by
  obtain ⟨j, h1, h2⟩ := h.rd
  exact ⟨h.base.set o c hc, ⟨j, h1, h.base.far (Nat.le_of_lt h.base.hX) h2⟩, h.res⟩
theorem InIt.drewN (h : InIt w R b off cap p L deep X s r E j it wr) (n : Nat) : InIt w R b off cap p L deep X s r E j it (wr.drewN n) :=
  ⟨h.base.call ((Turned.refl _ _ _).drewN n), h.hj, h.rd.drewN n, h.res, h.sgn⟩
theorem InIt.same (h : InIt w R b off cap p L deep X s r E j it wr) (hE : E (L.drop j) = E' (L.drop j)) : InIt w R b off cap p L deep X s r E' j it wr :=
  ⟨h.base, h.hj, h.rd, h.res.trans hE, h.sgn⟩
theorem InIt.done {i : Nat} (h : InIt w R b off cap p L deep X s r (fun l => some l) j it wr) (hs : L[i]? = some s) : ItemPost w R b off cap p L i deep r (.returned (.agg it.arr)) (setAgg wr w.heap.size 0 it.arr) :=
  ⟨⟨it, rfl, fun _ _ => by rw [h.sgn, hs]⟩, h.base.tn.trans (.of_below (Below.setAgg (Below.refl _ _) (Nat.le_refl _) _ _)), (fun l e => ⟨j, h.hj, by rw [h.res] at e; exact (Option.some.inj e).symm, h.base.far (Nat.le_refl _) h.rd⟩), fun e => by rw [h.res] at e; cases e⟩
theorem OutIt.done {i : Nat} (h : OutIt w R b off cap p L deep X r it wr) : ItemPost w R b off cap p L i deep r (.returned (.agg it.arr)) (setAgg wr w.heap.size 0 it.arr) := by
  obtain ⟨j, h1, h2⟩ := h.rd
  refine ⟨⟨it, rfl, fun l e => by rw [h.res] at e; cases e⟩, h.base.tn.trans (.of_below (Below.setAgg (Below.refl _ _) (Nat.le_refl _) _ _)), (fun l e => by rw [h.res] at e; cases e), fun e => ⟨j, h1, h.base.far (Nat.le_refl _) h2⟩⟩
end
/-- ahead of the first sign -/
structure PreIt (w : World) (R b off cap : Nat) (p : Option Addr) (L : List Sn) (i deep X : Nat) (it : RIt) (wr : World) : Prop where
  base : BaseIt w R b L X it wr
  hi : i ≤ L.length
  rd : RRdr wr R b off cap p L i deep false
theorem alloc3_facts (w : World) (o1 o2 o3 : Obj) : (((w.alloc o1).alloc o2).alloc o3).heap[w.heap.size]? = some o1 ∧ (((w.alloc o1).alloc o2).alloc o3).heap[w.heap.size + 2]? = some o3 ∧ Below w.heap.size w (((w.alloc o1).alloc o2).alloc o3) := by
  refine ⟨?_, ?_, (((Below.refl _ _).alloc (Nat.le_refl _) _).alloc (by simp) _).alloc (by simp; omega) _⟩
  · rw [Below.heap_alloc _ _ _ (by simp; omega), Below.heap_alloc _ _ _ (by simp), heap_alloc_new]
  · have := heap_alloc_new ((w.alloc o1).alloc o2) o3
    simpa using this
section
variable {w wr w' : World} {R b off cap i deep X : Nat} {p : Option Addr} {L : List Sn} {it it' : RIt} {s : Sn} {r r1 : Option (List Sn)} {E : List Sn → Option (List Sn)}
theorem PreIt.drewN (h : PreIt w R b off cap p L i deep X it wr) (n : Nat) : PreIt w R b off cap p L i deep X it (wr.drewN n) :=
  ⟨h.base.call ((Turned.refl _ _ _).drewN n), h.hi, h.rd.drewN n⟩
theorem PreIt.fail (h : PreIt w R b off cap p L i deep X it wr) (hd : deep ≤ 20) : OutIt w R b off cap p L deep X none it (wr.setCell ⟨R, 3, none⟩ (.bool true)) :=
  ⟨h.base.call ((Turned.refl _ R _).setCell (p := ⟨R, 3, none⟩) (.inl rfl) _), ⟨i, by have := h.hi; omega, h.rd.brk true⟩, rfl⟩
theorem PreIt.of (h : RRdr w R b off cap p L i deep false) (hi : i ≤ L.length) (o2 : Obj) (it : RIt) :
    PreIt w R b off cap p L i deep (w.heap.size + 2) it (((w.alloc (.cells RIt.zero.arr 152)).alloc o2).alloc (.cells it.arr 152)) := by
  obtain ⟨h1, h2, h3⟩ := alloc3_facts w (.cells RIt.zero.arr 152) o2 (.cells it.arr 152)
  exact ⟨⟨h2, h1, .of_below h3, by omega, h.ltR, h.ltb⟩, hi, h.below h3⟩
/-- a Left has been read, and put into x -/
theorem PreIt.left (h : PreIt w R b off cap p L i deep X it wr) {e : Ending} (hf : FencePost wr R b off cap p L i deep r1 e w') {s' : Sn} (he : e = .returned (.agg s'.arr)) {l : List Sn} (hr : r1 = some l) (hs : L[i]? = some s) (hE : r = r1.bind E) :
    ∃ j, InIt w R b off cap p L deep X s r E j { it with sign := s' } (setAgg w' X 0 s'.arr) := by
  obtain ⟨j, h1, h2, h3⟩ := hf.rd.yes l hr
  obtain ⟨s2, e2, hs2⟩ := hf.ex
  have hss : s' = s := by
    have := hs2 l hr
    rw [hs] at this
    rw [Option.some.inj this]
    rw [he] at e2
    have e3 : s'.arr = s2.arr := by injection e2 with e2; injection e2
    have := congrArg Array.toList e3
    obtain ⟨_, _, _, _, ⟨_, _, _, _, _⟩⟩ := s'
    obtain ⟨_, _, _, _, ⟨_, _, _, _, _⟩⟩ := s2
    simpa [Sn.arr, Sn.cells, and_assoc] using this
  have hb := h.base.call hf.rd.turned
  exact ⟨j, hb.set 0 s'.arr (setMany_RIt_sign _ _), h1, h.base.far (Nat.le_of_lt h.base.hX) h3, by rw [hE, hr, ← h2]; rfl, hss⟩
theorem PreIt.leftNot (h : PreIt w R b off cap p L i deep X it wr) {e : Ending} (hf : FencePost wr R b off cap p L i deep r1 e w') (s' : Sn) (hr : r1 = none) (hE : r = r1.bind E) :
    OutIt w R b off cap p L deep X r { it with sign := s' } (setAgg w' X 0 s'.arr) := by
  obtain ⟨j, h1, h2⟩ := hf.rd.no hr
  exact ⟨(h.base.call hf.rd.turned).set 0 s'.arr (setMany_RIt_sign _ _), ⟨j, h1, h.base.far (Nat.le_of_lt h.base.hX) h2⟩, by rw [hE, hr]; rfl⟩
end
end Go.Proofs.Ytkkdopfdoommnaa
