/-
  Layer 20, the document's side: what stands behind a sign is read.
-/
import Derived.Test.YtkkdopfdoommnaaR4
namespace Go.Proofs.Ytkkdopfdoommnaa
open Go.ChangeShapes Go.WideShapes Go.ChangeAt Go.RowKit
attribute [local go_sem ↓] Go.wp_at_zero Go.wp_at_succ

structure FieldsPost (w : World) (R b off cap : Nat) (p : Option Addr) (L : List Sn) (deep X : Nat) (s : Sn) (r : Option (List Sn)) (e : Ending) (w' : World) : Prop where
  e : e = .returned (.tuple #[])
  turned : Turned X R w w'
  blk : ∃ it : RIt, it.sign = s ∧ w'.heap[X]? = some (.cells it.arr 152 (0, 0))
  yes : ∀ l, r = some l → ∃ j, j ≤ L.length ∧ l = L.drop j ∧ RRdr w' R b off cap p L j deep false
  no : r = none → ∃ j, j + deep ≤ L.length + 20 ∧ RRdr w' R b off cap p L j deep true
structure AtFields (w : World) (R b off cap : Nat) (p : Option Addr) (L : List Sn) (i deep X : Nat) (it : RIt) (s : Sn) : Prop where
  rd : RRdr w R b off cap p L i deep false
  hi : i ≤ L.length
  blk : w.heap[X]? = some (.cells it.arr 152 (0, 0))
  sgn : it.sign = s
  hR : R < X
  hb : L ≠ [] → b < X
  hd : deep ≤ 20
/-- the sign has been loaded into a variable of its own -/
structure FMid (w : World) (s : Sn) (W : World) : Prop where
  below : Below w.heap.size w W
  sg : W.heap[w.heap.size]? = some (.cells s.arr 105 (0, 0))
theorem FMid.call {w W w' : World} {s : Sn} (h : FMid w s W) (hb : Below W.heap.size W w') : FMid w s w' :=
  ⟨h.below.trans (hb.mono h.below.size), (hb.block _ (Array.getElem?_eq_some_iff.1 h.sg).1).trans h.sg⟩
theorem FMid.agg {w W : World} {s : Sn} (h : FMid w s W) : agg? W w.heap.size 0 9 = some s.arr := by rw [agg?_blk h.sg 0 9 (by simp [Sn.size_arr])]; simp [Sn.arr, Sn.cells]
theorem FMid.n {w W : World} {s : Sn} (h : FMid w s W) : W.cell? ⟨w.heap.size, 3, none⟩ = some (.int .i64 s.n) := by rw [cell?_blk h.sg]; rfl
theorem FMid.k {w W : World} {s : Sn} (h : FMid w s W) : W.cell? ⟨w.heap.size, 0, none⟩ = some (.int .i64 s.kind) := by rw [cell?_blk h.sg]; rfl
theorem heap_setAgg_one {w : World} {X : Nat} {it : RIt} {t : TypeId} (h : w.heap[X]? = some (.cells it.arr t (0, 0))) (x : Pr) : (setAgg w X 9 x.arr).heap[X]? = some (.cells ({ it with one := x } : RIt).arr t (0, 0)) := by
  unfold setAgg; rw [heap_setCells_same X _ _ _ _ _ _ h, show x.arr.toList = x.cells from rfl, setMany_RIt_one]
theorem heap_setAgg_two {w : World} {X : Nat} {it : RIt} {t : TypeId} (h : w.heap[X]? = some (.cells it.arr t (0, 0))) (x : Pr) : (setAgg w X 11 x.arr).heap[X]? = some (.cells ({ it with two := x } : RIt).arr t (0, 0)) := by
  unfold setAgg; rw [heap_setCells_same X _ _ _ _ _ _ h, show x.arr.toList = x.cells from rfl, setMany_RIt_two]
section
variable {w W w' : World} {R b off cap i deep X : Nat} {p : Option Addr} {L : List Sn} {it : RIt} {s : Sn} {r : Option (List Sn)}
theorem AtFields.Xlt (h : AtFields w R b off cap p L i deep X it s) : X < w.heap.size := (Array.getElem?_eq_some_iff.1 h.blk).1
theorem AtFields.fail (h : AtFields w R b off cap p L i deep X it s) (hm : FMid w s W) : FieldsPost w R b off cap p L deep X s none (.returned (.tuple #[])) (W.setCell ⟨R, 3, none⟩ (.bool true)) := by
  have hR := h.hR
  have hX := h.Xlt
  refine ⟨rfl, (Turned.of_below (hm.below.mono (Nat.le_of_lt hX))).setCell (p := ⟨R, 3, none⟩) (.inl rfl) _, ⟨it, h.sgn, (Below.heap_setCell _ _ _ _ (by simp only; omega)).trans ((hm.below.block X hX).trans h.blk)⟩, (fun l e => by cases e), fun _ => ⟨i, by have := h.hi; have := h.hd; omega, (h.rd.below hm.below).brk true⟩⟩
theorem AtFields.same (h : AtFields w R b off cap p L i deep X it s) (hm : FMid w s W) : FieldsPost w R b off cap p L deep X s (some (L.drop i)) (.returned (.tuple #[])) W := by
  have hX := h.Xlt
  exact ⟨rfl, Turned.of_below (hm.below.mono (Nat.le_of_lt hX)), ⟨it, h.sgn, (hm.below.block X hX).trans h.blk⟩, (fun l e => ⟨i, h.hi, (Option.some.inj e).symm, h.rd.below hm.below⟩), fun e => by cases e⟩
theorem AtFields.blk6 (h : AtFields w R b off cap p L i deep X it s) (rt : RTo w R b off cap p L deep r w') : w'.heap[X]? = some (.cells it.arr 152 (0, 0)) :=
  (rt.turned.block X h.Xlt (by have := h.hR; omega)).trans h.blk
theorem AtFields.far (h : AtFields w R b off cap p L i deep X it s) {j d2 : Nat} {br : Bool} {o : Nat} {c : Array Value} (hr : RRdr w' R b off cap p L j d2 br) : RRdr (setAgg w' X o c) R b off cap p L j d2 br :=
  hr.far (by have := h.hR; omega) fun e => by have := h.hb e; omega
theorem AtFields.one (h : AtFields w R b off cap p L i deep X it s) (rt : RTo w R b off cap p L deep r w') (x : Pr) : FieldsPost w R b off cap p L deep X s r (.returned (.tuple #[])) (setAgg w' X 9 x.arr) := by
  have hX := h.Xlt
  refine ⟨rfl, (rt.turned.mono (Nat.le_of_lt hX)).trans (.of_below (Below.setAgg (Below.refl _ _) (Nat.le_refl _) _ _)), ⟨{ it with one := x }, h.sgn, heap_setAgg_one (h.blk6 rt) x⟩, fun l e => ?_, fun e => ?_⟩
  · obtain ⟨j, h1, h2, h3⟩ := rt.yes l e
    exact ⟨j, h1, h2, h.far h3⟩
  · obtain ⟨j, h1, h2⟩ := rt.no e
    exact ⟨j, h1, h.far h2⟩
theorem AtFields.two {r1 : Option (List Sn)} {w2 : World} (h : AtFields w R b off cap p L i deep X it s) (rt : RTo w R b off cap p L deep r1 w') (x : Pr) (to2 : RTo (setAgg w' X 9 x.arr) R b off cap p L deep r w2) (y : Pr) : FieldsPost w R b off cap p L deep X s r (.returned (.tuple #[])) (setAgg w2 X 11 y.arr) := by
  have hX := h.Xlt
  have hz := rt.turned.size
  have hb2 := (to2.turned.block X (by simp; omega) (by have := h.hR; omega)).trans (heap_setAgg_one (h.blk6 rt) x)
  refine ⟨rfl, (((rt.turned.mono (Nat.le_of_lt hX)).trans (.of_below (Below.setAgg (Below.refl _ _) (Nat.le_refl _) _ _))).trans (to2.turned.mono (by simp; omega))).trans (.of_below (Below.setAgg (Below.refl _ _) (Nat.le_refl _) _ _)), ⟨{ it with one := x, two := y }, h.sgn, heap_setAgg_two hb2 y⟩, fun l e => ?_, fun e => ?_⟩
  · obtain ⟨j, h1, h2, h3⟩ := to2.yes l e
    exact ⟨j, h1, h2, h.far h3⟩
  · obtain ⟨j, h1, h2⟩ := to2.no e
    exact ⟨j, h1, h.far h2⟩
theorem AtFields.field {D : Nat} (h : AtFields w R b off cap p L i deep X it s) (hF : RFieldOK D) (hD : deep + D = 20) (hm : FMid w s W) :
    Calls Try.prog 131 #[.pointer (some ⟨R, 0, none⟩)] W fun e w' => (∃ x : Pr, e = .returned (.agg x.arr)) ∧ RTo w R b off cap p L deep (fieldP D (L.drop i)) w' :=
  (hF R b off cap i deep p L W hD (h.rd.below hm.below) h.hi).mono fun _ _ ⟨h1, h2⟩ => ⟨h1, (Turned.of_below hm.below).trans (h2.turned.mono hm.below.size), h2.yes, h2.no⟩
theorem AtFields.second {D j : Nat} {r1 : Option (List Sn)} (h : AtFields w R b off cap p L i deep X it s) (hF : RFieldOK D) (hD : deep + D = 20) (rt : RTo w R b off cap p L deep r1 w') (x : Pr) (hj : j ≤ L.length) (hr : RRdr w' R b off cap p L j deep false) :
    Calls Try.prog 131 #[.pointer (some ⟨R, 0, none⟩)] (setAgg w' X 9 x.arr) fun e w2 => (∃ x : Pr, e = .returned (.agg x.arr)) ∧ RTo (setAgg w' X 9 x.arr) R b off cap p L deep (fieldP D (L.drop j)) w2 ∧ w2.heap[X]? = some (.cells ({ it with one := x } : RIt).arr 152 (0, 0)) :=
  (hF R b off cap j deep p L _ hD (h.far hr) hj).mono fun _ _ ⟨h1, h2⟩ => ⟨h1, h2, (h2.turned.block X (by have := rt.turned.size; have := h.Xlt; simp; omega) (by have := h.hR; omega)).trans (heap_setAgg_one (h.blk6 rt) x)⟩
end
/-- a function that only computes, called behind the sign's loading -/
def MidC (f : Nat) (a : Array Value) (w : World) (s : Sn) (v : Bool) : Prop := ∀ W, FMid w s W → Calls Try.prog f a W fun e w' => e = .returned (.bool v) ∧ FMid w s w'
theorem mid_plain (s : Sn) (c n : Bool) (w : World) {v : Bool} (hv : plainB s c n = v) : MidC 144 #[.agg s.arr, .bool c, .bool n] w s v := fun W hm => (rplain_any s c n W).mono fun _ _ ⟨h1, h2⟩ => ⟨h1.trans (ret_bool hv), hm.call h2⟩
theorem mid_fam (s : Sn) (w : World) {v : Bool} (hv : famB s = v) : MidC 145 #[.agg s.arr] w s v := fun W hm => (rfam_any s W).mono fun _ _ ⟨h1, h2⟩ => ⟨h1.trans (ret_bool hv), hm.call h2⟩
theorem mid_lone (s : Sn) (w : World) {v : Bool} (hv : loneB s = v) : MidC 146 #[.agg s.arr] w s v := fun W hm => (rlone_any s W).mono fun _ _ ⟨h1, h2⟩ => ⟨h1.trans (ret_bool hv), hm.call h2⟩
theorem mid_within (s : Sn) (lo hi : Int) (w : World) {v : Bool} (hv : withinB s.n lo hi = v) : MidC 54 #[.int .i64 s.n, .int .i64 lo, .int .i64 hi] w s v := fun _ hm => (rwithin_any _ _ _ _).mono fun _ _ ⟨h1, h2⟩ => ⟨h1.trans (ret_bool hv), h2 ▸ hm⟩
set_option maxRecDepth 100000 in
set_option maxHeartbeats 2000000 in
theorem rfA0 {D : Nat} (_hF : RFieldOK D) (R b off cap i deep X : Nat) (p : Option Addr) (L : List Sn) (it : RIt) (s : Sn) (w : World) (h : AtFields w R b off cap p L i deep X it s) (_hD : deep + D = 20) (h8 : s.kind ≤ 8) (hn : ((s.n : Int) == 0) = true) (q1 : plainB s true false = false) :
    Calls Try.prog 132 #[.pointer (some ⟨R, 0, none⟩), .pointer (some ⟨X, 0, none⟩)] w (FieldsPost w R b off cap p L deep X s (none)) := by
  have K0 := Lib.hid (mid_plain s true false w q1)
  have ax : agg? w X 0 9 = some s.arr := by rw [agg?_blk h.blk 0 9 (by simp [RIt.size_arr]), ← h.sgn]; rfl
  clear q1
  go_enter Try.func132, Try.ntmps132
  go_wp2_with fail
  have hm0 : FMid w s (w.alloc (.cells s.arr 105)) := ⟨(Below.refl _ _).alloc (Nat.le_refl _) _, heap_alloc_new _ _⟩
  generalize w.alloc (.cells s.arr 105) = W0 at hm0 ⊢
  clear ax
  refine (K0.out _ hm0).mono ?_
  rintro e W1 ⟨rfl, hm1⟩
  have a := hm1.agg
  have nn := hm1.n
  have kk := hm1.k
  have hrd := h.rd.below hm1.below
  have c3 := hrd.c3
  have cf := hrd.fr 3
  clear hrd
  go_wp2_with fail
  go_end0
  exact h.fail hm1
set_option maxRecDepth 100000 in
set_option maxHeartbeats 2000000 in
theorem rfA1 {D : Nat} (_hF : RFieldOK D) (R b off cap i deep X : Nat) (p : Option Addr) (L : List Sn) (it : RIt) (s : Sn) (w : World) (h : AtFields w R b off cap p L i deep X it s) (_hD : deep + D = 20) (h8 : s.kind ≤ 8) (hn : ((s.n : Int) == 0) = true) (q1 : plainB s true false = true) (q2 : famB s = false) :
    Calls Try.prog 132 #[.pointer (some ⟨R, 0, none⟩), .pointer (some ⟨X, 0, none⟩)] w (FieldsPost w R b off cap p L deep X s (none)) := by
  have K0 := Lib.hid (mid_plain s true false w q1)
  have K1 := Lib.hid (mid_fam s w q2)
  have ax : agg? w X 0 9 = some s.arr := by rw [agg?_blk h.blk 0 9 (by simp [RIt.size_arr]), ← h.sgn]; rfl
  clear q1 q2
  go_enter Try.func132, Try.ntmps132
  go_wp2_with fail
  have hm0 : FMid w s (w.alloc (.cells s.arr 105)) := ⟨(Below.refl _ _).alloc (Nat.le_refl _) _, heap_alloc_new _ _⟩
  generalize w.alloc (.cells s.arr 105) = W0 at hm0 ⊢
  clear ax
  refine (K0.out _ hm0).mono ?_
  rintro e W1 ⟨rfl, hm1⟩
  have a := hm1.agg
  have nn := hm1.n
  have kk := hm1.k
  have hrd := h.rd.below hm1.below
  have c3 := hrd.c3
  have cf := hrd.fr 3
  clear hrd
  go_wp2_with fail
  refine (K1.out _ hm1).mono ?_
  rintro e W2 ⟨rfl, hm2⟩
  clear a nn kk c3 cf
  have a := hm2.agg
  have nn := hm2.n
  have kk := hm2.k
  have hrd := h.rd.below hm2.below
  have c3 := hrd.c3
  have cf := hrd.fr 3
  clear hrd
  go_wp2_with fail
  go_end0
  exact h.fail hm2
set_option maxRecDepth 100000 in
set_option maxHeartbeats 2000000 in
theorem rfA2 {D : Nat} (_hF : RFieldOK D) (R b off cap i deep X : Nat) (p : Option Addr) (L : List Sn) (it : RIt) (s : Sn) (w : World) (h : AtFields w R b off cap p L i deep X it s) (_hD : deep + D = 20) (h8 : s.kind ≤ 8) (hn : ((s.n : Int) == 0) = true) (q1 : plainB s true false = true) (q2 : famB s = true) :
    Calls Try.prog 132 #[.pointer (some ⟨R, 0, none⟩), .pointer (some ⟨X, 0, none⟩)] w (FieldsPost w R b off cap p L deep X s (some (L.drop i))) := by
  have K0 := Lib.hid (mid_plain s true false w q1)
  have K1 := Lib.hid (mid_fam s w q2)
  have ax : agg? w X 0 9 = some s.arr := by rw [agg?_blk h.blk 0 9 (by simp [RIt.size_arr]), ← h.sgn]; rfl
  clear q1 q2
  go_enter Try.func132, Try.ntmps132
  go_wp2_with fail
  have hm0 : FMid w s (w.alloc (.cells s.arr 105)) := ⟨(Below.refl _ _).alloc (Nat.le_refl _) _, heap_alloc_new _ _⟩
  generalize w.alloc (.cells s.arr 105) = W0 at hm0 ⊢
  clear ax
  refine (K0.out _ hm0).mono ?_
  rintro e W1 ⟨rfl, hm1⟩
  have a := hm1.agg
  have nn := hm1.n
  have kk := hm1.k
  have hrd := h.rd.below hm1.below
  have c3 := hrd.c3
  have cf := hrd.fr 3
  clear hrd
  go_wp2_with fail
  refine (K1.out _ hm1).mono ?_
  rintro e W2 ⟨rfl, hm2⟩
  clear a nn kk c3 cf
  have a := hm2.agg
  have nn := hm2.n
  have kk := hm2.k
  have hrd := h.rd.below hm2.below
  have c3 := hrd.c3
  have cf := hrd.fr 3
  clear hrd
  go_wp2_with fail
  go_end0
  exact h.same hm2
set_option maxRecDepth 100000 in
set_option maxHeartbeats 2000000 in
theorem rfB0 {D : Nat} (_hF : RFieldOK D) (R b off cap i deep X : Nat) (p : Option Addr) (L : List Sn) (it : RIt) (s : Sn) (w : World) (h : AtFields w R b off cap p L i deep X it s) (_hD : deep + D = 20) (h8 : s.kind ≤ 8) (hn : ((s.n : Int) == 0) = false) (q1 : plainB s false true = false) :
    Calls Try.prog 132 #[.pointer (some ⟨R, 0, none⟩), .pointer (some ⟨X, 0, none⟩)] w (FieldsPost w R b off cap p L deep X s (none)) := by
  have K0 := Lib.hid (mid_plain s false true w q1)
  have ax : agg? w X 0 9 = some s.arr := by rw [agg?_blk h.blk 0 9 (by simp [RIt.size_arr]), ← h.sgn]; rfl
  clear q1
  go_enter Try.func132, Try.ntmps132
  go_wp2_with fail
  have hm0 : FMid w s (w.alloc (.cells s.arr 105)) := ⟨(Below.refl _ _).alloc (Nat.le_refl _) _, heap_alloc_new _ _⟩
  generalize w.alloc (.cells s.arr 105) = W0 at hm0 ⊢
  clear ax
  refine (K0.out _ hm0).mono ?_
  rintro e W1 ⟨rfl, hm1⟩
  have a := hm1.agg
  have nn := hm1.n
  have kk := hm1.k
  have hrd := h.rd.below hm1.below
  have c3 := hrd.c3
  have cf := hrd.fr 3
  clear hrd
  go_wp2_with fail
  go_end0
  exact h.fail hm1
set_option maxRecDepth 100000 in
set_option maxHeartbeats 2000000 in
theorem rfB1 {D : Nat} (_hF : RFieldOK D) (R b off cap i deep X : Nat) (p : Option Addr) (L : List Sn) (it : RIt) (s : Sn) (w : World) (h : AtFields w R b off cap p L i deep X it s) (_hD : deep + D = 20) (h8 : s.kind ≤ 8) (hn : ((s.n : Int) == 0) = false) (q1 : plainB s false true = true) (hn1 : ((s.n : Int) == 1) = false) :
    Calls Try.prog 132 #[.pointer (some ⟨R, 0, none⟩), .pointer (some ⟨X, 0, none⟩)] w (FieldsPost w R b off cap p L deep X s (none)) := by
  have K0 := Lib.hid (mid_plain s false true w q1)
  have ax : agg? w X 0 9 = some s.arr := by rw [agg?_blk h.blk 0 9 (by simp [RIt.size_arr]), ← h.sgn]; rfl
  clear q1
  go_enter Try.func132, Try.ntmps132
  go_wp2_with fail
  have hm0 : FMid w s (w.alloc (.cells s.arr 105)) := ⟨(Below.refl _ _).alloc (Nat.le_refl _) _, heap_alloc_new _ _⟩
  generalize w.alloc (.cells s.arr 105) = W0 at hm0 ⊢
  clear ax
  refine (K0.out _ hm0).mono ?_
  rintro e W1 ⟨rfl, hm1⟩
  have a := hm1.agg
  have nn := hm1.n
  have kk := hm1.k
  have hrd := h.rd.below hm1.below
  have c3 := hrd.c3
  have cf := hrd.fr 3
  clear hrd
  go_wp2_with fail
  go_end0
  exact h.fail hm1
set_option maxRecDepth 100000 in
set_option maxHeartbeats 2000000 in
theorem rfB2 {D : Nat} (hF : RFieldOK D) (R b off cap i deep X : Nat) (p : Option Addr) (L : List Sn) (it : RIt) (s : Sn) (w : World) (h : AtFields w R b off cap p L i deep X it s) (hD : deep + D = 20) (h8 : s.kind ≤ 8) (hn : ((s.n : Int) == 0) = false) (q1 : plainB s false true = true) (hn1 : ((s.n : Int) == 1) = true) :
    Calls Try.prog 132 #[.pointer (some ⟨R, 0, none⟩), .pointer (some ⟨X, 0, none⟩)] w (FieldsPost w R b off cap p L deep X s (fieldP D (L.drop i))) := by
  have K0 := Lib.hid (mid_plain s false true w q1)
  have HF := Lib.hid (fun (W : World) (hm : FMid w s W) => h.field hF hD hm)
  have ax : agg? w X 0 9 = some s.arr := by rw [agg?_blk h.blk 0 9 (by simp [RIt.size_arr]), ← h.sgn]; rfl
  clear q1
  go_enter Try.func132, Try.ntmps132
  go_wp2_with fail
  have hm0 : FMid w s (w.alloc (.cells s.arr 105)) := ⟨(Below.refl _ _).alloc (Nat.le_refl _) _, heap_alloc_new _ _⟩
  generalize w.alloc (.cells s.arr 105) = W0 at hm0 ⊢
  clear ax
  refine (K0.out _ hm0).mono ?_
  rintro e W1 ⟨rfl, hm1⟩
  have a := hm1.agg
  have nn := hm1.n
  have kk := hm1.k
  have hrd := h.rd.below hm1.below
  have c3 := hrd.c3
  have cf := hrd.fr 3
  clear hrd
  go_wp2_with fail
  refine (HF.out _ hm1).mono ?_
  rintro e w6 ⟨⟨x, rfl⟩, to6⟩
  clear a nn kk c3 cf
  have hth := there_blk (h.blk6 to6) 9 2 (by simp [RIt.size_arr])
  go_wp2_with fail
  go_end0
  exact h.one to6 x
set_option maxRecDepth 100000 in
set_option maxHeartbeats 2000000 in
theorem rfC0 {D : Nat} (_hF : RFieldOK D) (R b off cap i deep X : Nat) (p : Option Addr) (L : List Sn) (it : RIt) (s : Sn) (w : World) (h : AtFields w R b off cap p L i deep X it s) (_hD : deep + D = 20) (hk : s.kind = 9) (q1 : plainB s false true = false) :
    Calls Try.prog 132 #[.pointer (some ⟨R, 0, none⟩), .pointer (some ⟨X, 0, none⟩)] w (FieldsPost w R b off cap p L deep X s (none)) := by
  have K0 := Lib.hid (mid_plain s false true w q1)
  have ax : agg? w X 0 9 = some s.arr := by rw [agg?_blk h.blk 0 9 (by simp [RIt.size_arr]), ← h.sgn]; rfl
  clear q1
  go_enter Try.func132, Try.ntmps132
  go_wp2_with fail
  have hm0 : FMid w s (w.alloc (.cells s.arr 105)) := ⟨(Below.refl _ _).alloc (Nat.le_refl _) _, heap_alloc_new _ _⟩
  generalize w.alloc (.cells s.arr 105) = W0 at hm0 ⊢
  clear ax
  refine (K0.out _ hm0).mono ?_
  rintro e W1 ⟨rfl, hm1⟩
  have a := hm1.agg
  have nn := hm1.n
  have kk := hm1.k
  have hrd := h.rd.below hm1.below
  have c3 := hrd.c3
  have cf := hrd.fr 3
  clear hrd
  go_wp2_with fail
  go_end0
  exact h.fail hm1
set_option maxRecDepth 100000 in
set_option maxHeartbeats 2000000 in
theorem rfC1 {D : Nat} (_hF : RFieldOK D) (R b off cap i deep X : Nat) (p : Option Addr) (L : List Sn) (it : RIt) (s : Sn) (w : World) (h : AtFields w R b off cap p L i deep X it s) (_hD : deep + D = 20) (hk : s.kind = 9) (q1 : plainB s false true = true) (q2 : withinB s.n (-1) 1073741823 = false) :
    Calls Try.prog 132 #[.pointer (some ⟨R, 0, none⟩), .pointer (some ⟨X, 0, none⟩)] w (FieldsPost w R b off cap p L deep X s (none)) := by
  have K0 := Lib.hid (mid_plain s false true w q1)
  have K1 := Lib.hid (mid_within s (-1) 1073741823 w q2)
  have ax : agg? w X 0 9 = some s.arr := by rw [agg?_blk h.blk 0 9 (by simp [RIt.size_arr]), ← h.sgn]; rfl
  clear q1 q2
  go_enter Try.func132, Try.ntmps132
  go_wp2_with fail
  have hm0 : FMid w s (w.alloc (.cells s.arr 105)) := ⟨(Below.refl _ _).alloc (Nat.le_refl _) _, heap_alloc_new _ _⟩
  generalize w.alloc (.cells s.arr 105) = W0 at hm0 ⊢
  clear ax
  refine (K0.out _ hm0).mono ?_
  rintro e W1 ⟨rfl, hm1⟩
  have a := hm1.agg
  have nn := hm1.n
  have kk := hm1.k
  have hrd := h.rd.below hm1.below
  have c3 := hrd.c3
  have cf := hrd.fr 3
  clear hrd
  go_wp2_with fail
  refine (K1.out _ hm1).mono ?_
  rintro e W2 ⟨rfl, hm2⟩
  clear a nn kk c3 cf
  have a := hm2.agg
  have nn := hm2.n
  have kk := hm2.k
  have hrd := h.rd.below hm2.below
  have c3 := hrd.c3
  have cf := hrd.fr 3
  clear hrd
  go_wp2_with fail
  go_end0
  exact h.fail hm2
set_option maxRecDepth 100000 in
set_option maxHeartbeats 2000000 in
theorem rfC2 {D : Nat} (hF : RFieldOK D) (R b off cap i deep X : Nat) (p : Option Addr) (L : List Sn) (it : RIt) (s : Sn) (w : World) (h : AtFields w R b off cap p L i deep X it s) (hD : deep + D = 20) (hk : s.kind = 9) (q1 : plainB s false true = true) (q2 : withinB s.n (-1) 1073741823 = true) (hr : fieldP D (L.drop i) = none) :
    Calls Try.prog 132 #[.pointer (some ⟨R, 0, none⟩), .pointer (some ⟨X, 0, none⟩)] w (FieldsPost w R b off cap p L deep X s (none)) := by
  have K0 := Lib.hid (mid_plain s false true w q1)
  have K1 := Lib.hid (mid_within s (-1) 1073741823 w q2)
  have HR := Lib.hid hr
  have HF := Lib.hid (fun (W : World) (hm : FMid w s W) => h.field hF hD hm)
  have ax : agg? w X 0 9 = some s.arr := by rw [agg?_blk h.blk 0 9 (by simp [RIt.size_arr]), ← h.sgn]; rfl
  clear q1 q2
  clear hr
  go_enter Try.func132, Try.ntmps132
  go_wp2_with fail
  have hm0 : FMid w s (w.alloc (.cells s.arr 105)) := ⟨(Below.refl _ _).alloc (Nat.le_refl _) _, heap_alloc_new _ _⟩
  generalize w.alloc (.cells s.arr 105) = W0 at hm0 ⊢
  clear ax
  refine (K0.out _ hm0).mono ?_
  rintro e W1 ⟨rfl, hm1⟩
  have a := hm1.agg
  have nn := hm1.n
  have kk := hm1.k
  have hrd := h.rd.below hm1.below
  have c3 := hrd.c3
  have cf := hrd.fr 3
  clear hrd
  go_wp2_with fail
  refine (K1.out _ hm1).mono ?_
  rintro e W2 ⟨rfl, hm2⟩
  clear a nn kk c3 cf
  have a := hm2.agg
  have nn := hm2.n
  have kk := hm2.k
  have hrd := h.rd.below hm2.below
  have c3 := hrd.c3
  have cf := hrd.fr 3
  clear hrd
  go_wp2_with fail
  refine (HF.out _ hm2).mono ?_
  rintro e w6 ⟨⟨x, rfl⟩, to6⟩
  clear a nn kk c3 cf
  have hth := there_blk (h.blk6 to6) 9 2 (by simp [RIt.size_arr])
  rw [HR.out] at to6
  obtain ⟨j, hj, h6⟩ := to6.no rfl
  have c3 := (h.far (o := 9) (c := x.arr) h6).c3
  clear h6
  go_wp2_with fail
  go_end0
  exact h.one to6 x
set_option maxRecDepth 100000 in
set_option maxHeartbeats 2000000 in
theorem rfC3 {D : Nat} (hF : RFieldOK D) (R b off cap i deep X : Nat) (p : Option Addr) (L : List Sn) (it : RIt) (s : Sn) (w : World) (h : AtFields w R b off cap p L i deep X it s) (hD : deep + D = 20) (hk : s.kind = 9) (q1 : plainB s false true = true) (q2 : withinB s.n (-1) 1073741823 = true) (l : List Sn) (hr : fieldP D (L.drop i) = some l) :
    Calls Try.prog 132 #[.pointer (some ⟨R, 0, none⟩), .pointer (some ⟨X, 0, none⟩)] w (FieldsPost w R b off cap p L deep X s (fieldP D l)) := by
  have K0 := Lib.hid (mid_plain s false true w q1)
  have K1 := Lib.hid (mid_within s (-1) 1073741823 w q2)
  have HR := Lib.hid hr
  have HF := Lib.hid (fun (W : World) (hm : FMid w s W) => h.field hF hD hm)
  have ax : agg? w X 0 9 = some s.arr := by rw [agg?_blk h.blk 0 9 (by simp [RIt.size_arr]), ← h.sgn]; rfl
  clear q1 q2
  clear hr
  go_enter Try.func132, Try.ntmps132
  go_wp2_with fail
  have hm0 : FMid w s (w.alloc (.cells s.arr 105)) := ⟨(Below.refl _ _).alloc (Nat.le_refl _) _, heap_alloc_new _ _⟩
  generalize w.alloc (.cells s.arr 105) = W0 at hm0 ⊢
  clear ax
  refine (K0.out _ hm0).mono ?_
  rintro e W1 ⟨rfl, hm1⟩
  have a := hm1.agg
  have nn := hm1.n
  have kk := hm1.k
  have hrd := h.rd.below hm1.below
  have c3 := hrd.c3
  have cf := hrd.fr 3
  clear hrd
  go_wp2_with fail
  refine (K1.out _ hm1).mono ?_
  rintro e W2 ⟨rfl, hm2⟩
  clear a nn kk c3 cf
  have a := hm2.agg
  have nn := hm2.n
  have kk := hm2.k
  have hrd := h.rd.below hm2.below
  have c3 := hrd.c3
  have cf := hrd.fr 3
  clear hrd
  go_wp2_with fail
  refine (HF.out _ hm2).mono ?_
  rintro e w6 ⟨⟨x, rfl⟩, to6⟩
  clear a nn kk c3 cf
  have hth := there_blk (h.blk6 to6) 9 2 (by simp [RIt.size_arr])
  rw [HR.out] at to6
  obtain ⟨j, hj, rfl, h6⟩ := to6.yes l rfl
  have c3 := (h.far (o := 9) (c := x.arr) h6).c3
  have K9 := Lib.hid (h.second hF hD to6 x hj h6)
  clear h6 HR
  go_wp2_with fail
  refine K9.out.mono ?_
  clear c3 hth K9
  rintro e w8 ⟨⟨y, rfl⟩, to8, hb8⟩
  have hth := there_blk hb8 11 2 (by simp [RIt.size_arr])
  clear hb8
  go_wp2_with fail
  go_end0
  exact h.two to6 x to8 y
set_option maxRecDepth 100000 in
set_option maxHeartbeats 2000000 in
theorem rfD0 {D : Nat} (_hF : RFieldOK D) (R b off cap i deep X : Nat) (p : Option Addr) (L : List Sn) (it : RIt) (s : Sn) (w : World) (h : AtFields w R b off cap p L i deep X it s) (_hD : deep + D = 20) (hk : s.kind = 10) (q1 : plainB s true false = false) :
    Calls Try.prog 132 #[.pointer (some ⟨R, 0, none⟩), .pointer (some ⟨X, 0, none⟩)] w (FieldsPost w R b off cap p L deep X s (none)) := by
  have K0 := Lib.hid (mid_plain s true false w q1)
  have ax : agg? w X 0 9 = some s.arr := by rw [agg?_blk h.blk 0 9 (by simp [RIt.size_arr]), ← h.sgn]; rfl
  clear q1
  go_enter Try.func132, Try.ntmps132
  go_wp2_with fail
  have hm0 : FMid w s (w.alloc (.cells s.arr 105)) := ⟨(Below.refl _ _).alloc (Nat.le_refl _) _, heap_alloc_new _ _⟩
  generalize w.alloc (.cells s.arr 105) = W0 at hm0 ⊢
  clear ax
  refine (K0.out _ hm0).mono ?_
  rintro e W1 ⟨rfl, hm1⟩
  have a := hm1.agg
  have nn := hm1.n
  have kk := hm1.k
  have hrd := h.rd.below hm1.below
  have c3 := hrd.c3
  have cf := hrd.fr 3
  clear hrd
  go_wp2_with fail
  go_end0
  exact h.fail hm1
set_option maxRecDepth 100000 in
set_option maxHeartbeats 2000000 in
theorem rfD1 {D : Nat} (_hF : RFieldOK D) (R b off cap i deep X : Nat) (p : Option Addr) (L : List Sn) (it : RIt) (s : Sn) (w : World) (h : AtFields w R b off cap p L i deep X it s) (_hD : deep + D = 20) (hk : s.kind = 10) (q1 : plainB s true false = true) (q2 : famB s = false) :
    Calls Try.prog 132 #[.pointer (some ⟨R, 0, none⟩), .pointer (some ⟨X, 0, none⟩)] w (FieldsPost w R b off cap p L deep X s (none)) := by
  have K0 := Lib.hid (mid_plain s true false w q1)
  have K1 := Lib.hid (mid_fam s w q2)
  have ax : agg? w X 0 9 = some s.arr := by rw [agg?_blk h.blk 0 9 (by simp [RIt.size_arr]), ← h.sgn]; rfl
  clear q1 q2
  go_enter Try.func132, Try.ntmps132
  go_wp2_with fail
  have hm0 : FMid w s (w.alloc (.cells s.arr 105)) := ⟨(Below.refl _ _).alloc (Nat.le_refl _) _, heap_alloc_new _ _⟩
  generalize w.alloc (.cells s.arr 105) = W0 at hm0 ⊢
  clear ax
  refine (K0.out _ hm0).mono ?_
  rintro e W1 ⟨rfl, hm1⟩
  have a := hm1.agg
  have nn := hm1.n
  have kk := hm1.k
  have hrd := h.rd.below hm1.below
  have c3 := hrd.c3
  have cf := hrd.fr 3
  clear hrd
  go_wp2_with fail
  refine (K1.out _ hm1).mono ?_
  rintro e W2 ⟨rfl, hm2⟩
  clear a nn kk c3 cf
  have a := hm2.agg
  have nn := hm2.n
  have kk := hm2.k
  have hrd := h.rd.below hm2.below
  have c3 := hrd.c3
  have cf := hrd.fr 3
  clear hrd
  go_wp2_with fail
  go_end0
  exact h.fail hm2
set_option maxRecDepth 100000 in
set_option maxHeartbeats 2000000 in
theorem rfD2 {D : Nat} (hF : RFieldOK D) (R b off cap i deep X : Nat) (p : Option Addr) (L : List Sn) (it : RIt) (s : Sn) (w : World) (h : AtFields w R b off cap p L i deep X it s) (hD : deep + D = 20) (hk : s.kind = 10) (q1 : plainB s true false = true) (q2 : famB s = true) :
    Calls Try.prog 132 #[.pointer (some ⟨R, 0, none⟩), .pointer (some ⟨X, 0, none⟩)] w (FieldsPost w R b off cap p L deep X s (fieldP D (L.drop i))) := by
  have K0 := Lib.hid (mid_plain s true false w q1)
  have K1 := Lib.hid (mid_fam s w q2)
  have HF := Lib.hid (fun (W : World) (hm : FMid w s W) => h.field hF hD hm)
  have ax : agg? w X 0 9 = some s.arr := by rw [agg?_blk h.blk 0 9 (by simp [RIt.size_arr]), ← h.sgn]; rfl
  clear q1 q2
  go_enter Try.func132, Try.ntmps132
  go_wp2_with fail
  have hm0 : FMid w s (w.alloc (.cells s.arr 105)) := ⟨(Below.refl _ _).alloc (Nat.le_refl _) _, heap_alloc_new _ _⟩
  generalize w.alloc (.cells s.arr 105) = W0 at hm0 ⊢
  clear ax
  refine (K0.out _ hm0).mono ?_
  rintro e W1 ⟨rfl, hm1⟩
  have a := hm1.agg
  have nn := hm1.n
  have kk := hm1.k
  have hrd := h.rd.below hm1.below
  have c3 := hrd.c3
  have cf := hrd.fr 3
  clear hrd
  go_wp2_with fail
  refine (K1.out _ hm1).mono ?_
  rintro e W2 ⟨rfl, hm2⟩
  clear a nn kk c3 cf
  have a := hm2.agg
  have nn := hm2.n
  have kk := hm2.k
  have hrd := h.rd.below hm2.below
  have c3 := hrd.c3
  have cf := hrd.fr 3
  clear hrd
  go_wp2_with fail
  refine (HF.out _ hm2).mono ?_
  rintro e w6 ⟨⟨x, rfl⟩, to6⟩
  clear a nn kk c3 cf
  have hth := there_blk (h.blk6 to6) 9 2 (by simp [RIt.size_arr])
  go_wp2_with fail
  go_end0
  exact h.one to6 x
set_option maxRecDepth 100000 in
set_option maxHeartbeats 2000000 in
theorem rfE0 {D : Nat} (_hF : RFieldOK D) (R b off cap i deep X : Nat) (p : Option Addr) (L : List Sn) (it : RIt) (s : Sn) (w : World) (h : AtFields w R b off cap p L i deep X it s) (_hD : deep + D = 20) (hk : s.kind = 11) (q1 : plainB s false false = false) :
    Calls Try.prog 132 #[.pointer (some ⟨R, 0, none⟩), .pointer (some ⟨X, 0, none⟩)] w (FieldsPost w R b off cap p L deep X s (none)) := by
  have K0 := Lib.hid (mid_plain s false false w q1)
  have ax : agg? w X 0 9 = some s.arr := by rw [agg?_blk h.blk 0 9 (by simp [RIt.size_arr]), ← h.sgn]; rfl
  clear q1
  go_enter Try.func132, Try.ntmps132
  go_wp2_with fail
  have hm0 : FMid w s (w.alloc (.cells s.arr 105)) := ⟨(Below.refl _ _).alloc (Nat.le_refl _) _, heap_alloc_new _ _⟩
  generalize w.alloc (.cells s.arr 105) = W0 at hm0 ⊢
  clear ax
  refine (K0.out _ hm0).mono ?_
  rintro e W1 ⟨rfl, hm1⟩
  have a := hm1.agg
  have nn := hm1.n
  have kk := hm1.k
  have hrd := h.rd.below hm1.below
  have c3 := hrd.c3
  have cf := hrd.fr 3
  clear hrd
  go_wp2_with fail
  go_end0
  exact h.fail hm1
set_option maxRecDepth 100000 in
set_option maxHeartbeats 2000000 in
theorem rfE1 {D : Nat} (hF : RFieldOK D) (R b off cap i deep X : Nat) (p : Option Addr) (L : List Sn) (it : RIt) (s : Sn) (w : World) (h : AtFields w R b off cap p L i deep X it s) (hD : deep + D = 20) (hk : s.kind = 11) (q1 : plainB s false false = true) :
    Calls Try.prog 132 #[.pointer (some ⟨R, 0, none⟩), .pointer (some ⟨X, 0, none⟩)] w (FieldsPost w R b off cap p L deep X s (fieldP D (L.drop i))) := by
  have K0 := Lib.hid (mid_plain s false false w q1)
  have HF := Lib.hid (fun (W : World) (hm : FMid w s W) => h.field hF hD hm)
  have ax : agg? w X 0 9 = some s.arr := by rw [agg?_blk h.blk 0 9 (by simp [RIt.size_arr]), ← h.sgn]; rfl
  clear q1
  go_enter Try.func132, Try.ntmps132
  go_wp2_with fail
  have hm0 : FMid w s (w.alloc (.cells s.arr 105)) := ⟨(Below.refl _ _).alloc (Nat.le_refl _) _, heap_alloc_new _ _⟩
  generalize w.alloc (.cells s.arr 105) = W0 at hm0 ⊢
  clear ax
  refine (K0.out _ hm0).mono ?_
  rintro e W1 ⟨rfl, hm1⟩
  have a := hm1.agg
  have nn := hm1.n
  have kk := hm1.k
  have hrd := h.rd.below hm1.below
  have c3 := hrd.c3
  have cf := hrd.fr 3
  clear hrd
  go_wp2_with fail
  refine (HF.out _ hm1).mono ?_
  rintro e w6 ⟨⟨x, rfl⟩, to6⟩
  clear a nn kk c3 cf
  have hth := there_blk (h.blk6 to6) 9 2 (by simp [RIt.size_arr])
  go_wp2_with fail
  go_end0
  exact h.one to6 x
set_option maxRecDepth 100000 in
set_option maxHeartbeats 2000000 in
theorem rfF0 {D : Nat} (_hF : RFieldOK D) (R b off cap i deep X : Nat) (p : Option Addr) (L : List Sn) (it : RIt) (s : Sn) (w : World) (h : AtFields w R b off cap p L i deep X it s) (_hD : deep + D = 20) (hk : s.kind = 12) (q1 : plainB s false false = false) :
    Calls Try.prog 132 #[.pointer (some ⟨R, 0, none⟩), .pointer (some ⟨X, 0, none⟩)] w (FieldsPost w R b off cap p L deep X s (none)) := by
  have K0 := Lib.hid (mid_plain s false false w q1)
  have ax : agg? w X 0 9 = some s.arr := by rw [agg?_blk h.blk 0 9 (by simp [RIt.size_arr]), ← h.sgn]; rfl
  clear q1
  go_enter Try.func132, Try.ntmps132
  go_wp2_with fail
  have hm0 : FMid w s (w.alloc (.cells s.arr 105)) := ⟨(Below.refl _ _).alloc (Nat.le_refl _) _, heap_alloc_new _ _⟩
  generalize w.alloc (.cells s.arr 105) = W0 at hm0 ⊢
  clear ax
  refine (K0.out _ hm0).mono ?_
  rintro e W1 ⟨rfl, hm1⟩
  have a := hm1.agg
  have nn := hm1.n
  have kk := hm1.k
  have hrd := h.rd.below hm1.below
  have c3 := hrd.c3
  have cf := hrd.fr 3
  clear hrd
  go_wp2_with fail
  go_end0
  exact h.fail hm1
set_option maxRecDepth 100000 in
set_option maxHeartbeats 2000000 in
theorem rfF1 {D : Nat} (hF : RFieldOK D) (R b off cap i deep X : Nat) (p : Option Addr) (L : List Sn) (it : RIt) (s : Sn) (w : World) (h : AtFields w R b off cap p L i deep X it s) (hD : deep + D = 20) (hk : s.kind = 12) (q1 : plainB s false false = true) :
    Calls Try.prog 132 #[.pointer (some ⟨R, 0, none⟩), .pointer (some ⟨X, 0, none⟩)] w (FieldsPost w R b off cap p L deep X s (fieldP D (L.drop i))) := by
  have K0 := Lib.hid (mid_plain s false false w q1)
  have HF := Lib.hid (fun (W : World) (hm : FMid w s W) => h.field hF hD hm)
  have ax : agg? w X 0 9 = some s.arr := by rw [agg?_blk h.blk 0 9 (by simp [RIt.size_arr]), ← h.sgn]; rfl
  clear q1
  go_enter Try.func132, Try.ntmps132
  go_wp2_with fail
  have hm0 : FMid w s (w.alloc (.cells s.arr 105)) := ⟨(Below.refl _ _).alloc (Nat.le_refl _) _, heap_alloc_new _ _⟩
  generalize w.alloc (.cells s.arr 105) = W0 at hm0 ⊢
  clear ax
  refine (K0.out _ hm0).mono ?_
  rintro e W1 ⟨rfl, hm1⟩
  have a := hm1.agg
  have nn := hm1.n
  have kk := hm1.k
  have hrd := h.rd.below hm1.below
  have c3 := hrd.c3
  have cf := hrd.fr 3
  clear hrd
  go_wp2_with fail
  refine (HF.out _ hm1).mono ?_
  rintro e w6 ⟨⟨x, rfl⟩, to6⟩
  clear a nn kk c3 cf
  have hth := there_blk (h.blk6 to6) 9 2 (by simp [RIt.size_arr])
  go_wp2_with fail
  go_end0
  exact h.one to6 x
set_option maxRecDepth 100000 in
set_option maxHeartbeats 2000000 in
theorem rfG0 {D : Nat} (_hF : RFieldOK D) (R b off cap i deep X : Nat) (p : Option Addr) (L : List Sn) (it : RIt) (s : Sn) (w : World) (h : AtFields w R b off cap p L i deep X it s) (_hD : deep + D = 20) (h8 : 14 < s.kind) (e9 : ((s.kind : Int) == 9) = false) (e10 : ((s.kind : Int) == 10) = false) (e11 : ((s.kind : Int) == 11) = false) (e12 : ((s.kind : Int) == 12) = false) (q1 : loneB s = false) :
    Calls Try.prog 132 #[.pointer (some ⟨R, 0, none⟩), .pointer (some ⟨X, 0, none⟩)] w (FieldsPost w R b off cap p L deep X s (none)) := by
  have K0 := Lib.hid (mid_lone s w q1)
  have ax : agg? w X 0 9 = some s.arr := by rw [agg?_blk h.blk 0 9 (by simp [RIt.size_arr]), ← h.sgn]; rfl
  clear q1
  go_enter Try.func132, Try.ntmps132
  go_wp2_with fail
  have hm0 : FMid w s (w.alloc (.cells s.arr 105)) := ⟨(Below.refl _ _).alloc (Nat.le_refl _) _, heap_alloc_new _ _⟩
  generalize w.alloc (.cells s.arr 105) = W0 at hm0 ⊢
  clear ax
  refine (K0.out _ hm0).mono ?_
  rintro e W1 ⟨rfl, hm1⟩
  have a := hm1.agg
  have nn := hm1.n
  have kk := hm1.k
  have hrd := h.rd.below hm1.below
  have c3 := hrd.c3
  have cf := hrd.fr 3
  clear hrd
  go_wp2_with fail
  go_end0
  exact h.fail hm1
set_option maxRecDepth 100000 in
set_option maxHeartbeats 2000000 in
theorem rfG1 {D : Nat} (_hF : RFieldOK D) (R b off cap i deep X : Nat) (p : Option Addr) (L : List Sn) (it : RIt) (s : Sn) (w : World) (h : AtFields w R b off cap p L i deep X it s) (_hD : deep + D = 20) (h8 : 14 < s.kind) (e9 : ((s.kind : Int) == 9) = false) (e10 : ((s.kind : Int) == 10) = false) (e11 : ((s.kind : Int) == 11) = false) (e12 : ((s.kind : Int) == 12) = false) (q1 : loneB s = true) :
    Calls Try.prog 132 #[.pointer (some ⟨R, 0, none⟩), .pointer (some ⟨X, 0, none⟩)] w (FieldsPost w R b off cap p L deep X s (some (L.drop i))) := by
  have K0 := Lib.hid (mid_lone s w q1)
  have ax : agg? w X 0 9 = some s.arr := by rw [agg?_blk h.blk 0 9 (by simp [RIt.size_arr]), ← h.sgn]; rfl
  clear q1
  go_enter Try.func132, Try.ntmps132
  go_wp2_with fail
  have hm0 : FMid w s (w.alloc (.cells s.arr 105)) := ⟨(Below.refl _ _).alloc (Nat.le_refl _) _, heap_alloc_new _ _⟩
  generalize w.alloc (.cells s.arr 105) = W0 at hm0 ⊢
  clear ax
  refine (K0.out _ hm0).mono ?_
  rintro e W1 ⟨rfl, hm1⟩
  have a := hm1.agg
  have nn := hm1.n
  have kk := hm1.k
  have hrd := h.rd.below hm1.below
  have c3 := hrd.c3
  have cf := hrd.fr 3
  clear hrd
  go_wp2_with fail
  go_end0
  exact h.same hm1

theorem times_one (f : List Sn → Option (List Sn)) (l : List Sn) : times f 1 l = f l := by
  rw [times]; cases f l <;> rfl
theorem times_two (f : List Sn → Option (List Sn)) (l : List Sn) : times f 2 l = (f l).bind f := by
  rw [times]; cases f l with
  | none => rfl
  | some m => exact times_one f m
theorem rfields_any {D : Nat} (hF : RFieldOK D) (R b off cap i deep X : Nat) (p : Option Addr) (L : List Sn) (it : RIt) (s : Sn) (w : World) (h : AtFields w R b off cap p L i deep X it s) (hD : deep + D = 20) (h1 : 1 ≤ s.kind) (h18 : s.kind ≤ 18) (h13 : s.kind ≠ 13) (h14 : s.kind ≠ 14) :
    Calls Try.prog 132 #[.pointer (some ⟨R, 0, none⟩), .pointer (some ⟨X, 0, none⟩)] w (FieldsPost w R b off cap p L deep X s (if goodB s then times (fieldP D) (partsI s).toNat (L.drop i) else none)) := by
  rw [← head_good h1 h18 h13 h14]
  by_cases h8 : s.kind ≤ 8
  · have hp : partsI s = s.n := by unfold partsI; repeat (rw [if_neg (by omega)])
    by_cases hn : s.n = 0
    · have hh : headB s = (plainB s true false && famB s) := by unfold headB; rw [if_pos h8, if_pos hn]
      have hn' : ((s.n : Int) == 0) = true := by simpa using hn
      rw [hh, hp, hn]
      cases q1 : plainB s true false
      · exact rfA0 hF R b off cap i deep X p L it s w h hD h8 hn' q1
      · cases q2 : famB s
        · exact rfA1 hF R b off cap i deep X p L it s w h hD h8 hn' q1 q2
        · exact rfA2 hF R b off cap i deep X p L it s w h hD h8 hn' q1 q2
    · have hh : headB s = (plainB s false true && decide (s.n = 1)) := by unfold headB; rw [if_pos h8, if_neg hn]
      have hn' : ((s.n : Int) == 0) = false := by simpa using hn
      rw [hh, hp]
      cases q1 : plainB s false true
      · exact rfB0 hF R b off cap i deep X p L it s w h hD h8 hn' q1
      · by_cases hn1 : s.n = 1
        · rw [hn1]
          have := rfB2 hF R b off cap i deep X p L it s w h hD h8 hn' q1 (by simpa using hn1)
          rw [← times_one (fieldP D)] at this
          exact this
        · rw [decide_eq_false hn1]
          exact rfB1 hF R b off cap i deep X p L it s w h hD h8 hn' q1 (by simpa using hn1)
  · by_cases h9 : s.kind = 9
    · have hp : partsI s = 2 := by unfold partsI; rw [if_pos h9]
      have hh : headB s = (plainB s false true && withinB s.n (-1) 1073741823) := by unfold headB; rw [if_neg h8, if_pos h9]
      rw [hh, hp, show ((2 : Int).toNat) = 2 from rfl, times_two]
      cases q1 : plainB s false true
      · exact rfC0 hF R b off cap i deep X p L it s w h hD h9 q1
      · cases q2 : withinB s.n (-1) 1073741823
        · exact rfC1 hF R b off cap i deep X p L it s w h hD h9 q1 q2
        · cases hr : fieldP D (L.drop i) with
          | none => exact rfC2 hF R b off cap i deep X p L it s w h hD h9 q1 q2 hr
          | some l => exact rfC3 hF R b off cap i deep X p L it s w h hD h9 q1 q2 l hr
    · by_cases h10 : s.kind = 10
      · have hp : partsI s = 1 := by unfold partsI; rw [if_neg h9, if_pos (by omega)]
        have hh : headB s = (plainB s true false && famB s) := by unfold headB; rw [if_neg h8, if_neg h9, if_pos h10]
        rw [hh, hp, show ((1 : Int).toNat) = 1 from rfl, times_one]
        cases q1 : plainB s true false
        · exact rfD0 hF R b off cap i deep X p L it s w h hD h10 q1
        · cases q2 : famB s
          · exact rfD1 hF R b off cap i deep X p L it s w h hD h10 q1 q2
          · exact rfD2 hF R b off cap i deep X p L it s w h hD h10 q1 q2
      · by_cases h11 : s.kind = 11
        · have hp : partsI s = 1 := by unfold partsI; rw [if_neg h9, if_pos (by omega)]
          have hh : headB s = plainB s false false := by unfold headB; rw [if_neg h8, if_neg h9, if_neg h10, if_pos (by omega)]
          rw [hh, hp, show ((1 : Int).toNat) = 1 from rfl, times_one]
          cases q1 : plainB s false false
          · exact rfE0 hF R b off cap i deep X p L it s w h hD h11 q1
          · exact rfE1 hF R b off cap i deep X p L it s w h hD h11 q1
        · by_cases h12 : s.kind = 12
          · have hp : partsI s = 1 := by unfold partsI; rw [if_neg h9, if_pos (by omega)]
            have hh : headB s = plainB s false false := by unfold headB; rw [if_neg h8, if_neg h9, if_neg h10, if_pos (by omega)]
            rw [hh, hp, show ((1 : Int).toNat) = 1 from rfl, times_one]
            cases q1 : plainB s false false
            · exact rfF0 hF R b off cap i deep X p L it s w h hD h12 q1
            · exact rfF1 hF R b off cap i deep X p L it s w h hD h12 q1
          · have hp : partsI s = 0 := by unfold partsI; rw [if_neg h9, if_neg (by omega), if_pos (by omega)]
            have hh : headB s = loneB s := by unfold headB; rw [if_neg h8, if_neg h9, if_neg h10, if_neg (by omega)]
            rw [hh, hp, show ((0 : Int).toNat) = 0 from rfl, times]
            cases q1 : loneB s
            · exact rfG0 hF R b off cap i deep X p L it s w h hD (by omega) (by simpa using h9) (by simpa using h10) (by simpa using h11) (by simpa using h12) q1
            · exact rfG1 hF R b off cap i deep X p L it s w h hD (by omega) (by simpa using h9) (by simpa using h10) (by simpa using h11) (by simpa using h12) q1
end Go.Proofs.Ytkkdopfdoommnaa
