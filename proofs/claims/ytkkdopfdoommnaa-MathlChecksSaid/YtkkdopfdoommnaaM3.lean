/-
  Layer 20: how the reader's block turns: what a function that reads on leaves behind.
-/
import Derived.Test.YtkkdopfdoommnaaM1
import Derived.Test.YtkkdopfdoommnaaMItem
namespace Go.Proofs.Ytkkdopfdoommnaa
open Go.ChangeShapes Go.WideShapes Go.ChangeAt Go.RowKit

/-- below B only block R may have turned -/
structure Turned (B R : Nat) (w w' : World) : Prop where
  os : w'.os = w.os
  tape : w'.tape = w.tape
  output : w'.output = w.output
  size : w.heap.size ≤ w'.heap.size
  block : ∀ k, k < B → k ≠ R → w'.heap[k]? = w.heap[k]?
section
variable {B R : Nat} {a b c w w' : World}
theorem Turned.refl (B R : Nat) (w : World) : Turned B R w w := ⟨rfl, rfl, rfl, Nat.le_refl _, fun _ _ _ => rfl⟩
theorem Turned.trans (h : Turned B R a b) (k : Turned B R b c) : Turned B R a c :=
  ⟨k.os.trans h.os, k.tape.trans h.tape, k.output.trans h.output, Nat.le_trans h.size k.size, fun i hi hn => (k.block i hi hn).trans (h.block i hi hn)⟩
theorem Turned.mono {B' : Nat} (h : Turned B R a b) (hB : B' ≤ B) : Turned B' R a b := ⟨h.os, h.tape, h.output, h.size, fun k hk hn => h.block k (Nat.lt_of_lt_of_le hk hB) hn⟩
theorem Turned.of_below (h : Below B a b) : Turned B R a b := ⟨h.os, h.tape, h.output, h.size, fun k hk _ => h.block k hk⟩
theorem Turned.drew (h : Turned B R a w) : Turned B R a w.drew := ⟨h.os, h.tape, h.output, h.size, h.block⟩
theorem Turned.drewN (h : Turned B R a w) (n : Nat) : Turned B R a (w.drewN n) := ⟨h.os, h.tape, h.output, h.size, h.block⟩
theorem Turned.alloc (h : Turned B R a w) (hB : B ≤ w.heap.size) (o : Obj) : Turned B R a (w.alloc o) :=
  h.trans (.of_below ((Below.refl _ _).alloc hB o))
theorem Turned.setCell (h : Turned B R a w) {p : Addr} (hp : p.block = R ∨ B ≤ p.block) (u : Value) : Turned B R a (w.setCell p u) :=
  h.trans ⟨rfl, rfl, rfl, by simp [World.setCell], fun k hk hn => Below.heap_setCell _ _ _ _ (by rcases hp with h | h <;> omega)⟩
theorem Turned.grown {row : Option Nat} (h : Turned B R a w) (hg : w.grownBy w' row) (hB : B ≤ w.heap.size) (hr : ∀ k, row = some k → B ≤ k) : Turned B R a w' :=
  h.trans ⟨hg.os, hg.tape, hg.output, hg.size, fun k hk _ => hg.block k (by omega) (fun e => by have := hr k e.symm; omega)⟩
end
theorem agg?_block {w w' : World} {k o n : Nat} (h : w'.heap[k]? = w.heap[k]?) : agg? w' k o n = agg? w k o n := by unfold agg?; rw [h]
theorem there?_block {w w' : World} {k o n : Nat} (h : w'.heap[k]? = w.heap[k]?) : there? w' k o n = there? w k o n := by unfold there?; rw [h]
section
variable {w w' : World} {R b cap i j : Nat} {p : Option Addr} {L : List Sn}
theorem Rdr.of (h : Rdr w R b cap p L i) (hb : w'.heap[R]? = some (.cells #[.slice p L.length cap, .int .i64 j] 139 (0, 0))) (hz : w.heap.size ≤ w'.heap.size) (hk : L ≠ [] → w'.heap[b]? = w.heap[b]?) : Rdr w' R b cap p L j :=
  ⟨hb, h.ne, fun e => Nat.lt_of_lt_of_le (h.ltb e) hz, h.hp, fun k hk' => (agg?_block (hk (by intro e; rw [e] at hk'; simp at hk'))).trans (h.sg k hk'), h.len, h.cap'⟩
theorem Rdr.turned (h : Rdr w R b cap p L i) (ht : Turned w.heap.size R w w') (hb : w'.heap[R]? = some (.cells #[.slice p L.length cap, .int .i64 j] 139 (0, 0))) : Rdr w' R b cap p L j :=
  h.of hb ht.size fun e => ht.block b (h.ltb e) (Ne.symm h.ne)
theorem Rdr.below (h : Rdr w R b cap p L i) (ht : Below w.heap.size w w') : Rdr w' R b cap p L i :=
  h.of ((ht.block R h.ltR).trans h.blk) ht.size fun e => ht.block b (h.ltb e)
theorem Rdr.drewN (h : Rdr w R b cap p L i) (n : Nat) : Rdr (w.drewN n) R b cap p L i := ⟨h.blk, h.ne, h.ltb, h.hp, h.sg, h.len, h.cap'⟩
theorem Rdr.drew (h : Rdr w R b cap p L i) : Rdr w.drew R b cap p L i := ⟨h.blk, h.ne, h.ltb, h.hp, h.sg, h.len, h.cap'⟩
theorem Rdr.alloc (h : Rdr w R b cap p L i) (o : Obj) : Rdr (w.alloc o) R b cap p L i := h.below ((Below.refl _ _).alloc (Nat.le_refl _) o)
theorem Rdr.put (h : Rdr w R b cap p L i) (j : Nat) : Rdr (w.setCell ⟨R, 1, none⟩ (.int .i64 j)) R b cap p L j := by
  refine h.of ?_ (by simp [World.setCell]) fun _ => Below.heap_setCell _ _ _ _ (Ne.symm h.ne)
  simp only [World.setCell, Array.getElem?_modify, h.blk]
  simp
theorem Rdr.put1 (h : Rdr w R b cap p L i) : Rdr (w.setCell ⟨R, 1, none⟩ (.int .i64 ((i : Int) + 1))) R b cap p L (i + 1) := h.put (i + 1)
theorem Rdr.other (h : Rdr w R b cap p L i) {q : Addr} (h1 : q.block ≠ R) (h2 : q.block ≠ b) (u : Value) : Rdr (w.setCell q u) R b cap p L i :=
  h.of ((Below.heap_setCell _ _ _ _ (Ne.symm h1)).trans h.blk) (by simp [World.setCell]) fun _ => Below.heap_setCell _ _ _ _ (Ne.symm h2)
theorem Rdr.grown {row : Option Nat} (h : Rdr w R b cap p L i) (hg : w.grownBy w' row) (h1 : row ≠ some R) (h2 : L ≠ [] → row ≠ some b) : Rdr w' R b cap p L i :=
  h.of ((hg.block R h.ltR (Ne.symm h1)).trans h.blk) hg.size fun e => hg.block b (h.ltb e) (Ne.symm (h2 e))
end

@[go_sem] theorem heap_drewN (w : World) (n : Nat) : (w.drewN n).heap = w.heap := rfl
@[go_sem] theorem agg?_drewN (w : World) (n b o m : Nat) : agg? (w.drewN n) b o m = agg? w b o m := rfl
@[go_sem] theorem there?_drewN (w : World) (n b o m : Nat) : there? (w.drewN n) b o m = there? w b o m := rfl
theorem agg?_alloc_some {w : World} {b o n : Nat} {c : Array Value} (ob : Obj) (h : agg? w b o n = some c) : agg? (w.alloc ob) b o n = some c := by rw [agg?_alloc_past w ob b o n (agg?_lt h), h]
/-- what reading a field, a formula does -/
structure ReadTo (w : World) (R b cap : Nat) (p : Option Addr) (L : List Sn) (r : Option (List Sn)) (w' : World) : Prop where
  turned : Turned w.heap.size R w w'
  ex : ∃ j, j ≤ L.length ∧ Rdr w' R b cap p L j ∧ ∀ l, r = some l → l = L.drop j
def okB {α : Type} (r : Option α) : Bool := r.isSome
theorem okB_some {α : Type} (x : α) : okB (some x) = true := rfl
theorem okB_none {α : Type} : okB (none : Option α) = false := rfl
theorem drop_of_suffix {l L : List Sn} (h : l <:+ L) : l = L.drop (L.length - l.length) := by
  obtain ⟨t, rfl⟩ := h; simp

/-- the items of a formula, in memory of its own -/
def ItemsAt (w : World) (B : Nat) (v : Value) (ks : List Int) : Prop :=
  ∃ its : List It, its.map (·.sign.kind) = ks ∧ w.ownsRow B 145 21 v its.length (its.flatMap It.cells)
theorem ItemsAt.slice {w : World} {B : Nat} {v : Value} {ks : List Int} (h : ItemsAt w B v ks) : ∃ p n c, v = .slice p n c := by
  obtain ⟨its, _, _, h | ⟨g, c, cur, h, _⟩⟩ := h
  · exact ⟨_, _, _, h.1⟩
  · exact ⟨_, _, _, h⟩
structure FmlaPost (w : World) (R b cap : Nat) (p : Option Addr) (L : List Sn) (r : Option (List Int × List Sn)) (e : Ending) (w' : World) : Prop where
  ex : ∃ v, e = .returned (.tuple #[v, .bool (okB r)]) ∧ ∀ x, r = some x → ItemsAt w' w.heap.size v x.1
  to : ReadTo w R b cap p L (r.map (·.2)) w'
structure FieldPost (w : World) (R b cap : Nat) (p : Option Addr) (L : List Sn) (r : Option (List Sn)) (e : Ending) (w' : World) : Prop where
  ex : ∃ a n c, e = .returned (.tuple #[.slice a n c, .bool (okB r)])
  to : ReadTo w R b cap p L r w'
def FmlaOK (d : Nat) : Prop := ∀ (dp : Int) (R b cap i : Nat) (p : Option Addr) (L : List Sn) (w : World), dp + d = 20 → Rdr w R b cap p L i → i ≤ L.length →
  Calls Try.prog 81 #[.pointer (some ⟨R, 0, none⟩), .int .i64 dp] w (FmlaPost w R b cap p L (fmlaP (fieldP d) (L.length - i) (L.drop i)))
def FieldOK (d : Nat) : Prop := ∀ (dp : Int) (R b cap i : Nat) (p : Option Addr) (L : List Sn) (w : World), dp + d = 20 → Rdr w R b cap p L i → i ≤ L.length →
  Calls Try.prog 127 #[.pointer (some ⟨R, 0, none⟩), .int .i64 dp] w (FieldPost w R b cap p L (fieldP d (L.drop i)))
end Go.Proofs.Ytkkdopfdoommnaa
