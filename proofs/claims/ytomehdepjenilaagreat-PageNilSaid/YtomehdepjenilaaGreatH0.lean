/-
  Frames: what a call on an object of the law's own may write; a map from whole numbers read as a function. No statement of the seat stands here.
-/
import Derived.Test.YtomehdepjenilaaGreatBM
import Derived.Test.YtomehdepjenilaaGreatVBs
namespace Go.Proofs.YtomehdepjenilaaGreat
open Go.ChangeShapes Go.WideShapes Go.ChangeAt Go.RowKit Go.MapKept
structure Frm (K : Nat → Prop) (w w' : World) : Prop where
  os : w'.os = w.os
  tape : w'.tape = w.tape
  output : w'.output = w.output
  size : w.heap.size ≤ w'.heap.size
  block : ∀ k, k < w.heap.size → ¬ K k → w'.heap[k]? = w.heap[k]?
theorem Frm.refl (K : Nat → Prop) (w : World) : Frm K w w := ⟨rfl, rfl, rfl, Nat.le_refl _, fun _ _ _ => rfl⟩
theorem Frm.trans {K K' : Nat → Prop} {a b c : World} (h : Frm K a b) (k : Frm K' b c) (hK : ∀ i, i < a.heap.size → K' i → K i) : Frm K a c :=
  ⟨k.os.trans h.os, k.tape.trans h.tape, k.output.trans h.output, Nat.le_trans h.size k.size, fun i hi hn => (k.block i (Nat.lt_of_lt_of_le hi h.size) fun e => hn (hK i hi e)).trans (h.block i hi hn)⟩
theorem Frm.of_below {K : Nat → Prop} {w w' : World} (h : Below w.heap.size w w') : Frm K w w' := ⟨h.os, h.tape, h.output, h.size, fun k hk _ => h.block k hk⟩
theorem Frm.below {K : Nat → Prop} {w w' : World} {B : Nat} (h : Frm K w w') (hB : B ≤ w.heap.size) (hK : ∀ k, K k → B ≤ k) : Below B w w' :=
  ⟨h.os, h.tape, h.output, h.size, fun k hk => h.block k (by omega) fun e => by have := hK k e; omega⟩
theorem Frm.drew {K : Nat → Prop} {a w : World} (h : Frm K a w) : Frm K a w.drew := ⟨h.os, h.tape, h.output, h.size, h.block⟩
theorem Frm.alloc {K : Nat → Prop} {a w : World} (h : Frm K a w) (o : Obj) : Frm K a (w.alloc o) :=
  h.trans (K' := fun _ => False) ⟨rfl, rfl, rfl, by simp, fun k hk _ => Below.heap_alloc _ _ _ hk⟩ (fun _ _ e => e.elim)
theorem Frm.setCell {K : Nat → Prop} {a w : World} (h : Frm K a w) {p : Addr} (hp : p.block < a.heap.size → K p.block) (u : Value) : Frm K a (w.setCell p u) :=
  h.trans (K' := fun k => k = p.block) ⟨rfl, rfl, rfl, by simp [World.setCell], fun k _ hn => Below.heap_setCell _ _ _ _ hn⟩ (fun i hi e => by subst e; exact hp hi)
theorem Frm.grown {K : Nat → Prop} {a w w' : World} {row : Option Nat} (h : Frm K a w) (hg : w.grownBy w' row) (hr : ∀ k, row = some k → k < a.heap.size → K k) : Frm K a w' :=
  h.trans (K' := fun k => row = some k) ⟨hg.os, hg.tape, hg.output, hg.size, fun k hk hn => hg.block k hk fun e => hn e.symm⟩ (fun i hi e => hr i e hi)
theorem Frm.setAgg {K : Nat → Prop} {a w : World} (h : Frm K a w) {b : Nat} (hb : b < a.heap.size → K b) (o : Nat) (c : Array Value) : Frm K a (setAgg w b o c) := by
  by_cases hlt : b < a.heap.size
  · unfold Go.Proofs.YtomehdepjenilaaGreat.setAgg
    generalize c.toList = vs
    induction vs generalizing o w with
    | nil => exact h
    | cons v r ih => exact ih (h.setCell (p := ⟨b, o, none⟩) hb v) (o + 1)
  · unfold Go.Proofs.YtomehdepjenilaaGreat.setAgg
    generalize c.toList = vs
    induction vs generalizing o w with
    | nil => exact h
    | cons v r ih => exact ih (h.setCell (p := ⟨b, o, none⟩) hb v) (o + 1)
theorem Frm.set1 {S : Nat} {a w : World} (h : Frm (· = S) a w) (k : Nat) (u : Value) : Frm (· = S) a (w.setCell ⟨S, k, none⟩ u) := h.setCell (p := ⟨S, k, none⟩) (fun _ => rfl) u
theorem Frm.setAgg1 {S : Nat} {a w : World} (h : Frm (· = S) a w) (o : Nat) (c : Array Value) : Frm (· = S) a (Go.Proofs.YtomehdepjenilaaGreat.setAgg w S o c) := h.setAgg (b := S) (fun _ => rfl) o c
theorem Frm.mono {K K' : Nat → Prop} {w w' : World} (h : Frm K w w') (hK : ∀ k, k < w.heap.size → K k → K' k) : Frm K' w w' := ⟨h.os, h.tape, h.output, h.size, fun k hk hn => h.block k hk fun e => hn (hK k hk e)⟩
/-! ### An object's block -/
def Cb (w : World) (b : Nat) (c : Array Value) (t : TypeId) : Prop := w.heap[b]? = some (.cells c t (0, 0))
section
variable {w w' : World} {b : Nat} {c c' : Array Value} {t : TypeId}
theorem Cb.lt (h : Cb w b c t) : b < w.heap.size := (Array.getElem?_eq_some_iff.1 h).1
theorem Cb.below (h : Cb w b c t) (hb : Below w.heap.size w w') : Cb w' b c t := (hb.block b h.lt).trans h
theorem Cb.frm {K : Nat → Prop} (h : Cb w b c t) (hf : Frm K w w') (hn : ¬ K b) : Cb w' b c t := (hf.block b h.lt hn).trans h
theorem Cb.drew (h : Cb w b c t) : Cb w.drew b c t := h
theorem Cb.alloc (h : Cb w b c t) (o : Obj) : Cb (w.alloc o) b c t := (Below.heap_alloc _ _ _ h.lt).trans h
theorem Cb.new (w : World) (c : Array Value) (t : TypeId) : Cb (w.alloc (.cells c t)) w.heap.size c t := heap_alloc_new w _
theorem Cb.cell (h : Cb w b c t) (k : Nat) (v : Value) (hv : c[k]? = some v) : w.cell? ⟨b, k, none⟩ = some v := by rw [cell?_blk' h, hv]
theorem Cb.frozen (h : Cb w b c t) (k : Nat) : w.frozen? ⟨b, k, none⟩ = false := frozen_of_row w b k _ _ h
theorem Cb.set (h : Cb w b c t) (k : Nat) (v : Value) (hc : c.setIfInBounds k v = c') : Cb (w.setCell ⟨b, k, none⟩ v) b c' t := by
  have := heap_setCell_same w b k _ _ v h
  rw [hc] at this
  exact this
theorem Cb.other (h : Cb w b c t) {q k : Nat} (hq : b ≠ q) (v : Value) : Cb (w.setCell ⟨q, k, none⟩ v) b c t := (Below.heap_setCell _ _ _ _ hq).trans h
theorem Cb.agg (h : Cb w b c t) (o n : Nat) (hn : o + n ≤ c.size) : agg? w b o n = some (c.extract o (o + n)) := agg?_blk' h o n hn
theorem Cb.there (h : Cb w b c t) (o n : Nat) (hn : o + n ≤ c.size) : there? w b o n = true := there_blk h o n hn
theorem Cb.setAgg (h : Cb w b c t) (o : Nat) (a : Array Value) (hc : setMany c o a.toList = c') : Cb (setAgg w b o a) b c' t := by
  have := heap_setCells_same b t (0, 0) a.toList o c w h
  rw [hc] at this
  exact this
end
/-! ### Own blocks, by what they are for -/
structure Own (base : Nat) (r : Nat → Option Nat) (w : World) : Prop where
  lt : ∀ i q, r i = some q → base ≤ q ∧ q < w.heap.size
  sep : ∀ i j q, i ≠ j → r i = some q → r j ≠ some q
def owns (r : Nat → Option Nat) (k : Nat) : Prop := ∃ i, r i = some k
def setR (r : Nat → Option Nat) (i : Nat) (v : Option Nat) : Nat → Option Nat := fun j => if j = i then v else r j
theorem setR_same (r : Nat → Option Nat) (i : Nat) (v : Option Nat) : setR r i v i = v := by simp [setR]
theorem setR_other (r : Nat → Option Nat) {i j : Nat} (v : Option Nat) (h : j ≠ i) : setR r i v j = r j := by simp [setR, h]
theorem Own.grow {base : Nat} {r : Nat → Option Nat} {w w' : World} (h : Own base r w) (hs : w.heap.size ≤ w'.heap.size) : Own base r w' :=
  ⟨fun i q e => ⟨(h.lt i q e).1, Nat.lt_of_lt_of_le (h.lt i q e).2 hs⟩, h.sep⟩
theorem Own.set {base : Nat} {r : Nat → Option Nat} {w w' : World} (h : Own base r w) (hB : base ≤ w.heap.size) (hs : w.heap.size ≤ w'.heap.size) (i : Nat) (v : Option Nat) (hv : ∀ q, v = some q → r i = some q ∨ w.heap.size ≤ q ∧ q < w'.heap.size) : Own base (setR r i v) w' := by
  refine ⟨fun j q e => ?_, fun j k q hne e1 e2 => ?_⟩
  · unfold setR at e
    split at e
    · rcases hv q e with h1 | h1
      · exact ⟨(h.lt i q h1).1, Nat.lt_of_lt_of_le (h.lt i q h1).2 hs⟩
      · exact ⟨by omega, h1.2⟩
    · exact ⟨(h.lt j q e).1, Nat.lt_of_lt_of_le (h.lt j q e).2 hs⟩
  · unfold setR at e1 e2
    split at e1
    · rename_i hj
      subst hj
      rw [if_neg (Ne.symm hne)] at e2
      rcases hv q e1 with h1 | h1
      · exact h.sep j k q hne h1 e2
      · have := (h.lt k q e2).2; omega
    · rename_i hj
      split at e2
      · rename_i hk
        subst hk
        rcases hv q e2 with h1 | h1
        · exact h.sep j k q hne e1 h1
        · have := (h.lt j q e1).2; omega
      · exact h.sep j k q hne e1 e2
def later (r r' : Nat → Option Nat) (w : World) : Prop := ∀ i q, r' i = some q → r i = some q ∨ w.heap.size ≤ q
theorem later.refl (r : Nat → Option Nat) (w : World) : later r r w := fun _ _ e => .inl e
theorem later.trans {r r' r'' : Nat → Option Nat} {w w' : World} (h : later r r' w) (k : later r' r'' w') (hs : w.heap.size ≤ w'.heap.size) : later r r'' w := fun i q e => by
  rcases k i q e with h1 | h1
  · exact h i q h1
  · exact .inr (by omega)
theorem later.set {r r' : Nat → Option Nat} {w : World} (h : later r r' w) (i : Nat) (v : Option Nat) (hv : ∀ q, v = some q → r i = some q ∨ w.heap.size ≤ q) : later r (setR r' i v) w := fun j q e => by
  unfold setR at e
  split at e
  · rename_i hj; subst hj; exact hv q e
  · exact h j q e
theorem later.owns {r r' : Nat → Option Nat} {w : World} (h : later r r' w) : ∀ k, k < w.heap.size → owns r' k → owns r k := fun k hk ⟨i, e⟩ => by
  rcases h i k e with h1 | h1
  · exact ⟨i, h1⟩
  · omega
/-! ### A map from whole numbers as a function -/
structure MapF (W : World) (mb : Nat) (f : Int → Option Value) : Prop where
  ex : ∃ M, MapV W mb (intM M) ∧ (M.map (·.1)).Nodup ∧ (∀ p ∈ M, f p.1 = some p.2) ∧ ∀ a v, f a = some v → (a, v) ∈ M
theorem MapF.lt {W : World} {mb : Nat} {f : Int → Option Value} (h : MapF W mb f) : mb < W.heap.size := by
  obtain ⟨M, h1, _⟩ := h.ex
  exact h1.lt
theorem MapF.same {W W' : World} {mb : Nat} {f : Int → Option Value} (h : MapF W mb f) (hs : W'.heap[mb]? = W.heap[mb]?) : MapF W' mb f := by
  obtain ⟨M, h1, h2⟩ := h.ex
  exact ⟨M, h1.same hs, h2⟩
theorem MapF.new (W : World) : MapF (W.alloc (.map #[] 0)) W.heap.size (fun _ => none) :=
  ⟨[], MapV.new W, by simp, by simp, fun a v e => by cases e⟩
section
variable {P : Program} {w : World} {mty kt et : TypeId}
end
end Go.Proofs.YtomehdepjenilaaGreat
