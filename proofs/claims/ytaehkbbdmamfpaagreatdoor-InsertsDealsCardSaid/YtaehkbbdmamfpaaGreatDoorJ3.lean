/-
  What holds between the makers of 'x := f(..)' in a region that draws its order: a call whose answer is known, a new variable, a store. No statement of the seat stands here.
-/
import Derived.Test.YtaehkbbdmamfpaaGreatDoorVBs
import Derived.Test.YtaehkbbdmamfpaaGreatDoorJ1
namespace Go.Proofs.YtaehkbbdmamfpaaGreatDoor
open Go.ChangeShapes Go.WideShapes Go.ChangeAt Go.RowKit
structure JV (w : World) (a s : Nat) (V : Nat -> Value) (v0 v : Array Value) (ty : TypeId) (m : Nat -> Bool) (us : Nat -> Value) (W : World) : Prop where
 below : Below w.heap.size w W
 vals : ∀ j, j ≠ a -> j ≠ s -> m j = true -> us j = V j
 dep : m s = true -> m a = true
 box : m a = true -> ∃ X, us a = .pointer (some ⟨X, 0, none⟩) /\ w.heap.size <= X /\ W.heap[X]? = some (.cells (if m s = true then v else v0) ty (0, 0))
section
variable {w W W' : World} {a s i : Nat} {V : Nat -> Value} {v0 v : Array Value} {ty : TypeId} {m : Nat -> Bool} {us : Nat -> Value}
theorem JV.init (w : World) (a s : Nat) (V : Nat -> Value) (v0 v : Array Value) (ty : TypeId) (us : Nat -> Value) : JV w a s V v0 v ty (fun _ => false) us w.drew :=
 ⟨(Below.refl _ _).drew, (fun _ _ _ h => by cases h), (fun h => by cases h), (fun h => by cases h)⟩
theorem JV.pure (h : JV w a s V v0 v ty m us W) (ha : i ≠ a) (hs : i ≠ s) (hb : Below W.heap.size W W') {u : Value} (hu : u = V i) : JV w a s V v0 v ty (fun j => m j || j == i) (fun j => if j = i then u else us j) W' := by
 refine ⟨h.below.trans (hb.mono h.below.size), fun j h1 h2 h3 => ?_, fun h3 => ?_, fun h3 => ?_⟩
 ·
  by_cases e : j = i
  · subst e; simpa using hu
  ·
   simp only [if_neg e]
   exact h.vals j h1 h2 (by simpa [e] using h3)
 ·
  have h4 : m s = true := by simpa [Ne.symm hs] using h3
  simp [h.dep h4]
 ·
  have h4 : m a = true := by simpa [Ne.symm ha] using h3
  obtain ⟨X, e1, e2, e3⟩ := h.box h4
  refine ⟨X, by simp only [if_neg (Ne.symm ha)]; exact e1, e2, ?_⟩
  have hms : (m s || s == i) = m s := by simp [Ne.symm hs]
  rw [hms]
  exact (hb.block X (Array.getElem?_eq_some_iff.1 e3).1).trans e3
theorem JV.alloc (h : JV w a s V v0 v ty m us W) (hm : m a = false) (hne : a ≠ s) : JV w a s V v0 v ty (fun j => m j || j == a) (fun j => if j = a then .pointer (some ⟨W.heap.size, 0, none⟩) else us j) (W.alloc (.cells v0 ty)) := by
 have hs : m s = false := by
  cases e : m s
  · rfl
  · have := h.dep e; rw [hm] at this; cases this
 refine ⟨h.below.alloc h.below.size _, fun j h1 h2 h3 => ?_, fun h3 => by simp, fun h3 => ⟨W.heap.size, by simp, h.below.size, ?_⟩⟩
 ·
  simp only [if_neg h1]
  exact h.vals j h1 h2 (by simpa [h1] using h3)
 ·
  have hms : (m s || s == a) = false := by simp [hs, Ne.symm hne]
  rw [hms]
  exact heap_alloc_new W _
theorem JV.store (h : JV w a s V v0 v ty m us W) (hma : m a = true) (hms : m s = false) (hne : a ≠ s) (hset : zaI v0 0 v.toList = v) {X : Nat} (hX : us a = .pointer (some ⟨X, 0, none⟩)) (u : Value) : JV w a s V v0 v ty (fun j => m j || j == s) (fun j => if j = s then u else us j) (setAgg W X 0 v) := by
 obtain ⟨X', e1, e2, e3⟩ := h.box hma
 rw [hX] at e1
 simp only [Value.pointer.injEq, Option.some.injEq, Addr.mk.injEq, and_true] at e1
 obtain rfl : X = X' := e1
 rw [hms] at e3
 refine ⟨Below.setAgg h.below e2 _ _, fun j h1 h2 h3 => ?_, fun _ => by simp [hma], fun _ => ⟨X, by simp only [if_neg hne]; exact hX, e2, ?_⟩⟩
 ·
  simp only [if_neg h2]
  exact h.vals j h1 h2 (by simpa [h2] using h3)
 ·
  have h9 : (m s || s == s) = true := by simp
  rw [h9]
  have h8 := zaL X ty (0, 0) v.toList 0 v0 W (by simpa using e3)
  rw [hset] at h8
  exact h8
end
end Go.Proofs.YtaehkbbdmamfpaaGreatDoor
