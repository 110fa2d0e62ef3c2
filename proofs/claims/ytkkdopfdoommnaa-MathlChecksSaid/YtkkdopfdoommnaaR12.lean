/-
  Layer 20 in plain Lean: the document's two passes over the classes, place by place.
-/
import Derived.Test.YtkkdopfdoommnaaMCount
namespace Go.Proofs.Ytkkdopfdoommnaa
open Go.RowKit

def st1 (F : List Int) (i : Nat) : List Int := pass1 none (F.take i) ++ F.drop i
def st2 (G : List Int) (i : Nat) : List Int := (pass2 G).take i ++ G.drop i
theorem pass1_len : ∀ (xs : List Int) (p : Option Int), (pass1 p xs).length = xs.length
  | [], _ => rfl
  | x :: xs, p => by rw [pass1, List.length_cons, pass1_len xs, List.length_cons]
theorem pass2_len : ∀ (xs : List Int), (pass2 xs).length = xs.length
  | [] => rfl
  | [_] => rfl
  | c :: d :: r => by rw [pass2, List.length_cons, pass2_len (d :: r)]; rfl
theorem st1_len (F : List Int) (i : Nat) : (st1 F i).length = F.length := by
  unfold st1; rw [List.length_append, pass1_len, List.length_take, List.length_drop]; omega
theorem st2_len (G : List Int) (i : Nat) : (st2 G i).length = G.length := by
  unfold st2; rw [List.length_append, List.length_take, List.length_drop, pass2_len]; omega
theorem st1_zero (F : List Int) : st1 F 0 = F := rfl
theorem st2_zero (G : List Int) : st2 G 0 = G := rfl
theorem st1_end (F : List Int) {i : Nat} (h : F.length ≤ i) : st1 F i = pass1 none F := by
  unfold st1; rw [List.take_of_length_le h, List.drop_eq_nil_of_le h, List.append_nil]
theorem st2_end (G : List Int) {i : Nat} (h : G.length ≤ i) : st2 G i = pass2 G := by
  unfold st2; rw [List.take_of_length_le (by rw [pass2_len]; exact h), List.drop_eq_nil_of_le h, List.append_nil]
theorem st1_get {F : List Int} {i : Nat} (h : i < F.length) : (st1 F i)[i]? = some F[i] := by
  unfold st1
  rw [List.getElem?_append_right (by rw [pass1_len, List.length_take]; omega), pass1_len, List.length_take, List.getElem?_drop, show i + (i - min i F.length) = i by omega, List.getElem?_eq_getElem h]
theorem st2_get {G : List Int} {i : Nat} (k : Nat) : (st2 G i)[i + k]? = G[i + k]? := by
  unfold st2
  by_cases h : i + k < G.length
  · rw [List.getElem?_append_right (by rw [List.length_take, pass2_len]; omega), List.getElem?_drop, List.length_take, pass2_len, show i + (i + k - min i G.length) = i + k by omega]
  · rw [List.getElem?_eq_none (by have := st2_len G i; unfold st2 at this; omega), List.getElem?_eq_none (by omega)]
theorem st1_last (F : List Int) (m : Nat) (h : m < F.length) : (st1 F (m + 1))[m]? = (pass1 none (F.take (m + 1))).getLast? := by
  unfold st1
  rw [List.getElem?_append_left (by rw [pass1_len, List.length_take]; omega), List.getLast?_eq_getElem?, pass1_len, List.length_take, show min (m + 1) F.length - 1 = m by omega]
theorem set_mid {α : Type} (a b : List α) (x y : α) (i : Nat) (hi : i = a.length) : (a ++ x :: b).set i y = a ++ y :: b := by
  subst hi; simp
theorem st1_succ {F : List Int} {i : Nat} (h : i < F.length) : st1 F (i + 1) = (st1 F i).set i (one1 ((pass1 none (F.take i)).getLast?) F[i]) := by
  unfold st1
  rw [List.take_succ_eq_append_getElem h, pass1_snoc, List.drop_eq_getElem_cons h, set_mid _ _ _ _ _ (by rw [pass1_len, List.length_take]; omega), List.append_assoc]
  simp
theorem st1_keep {F : List Int} {i : Nat} (h : i < F.length) (hk : one1 ((pass1 none (F.take i)).getLast?) F[i] = F[i]) : st1 F (i + 1) = st1 F i := by
  rw [st1_succ h, hk]
  have h1 := st1_get h
  obtain ⟨h2, h3⟩ := List.getElem?_eq_some_iff.1 h1
  rw [← h3]; exact List.set_getElem_self h2
def nx2 : Option Int → Bool
  | none => true
  | some d => decide (d = 4 ∨ d = 6 ∨ d = 7)
theorem pass2_get : ∀ (G : List Int) (i : Nat) (h : i < G.length), (pass2 G)[i]? = some (if G[i] = 3 ∧ nx2 G[i + 1]? = true then 1 else G[i])
  | [c], 0, _ => by simp [pass2, nx2]
  | c :: d :: r, 0, _ => by simp [pass2, nx2]
  | [c], i + 1, h => by simp at h
  | c :: d :: r, i + 1, h => by
    rw [pass2, List.getElem?_cons_succ, pass2_get (d :: r) i (by simpa using h)]
    simp
theorem st2_succ {G : List Int} {i : Nat} (h : i < G.length) {v : Int} (hv : (pass2 G)[i]? = some v) : st2 G (i + 1) = (st2 G i).set i v := by
  unfold st2
  obtain ⟨h1, h2⟩ := List.getElem?_eq_some_iff.1 hv
  rw [List.take_succ_eq_append_getElem h1, h2, List.drop_eq_getElem_cons h, set_mid _ _ _ _ _ (by rw [List.length_take, pass2_len]; omega), List.append_assoc]
  simp
theorem st2_keep {G : List Int} {i : Nat} (h : i < G.length) (hv : (pass2 G)[i]? = some G[i]) : st2 G (i + 1) = st2 G i := by
  rw [st2_succ h hv]
  have h1 := st2_get (G := G) (i := i) 0
  rw [Nat.add_zero, List.getElem?_eq_getElem h] at h1
  obtain ⟨h2, h3⟩ := List.getElem?_eq_some_iff.1 h1
  rw [← h3]; exact List.set_getElem_self h2
end Go.Proofs.Ytkkdopfdoommnaa
