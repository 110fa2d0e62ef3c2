/-
  The document's Legal; the laws' own functions over lists of whole numbers: SameInts.
-/
import Derived.Test.YtomehdepjenilaaGreatL5
import Derived.Test.YtomehdepjenilaaGreatK3
namespace Go.Proofs.YtomehdepjenilaaGreat
open Go.ChangeShapes Go.WideShapes Go.ChangeAt Go.RowKit Go.Shelf
set_option maxHeartbeats 4000000 in
theorem qlegal (p0 : Option Addr) (b off cap : Nat) (L : List Nd) (s : List Nat) (hs : checkC L = 0 → Items L 0 s) (w : World) (hN : NIn w p0 b off cap L) :
    Calls Tryz.prog 17 #[.slice p0 L.length cap] w (LegPost w L s) := by
  have HC := Lib.hid (qcolumn p0 b off cap L s hs w hN)
  have H := Lib.hid hN
  have Hs := Lib.hid hs
  clear hN hs
  go_enter Tryz.func17, Tryz.ntmps17
  go_wp2_with fail
  refine HC.out.mono ?_
  clear HC
  rintro e w1 ⟨rfl, hb1⟩
  by_cases hck : colP L s = 0
  · have hs := Hs.out (colP_check hck)
    have hkd := items_kind0 hs (colP_check hck)
    have HP := Lib.hid (qplaces p0 b off cap L s hs (fun x hx => (hkd x hx).1) (checkC_zero (colP_check hck)).1 w1 (H.out.below hb1))
    have HR := Lib.hid (show legR L s = legalP L s by unfold legR; rw [if_pos hck])
    have Hck := Lib.hid hck
    rw [hck]
    clear hck hs hkd Hs
    go_wp2_with fail
    refine HP.out.mono ?_
    clear HP
    rintro e w2 ⟨⟨v, u, rfl, hT⟩, hb2⟩
    have HT := Lib.hid hT
    have hbw := hb1.trans (hb2.mono hb1.size)
    have hz := hb1.size
    clear hT hb1 hb2
    go_wp2_with fail
    go_ret3
    exact ⟨⟨_, _, by rw [Hck.out]; rfl, by rw [HR.out]; exact ownsRow_base HT.out.rv hz, by rw [HR.out]; exact ownsRow_base HT.out.ru hz, HT.out.ne⟩, hbw⟩
  · have hck' : ((colP L s : Int) != 0) = true := by simpa using hck
    have HR := Lib.hid (show legR L s = [] by unfold legR; rw [if_neg hck])
    clear hck
    go_wp2_with fail
    go_ret3
    exact ⟨⟨_, _, rfl, by rw [HR.out]; exact World.ownsRow_nil _ _ _ _, by rw [HR.out]; exact World.ownsRow_nil _ _ _ _, fun g h => by cases h⟩, hb1⟩
structure ZIn (w : World) (p : Option Addr) (g c : Nat) (l : List Int) : Prop where
  hp : l ≠ [] → p = some ⟨g, 0, none⟩
  cap : l.length ≤ c
  at_ : ∀ i (hi : i < l.length), w.cell? ⟨g, i, none⟩ = some (.int .i64 l[i])
theorem zin_of {w : World} {B n : Nat} {v : Value} {l : List Int} (h : w.ownsRow B 3 1 v n (ints l)) : ∃ p g c, v = .slice p l.length c ∧ n = l.length ∧ ZIn w p g c l := by
  have hl : l.length = n := by have := h.1; rw [ints_len] at this; omega
  subst hl
  by_cases h0 : l = []
  · subst h0
    obtain ⟨_, ⟨rfl, _⟩ | ⟨g, cap, cur, rfl, _, _, h1, _⟩⟩ := h
    · exact ⟨none, 0, 0, rfl, rfl, fun e => absurd rfl e, Nat.le_refl _, fun i hi => by simp at hi⟩
    · exact ⟨_, g, cap, rfl, rfl, fun e => absurd rfl e, h1, fun i hi => by simp at hi⟩
  · obtain ⟨g, c, rfl, _, hg⟩ := h.form (List.length_pos_iff.2 h0)
    refine ⟨_, g, c, rfl, rfl, fun _ => rfl, owns_cap h, fun i hi => ?_⟩
    have := h.cells (g := g) rfl i (.int .i64 l[i]) (by rw [ints_idx, List.getElem?_eq_getElem hi]; rfl)
    rwa [show (⟨g, 0, none⟩ : Addr).add i = ⟨g, i, none⟩ by unfold Addr.add; split <;> simp_all] at this
end Go.Proofs.YtomehdepjenilaaGreat
