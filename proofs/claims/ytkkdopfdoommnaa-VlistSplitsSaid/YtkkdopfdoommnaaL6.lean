/-
  The document's Legal; the laws' own functions over lists of whole numbers: SameInts.
-/
import Derived.Test.YtkkdopfdoommnaaL5
import Derived.Test.YtkkdopfdoommnaaK8
namespace Go.Proofs.Ytkkdopfdoommnaa
open Go.ChangeShapes Go.WideShapes Go.ChangeAt Go.RowKit Go.Shelf
set_option maxHeartbeats 4000000 in
theorem qlegal (p0 : Option Addr) (b off cap : Nat) (L : List Nd) (s : List Nat) (hs : checkC L = 0 → Items L 0 s) (w : World) (hN : NIn w p0 b off cap L) :
    Calls Try.prog 39 #[.slice p0 L.length cap] w (LegPost w L s) := by
  have HC := Lib.hid (qcolumn p0 b off cap L s hs w hN)
  have H := Lib.hid hN
  have Hs := Lib.hid hs
  clear hN hs
  go_enter Try.func39, Try.ntmps39
  go_wp2_with fail
  refine HC.out.mono ?_
  clear HC
  rintro e w1 ⟨rfl, hb1⟩
  by_cases hck : colP L s = 0
  · have hs := Hs.out (colP_check hck)
    have hkd := items_kind0 hs (colP_check hck)
    have HP := Lib.hid (qplaces p0 b off cap L s hs (fun x hx => (hkd x hx).1) (checkC_zero (colP_check hck)).1 w1 (H.out.below hb1))
    have HR := Lib.hid (show legR L s = legalP L s by unfold legR; rw [if_pos hck])
    have Hck := Lib.hid hck
    rw [hck]
    clear hck hs hkd Hs
    go_wp2_with fail
    refine HP.out.mono ?_
    clear HP
    rintro e w2 ⟨⟨v, u, rfl, hT⟩, hb2⟩
    have HT := Lib.hid hT
    have hbw := hb1.trans (hb2.mono hb1.size)
    have hz := hb1.size
    clear hT hb1 hb2
    go_wp2_with fail
    go_ret3
    exact ⟨⟨_, _, by rw [Hck.out]; rfl, by rw [HR.out]; exact ownsRow_base HT.out.rv hz, by rw [HR.out]; exact ownsRow_base HT.out.ru hz, HT.out.ne⟩, hbw⟩
  · have hck' : ((colP L s : Int) != 0) = true := by simpa using hck
    have HR := Lib.hid (show legR L s = [] by unfold legR; rw [if_neg hck])
    clear hck
    go_wp2_with fail
    go_ret3
    exact ⟨⟨_, _, rfl, by rw [HR.out]; exact World.ownsRow_nil _ _ _ _, by rw [HR.out]; exact World.ownsRow_nil _ _ _ _, fun g h => by cases h⟩, hb1⟩
/-- whole numbers that are read -/
structure ZIn (w : World) (p : Option Addr) (g c : Nat) (l : List Int) : Prop where
  hp : l ≠ [] → p = some ⟨g, 0, none⟩
  cap : l.length ≤ c
  at_ : ∀ i (hi : i < l.length), w.cell? ⟨g, i, none⟩ = some (.int .i64 l[i])
theorem zin_of {w : World} {B n : Nat} {v : Value} {l : List Int} (h : w.ownsRow B 3 1 v n (ints l)) : ∃ p g c, v = .slice p l.length c ∧ n = l.length ∧ ZIn w p g c l := by
  have hl : l.length = n := by have := h.1; rw [ints_len] at this; omega
  subst hl
  by_cases h0 : l = []
  · subst h0
    obtain ⟨_, ⟨rfl, _⟩ | ⟨g, cap, cur, rfl, _, _, h1, _⟩⟩ := h
    · exact ⟨none, 0, 0, rfl, rfl, fun e => absurd rfl e, Nat.le_refl _, fun i hi => by simp at hi⟩
    · exact ⟨_, g, cap, rfl, rfl, fun e => absurd rfl e, h1, fun i hi => by simp at hi⟩
  · obtain ⟨g, c, rfl, _, hg⟩ := h.form (List.length_pos_iff.2 h0)
    refine ⟨_, g, c, rfl, rfl, fun _ => rfl, owns_cap h, fun i hi => ?_⟩
    have := h.cells (g := g) rfl i (.int .i64 l[i]) (by rw [ints_idx, List.getElem?_eq_getElem hi]; rfl)
    rwa [show (⟨g, 0, none⟩ : Addr).add i = ⟨g, i, none⟩ by unfold Addr.add; split <;> simp_all] at this
set_option maxRecDepth 100000 in
set_option maxHeartbeats 4000000 in
/-- the same list, twice -/
theorem sameInts_eq (p q : Option Addr) (g1 c1 g2 c2 : Nat) (l : List Int) (w : World) (h1 : ZIn w p g1 c1 l) (h2 : ZIn w q g2 c2 l) (hl : l.length ≤ 100000) :
    Calls Try.prog 27 #[.slice p l.length c1, .slice q l.length c2] w fun e w' => e = .returned (.bool true) ∧ ∃ n, w' = w.drewN n := by
  have H1 := Lib.hid h1
  have H2 := Lib.hid h2
  have k1 := h1.cap
  have k2 := h2.cap
  clear h1 h2
  go_enter Try.func27, Try.ntmps27
  go_wp2_with fail
  go_loopg [5] (l.length + 1) (fun g t wr => ∃ k m : Nat, g = l.length + 1 - k ∧ k ≤ l.length ∧ t = .int .i64 k ∧ wr = w.drewN m)
  case atStart => exact ⟨0, 0, rfl, Nat.zero_le _, rfl, rfl⟩
  case round =>
    obtain ⟨k, m, rfl, hk, rfl, rfl⟩ := hrel
    have hk1 : (0 : Int) ≤ (k : Int) := by omega
    by_cases hlt : k < l.length
    · have hk2 : (k : Int) < (l.length : Int) := by omega
      have x1 := H1.out.at_ k hlt
      have x2 := H2.out.at_ k hlt
      obtain rfl := H1.out.hp (by intro e; rw [e] at hlt; simp at hlt)
      obtain rfl := H2.out.hp (by intro e; rw [e] at hlt; simp at hlt)
      generalize l[k] = y at x1 x2
      go_wp2_with fail
      go_quiet (fail)
      go_wp2_with fail
      go_roundg (l.length + 1 - (k + 1))
      case measure => omega
      case rel => exact ⟨k + 1, _, rfl, hlt, by go_num, rfl⟩
    · have hk2 : (l.length : Int) ≤ (k : Int) := by omega
      go_wp2_with fail
      go_ret
      exact ⟨rfl, _, rfl⟩
end Go.Proofs.Ytkkdopfdoommnaa
