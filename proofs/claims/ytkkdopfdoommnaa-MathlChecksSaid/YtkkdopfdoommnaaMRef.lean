/-
  Layer 20 in plain Lean: what the document asks of a sign is what the program asks.
-/
import Derived.Test.YtkkdopfdoommnaaMPlain
namespace Go.Proofs.Ytkkdopfdoommnaa
open Go.RowKit

def plainB (s : Sn) (c n : Bool) : Bool := (c || (decide (s.fam = 0) && decide (s.char = 0))) && (n || decide (s.n = 0)) && decide (s.glue = Gl.zero)
def famB (s : Sn) : Bool := withinB s.fam 0 15
/-- a fence's sign -/
def fenceB (s : Sn) : Bool := plainB s true true && famB s && withinB s.n 0 1 && !(decide (s.n = 1) && (!decide (s.fam = 0) || !decide (s.char = 0)))
/-- a sign without fields -/
def loneB (s : Sn) : Bool :=
  if s.kind = 15 then plainB s false true && withinB s.n 0 3
  else if s.kind = 16 then decide (s.fam = 0) && decide (s.char = 0) && decide (s.n = 0) && s.glue.good
  else if s.kind = 17 then plainB s false true && withinB s.n (-1073741823) 1073741823
  else plainB s false true && withinB s.n (-10000) 10000
/-- a sign of no fence, that begins an item -/
def headB (s : Sn) : Bool :=
  if s.kind ≤ 8 then (if s.n = 0 then plainB s true false && famB s else plainB s false true && decide (s.n = 1))
  else if s.kind = 9 then plainB s false true && withinB s.n (-1) 1073741823
  else if s.kind = 10 then plainB s true false && famB s
  else if s.kind = 11 ∨ s.kind = 12 then plainB s false false
  else loneB s
theorem plain_only (s : Sn) : plainB s false false = eqSn s { Sn.zero with kind := s.kind } := by
  obtain ⟨k, f, c, n, g⟩ := s
  rw [Bool.eq_iff_iff, eqSn_iff]
  simp [plainB, Sn.zero, and_assoc]
theorem fence_good {s : Sn} (h : s.kind = 13 ∨ s.kind = 14) : fenceB s = goodB s := by
  obtain ⟨k, f, c, n, g⟩ := s
  simp only at h
  rw [goodB, if_pos (by simp only; omega), Bool.eq_iff_iff]
  by_cases hn : n = 1
  · subst hn
    simp [fenceB, plainB, famB, withinB, eqSn_iff, Sn.zero]
    constructor
    · rintro ⟨⟨hg, _⟩, hf⟩; exact ⟨hf.1, hf.2, hg⟩
    · rintro ⟨rfl, rfl, rfl⟩; simp
  · simp [fenceB, plainB, famB, withinB, eqSn_iff, Sn.zero, hn]
    constructor
    · rintro ⟨⟨hg, hf1, hf2⟩, hn1, hn2⟩; exact ⟨⟨⟨by omega, hg⟩, hf1⟩, by omega⟩
    · rintro ⟨⟨⟨rfl, rfl⟩, hf1⟩, hf2⟩; simp; omega
theorem head_good {s : Sn} (h1 : 1 ≤ s.kind) (h2 : s.kind ≤ 18) (h3 : s.kind ≠ 13) (h4 : s.kind ≠ 14) : headB s = goodB s := by
  obtain ⟨k, f, c, n, g⟩ := s
  simp only at h1 h2 h3 h4
  rw [Bool.eq_iff_iff]
  by_cases h8 : k ≤ 8
  · rw [goodB, if_pos (by simp only; omega)]
    by_cases hn : n = 1
    · subst hn
      simp [headB, h8, plainB, eqSn_iff, Sn.zero, and_assoc]
    · by_cases hn0 : n = 0
      · subst hn0
        simp [headB, h8, plainB, famB, withinB, eqSn_iff, Sn.zero]
        constructor
        · rintro ⟨hg, hf1, hf2⟩; exact ⟨⟨hg, hf1⟩, by omega⟩
        · rintro ⟨⟨hg, hf1⟩, hf2⟩; exact ⟨hg, hf1, by omega⟩
      · simp [headB, h8, plainB, eqSn_iff, Sn.zero, hn, hn0]
  · have hk : k = 9 ∨ k = 10 ∨ k = 11 ∨ k = 12 ∨ k = 15 ∨ k = 16 ∨ k = 17 ∨ k = 18 := by omega
    rcases hk with rfl | rfl | rfl | rfl | rfl | rfl | rfl | rfl
    · simp [headB, goodB, plainB, withinB, eqSn_iff, Sn.zero, and_assoc]
    · simp [headB, goodB, plainB, famB, withinB, eqSn_iff, Sn.zero]
      constructor
      · rintro ⟨⟨hn, hg⟩, hf1, hf2⟩; exact ⟨⟨⟨hn, hg⟩, hf1⟩, by omega⟩
      · rintro ⟨⟨⟨hn, hg⟩, hf1⟩, hf2⟩; exact ⟨⟨hn, hg⟩, hf1, by omega⟩
    · simp [headB, goodB, plainB, eqSn_iff, Sn.zero, and_assoc]
    · simp [headB, goodB, plainB, eqSn_iff, Sn.zero, and_assoc]
    · simp [headB, loneB, goodB, plainB, withinB, eqSn_iff, Sn.zero, and_assoc]
    · simp [headB, loneB, goodB, eqSn_iff, Sn.zero, and_assoc]
    · simp [headB, loneB, goodB, plainB, withinB, dimenB, eqSn_iff, Sn.zero, and_assoc]
    · simp [headB, loneB, goodB, plainB, withinB, eqSn_iff, Sn.zero, and_assoc]
end Go.Proofs.Ytkkdopfdoommnaa
