/-
  Layer 20: the law MathlBins: what it computes: true, of any signs.
-/
import Derived.Test.YtkkdopfdoommnaaM15
namespace Go.Proofs.Ytkkdopfdoommnaa
open Go.ChangeShapes Go.WideShapes Go.ChangeAt Go.RowKit

/-! ### No class counts as a binary one where none may stand -/
def nextTo (a b : Int) : Prop := (b = 3 → ¬ (a = 3 ∨ a = 2 ∨ a = 4 ∨ a = 5 ∨ a = 7)) ∧ (a = 3 → ¬ (b = 4 ∨ b = 6 ∨ b = 7))
def inClass (x : Int) : Prop := 1 ≤ x ∧ x ≤ 8
def okA : List Int → Prop
  | [] => True
  | [x] => inClass x ∧ x ≠ 3
  | x :: y :: r => inClass x ∧ nextTo y x ∧ okA (y :: r)
theorem okA_one {l : Int} {r : List Int} (h : okA (l :: r)) : okA (1 :: r) := by
  cases r with
  | nil => exact ⟨⟨by omega, by omega⟩, by omega⟩
  | cons y r => exact ⟨⟨by omega, by omega⟩, ⟨by omega, by omega⟩, h.2.2⟩
theorem okA_head {l : Int} {r : List Int} (h : okA (l :: r)) : inClass l := by
  cases r with
  | nil => exact h.1
  | cons y r => exact h.1
theorem okA_step {acc : List Int} {c : Int} (ha : okA acc) (hc : 0 ≤ c ∧ c ≤ 8) : okA (countStep acc c) := by
  unfold countStep
  split
  · exact ha
  · rename_i h0
    cases acc with
    | nil =>
      simp only
      split
      · exact ⟨⟨by omega, by omega⟩, by omega⟩
      · exact ⟨⟨by omega, by omega⟩, by omega⟩
    | cons l r =>
      simp only
      by_cases hr : (c = 4 ∨ c = 6 ∨ c = 7) ∧ l = 3
      · rw [if_pos hr]
        have h1 := okA_one ha
        have h3 : ¬ c = 3 := by omega
        rw [if_neg h3]
        exact ⟨⟨by omega, by omega⟩, ⟨by omega, by omega⟩, h1⟩
      · rw [if_neg hr]
        have hl := okA_head ha
        by_cases h3 : c = 3
        · subst h3
          simp only [if_true]
          split
          · exact ⟨⟨by omega, by omega⟩, ⟨by omega, by omega⟩, ha⟩
          · rename_i hn
            exact ⟨⟨by omega, by omega⟩, ⟨fun _ => hn, by omega⟩, ha⟩
        · rw [if_neg h3]
          exact ⟨⟨by omega, by omega⟩, ⟨by omega, by omega⟩, ha⟩
theorem okA_fold : ∀ (cs acc : List Int), okA acc → (∀ c ∈ cs, 0 ≤ c ∧ c ≤ 8) → okA (cs.foldl countStep acc)
  | [], _, ha, _ => ha
  | c :: cs, _, ha, hc => okA_fold cs _ (okA_step ha (hc c List.mem_cons_self)) fun c hc' => hc c (List.mem_cons_of_mem _ hc')
theorem okA_end {acc : List Int} (h : okA acc) : okA (countEnd acc) ∧ (countEnd acc).head? ≠ some 3 := by
  cases acc with
  | nil => exact ⟨trivial, by simp [countEnd]⟩
  | cons l r =>
    rw [countEnd]
    split
    · exact ⟨okA_one h, by simp⟩
    · rename_i hn; exact ⟨h, by simpa using hn⟩
theorem okA_get : ∀ (acc : List Int) (j : Nat) (h : j < acc.length), okA acc → inClass acc[j] ∧ (∀ h2 : j + 1 < acc.length, nextTo acc[j + 1] acc[j]) ∧ (j + 1 = acc.length → acc[j] ≠ 3)
  | [], j, h, _ => by simp at h
  | [x], 0, h, ho => ⟨ho.1, fun h2 => by simp at h2, fun _ => ho.2⟩
  | [x], j + 1, h, ho => by simp at h
  | x :: y :: r, 0, h, ho => ⟨ho.1, fun _ => ho.2.1, fun h2 => by simp at h2⟩
  | x :: y :: r, j + 1, h, ho => by
    have := okA_get (y :: r) j (by simpa using h) ho.2.2
    refine ⟨this.1, fun h2 => this.2.1 (by simpa using h2), fun h2 => this.2.2 (by simpa using h2)⟩
theorem classI_in {k : Int} (h : 1 ≤ k) : 0 ≤ classI k ∧ classI k ≤ 8 := by
  unfold classI
  repeat' split
  all_goals omega
/-- what the law asks of the classes -/
structure BinsOK (cs : List Int) : Prop where
  inn : ∀ i (h : i < cs.length), inClass cs[i]
  prev : ∀ i (h : i + 1 < cs.length), cs[i + 1] = 3 → ¬ (cs[i] = 3 ∨ cs[i] = 2 ∨ cs[i] = 4 ∨ cs[i] = 5 ∨ cs[i] = 7)
  next : ∀ i (h : i + 1 < cs.length), cs[i] = 3 → ¬ (cs[i + 1] = 4 ∨ cs[i + 1] = 6 ∨ cs[i + 1] = 7)
  first : ∀ h : 0 < cs.length, cs[0] ≠ 3
  last : ∀ h : 0 < cs.length, cs[cs.length - 1] ≠ 3
theorem bins_ok {ks : List Int} (h : ∀ k ∈ ks, 1 ≤ k) : BinsOK (classesP ks) := by
  have h1 := okA_end (okA_fold (ks.map classI) [] trivial (by
    intro c hc
    obtain ⟨k, hk, rfl⟩ := List.mem_map.1 hc
    exact classI_in (h k hk)))
  unfold classesP
  generalize countEnd ((ks.map classI).foldl countStep []) = acc at h1
  obtain ⟨ho, hh⟩ := h1
  refine ⟨fun i hi => ?_, fun i hi => ?_, fun i hi => ?_, fun hi => ?_, fun hi => ?_⟩
  · rw [List.getElem_reverse]; exact (okA_get acc _ (by simp at hi; omega) ho).1
  · simp only [List.length_reverse] at hi
    have h2 := (okA_get acc (acc.length - 1 - (i + 1)) (by omega) ho).2.1 (by omega)
    rw [List.getElem_reverse, List.getElem_reverse]
    have e : acc.length - 1 - (i + 1) + 1 = acc.length - 1 - i := by omega
    simp only [e] at h2
    exact h2.1
  · simp only [List.length_reverse] at hi
    have h2 := (okA_get acc (acc.length - 1 - (i + 1)) (by omega) ho).2.1 (by omega)
    rw [List.getElem_reverse, List.getElem_reverse]
    have e : acc.length - 1 - (i + 1) + 1 = acc.length - 1 - i := by omega
    simp only [e] at h2
    exact h2.2
  · simp only [List.length_reverse] at hi
    rw [List.getElem_reverse]
    exact (okA_get acc (acc.length - 1 - 0) (by omega) ho).2.2 (by omega)
  · simp only [List.length_reverse] at hi
    rw [List.getElem_reverse]
    simp only [List.length_reverse]
    have e : acc.length - 1 - (acc.length - 1) = 0 := by omega
    simp only [e]
    intro e3
    apply hh
    rw [List.head?_eq_getElem?, List.getElem?_eq_getElem (by omega), e3]
theorem read_pos {L : List Sn} {ks : List Int} (h : readP L = some ks) : ∀ k ∈ ks, 1 ≤ k := by
  rw [readP_eq] at h
  obtain ⟨x, hx, hx2⟩ := Option.bind_eq_some_iff.1 h
  split at hx2
  · cases hx2; exact (fmla_short _ _ _ hx).2
  · cases hx2
def LiveD : Prop := ∀ w : World, Calls Try.prog 20 #[] w fun e w' => e = .returned (.bool true) ∧ Below w.heap.size w w'
theorem liveD : LiveD := live_any

set_option maxRecDepth 100000 in
set_option maxHeartbeats 8000000 in
theorem bins_walk (p : Option Addr) (b off cap : Nat) (L : List Sn) (w : World) (h : RSigns w p b off cap L) :
    Calls Try.prog 5 #[.slice p L.length cap] w fun e w' => e = .returned (.bool true) ∧ Below w.heap.size w w' := by
  have HS := Lib.hid (signs_any p b off cap L w h)
  have hl63 : L.length ≤ 9223372036854775807 := by have := h.len; omega
  have HL := liveD
  clear h
  go_enter Try.func5, Try.ntmps5
  go_wp2_with fail
  refine HS.out.mono ?_
  clear HS
  rintro e w1 ⟨v, rfl, hrow, hb1⟩
  obtain ⟨p2, g, cap2, rfl, hS⟩ := signs_seen hrow
  have HC := Lib.hid (classes_any fmla_ok p2 g cap2 L hl63 w1 hS)
  clear hS hrow
  go_wp2_with fail
  refine HC.out.mono ?_
  clear HC
  rintro e w2 ⟨⟨v, rfl, hv0, hv⟩, hb2⟩
  have hb12 := hb1.trans (hb2.mono hb1.size)
  clear hb1 hb2
  by_cases hc : readCode L = 0
  · obtain ⟨ks, hks, hrow⟩ := hv hc
    rw [hc]
    obtain ⟨p3, b3, cap3, rfl, hI⟩ := ints_of_row hrow
    have HB := Lib.hid (bins_ok (read_pos hks))
    have hlen3 := hI.cap'
    have hmax : (classesP ks).length ≤ 9223372036854775807 := by
      obtain ⟨hl, h1 | ⟨_, _, _, h1, _, _, _, hm, _⟩⟩ := hrow
      · omega
      · cases h1; unfold maxLen at hm; omega
    have HI := Lib.hid hI
    clear hc hv hv0 hks hrow hI
    generalize classesP ks = cs at HB HI hlen3 hmax
    go_wp2_with (go_at_call 23; refine (num_any _ _).mono ?_; rintro e w' ⟨rfl, rfl⟩)
    go_loopg [5] (cs.length + 1) (fun g t wr => ∃ k : Nat, g = cs.length + 1 - k ∧ k ≤ cs.length ∧ t = .int .i64 k ∧ wr = w2)
    case atStart => exact ⟨0, rfl, Nat.zero_le _, rfl, rfl⟩
    case round =>
      obtain ⟨k, rfl, hk, rfl, rfl⟩ := hrel
      have hk1 : (0 : Int) ≤ (k : Int) := by omega
      by_cases hkn : k < cs.length
      · have hk2 : (k : Int) < (cs.length : Int) := by omega
        obtain rfl := HI.out.hp (by intro e; rw [e] at hkn; simp at hkn)
        have hin := HB.out.inn k hkn
        have hx := HI.out.at_ k hkn
        have Hx := Lib.hid (List.getElem?_eq_getElem hkn)
        generalize cs[k] = x at hin hx Hx
        obtain ⟨hx1, hx2⟩ := hin
        cases hx3 : ((x : Int) != 3)
        · have Hx3 := Lib.hid (show x = 3 by simpa using hx3)
          have hk0 : k ≠ 0 := by
            intro e
            subst e
            have := HB.out.first hkn
            rw [List.getElem?_eq_getElem hkn] at Hx
            exact this ((Option.some.inj Hx.out).trans Hx3.out)
          obtain ⟨m, rfl⟩ := Nat.exists_eq_succ_of_ne_zero hk0
          have hkl : m + 1 + 1 < cs.length := by
            apply Decidable.byContradiction
            intro hn
            have := HB.out.last (by omega)
            have e := Hx.out
            rw [List.getElem?_eq_getElem hkn] at e
            have e2 : cs.length - 1 = m + 1 := by simp only [Nat.succ_eq_add_one] at hkn hk; omega
            simp only [e2] at this
            exact this ((Option.some.inj e).trans Hx3.out)
          have hp1 := HB.out.prev m (by simpa using hkn)
          have hn1 := HB.out.next (m + 1) hkl
          have e := Hx.out
          rw [List.getElem?_eq_getElem hkn] at e
          have e3 : cs[m + 1] = 3 := (Option.some.inj e).trans Hx3.out
          have ha := hp1 e3
          have hb := hn1 e3
          have hca := HI.out.at_ m (by omega)
          have hcb := HI.out.at_ (m + 1 + 1) hkl
          generalize cs[m] = ya at ha hca
          generalize cs[m + 1 + 1] = yb at hb hcb
          clear hp1 hn1 e e3 Hx hk0
          have a3 : ((ya : Int) == 3) = false := by simp; omega
          have a2 : ((ya : Int) == 2) = false := by simp; omega
          have a4 : ((ya : Int) == 4) = false := by simp; omega
          have a5 : ((ya : Int) == 5) = false := by simp; omega
          have a7 : ((ya : Int) == 7) = false := by simp; omega
          have b4 : ((yb : Int) == 4) = false := by simp; omega
          have b6 : ((yb : Int) == 6) = false := by simp; omega
          have b7 : ((yb : Int) == 7) = false := by simp; omega
          have hkl2 : (m : Int) + 1 + 1 < (cs.length : Int) := by omega
          have hm1 : (0 : Int) ≤ (m : Int) := by omega
          have z1 : ((m : Int) + 1 == 0) = false := by simp; omega
          have z2 : ((m : Int) + 1 == (cs.length : Int) - 1) = false := by simp; omega
          clear ha hb
          simp only [Nat.succ_eq_add_one] at *
          go_wp2_with fail
          go_roundg (cs.length + 1 - (m + 1 + 1))
          case measure => omega
          case rel => exact ⟨m + 1 + 1, rfl, by omega, by go_num, rfl⟩
        · go_wp2_with fail
          go_roundg (cs.length + 1 - (k + 1))
          case measure => omega
          case rel => exact ⟨k + 1, rfl, hkn, by go_num, rfl⟩
      · have hk2 : (cs.length : Int) ≤ (k : Int) := by omega
        go_wp2_with (go_at_call 20; refine (HL _).mono ?_; rintro e w3 ⟨rfl, hb3⟩)
        go_ret
        exact ⟨rfl, hb12.trans (hb3.mono hb12.size)⟩
  · have hc' : (readCode L != 0) = true := by simpa using hc
    obtain rfl := hv0 hc
    clear hv hv0 hc
    go_wp2_with (first | (go_at_call 23; refine (num_any _ _).mono ?_; rintro e w' ⟨rfl, rfl⟩) | (go_at_call 20; refine (HL _).mono ?_; rintro e w3 ⟨rfl, hb3⟩))
    go_ret
    exact ⟨rfl, hb12.trans (hb3.mono hb12.size)⟩
end Go.Proofs.Ytkkdopfdoommnaa
