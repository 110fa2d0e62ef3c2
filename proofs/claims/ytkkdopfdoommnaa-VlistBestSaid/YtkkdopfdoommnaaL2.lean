/-
  The document's side: the marks of a column.
  Where a column may be broken, and at what penalty (plain).
-/
import Derived.Test.YtkkdopfdoommnaaQ5
import Derived.Test.YtkkdopfdoommnaaQ9
namespace Go.Proofs.Ytkkdopfdoommnaa
open Go.ChangeShapes Go.WideShapes Go.ChangeAt Go.RowKit
attribute [local go_sem ↓] Go.wp_at_zero Go.wp_at_succ

theorem results_tmp4 {fn : Func} {t u v x : Tmp} (h : fn.results = #[.tmp t, .tmp u, .tmp v, .tmp x]) (tmps : Array Value) (P : Program) (w : World) :
    (results fn tmps).run P w = .ok (.tuple #[tmps.getD t undef, tmps.getD u undef, tmps.getD v undef, tmps.getD x undef]) w := by
  simp [results, h]
structure Mk where
  first : ByteArray
  last : ByteArray
  some : Bool
def Mk.none : Mk := ⟨⟨#[]⟩, ⟨#[]⟩, false⟩
def mkStep (n : Nd) (a : Mk) : Mk := if n.kind = 12 then ⟨if a.some then a.first else n.text, n.text, true⟩ else a
def marksP (L : List Nd) (s : List Nat) : Mk := s.foldl (fun a i => mkStep (nth L i) a) Mk.none
theorem marksP_step {L : List Nd} {s t : List Nat} {x : Nat} (h : t = s ++ [x]) : marksP L t = mkStep (nth L x) (marksP L s) := by rw [h]; simp [marksP]
def marksR (L : List Nd) (s : List Nat) : Mk := if colP L s = 0 then marksP L s else Mk.none
def Mk.vals (m : Mk) (e : Int) : Value := .tuple #[.string m.first, .string m.last, .bool m.some, .int .i64 e]
theorem colP_check {L : List Nd} {s : List Nat} (h : colP L s = 0) : checkC L = 0 := by
  unfold colP at h
  split at h
  · assumption
  · exact h
set_option maxRecDepth 100000 in
set_option maxHeartbeats 8000000 in
theorem qmarks (p0 : Option Addr) (b off cap : Nat) (L : List Nd) (s : List Nat) (hs : checkC L = 0 → Items L 0 s) (w : World) (hN : NIn w p0 b off cap L) :
    Calls Try.prog 32 #[.slice p0 L.length cap] w fun e w' => e = .returned ((marksR L s).vals (colP L s)) ∧ Below w.heap.size w w' := by
  have HC := Lib.hid (qcolumn p0 b off cap L s hs w hN)
  have H := Lib.hid hN
  have Hs := Lib.hid hs
  have hlen := hN.len
  clear hN hs
  go_enter Try.func32, Try.ntmps32
  go_wp2_with fail
  refine HC.out.mono ?_
  clear HC
  rintro e w1 ⟨rfl, hb1⟩
  by_cases hck : colP L s = 0
  · have hs := Hs.out (colP_check hck)
    have hkd := items_kind0 hs (colP_check hck)
    have HS := Lib.hid (qstarts p0 b off cap L s w1 (H.out.below hb1) hs fun x hx => (hkd x hx).1)
    have HR := Lib.hid (show marksR L s = marksP L s by unfold marksR; rw [if_pos hck])
    have Hck := Lib.hid hck
    have HI := Lib.hid hs.lt
    have hsl := hs.len
    rw [hck]
    clear hck hs hkd Hs
    go_wp2_with fail
    refine HS.out.mono ?_
    clear HS
    rintro e w2 ⟨⟨v, rfl, hrow⟩, hb2⟩
    obtain ⟨p, g, c, rfl, hII⟩ := irow_seen hrow
    have hbw := hb1.trans (hb2.mono hb1.size)
    clear hb1 hb2 hrow
    have hN2 := H.out.below hbw
    go_wp2_with fail
    go_loopg [7, 8, 9, 11] (s.length + 1) (fun gg t7 t8 t9 t11 wr => ∃ (i : Nat) (m : Mk), gg = s.length + 1 - i ∧ i ≤ s.length ∧ marksP L (s.take i) = m ∧ t7 = .string m.first ∧ t8 = .string m.last ∧ t9 = .bool m.some ∧ t11 = .int .i64 i ∧ wr = w2)
    case atStart => exact ⟨0, Mk.none, rfl, Nat.zero_le _, rfl, rfl, rfl, rfl, rfl, rfl⟩
    case round =>
      obtain ⟨i, m, rfl, hi, hm, rfl, rfl, rfl, rfl, rfl⟩ := hrel
      have hi1 : (0 : Int) ≤ (i : Int) := by omega
      have Hm := Lib.hid hm
      clear hm
      by_cases hin : i < s.length
      · have hi2 : (i : Int) < (s.length : Int) := by omega
        have cI := hII.at_ i hin
        have hne : s ≠ [] := by intro e; rw [e] at hin; simp at hin
        obtain rfl := hII.hp hne
        have hxl := (HI.out s[i] (List.getElem_mem hin)).2
        have hst := marksP_step (L := L) (List.take_succ_eq_append_getElem hin)
        rw [Hm.out] at hst
        obtain ⟨x, hx⟩ : ∃ x, s[i] = x := ⟨_, rfl⟩
        rw [hx] at cI hxl hst
        clear hx
        have xa := hN2.nth hxl
        obtain rfl := hN2.at_ hxl
        have hx1 : (0 : Int) ≤ (x : Int) := by omega
        have hx2 : (x : Int) < (L.length : Int) := by omega
        obtain ⟨n, hn⟩ : ∃ n, nth L x = n := ⟨_, rfl⟩
        rw [hn] at xa hst
        have Hst := Lib.hid hst
        have Hin := Lib.hid hin
        have x0 : wr.cell? ⟨b, off + x * 19, none⟩ = some (.int .i64 n.kind) := by have := agg_cell xa 0 (.int .i64 n.kind) rfl; simpa using this
        have x18 : wr.cell? ⟨b, off + x * 19 + 18, none⟩ = some (.string n.text) := agg_cell xa 18 (.string n.text) rfl
        clear hst hn hin
        cases k12 : (n.kind != 12)
        · have e12 : n.kind = 12 := by simpa using k12
          obtain ⟨f, la, so⟩ := m
          cases so
          · go_wp2_with fail
            go_roundg (s.length + 1 - (i + 1))
            case measure => have := Hin.out; omega
            case rel => exact ⟨i + 1, ⟨n.text, n.text, true⟩, rfl, Hin.out, by rw [Hst.out]; simp [mkStep, e12], rfl, rfl, rfl, by go_num, rfl⟩
          · go_wp2_with fail
            go_roundg (s.length + 1 - (i + 1))
            case measure => have := Hin.out; omega
            case rel => exact ⟨i + 1, ⟨f, n.text, true⟩, rfl, Hin.out, by rw [Hst.out]; simp [mkStep, e12], rfl, rfl, rfl, by go_num, rfl⟩
        · have e12 : n.kind ≠ 12 := by simpa using k12
          go_wp2_with fail
          go_roundg (s.length + 1 - (i + 1))
          case measure => have := Hin.out; omega
          case rel => exact ⟨i + 1, m, rfl, Hin.out, by rw [Hst.out]; simp [mkStep, e12], rfl, rfl, rfl, by go_num, rfl⟩
      · have hi2 : (s.length : Int) ≤ (i : Int) := by omega
        have hmm : marksP L s = m := by have := Hm.out; rwa [List.take_of_length_le (by omega)] at this
        have Hmm := Lib.hid hmm
        clear hmm
        go_wp2_with fail
        (try simp only [Exit.inBlock, Exit.then])
        refine bodyPost_ret (results_tmp4 rfl _ _ _) rfl ?_
        exact ⟨by rw [HR.out, Hmm.out, Hck.out]; rfl, hbw⟩
  · have hck' : ((colP L s : Int) != 0) = true := by simpa using hck
    have HR := Lib.hid (show marksR L s = Mk.none by unfold marksR; rw [if_neg hck])
    clear hck
    go_wp2_with fail
    (try simp only [Exit.inBlock, Exit.then])
    refine bodyPost_ret (results_tmp4 rfl _ _ _) rfl ?_
    exact ⟨by rw [HR.out]; rfl, hb1⟩
end Go.Proofs.Ytkkdopfdoommnaa
namespace Go.Proofs.Ytkkdopfdoommnaa
open Go.RowKit
/-- an item's penalty, the item ahead of it known -/
def qOf (L : List Nd) (prev : Option Nat) (i : Nat) : Int :=
  if ((nth L i).kind == 7 && prev.any fun j => !fallsK (nth L j).kind) = true then 0
  else if ((nth L i).kind == 8 && decide (i + 1 < L.length) && (nth L (i + 1)).kind == 7) = true then 0
  else if ((nth L i).kind == 9) = true then (nth L i).pen else 10000
def brk (i : Nat) (q : Int) : List (Nat × Int) := if q < 10000 then [(i, q)] else []
def breaksF (L : List Nd) : Option Nat → List Nat → List (Nat × Int)
  | _, [] => []
  | prev, i :: s => brk i (qOf L prev i) ++ breaksF L (some i) s
def lastO (prev : Option Nat) (pre : List Nat) : Option Nat := match pre.getLast? with | some x => some x | none => prev
theorem lastO_snoc (prev : Option Nat) (pre : List Nat) (x : Nat) : lastO prev (pre ++ [x]) = some x := by simp [lastO]
theorem lastO_cons (prev : Option Nat) (i : Nat) (pre : List Nat) : lastO prev (i :: pre) = lastO (some i) pre := by
  unfold lastO
  cases pre with
  | nil => rfl
  | cons a r => simp [List.getLast?_cons]
theorem breaksF_append (L : List Nd) : ∀ (pre rest : List Nat) (prev : Option Nat), breaksF L prev (pre ++ rest) = breaksF L prev pre ++ breaksF L (lastO prev pre) rest
  | [], rest, prev => by simp [breaksF, lastO]
  | i :: pre, rest, prev => by
    rw [List.cons_append, breaksF, breaksF, breaksF_append L pre rest (some i), List.append_assoc, lastO_cons]
theorem breaksF_snoc (L : List Nd) (pre : List Nat) (i : Nat) : breaksF L none (pre ++ [i]) = breaksF L none pre ++ brk i (qOf L (lastO none pre) i) := by
  rw [breaksF_append]; simp [breaksF]
theorem breaksF_mem (L : List Nd) : ∀ (s : List Nat) (prev : Option Nat) (x : Nat × Int), x ∈ breaksF L prev s → x.1 ∈ s
  | [], _, _, h => by cases h
  | i :: s, prev, x, h => by
    rw [breaksF, List.mem_append] at h
    rcases h with h | h
    · unfold brk at h
      split at h
      · simp only [List.mem_singleton] at h; rw [h]; simp
      · cases h
    · exact List.mem_cons_of_mem _ (breaksF_mem L s _ x h)
theorem breaksF_len (L : List Nd) : ∀ (s : List Nat) (prev : Option Nat), (breaksF L prev s).length ≤ s.length
  | [], _ => Nat.le_refl _
  | i :: s, prev => by
    rw [breaksF, List.length_append, List.length_cons]
    have := breaksF_len L s (some i)
    have h2 : (brk i (qOf L prev i)).length ≤ 1 := by unfold brk; split <;> simp
    omega
/-- the legal breaks, with their penalties -/
def legalP (L : List Nd) (s : List Nat) : List (Nat × Int) := breaksF L none s ++ [(L.length, -10000)]
theorem legalP_len (L : List Nd) (s : List Nat) : (legalP L s).length ≤ s.length + 1 := by unfold legalP; rw [List.length_append]; have := breaksF_len L s none; simp; omega
theorem legalP_pre {L : List Nd} {s pre rest : List Nat} {i : Nat} (h : s = pre ++ i :: rest) : legalP L s = breaksF L none pre ++ (brk i (qOf L (lastO none pre) i) ++ (breaksF L (some i) rest ++ [(L.length, -10000)])) := by
  unfold legalP
  rw [h, breaksF_append, breaksF]
  simp [List.append_assoc]
theorem legalP_le {L : List Nd} {s : List Nat} {i : Nat} (hs : Items L i s) : ∀ x ∈ legalP L s, x.1 ≤ L.length := by
  intro x hx
  unfold legalP at hx
  rw [List.mem_append] at hx
  rcases hx with hx | hx
  · exact Nat.le_of_lt (hs.lt _ (breaksF_mem L s none x hx)).2
  · simp only [List.mem_singleton] at hx; rw [hx]; exact Nat.le_refl _
/-- what an iterator over the breaks may tell: an item and the penalty that it would have behind some other one; the end -/
def BrOk (L : List Nd) (s : List Nat) (x : Nat × Int) : Prop := (x.1 ∈ s ∧ x.2 < 10000 ∧ ∃ prev, x.2 = qOf L prev x.1) ∨ x = (L.length, -10000)
abbrev Br (L : List Nd) (s : List Nat) := {x : Nat × Int // BrOk L s x}
def lastV (prev : Option Nat) : Int := match prev with | some j => j | none => -1
theorem breaksF_pre {L : List Nd} {s pre : List Nat} (h : pre <+: s) : breaksF L none pre <+: legalP L s := by
  obtain ⟨r, rfl⟩ := h
  unfold legalP
  rw [breaksF_append, List.append_assoc]
  exact List.prefix_append _ _
theorem lastO_mem {pre : List Nat} {j : Nat} (h : lastO none pre = some j) : j ∈ pre := by
  unfold lastO at h
  cases hp : pre.getLast? with
  | none => rw [hp] at h; cases h
  | some x => rw [hp] at h; cases h; exact List.mem_of_getLast? hp
end Go.Proofs.Ytkkdopfdoommnaa
