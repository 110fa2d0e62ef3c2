/-
  The document's side: Check of a column; whether a glue may be a top glue.
-/
import Derived.Test.YtomehdepjenilaaGreatH0
import Derived.Test.YtomehdepjenilaaGreatQ8
import Derived.Test.YtomehdepjenilaaGreatQ6
set_option maxRecDepth 100000
set_option maxHeartbeats 8000000
namespace Go.Proofs.YtomehdepjenilaaGreat
open Go.ChangeShapes Go.WideShapes Go.ChangeAt Go.RowKit
attribute [local go_sem ↓] Go.wp_at_zero Go.wp_at_succ

structure IIn (w : World) (p : Option Addr) (g c : Nat) (s : List Nat) : Prop where
  hp : s ≠ [] → p = some ⟨g, 0, none⟩
  hg : s ≠ [] → g < w.heap.size
  at_ : ∀ i (hi : i < s.length), w.cell? ⟨g, i, none⟩ = some (.int .i64 (s[i] : Nat))
theorem IIn.below {w w' : World} {p : Option Addr} {g c : Nat} {s : List Nat} (h : IIn w p g c s) (hb : Below w.heap.size w w') : IIn w' p g c s :=
  ⟨h.hp, fun e => Nat.lt_of_lt_of_le (h.hg e) hb.size, fun i hi => (hb.cell (p := ⟨g, i, none⟩) (h.hg (by intro e; rw [e] at hi; simp at hi))).trans (h.at_ i hi)⟩
theorem irow_seen {w w' : World} {v : Value} {s : List Nat} (h : IRow w v s w') : ∃ p g c, v = .slice p s.length c ∧ IIn w' p g c s := by
  unfold IRow at h
  by_cases h0 : s = []
  · subst h0
    obtain ⟨_, ⟨rfl, _⟩ | ⟨g, cap, cur, rfl, _⟩⟩ := h
    · exact ⟨none, 0, 0, rfl, fun e => absurd rfl e, fun e => absurd rfl e, fun i hi => by simp at hi⟩
    · exact ⟨_, g, cap, rfl, fun e => absurd rfl e, fun e => absurd rfl e, fun i hi => by simp at hi⟩
  · obtain ⟨g, c, rfl, _, hg⟩ := h.form (List.length_pos_iff.2 h0)
    refine ⟨_, g, c, rfl, fun _ => rfl, fun _ => hg, fun i hi => ?_⟩
    rw [h.cellAt i (by omega), ints_idx]
    simp [ofN, hi]
def frmC (L : List Nd) (s : List Nat) : Int := if s.all (fun x => firmN (nth L x)) then 0 else 30
theorem frmC_step {L : List Nd} {s t : List Nat} {x : Nat} (h : t = s ++ [x]) : frmC L t = if firmN (nth L x) then frmC L s else 30 := by
  rw [h]
  unfold frmC
  rw [List.all_append, List.all_cons, List.all_nil, Bool.and_true]
  cases s.all (fun x => firmN (nth L x)) <;> cases firmN (nth L x) <;> rfl
theorem runC_right : ∀ (l : List Nd) (st : List Int) (d : Int) (r : List Int × Int), runC l st d = some r → ∀ x ∈ l, rightB x = true
  | [], _, _, _, _ => fun x hx => by cases hx
  | y :: l, st, d, r, h => fun x hx => by
    unfold runC at h
    split at h
    · rename_i hr
      obtain ⟨s, _, h2⟩ := Option.bind_eq_some_iff.1 h
      rcases List.mem_cons.1 hx with rfl | hx
      · exact hr
      · exact runC_right l _ _ _ h2 x hx
    · cases h
theorem check_right {L : List Nd} (h : checkC L = 0) : ∀ x ∈ L, rightB x = true := by
  obtain ⟨_, d, _, hr⟩ := checkC_zero h
  exact runC_right L [] 0 _ hr
theorem right_skip {n : Nd} (h : rightB n = true) (hk : n.kind = 7) : n.glue.good = true ∧ withinB n.sub 0 20 = true := by
  unfold rightB at h
  rw [hk] at h
  simp only [Bool.and_eq_true] at h
  have : skipB n = true := h.1.2
  simpa [skipB] using this
theorem good_ho {g : Gl} (h : g.good = true) : (0 ≤ g.so ∧ g.so ≤ 3) ∧ 0 ≤ g.ho ∧ g.ho ≤ 3 := by
  simp [Gl.good, withinB] at h
  omega
theorem qcolumn (p0 : Option Addr) (b off cap : Nat) (L : List Nd) (s : List Nat) (hs : checkC L = 0 → Items L 0 s) (w : World) (hN : NIn w p0 b off cap L) :
    Calls Tryz.prog 12 #[.slice p0 L.length cap] w fun e w' => e = .returned (.int .i64 (colP L s)) ∧ Below w.heap.size w w' := by
  have HC := Lib.hid (qcheck p0 b off cap L w hN)
  have H := Lib.hid hN
  have Hs := Lib.hid hs
  have hlen := hN.len
  clear hN hs
  go_enter Tryz.func12, Tryz.ntmps12
  go_wp2_with fail
  refine HC.out.mono ?_
  clear HC
  rintro e w1 ⟨rfl, hb1⟩
  by_cases hck : checkC L = 0
  · have hs := Hs.out hck
    have hkd := items_kind0 hs hck
    have HS := Lib.hid (qstarts p0 b off cap L s w1 (H.out.below hb1) hs fun x hx => (hkd x hx).1)
    have Hck := Lib.hid hck
    have HI := Lib.hid hs.lt
    have hsl := hs.len
    rw [hck]
    clear hck hs hkd Hs
    go_wp2_with fail
    refine HS.out.mono ?_
    clear HS
    rintro e w2 ⟨⟨v, rfl, hrow⟩, hb2⟩
    obtain ⟨p, g, c, rfl, hII⟩ := irow_seen hrow
    have hbw := hb1.trans (hb2.mono hb1.size)
    clear hb1 hb2 hrow
    go_wp2_with fail
    go_loopg [5, 6] (s.length + 1) (fun gg t5 t6 wr => ∃ i : Nat, gg = s.length + 1 - i ∧ i ≤ s.length ∧ t5 = .int .i64 (frmC L (s.take i)) ∧ t6 = .int .i64 i ∧ (s.take i).any (fun x => badN (nth L x)) = false ∧ Below w2.heap.size w2 wr)
    case atStart => exact ⟨0, rfl, Nat.zero_le _, rfl, rfl, rfl, .refl _ _⟩
    case round =>
      obtain ⟨i, rfl, hi, rfl, rfl, hbad, hbl⟩ := hrel
      have hi1 : (0 : Int) ≤ (i : Int) := by omega
      have Hbad := Lib.hid hbad
      have Hbl := Lib.hid hbl
      by_cases hin : i < s.length
      · have hi2 : (i : Int) < (s.length : Int) := by omega
        have hIr := hII.below hbl
        have cI := hIr.at_ i hin
        have hne : s ≠ [] := by intro e; rw [e] at hin; simp at hin
        obtain rfl := hII.hp hne
        have hmem : s[i] ∈ s := List.getElem_mem hin
        have hxl := (HI.out s[i] hmem).2
        have Htk := Lib.hid (List.take_succ_eq_append_getElem hin)
        obtain ⟨x, hx⟩ : ∃ x, s[i] = x := ⟨_, rfl⟩
        rw [hx] at cI hxl Htk
        clear hmem hx
        have hN2 := H.out.below (hbw.trans (hbl.mono hbw.size))
        have xa := hN2.nth hxl
        obtain rfl := hN2.at_ hxl
        have hx1 : (0 : Int) ≤ (x : Int) := by omega
        have hx2 : (x : Int) < (L.length : Int) := by omega
        obtain ⟨n, hn⟩ : ∃ n, nth L x = n := ⟨_, rfl⟩
        rw [hn] at xa
        have Hn := Lib.hid hn
        have hho : n.kind = 7 → 0 ≤ n.glue.ho := fun h => (good_ho (right_skip (check_right Hck.out n (by rw [← hn, nth_get hxl]; exact List.getElem_mem _)) h).1).2.1
        have Hin := Lib.hid hin
        clear hn hbl hbad hIr hN2 hin
        have HbB : Hid (badN n = true → colP L s = 50) := Lib.hid fun hb => by
          unfold colP
          rw [if_pos Hck.out, if_pos]
          refine List.any_eq_true.2 ⟨x, ?_, by rw [Hn.out]; exact hb⟩
          have := Htk.out ▸ (List.mem_append_right (s.take i) (List.mem_singleton_self x))
          exact List.mem_of_mem_take this
        have HbG : Hid (badN n = false → (s.take (i + 1)).any (fun x => badN (nth L x)) = false) := Lib.hid fun hb => by rw [Htk.out, List.any_append, Hbad.out, List.any_cons, Hn.out, hb]; rfl
        have dX : (wr.alloc (.cells n.arr 49)).heap[wr.heap.size]? = some (.cells n.arr 49 (0, 0)) := heap_alloc_new _ _
        have x0 : (wr.alloc (.cells n.arr 49)).cell? ⟨wr.heap.size, 0, none⟩ = some (.int .i64 n.kind) := by rw [cell?_blk' dX]; rfl
        have x9 : (wr.alloc (.cells n.arr 49)).cell? ⟨wr.heap.size, 9, none⟩ = some (.int .i64 n.glue.shr) := by rw [cell?_blk' dX]; rfl
        have x11 : (wr.alloc (.cells n.arr 49)).cell? ⟨wr.heap.size, 11, none⟩ = some (.int .i64 n.glue.ho) := by rw [cell?_blk' dX]; rfl
        have hb4 : Below w2.heap.size w2 (wr.alloc (.cells n.arr 49)) := Hbl.out.alloc Hbl.out.size _
        have hst := frmC_step (L := L) Htk.out
        rw [Hn.out] at hst
        have HT := Lib.hid (fun h => HbG.out h)
        generalize frmC L (s.take i) = f at hst ⊢
        have Hst := Lib.hid hst
        have Hho := Lib.hid hho
        have Hb4 := Lib.hid hb4
        clear hst hho hb4 dX
        cases k1 : (n.kind == 1)
        rotate_left
        · have Hc := Lib.hid (HbB.out (by simp [badN, k1]))
          go_wp2_with fail
          go_ret
          exact ⟨ret_int Hc.out.symm, hbw.trans (Hb4.out.mono hbw.size)⟩
        cases k2 : (n.kind == 2)
        rotate_left
        · have Hc := Lib.hid (HbB.out (by simp [badN, k2]))
          go_wp2_with fail
          go_ret
          exact ⟨ret_int Hc.out.symm, hbw.trans (Hb4.out.mono hbw.size)⟩
        cases k10 : (n.kind == 10)
        rotate_left
        · have Hc := Lib.hid (HbB.out (by simp [badN, k10]))
          go_wp2_with fail
          go_ret
          exact ⟨ret_int Hc.out.symm, hbw.trans (Hb4.out.mono hbw.size)⟩
        cases k15 : (n.kind == 15)
        rotate_left
        · have Hc := Lib.hid (HbB.out (by simp [badN, k15]))
          go_wp2_with fail
          go_ret
          exact ⟨ret_int Hc.out.symm, hbw.trans (Hb4.out.mono hbw.size)⟩
        cases k16 : (n.kind == 16)
        rotate_left
        · have Hc := Lib.hid (HbB.out (by simp [badN, k16]))
          go_wp2_with fail
          go_ret
          exact ⟨ret_int Hc.out.symm, hbw.trans (Hb4.out.mono hbw.size)⟩
        cases k17 : (n.kind == 17)
        rotate_left
        · have Hc := Lib.hid (HbB.out (by simp [badN, k17]))
          go_wp2_with fail
          go_ret
          exact ⟨ret_int Hc.out.symm, hbw.trans (Hb4.out.mono hbw.size)⟩
        have hg := HT.out (by simp [badN, k1, k2, k10, k15, k16, k17])
        have HG := Lib.hid hg
        clear hg
        cases k7 : (n.kind == 7)
        · have hf : frmC L (s.take (i + 1)) = f := by rw [Hst.out, show firmN n = true by simp [firmN, k7]]; rfl
          go_wp2_with fail
          go_roundg (s.length + 1 - (i + 1))
          case measure => have := Hin.out; omega
          case rel => exact ⟨i + 1, rfl, Hin.out, by rw [hf], by go_num, HG.out, Hb4.out⟩
        · have h0 := Hho.out (by simpa using k7)
          rcases Int.lt_or_le 0 n.glue.ho with hh | hh
          · cases kr : (n.glue.shr == 0)
            · have hr' : (n.glue.shr != 0) = true := by rw [bne, kr]; rfl
              have hf : frmC L (s.take (i + 1)) = 30 := by rw [Hst.out, show firmN n = false by simp [firmN, k7, kr]; omega]; rfl
              go_wp2_with fail
              go_roundg (s.length + 1 - (i + 1))
              case measure => have := Hin.out; omega
              case rel => exact ⟨i + 1, rfl, Hin.out, by rw [hf], by go_num, HG.out, Hb4.out⟩
            · have hr' : (n.glue.shr != 0) = false := by rw [bne, kr]; rfl
              have hf : frmC L (s.take (i + 1)) = f := by rw [Hst.out, show firmN n = true by simp [firmN, kr]]; rfl
              go_wp2_with fail
              go_roundg (s.length + 1 - (i + 1))
              case measure => have := Hin.out; omega
              case rel => exact ⟨i + 1, rfl, Hin.out, by rw [hf], by go_num, HG.out, Hb4.out⟩
          · have hf : frmC L (s.take (i + 1)) = f := by rw [Hst.out, show firmN n = true by simp [firmN]; omega]; rfl
            go_wp2_with fail
            go_roundg (s.length + 1 - (i + 1))
            case measure => have := Hin.out; omega
            case rel => exact ⟨i + 1, rfl, Hin.out, by rw [hf], by go_num, HG.out, Hb4.out⟩
      · have hi2 : (s.length : Int) ≤ (i : Int) := by omega
        have ht : s.take i = s := List.take_of_length_le (by omega)
        have hcol : colP L s = frmC L s := by
          have := Hbad.out
          rw [ht] at this
          unfold colP
          rw [if_pos Hck.out, this]; rfl
        have Hcol := Lib.hid hcol
        rw [ht]
        clear hcol ht
        go_wp2_with fail
        go_ret
        exact ⟨ret_int Hcol.out.symm, hbw.trans (hbl.mono hbw.size)⟩
  · have hck' : ((checkC L : Int) != 0) = true := by simpa using hck
    have Hcol : Hid (colP L s = checkC L) := Lib.hid (by unfold colP; rw [if_neg hck])
    clear hck
    go_wp2_with fail
    go_ret
    exact ⟨ret_int Hcol.out.symm, hb1⟩
end Go.Proofs.YtomehdepjenilaaGreat
namespace Go.Proofs.YtomehdepjenilaaGreat
open Go.ChangeShapes Go.WideShapes Go.ChangeAt Go.RowKit
attribute [local go_sem ↓] Go.wp_at_zero Go.wp_at_succ

structure Mk where
  first : ByteArray
  last : ByteArray
  some : Bool
def Mk.none : Mk := ⟨⟨#[]⟩, ⟨#[]⟩, false⟩
def mkStep (n : Nd) (a : Mk) : Mk := if n.kind = 12 then ⟨if a.some then a.first else n.text, n.text, true⟩ else a
def marksP (L : List Nd) (s : List Nat) : Mk := s.foldl (fun a i => mkStep (nth L i) a) Mk.none
theorem marksP_step {L : List Nd} {s t : List Nat} {x : Nat} (h : t = s ++ [x]) : marksP L t = mkStep (nth L x) (marksP L s) := by rw [h]; simp [marksP]
def marksR (L : List Nd) (s : List Nat) : Mk := if colP L s = 0 then marksP L s else Mk.none
def Mk.vals (m : Mk) (e : Int) : Value := .tuple #[.string m.first, .string m.last, .bool m.some, .int .i64 e]
theorem colP_check {L : List Nd} {s : List Nat} (h : colP L s = 0) : checkC L = 0 := by
  unfold colP at h
  split at h
  · assumption
  · exact h
end Go.Proofs.YtomehdepjenilaaGreat
namespace Go.Proofs.YtomehdepjenilaaGreat
open Go.RowKit
def qOf (L : List Nd) (prev : Option Nat) (i : Nat) : Int :=
  if ((nth L i).kind == 7 && prev.any fun j => !fallsK (nth L j).kind) = true then 0
  else if ((nth L i).kind == 8 && decide (i + 1 < L.length) && (nth L (i + 1)).kind == 7) = true then 0
  else if ((nth L i).kind == 9) = true then (nth L i).pen else 10000
def brk (i : Nat) (q : Int) : List (Nat × Int) := if q < 10000 then [(i, q)] else []
def breaksF (L : List Nd) : Option Nat → List Nat → List (Nat × Int)
  | _, [] => []
  | prev, i :: s => brk i (qOf L prev i) ++ breaksF L (some i) s
def lastO (prev : Option Nat) (pre : List Nat) : Option Nat := match pre.getLast? with | some x => some x | none => prev
theorem lastO_snoc (prev : Option Nat) (pre : List Nat) (x : Nat) : lastO prev (pre ++ [x]) = some x := by simp [lastO]
theorem lastO_cons (prev : Option Nat) (i : Nat) (pre : List Nat) : lastO prev (i :: pre) = lastO (some i) pre := by
  unfold lastO
  cases pre with
  | nil => rfl
  | cons a r => simp [List.getLast?_cons]
theorem breaksF_append (L : List Nd) : ∀ (pre rest : List Nat) (prev : Option Nat), breaksF L prev (pre ++ rest) = breaksF L prev pre ++ breaksF L (lastO prev pre) rest
  | [], rest, prev => by simp [breaksF, lastO]
  | i :: pre, rest, prev => by
    rw [List.cons_append, breaksF, breaksF, breaksF_append L pre rest (some i), List.append_assoc, lastO_cons]
theorem breaksF_snoc (L : List Nd) (pre : List Nat) (i : Nat) : breaksF L none (pre ++ [i]) = breaksF L none pre ++ brk i (qOf L (lastO none pre) i) := by
  rw [breaksF_append]; simp [breaksF]
theorem breaksF_len (L : List Nd) : ∀ (s : List Nat) (prev : Option Nat), (breaksF L prev s).length ≤ s.length
  | [], _ => Nat.le_refl _
  | i :: s, prev => by
    rw [breaksF, List.length_append, List.length_cons]
    have := breaksF_len L s (some i)
    have h2 : (brk i (qOf L prev i)).length ≤ 1 := by unfold brk; split <;> simp
    omega
def legalP (L : List Nd) (s : List Nat) : List (Nat × Int) := breaksF L none s ++ [(L.length, -10000)]
theorem legalP_len (L : List Nd) (s : List Nat) : (legalP L s).length ≤ s.length + 1 := by unfold legalP; rw [List.length_append]; have := breaksF_len L s none; simp; omega
def BrOk (L : List Nd) (s : List Nat) (x : Nat × Int) : Prop := (x.1 ∈ s ∧ x.2 < 10000 ∧ ∃ prev, x.2 = qOf L prev x.1) ∨ x = (L.length, -10000)
abbrev Br (L : List Nd) (s : List Nat) := {x : Nat × Int // BrOk L s x}
def lastV (prev : Option Nat) : Int := match prev with | some j => j | none => -1
theorem breaksF_pre {L : List Nd} {s pre : List Nat} (h : pre <+: s) : breaksF L none pre <+: legalP L s := by
  obtain ⟨r, rfl⟩ := h
  unfold legalP
  rw [breaksF_append, List.append_assoc]
  exact List.prefix_append _ _
theorem lastO_mem {pre : List Nat} {j : Nat} (h : lastO none pre = some j) : j ∈ pre := by
  unfold lastO at h
  cases hp : pre.getLast? with
  | none => rw [hp] at h; cases h
  | some x => rw [hp] at h; cases h; exact List.mem_of_getLast? hp
end Go.Proofs.YtomehdepjenilaaGreat
namespace Go.Proofs.YtomehdepjenilaaGreat
open Go.ChangeShapes Go.WideShapes Go.ChangeAt Go.RowKit
attribute [local go_sem ↓] Go.wp_at_zero Go.wp_at_succ

def itemN (L : List Nd) (i : Nat) : List Nd := (L.drop i).take ((behC (L.drop i) 0).getD 0)
def topNat (g : Gl) (h : Int) : Int := min 1073741823 (max 0 (g.nat - h))
def topN (g : Gl) (h : Int) : Nd := { Nd.zero with kind := 7, glue := { g with nat := topNat g h }, sub := 10 }
def prunF (L : List Nd) (g : Gl) : List Nat → List Nd → List Nd
  | [], out => out
  | i :: s, out => if solidK (nth L i).kind then out ++ topN g (nth L i).h :: L.drop i else prunF L g s (if fallsK (nth L i).kind then out else out ++ itemN L i)
def topB (g : Gl) : Bool := g.good && (g.ho == 0 || g.shr == 0)
end Go.Proofs.YtomehdepjenilaaGreat
namespace Go.Proofs.YtomehdepjenilaaGreat
open Go.ChangeShapes Go.WideShapes Go.ChangeAt Go.RowKit Go.Shelf
attribute [local go_sem] Oper.semAt_some

def MkI (w : World) (Bs : Nat) (p0 : Option Addr) (cap : Nat) (L : List Nd) (s : List Nat) (pre : List {i : Nat // i ∈ s}) (W : World) : Prop :=
  (Boxed W w.heap.size 27 (.slice p0 L.length cap) ∧ Boxed W Bs 27 (.slice p0 L.length cap) ∧ Boxed W (w.heap.size + 1) 9 (.string (marksP L (pre.map (·.1))).first) ∧ Boxed W (w.heap.size + 1 + 1) 9 (.string (marksP L (pre.map (·.1))).last) ∧ Boxed W (w.heap.size + 1 + 1 + 1) 4 (.bool (marksP L (pre.map (·.1))).some)) ∧ Below w.heap.size w W
theorem mkI_own {w : World} {Bs B : Nat} {p0 : Option Addr} {cap : Nat} {L : List Nd} {s : List Nat} (hB : w.heap.size ≤ B) : OwnFrom B (MkI w Bs p0 cap L s) :=
  OwnFrom.and (OwnFrom.and (Own.from (boxed_own _ _ _) _) (OwnFrom.and (Own.from (boxed_own _ _ _) _) (OwnFrom.and (Own.from (boxed_own _ _ _) _) (OwnFrom.and (Own.from (boxed_own _ _ _) _) (Own.from (boxed_own _ _ _) _))))) (ownFrom_below (Nat.le_refl _) hB)
theorem vmarks (p0 : Option Addr) (b off cap : Nat) (L : List Nd) (s : List Nat) (hs : checkC L = 0 → Items L 0 s) (w : World) (hN : NIn w p0 b off cap L) :
    Calls Tryz.prog 144 #[.slice p0 L.length cap] w fun e w' => e = .returned ((marksR L s).vals (colP L s)) ∧ Below w.heap.size w w' := by
  have hlen := hN.len
  have HN := Lib.hid hN
  have Hs := Lib.hid hs
  have HC : Hid (∀ W, Below w.heap.size w W → Calls Tryz.prog 63 #[.slice p0 L.length cap] W fun e w' => e = .returned (.int .i64 (colP L s)) ∧ Below W.heap.size W w') := Lib.hid fun W hb => column_any p0 b off cap L s Hs.out W (HN.out.below hb)
  have b0 : Boxed ((((w.alloc (.cells #[.slice p0 L.length cap] 27)).alloc (.cells #[.string ⟨#[]⟩] 9)).alloc (.cells #[.string ⟨#[]⟩] 9)).alloc (.cells #[.bool false] 4)) w.heap.size 27 (.slice p0 L.length cap) := (((Boxed.new w _ _).alloc _).alloc _).alloc _
  have b1 : Boxed ((((w.alloc (.cells #[.slice p0 L.length cap] 27)).alloc (.cells #[.string ⟨#[]⟩] 9)).alloc (.cells #[.string ⟨#[]⟩] 9)).alloc (.cells #[.bool false] 4)) (w.heap.size + 1) 9 (.string ⟨#[]⟩) := by have := Boxed.new (w.alloc (.cells #[.slice p0 L.length cap] 27)) 9 (.string ⟨#[]⟩); rw [World.size_alloc] at this; exact (this.alloc _).alloc _
  have b2 : Boxed ((((w.alloc (.cells #[.slice p0 L.length cap] 27)).alloc (.cells #[.string ⟨#[]⟩] 9)).alloc (.cells #[.string ⟨#[]⟩] 9)).alloc (.cells #[.bool false] 4)) (w.heap.size + 1 + 1) 9 (.string ⟨#[]⟩) := by have := Boxed.new ((w.alloc (.cells #[.slice p0 L.length cap] 27)).alloc (.cells #[.string ⟨#[]⟩] 9)) 9 (.string ⟨#[]⟩); rw [World.size_alloc, World.size_alloc] at this; exact this.alloc _
  have b3 : Boxed ((((w.alloc (.cells #[.slice p0 L.length cap] 27)).alloc (.cells #[.string ⟨#[]⟩] 9)).alloc (.cells #[.string ⟨#[]⟩] 9)).alloc (.cells #[.bool false] 4)) (w.heap.size + 1 + 1 + 1) 4 (.bool false) := by have := Boxed.new (((w.alloc (.cells #[.slice p0 L.length cap] 27)).alloc (.cells #[.string ⟨#[]⟩] 9)).alloc (.cells #[.string ⟨#[]⟩] 9)) 4 (.bool false); rw [World.size_alloc, World.size_alloc, World.size_alloc] at this; exact this
  have hb1 : Below w.heap.size w ((((w.alloc (.cells #[.slice p0 L.length cap] 27)).alloc (.cells #[.string ⟨#[]⟩] 9)).alloc (.cells #[.string ⟨#[]⟩] 9)).alloc (.cells #[.bool false] 4)) := ((((Below.refl _ _).alloc (Nat.le_refl _) _).alloc (by simp) _).alloc (by simp; omega) _).alloc (by simp; omega) _
  clear hN hs
  refine (callsIn_wide (n := 8)).1 ?_
  refine callsIn_of_wp_marks Tryz.func144 rfl trivial ?_ rfl
  simp only [Tryz.ntmps144, List.size_toArray, List.length_cons, List.length_nil, Nat.reduceAdd, Nat.reduceSub, Array.replicate_succ, Array.replicate_zero, List.push_toArray, List.append_toArray, List.nil_append, List.cons_append]
  gi_wp2
  refine ⟨trivial, (callsIn_wide.2 (HC.out _ hb1)).mono ?_⟩
  rintro e w2 ⟨rfl, hb2⟩
  have d0 : Boxed w2 w.heap.size 27 (.slice p0 L.length cap) := (hb2.block _ b0.lt).trans b0
  have d1 : Boxed w2 (w.heap.size + 1) 9 (.string ⟨#[]⟩) := (hb2.block _ b1.lt).trans b1
  have d2 : Boxed w2 (w.heap.size + 1 + 1) 9 (.string ⟨#[]⟩) := (hb2.block _ b2.lt).trans b2
  have d3 : Boxed w2 (w.heap.size + 1 + 1 + 1) 4 (.bool false) := (hb2.block _ b3.lt).trans b3
  have hbw := hb1.trans (hb2.mono hb1.size)
  clear b0 b1 b2 b3 hb1 hb2 HC
  have c0 := d0.cell
  have c1 := d1.cell
  have c2 := d2.cell
  have c3 := d3.cell
  have f1 := d1.frozen
  have f2 := d2.frozen
  have f3 := d3.frozen
  by_cases hck : colP L s = 0
  · have hs := Hs.out (colP_check hck)
    have Hck := Lib.hid hck
    have HR := Lib.hid (show marksR L s = marksP L s by unfold marksR; rw [if_pos hck])
    rw [hck]
    have HI := Lib.hid (items_any p0 L.length cap w2)
    clear hck Hs
    gi_wp2
    refine ⟨trivial, (callsIn_wide.2 HI.out).mono ?_⟩
    clear HI
    rintro e w4 ⟨rfl, rfl⟩
    have e0 := d0.alloc (.cells #[.slice p0 L.length cap] 27)
    have e1 := d1.alloc (.cells #[.slice p0 L.length cap] 27)
    have e2 := d2.alloc (.cells #[.slice p0 L.length cap] 27)
    have e3 := d3.alloc (.cells #[.slice p0 L.length cap] 27)
    have eB := hbw.alloc hbw.size (.cells #[.slice p0 L.length cap] 27)
    have eS := Boxed.new w2 27 (.slice p0 L.length cap)
    have hlt3 := d3.lt
    clear d0 d1 d2 d3 c0 c1 c2 c3 f1 f2 f3 hbw
    gi_wp2
    generalize w2.alloc (.cells #[.slice p0 L.length cap] 27) = w5 at e0 e1 e2 e3 eB eS ⊢
    generalize w2.heap.size = Bs at eS hlt3 ⊢
    have hBs := eS.lt
    refine wpIn_rangeFunc_ownF rfl (by decide) (gf := 99) (lb := #[.pointer (some ⟨Bs, 0, none⟩)]) rfl trivial (enters_of Tryz.func99 (by kernel_rfl) rfl)
      (items_stops 7 (by decide) Bs w.heap.size b off cap p0 L s hs w5 eS (HN.out.below eB) (fun e => HN.out.hb e)) kpI_t (kpI_b eB.size hBs) (Below.refl _ _) (fun _ => rfl)
      (MkI w Bs p0 cap L s) (fun _ _ _ => False) (mkI_own eB.size) (fun _ => ownFrom_pure _ _)
      ⟨⟨e0, eS, e1, e2, e3⟩, eB⟩ ?a₁ ?assign ?body ?done ?stop
    case assign =>
      intro l x W K hK
      gi_wp2
      exact hK
    case body =>
      rintro l pre x W ⟨⟨i0, iS, i1, i2, i3⟩, i5⟩ hlt
      obtain ⟨hx1, hx2⟩ := hs.lt x.1 x.2
      have hN := HN.out.below i5
      have xa := hN.nth hx2
      have hst := marksP_step (L := L) (show (pre ++ [x]).map (·.1) = pre.map (·.1) ++ [x.1] by simp)
      obtain ⟨n, hn⟩ : ∃ n, nth L x.1 = n := ⟨_, rfl⟩
      rw [hn] at xa hst
      obtain rfl := hN.at_ hx2
      have hx3 : (0 : Int) ≤ (x.1 : Int) := by omega
      have hx4 : (x.1 : Int) < (L.length : Int) := by omega
      have x0 : W.cell? ⟨b, off + x.1 * 19, none⟩ = some (.int .i64 n.kind) := by have := agg_cell xa 0 (.int .i64 n.kind) rfl; simpa using this
      have x18 : W.cell? ⟨b, off + x.1 * 19 + 18, none⟩ = some (.string n.text) := agg_cell xa 18 (.string n.text) rfl
      have c0 := i0.cell
      have c1 := i1.cell
      have c2 := i2.cell
      have c3 := i3.cell
      have f1 := i1.frozen
      have f2 := i2.frozen
      have f3 := i3.frozen
      obtain ⟨m, hm⟩ : ∃ m, marksP L (pre.map (·.1)) = m := ⟨_, rfl⟩
      rw [hm] at c1 c2 c3 hst i1 i2 i3
      have HSame : Hid (n.kind ≠ 12 → MkI w Bs (some ⟨b, off, none⟩) cap L s (pre ++ [x]) W) := Lib.hid fun h => by
        have e : marksP L ((pre ++ [x]).map (·.1)) = m := by rw [hst]; simp [mkStep, h]
        exact ⟨⟨i0, iS, by rw [e]; exact i1, by rw [e]; exact i2, by rw [e]; exact i3⟩, i5⟩
      have HT : Hid (∀ f : ByteArray, n.kind = 12 → (if m.some then m.first else n.text) = f → Boxed W (w.heap.size + 1) 9 (.string f) → Boxed W (w.heap.size + 1 + 1 + 1) 4 (.bool true) → KeepsOthers W (W.setCell ⟨w.heap.size + 1 + 1, 0, none⟩ (.string n.text)) ∧ KpI w.heap.size Bs W (W.setCell ⟨w.heap.size + 1 + 1, 0, none⟩ (.string n.text)) ∧ MkI w Bs (some ⟨b, off, none⟩) cap L s (pre ++ [x]) (W.setCell ⟨w.heap.size + 1 + 1, 0, none⟩ (.string n.text))) := Lib.hid fun f h12 hf h1 h3 => by
        have e : marksP L ((pre ++ [x]).map (·.1)) = ⟨f, n.text, true⟩ := by rw [hst]; simp [mkStep, h12, hf]
        exact ⟨KeepsOthers.setCell _ _ _, ⟨(Below.refl _ _).setCell (p := ⟨w.heap.size + 1 + 1, 0, none⟩) (by simp only; omega) _, Below.heap_setCell _ _ _ _ (by simp only; omega)⟩, ⟨⟨i0.other (by omega) _, iS.other (by omega) _, by rw [e]; exact h1.other (by omega) _, by rw [e]; exact Boxed.set _ i2, by rw [e]; exact h3.other (by omega) _⟩, i5.setCell (p := ⟨w.heap.size + 1 + 1, 0, none⟩) (by simp only; omega) _⟩⟩
      have HU : Hid (n.kind = 12 → m.some = false → KeepsOthers W (((W.setCell ⟨w.heap.size + 1 + 1, 0, none⟩ (.string n.text)).setCell ⟨w.heap.size + 1, 0, none⟩ (.string n.text)).setCell ⟨w.heap.size + 1 + 1 + 1, 0, none⟩ (.bool true)) ∧ KpI w.heap.size Bs W (((W.setCell ⟨w.heap.size + 1 + 1, 0, none⟩ (.string n.text)).setCell ⟨w.heap.size + 1, 0, none⟩ (.string n.text)).setCell ⟨w.heap.size + 1 + 1 + 1, 0, none⟩ (.bool true)) ∧ MkI w Bs (some ⟨b, off, none⟩) cap L s (pre ++ [x]) (((W.setCell ⟨w.heap.size + 1 + 1, 0, none⟩ (.string n.text)).setCell ⟨w.heap.size + 1, 0, none⟩ (.string n.text)).setCell ⟨w.heap.size + 1 + 1 + 1, 0, none⟩ (.bool true))) := Lib.hid fun h12 hs => by
        have e : marksP L ((pre ++ [x]).map (·.1)) = ⟨n.text, n.text, true⟩ := by rw [hst]; simp [mkStep, h12, hs]
        exact ⟨((KeepsOthers.setCell _ _ _).trans (KeepsOthers.setCell _ _ _)).trans (KeepsOthers.setCell _ _ _), ⟨(((Below.refl _ _).setCell (p := ⟨w.heap.size + 1 + 1, 0, none⟩) (by simp only; omega) _).setCell (p := ⟨w.heap.size + 1, 0, none⟩) (by simp only; omega) _).setCell (p := ⟨w.heap.size + 1 + 1 + 1, 0, none⟩) (by simp only; omega) _, ((Below.heap_setCell _ _ _ _ (by simp only; omega)).trans (Below.heap_setCell _ _ _ _ (by simp only; omega))).trans (Below.heap_setCell _ _ _ _ (by simp only; omega))⟩, ⟨⟨((i0.other (by omega) _).other (by omega) _).other (by omega) _, ((iS.other (by omega) _).other (by omega) _).other (by omega) _, by rw [e]; exact (Boxed.set _ (i1.other (by omega) _)).other (by omega) _, by rw [e]; exact ((Boxed.set _ i2).other (by omega) _).other (by omega) _, by rw [e]; exact Boxed.set _ ((i3.other (by omega) _).other (by omega) _)⟩, ((i5.setCell (p := ⟨w.heap.size + 1 + 1, 0, none⟩) (by simp only; omega) _).setCell (p := ⟨w.heap.size + 1, 0, none⟩) (by simp only; omega) _).setCell (p := ⟨w.heap.size + 1 + 1 + 1, 0, none⟩) (by simp only; omega) _⟩⟩
      have I1 := Lib.hid i1
      have I3 := Lib.hid i3
      clear i0 iS i1 i2 i3 i5 hst hN hn hm xa hlt
      cases k12 : (n.kind != 12)
      · have e12 : n.kind = 12 := by simpa using k12
        obtain ⟨f, la, so⟩ := m
        cases so
        · have HF := Lib.hid (HU.out e12 rfl)
          clear HU HT HSame
          gi_wp2
          exact HF.out
        · have HF := Lib.hid (HT.out f e12 rfl I1.out I3.out)
          clear HU HT HSame
          gi_wp2
          exact HF.out
      · have HF := Lib.hid (HSame.out (by simpa using k12))
        clear HU HT HSame
        gi_wp2
        exact ⟨KeepsOthers.refl _, ⟨Below.refl _ _, rfl⟩, HF.out⟩
    case done =>
      rintro D ys W hD hys ⟨⟨i0, iS, i1, i2, i3⟩, i5⟩ hK
      rw [hys] at i1 i2 i3
      have HR2 := HR
      obtain ⟨m, hm⟩ : ∃ m, marksP L s = m := ⟨_, rfl⟩
      rw [hm] at i1 i2 i3
      have Hm := Lib.hid hm
      have c1 := i1.cell
      have c2 := i2.cell
      have c3 := i3.cell
      have f1 := i1.frozen
      have f2 := i2.frozen
      have f3 := i3.frozen
      clear hm
      gi_wp2
      refine wpIn_wide.2 ?_
      go_region
      have hKo : KeepsOthers W (((W.setCell ⟨w.heap.size + 1, 0, none⟩ (.string m.first)).setCell ⟨w.heap.size + 1 + 1, 0, none⟩ (.string m.last)).setCell ⟨w.heap.size + 1 + 1 + 1, 0, none⟩ (.bool m.some)).drew := (((KeepsOthers.setCell _ _ _).trans (KeepsOthers.setCell _ _ _)).trans (KeepsOthers.setCell _ _ _)).trans (KeepsOthers.drew _)
      have hK' := hKo.same D _ hK rfl
      have hbE : Below w.heap.size w (((W.setCell ⟨w.heap.size + 1, 0, none⟩ (.string m.first)).setCell ⟨w.heap.size + 1 + 1, 0, none⟩ (.string m.last)).setCell ⟨w.heap.size + 1 + 1 + 1, 0, none⟩ (.bool m.some)).drew := (((i5.setCell (p := ⟨w.heap.size + 1, 0, none⟩) (by simp only; omega) _).setCell (p := ⟨w.heap.size + 1 + 1, 0, none⟩) (by simp only; omega) _).setCell (p := ⟨w.heap.size + 1 + 1 + 1, 0, none⟩) (by simp only; omega) _).drew
      have g1 := ((Boxed.set (.string m.first) i1).other (B' := w.heap.size + 1 + 1) (by omega) (.string m.last)).other (B' := w.heap.size + 1 + 1 + 1) (by omega) (.bool m.some)
      have g2 := (Boxed.set (.string m.last) (i2.other (B' := w.heap.size + 1) (by omega) (.string m.first))).other (B' := w.heap.size + 1 + 1 + 1) (by omega) (.bool m.some)
      have g3 := Boxed.set (.bool m.some) ((i3.other (B' := w.heap.size + 1) (by omega) (.string m.first)).other (B' := w.heap.size + 1 + 1) (by omega) (.string m.last))
      generalize (((W.setCell ⟨w.heap.size + 1, 0, none⟩ (.string m.first)).setCell ⟨w.heap.size + 1 + 1, 0, none⟩ (.string m.last)).setCell ⟨w.heap.size + 1 + 1 + 1, 0, none⟩ (.bool m.some)) = W9 at hK' hbE g1 g2 g3 ⊢
      clear i0 iS i1 i2 i3 c1 c2 c3 f1 f2 f3 hKo
      gi_wp2
      refine ⟨by simp, .inl ⟨_, _, rfl, run_takeDeferred hK', ?_⟩⟩
      have q1 := cell_kept (W := W9.drew) g1.cell (grownBy_putObj' _ D (.deferred none)) (fun r e => by cases e; exact ⟨_, hK', rfl⟩)
      have q2 := cell_kept (W := W9.drew) g2.cell (grownBy_putObj' _ D (.deferred none)) (fun r e => by cases e; exact ⟨_, hK', rfl⟩)
      have q3 := cell_kept (W := W9.drew) g3.cell (grownBy_putObj' _ D (.deferred none)) (fun r e => by cases e; exact ⟨_, hK', rfl⟩)
      refine ⟨Mk.vals m 0, ?_, by rw [HR2.out, Hm.out, Hck.out], hbE.trans (belowK_b (w := w) (Nat.le_refl _) _ D _ _ (by have := eB.size; omega) hK' rfl rfl)⟩
      simp [results, Tryz.f144, go_sem, q1, q2, q3, Mk.vals]
    case stop =>
      rintro D c pre W hD hp h
      exact h.elim
  · have hck' : ((colP L s : Int) != 0) = true := by simpa using hck
    have HR := Lib.hid (show marksR L s = Mk.none by unfold marksR; rw [if_neg hck])
    clear hck
    gi_wp2
    have g1 := ((Boxed.set (.string ⟨#[]⟩) d1).other (B' := w.heap.size + 1 + 1) (by omega) (.string ⟨#[]⟩)).other (B' := w.heap.size + 1 + 1 + 1) (by omega) (.bool false)
    have g2 := (Boxed.set (.string ⟨#[]⟩) (d2.other (B' := w.heap.size + 1) (by omega) (.string ⟨#[]⟩))).other (B' := w.heap.size + 1 + 1 + 1) (by omega) (.bool false)
    have g3 := Boxed.set (.bool false) ((d3.other (B' := w.heap.size + 1) (by omega) (.string ⟨#[]⟩)).other (B' := w.heap.size + 1 + 1) (by omega) (.string ⟨#[]⟩))
    have q1 := g1.cell
    have q2 := g2.cell
    have q3 := g3.cell
    refine ⟨Mk.vals Mk.none (colP L s), ?_, by rw [HR.out], ((hbw.setCell (p := ⟨w.heap.size + 1, 0, none⟩) (by simp only; omega) _).setCell (p := ⟨w.heap.size + 1 + 1, 0, none⟩) (by simp only; omega) _).setCell (p := ⟨w.heap.size + 1 + 1 + 1, 0, none⟩) (by simp only; omega) _⟩
    simp [results, Tryz.f144, go_sem, q1, q2, q3, Mk.vals, Mk.none]
end Go.Proofs.YtomehdepjenilaaGreat
