/-
  What stands ahead of a place in a column, item by item (plain).
-/
import Derived.Test.YtomehdepjenilaaGreatH2
import Derived.Test.YtomehdepjenilaaGreatW2
import Derived.Test.YtomehdepjenilaaGreatV10
import Derived.RegionTactic
namespace Go.Proofs.YtomehdepjenilaaGreat
open Go.ChangeShapes Go.WideShapes Go.ChangeAt Go.RowKit
def Tt.st (t : Tt) : Nat → Int
  | 0 => t.s0 | 1 => t.s1 | 2 => t.s2 | _ => t.s3
def Tt.sh (t : Tt) : Nat → Int
  | 0 => t.h0 | 1 => t.h1 | 2 => t.h2 | _ => t.h3
def Tt.setS (t : Tt) (j : Nat) (x : Int) : Tt := match j with
  | 0 => { t with s0 := x } | 1 => { t with s1 := x } | 2 => { t with s2 := x } | _ => { t with s3 := x }
def Tt.setH (t : Tt) (j : Nat) (x : Int) : Tt := match j with
  | 0 => { t with h0 := x } | 1 => { t with h1 := x } | 2 => { t with h2 := x } | _ => { t with h3 := x }
def lightK (k : Int) : Bool := k == 12 || k == 14 || k == 13 || k == 9
def Tt.glue (t : Tt) (g : Gl) : Tt :=
  let t1 := t.setS g.so.toNat (t.st g.so.toNat + g.str)
  t1.setH g.ho.toNat (t1.sh g.ho.toNat + g.shr)
def passM (n : Nd) (m : Mt) : Mt :=
  if lightK n.kind then m else
    let m1 : Mt := ⟨{ m.t with nat := m.t.nat + m.d }, 0, m.depth⟩
    if solidK n.kind then ⟨{ m1.t with nat := m1.t.nat + n.h }, n.d, m.depth⟩
    else if n.kind == 8 then ⟨{ m1.t with nat := m1.t.nat + n.w }, 0, m.depth⟩
    else if n.kind == 7 then ⟨({ m1.t with nat := m1.t.nat + n.glue.nat } : Tt).glue n.glue, 0, m.depth⟩
    else m1
structure NdB (n : Nd) : Prop where
  solid : solidK n.kind = true → (-1073741823 ≤ n.h ∧ n.h ≤ 1073741823) ∧ -1073741823 ≤ n.d ∧ n.d ≤ 1073741823
  kern : n.kind = 8 → -1073741823 ≤ n.w ∧ n.w ≤ 1073741823
  nat : n.kind = 7 → -1073741823 ≤ n.glue.nat ∧ n.glue.nat ≤ 1073741823
  str : n.kind = 7 → -1073741823 ≤ n.glue.str ∧ n.glue.str ≤ 1073741823
  shr : n.kind = 7 → -1073741823 ≤ n.glue.shr ∧ n.glue.shr ≤ 1073741823
  so : n.kind = 7 → 0 ≤ n.glue.so ∧ n.glue.so ≤ 3
  ho : n.kind = 7 → 0 ≤ n.glue.ho ∧ n.glue.ho ≤ 3
theorem good_at {n : Nd} {k : Nat} (h : rightB n = true) (hk : n.kind = (k : Int)) : goodN k n = true := by
  unfold rightB at h
  simp only [Bool.and_eq_true] at h
  have := h.1.2
  rwa [hk, Int.toNat_natCast] at this
theorem nb_of {n : Nd} (h : rightB n = true) : NdB n := by
  have g7 : n.kind = 7 → n.glue.good = true := fun hk => by
    have := good_at (k := 7) h hk
    simp [goodN, skipB] at this
    exact this.1
  refine ⟨fun hk => ?_, fun hk => ?_, fun hk => ?_, fun hk => ?_, fun hk => ?_, fun hk => ?_, fun hk => ?_⟩
  · have hk' : n.kind = 4 ∨ n.kind = 5 ∨ n.kind = 3 := by simp [solidK] at hk; omega
    rcases hk' with e | e | e
    · have := good_at (k := 4) h e
      simp [goodN, boxB, dims4, dimenB] at this; omega
    · have := good_at (k := 5) h e
      simp [goodN, boxB, dims4, dimenB] at this; omega
    · have := good_at (k := 3) h e
      simp [goodN, ruleB, dims3, dimenB] at this; omega
  · have := good_at (k := 8) h hk
    simp [goodN, kernB, dims1, dimenB] at this; omega
  all_goals
    have := g7 hk
    simp [Gl.good, dimenB, withinB] at this
    omega
structure MtB (K : Int) (m : Mt) : Prop where
  nat : -K ≤ m.t.nat ∧ m.t.nat ≤ K
  st : ∀ j, -K ≤ m.t.st j ∧ m.t.st j ≤ K
  sh : ∀ j, -K ≤ m.t.sh j ∧ m.t.sh j ≤ K
  d : -1073741823 ≤ m.d ∧ m.d ≤ 1073741823
theorem st_setS (t : Tt) (j i : Nat) (x : Int) : (t.setS j x).st i = if min i 3 = min j 3 then x else t.st i := by
  match j, i with
  | 0, 0 | 0, 1 | 0, 2 | 1, 0 | 1, 1 | 1, 2 | 2, 0 | 2, 1 | 2, 2 => rfl
  | 0, i + 3 | 1, i + 3 | 2, i + 3 => rw [if_neg (by omega)]; rfl
  | j + 3, 0 | j + 3, 1 | j + 3, 2 => rw [if_neg (by omega)]; rfl
  | j + 3, i + 3 => rw [if_pos (by omega)]; rfl
theorem sh_setH (t : Tt) (j i : Nat) (x : Int) : (t.setH j x).sh i = if min i 3 = min j 3 then x else t.sh i := by
  match j, i with
  | 0, 0 | 0, 1 | 0, 2 | 1, 0 | 1, 1 | 1, 2 | 2, 0 | 2, 1 | 2, 2 => rfl
  | 0, i + 3 | 1, i + 3 | 2, i + 3 => rw [if_neg (by omega)]; rfl
  | j + 3, 0 | j + 3, 1 | j + 3, 2 => rw [if_neg (by omega)]; rfl
  | j + 3, i + 3 => rw [if_pos (by omega)]; rfl
theorem sh_setS (t : Tt) (j i : Nat) (x : Int) : (t.setS j x).sh i = t.sh i := by
  match j with
  | 0 | 1 | 2 | _ + 3 => match i with | 0 | 1 | 2 | _ + 3 => rfl
theorem st_setH (t : Tt) (j i : Nat) (x : Int) : (t.setH j x).st i = t.st i := by
  match j with
  | 0 | 1 | 2 | _ + 3 => match i with | 0 | 1 | 2 | _ + 3 => rfl
theorem nat_setS (t : Tt) (j : Nat) (x : Int) : (t.setS j x).nat = t.nat := by
  match j with
  | 0 | 1 | 2 | _ + 3 => rfl
theorem nat_setH (t : Tt) (j : Nat) (x : Int) : (t.setH j x).nat = t.nat := by
  match j with
  | 0 | 1 | 2 | _ + 3 => rfl
theorem MtB.pass {K : Int} {m : Mt} {n : Nd} (h : MtB K m) (hn : NdB n) : MtB (K + 4294967296) (passM n m) := by
  have h1 := h.nat
  have h4 := h.d
  have hs : ∀ j, -(K + 4294967296) ≤ m.t.st j ∧ m.t.st j ≤ K + 4294967296 := fun j => by have := h.st j; omega
  have hh : ∀ j, -(K + 4294967296) ≤ m.t.sh j ∧ m.t.sh j ≤ K + 4294967296 := fun j => by have := h.sh j; omega
  unfold passM
  split
  · exact ⟨by omega, hs, hh, h4⟩
  · split
    · rename_i hk
      have := hn.solid hk
      exact ⟨⟨by show _ ≤ m.t.nat + m.d + n.h; omega, by show m.t.nat + m.d + n.h ≤ _; omega⟩, hs, hh, this.2⟩
    · split
      · rename_i hk
        have := hn.kern (by simpa using hk)
        exact ⟨⟨by show _ ≤ m.t.nat + m.d + n.w; omega, by show m.t.nat + m.d + n.w ≤ _; omega⟩, hs, hh, by simp⟩
      · split
        · rename_i hk
          have hk' : n.kind = 7 := by simpa using hk
          have a1 := hn.nat hk'
          have a2 := hn.str hk'
          have a3 := hn.shr hk'
          refine ⟨?_, fun j => ?_, fun j => ?_, by simp⟩
          · simp only [Tt.glue, nat_setH, nat_setS]; omega
          · simp only [Tt.glue, st_setH, st_setS]
            split
            · have := h.st n.glue.so.toNat
              show _ ≤ m.t.st n.glue.so.toNat + n.glue.str ∧ m.t.st n.glue.so.toNat + n.glue.str ≤ _
              omega
            · exact hs j
          · simp only [Tt.glue, sh_setH, sh_setS]
            split
            · have := h.sh n.glue.ho.toNat
              show _ ≤ m.t.sh n.glue.ho.toNat + n.glue.shr ∧ m.t.sh n.glue.ho.toNat + n.glue.shr ≤ _
              omega
            · exact hh j
        · exact ⟨⟨by show _ ≤ m.t.nat + m.d; omega, by show m.t.nat + m.d ≤ _; omega⟩, hs, hh, by simp⟩
def sizeM (m : Mt) : Tt × Int := if m.depth < m.d then ({ m.t with nat := m.t.nat + (m.d - m.depth) }, m.depth) else (m.t, m.d)
def itemsF (L : List Nd) : Nat → Nat → List Nat
  | 0, _ => []
  | n + 1, i => if i < L.length then (match behC (L.drop i) 0 with | none => [] | some m => i :: itemsF L n (i + m)) else []
theorem itemsF_eq {L : List Nd} {i : Nat} {s : List Nat} (h : Items L i s) : ∀ n, L.length - i ≤ n → itemsF L n i = s := by
  induction h with
  | done =>
    intro n _
    cases n with
    | zero => rfl
    | succ n => rw [itemsF, if_neg (by omega)]
  | step hi hm hs ih =>
    intro n hn
    have hp := behC_pos _ _ _ hm
    obtain ⟨n, rfl⟩ : ∃ k, n = k + 1 := ⟨n - 1, by omega⟩
    rw [itemsF, if_pos hi, hm]
    simp only
    rw [ih n (by omega)]
def itsP (L : List Nd) : List Nat := itemsF L L.length 0
theorem itsP_eq {L : List Nd} {s : List Nat} (h : Items L 0 s) : itsP L = s := itemsF_eq h _ (by omega)
theorem results_tt2 {fn : Func} {p t : Tmp} (h : fn.results = #[.cell p 57, .tmp t]) (tmps : Array Value) (w : World) (b : Nat) (T : Tt) (hp : tmps.getD p undef = .pointer (some ⟨b, 0, none⟩)) (hc : agg? w b 0 9 = some T.arr) :
    (results fn tmps).run Tryz.prog w = .ok (.tuple #[.agg T.arr, tmps.getD t undef]) w := by
  have hl : (loadVar 57 ⟨b, 0, none⟩).run Tryz.prog w = .ok (.agg T.arr) w := by
    have := run_loadAt_row (P := Tryz.prog) 57 9 _ u_tt rfl i_tt b 0 w
    rw [hc, ldRow_some] at this
    simpa [Instr.loadAt, Instr.sureAddr] using this
  have hp' : tmps[p]?.getD undef = .pointer (some ⟨b, 0, none⟩) := by simpa using hp
  simp [results, h, hp', asAddr, hl]
def TAt (W : World) (b : Nat) (T : Tt) : Prop := W.heap[b]? = some (.cells T.arr 57 (0, 0))
theorem TAt.lt {W : World} {b : Nat} {T : Tt} (h : TAt W b T) : b < W.heap.size := (Array.getElem?_eq_some_iff.1 h).1
theorem TAt.agg {W : World} {b : Nat} {T : Tt} (h : TAt W b T) : agg? W b 0 9 = some T.arr := by rw [agg?_blk' h 0 9 (by simp [Tt.size_arr])]; simp [Tt.arr, Tt.cells]
theorem TAt.there {W : World} {b : Nat} {T : Tt} (h : TAt W b T) : there? W b 0 9 = true := there_blk h 0 9 (by simp [Tt.size_arr])
theorem TAt.store {W : World} {b : Nat} {T U : Tt} (h : TAt W b T) : TAt (setAgg W b 0 U.arr) b U := by
  have := heap_setCells_same b _ (0, 0) U.arr.toList 0 T.arr W h
  rw [show U.arr.toList = U.cells from rfl, setMany_Tt] at this
  exact this
end Go.Proofs.YtomehdepjenilaaGreat
