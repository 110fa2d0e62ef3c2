/-
  The law BreaksLines, walked: both sides' Line answer alike.
-/
import Derived.Test.YtiijpbfkchokaaaGreatL6
import Derived.Test.YtiijpbfkchokaaaGreatB24
import Derived.Test.YtiijpbfkchokaaaGreatF11
import Derived.Test.YtiijpbfkchokaaaGreatF16
import Derived.Test.YtiijpbfkchokaaaGreatW9
import Derived.Test.YtiijpbfkchokaaaGreatG4
import Derived.Deep.CutBlock

set_option maxRecDepth 100000
set_option maxHeartbeats 16000000
namespace Go.Proofs.YtiijpbfkchokaaaGreat
open Go.ChangeShapes Go.WideShapes Go.ChangeAt Go.RowKit
attribute [local go_sem ↓] Go.wp_at_zero Go.wp_at_succ
structure ZOn (w : World) (p : Option Addr) (g o c : Nat) (l : List Int) : Prop where
  hp : l ≠ [] → p = some ⟨g, o, none⟩
  cap : l.length ≤ c
  at_ : ∀ i (hi : i < l.length), w.cell? ⟨g, o + i, none⟩ = some (.int .i64 l[i])
theorem ZOn.below {w w' : World} {p : Option Addr} {g o c : Nat} {l : List Int} (h : ZOn w p g o c l) (hb : Below w.heap.size w w') : ZOn w' p g o c l :=
  ⟨h.hp, h.cap, fun i hi => cell_below9 (h.at_ i hi) hb⟩

theorem q9hasO (p : Option Addr) (g o c : Nat) (l : List Int) (x : Int) (w : World) (h : ZOn w p g o c l) (hl : l.length ≤ 100000) :
    Calls Tryz.prog 52 #[.slice p l.length c, .int .i64 x] w fun e w' => e = .returned (.bool (decide (x ∈ l))) ∧ w = w' := by
  have H := Lib.hid h
  have k1 := h.cap
  obtain ⟨R, hR⟩ : ∃ R, decide (x ∈ l) = R := ⟨_, rfl⟩
  rw [hR]
  have HR := Lib.hid hR
  clear h hR
  go_enter Tryz.func52, Tryz.ntmps52
  go_wp2_with fail
  go_loopg [5] (l.length + 1) (fun g t wr => ∃ k : Nat, g = l.length + 1 - k ∧ k ≤ l.length ∧ t = .int .i64 k ∧ x ∉ l.take k ∧ wr = w)
  case atStart => exact ⟨0, rfl, Nat.zero_le _, rfl, by simp, rfl⟩
  case round =>
    obtain ⟨k, rfl, hk, rfl, hn, rfl⟩ := hrel
    have hk1 : (0 : Int) ≤ (k : Int) := by omega
    by_cases hlt : k < l.length
    · have hk2 : (k : Int) < (l.length : Int) := by omega
      have x1 := H.out.at_ k hlt
      obtain rfl := H.out.hp (by intro e; rw [e] at hlt; simp at hlt)
      have htk : l.take (k + 1) = l.take k ++ [l[k]] := by
        rw [List.take_add_one, List.getElem?_eq_getElem hlt]; rfl
      have hmem : l[k] ∈ l := List.getElem_mem hlt
      generalize l[k] = y at x1 htk hmem
      by_cases hy : y = x
      · have hR1 : R = true := by rw [← HR.out]; subst hy; simp [hmem]
        have hyx : (y == x) = true := by simpa using hy
        subst hR1
        clear hn htk hmem hy
        go_wp2_with fail
        go_ret
        exact ⟨rfl, rfl⟩
      · have hyx : (y == x) = false := by simpa using hy
        have HN : Hid (x ∉ l.take (k + 1)) := Lib.hid (by rw [htk]; simp only [List.mem_append, List.mem_singleton]; rintro (h | h); exact hn h; exact hy h.symm)
        clear hn htk hmem hy
        go_wp2_with fail
        go_roundg (l.length + 1 - (k + 1))
        case measure => omega
        case rel => exact ⟨k + 1, rfl, hlt, by go_num, HN.out, rfl⟩
    · have hk2 : (l.length : Int) ≤ (k : Int) := by omega
      have hR1 : R = false := by
        rw [← HR.out]
        rw [List.take_of_length_le (by omega)] at hn
        simpa using hn
      subst hR1
      clear hn
      go_wp2_with fail
      go_ret
      exact ⟨rfl, rfl⟩

end Go.Proofs.YtiijpbfkchokaaaGreat
namespace Go.Proofs.YtiijpbfkchokaaaGreat
open Go.ChangeShapes Go.WideShapes Go.ChangeAt Go.RowKit
attribute [local go_sem ↓] Go.wp_at_zero Go.wp_at_succ
theorem q9judged (T : Tt) (wd : Int) (w : World) (hs : -4611686018427387904 ≤ wd - T.nat ∧ wd - T.nat ≤ 4611686018427387904) :
    Calls Tryz.prog 78 #[.agg T.arr, .int .i64 wd] w fun e w' => e = .returned (.tuple #[.int .i64 (judP T wd).1, .int .i64 (judP T wd).2]) ∧ Below w.heap.size w w' := by
  have hb0 : Below w.heap.size w (w.alloc (.cells T.arr 62)) := (Below.refl _ _).alloc (Nat.le_refl _) _
  have d0 : TAt (w.alloc (.cells T.arr 62)) w.heap.size T := heap_alloc_new w _
  go_enter Tryz.func78, Tryz.ntmps78
  go_upto_region 1 with (fail)
  generalize w.alloc (.cells T.arr 62) = w1 at hb0 d0 ⊢
  have x0 := d0.cell 0 _ rfl
  have x1 := d0.cell 1 _ rfl
  have x2 := d0.cell 2 _ rfl
  have x3 := d0.cell 3 _ rfl
  have x4 := d0.cell 4 _ rfl
  have x5 := d0.cell 5 _ rfl
  clear d0
  obtain ⟨s, hse⟩ : ∃ s, wd - T.nat = s := ⟨_, rfl⟩
  have hw1 : IntKind.i64.wrap (wd - T.nat) = s := by rw [hse]; exact Go.IntWalk.i64_in _ (by omega)
  have hw2 : IntKind.i64.wrap (-s) = -s := Go.IntWalk.i64_in _ (by omega)
  have HP : Hid (judP T wd = if s = 0 then (0, 2) else if 0 < s then (if T.s1 ≠ 0 ∨ T.s2 ≠ 0 ∨ T.s3 ≠ 0 then (0, 2) else (badM s T.s0, if 99 < badM s T.s0 then 0 else if 12 < badM s T.s0 then 1 else 2)) else if T.h0 < -s then (10001, 3) else (badM (-s) T.h0, if 12 < badM (-s) T.h0 then 3 else 2)) := Lib.hid (by rw [← hse]; rfl)
  rw [hse] at hs
  clear hse
  by_cases h0 : s = 0
  · have HR := Lib.hid (HP.out.trans (if_pos h0))
    subst h0
    clear HP hw2
    go_wp2_with fail
    go_ret2
    exact ⟨by rw [HR.out]; rfl, hb0⟩
  by_cases h1 : 0 < s
  · have HR := Lib.hid (HP.out.trans ((if_neg h0).trans (if_pos h1)))
    clear HP hw2
    by_cases h2 : T.s1 ≠ 0 ∨ T.s2 ≠ 0 ∨ T.s3 ≠ 0
    · have HS := Lib.hid (HR.out.trans (if_pos h2))
      clear HR
      have hways : (T.s1 != 0) = true ∨ ((T.s1 != 0) = false ∧ (T.s2 != 0) = true) ∨ ((T.s1 != 0) = false ∧ (T.s2 != 0) = false ∧ (T.s3 != 0) = true) := by
        by_cases a : T.s1 = 0
        · by_cases b : T.s2 = 0
          · refine .inr (.inr ⟨by simp [a], by simp [b], ?_⟩)
            simp only [a, b] at h2; simpa using h2
          · exact .inr (.inl ⟨by simp [a], by simpa using b⟩)
        · exact .inl (by simpa using a)
      clear h2
      rcases hways with a | ⟨a, b⟩ | ⟨a, b, c⟩
      all_goals
        go_wp2_with fail
        go_ret2
        exact ⟨by rw [HS.out]; rfl, hb0⟩
    · have HS := Lib.hid (HR.out.trans (if_neg h2))
      clear HR
      have a : (T.s1 != 0) = false := by simp; omega
      have b : (T.s2 != 0) = false := by simp; omega
      have c : (T.s3 != 0) = false := by simp; omega
      have HB := Lib.hid (fun W => qbad_any s T.s0 W (by omega))
      clear h2
      generalize badM s T.s0 = y at HB HS
      go_wp2_with (go_at_call 95; refine (HB.out _).mono ?_; rintro e w2 ⟨rfl, hb2⟩)
      all_goals go_ret2
      all_goals refine ⟨?_, hb0.trans (hb2.mono hb0.size)⟩
      all_goals rw [HS.out]
      all_goals refine ret_ii rfl ?_
      · rw [if_pos (by omega)]
      · rw [if_neg (by omega), if_pos (by omega)]
      · rw [if_neg (by omega), if_neg (by omega)]
  · have HR := Lib.hid (HP.out.trans ((if_neg h0).trans (if_neg h1)))
    clear HP
    by_cases h2 : T.h0 < -s
    · have HS := Lib.hid (HR.out.trans (if_pos h2))
      clear HR
      go_wp2_with fail
      go_ret2
      exact ⟨by rw [HS.out]; rfl, hb0⟩
    · have HS := Lib.hid (HR.out.trans (if_neg h2))
      have HB := Lib.hid (fun W => qbad_any (-s) T.h0 W (by omega))
      clear HR
      generalize badM (-s) T.h0 = y at HB HS
      go_wp2_with (go_at_call 95; refine (HB.out _).mono ?_; rintro e w2 ⟨rfl, hb2⟩)
      all_goals go_ret2
      all_goals refine ⟨?_, hb0.trans (hb2.mono hb0.size)⟩
      all_goals rw [HS.out]
      all_goals refine ret_ii rfl ?_
      · rw [if_pos (by omega)]
      · rw [if_neg (by omega)]
def bdQBk (parts : Array (Nat × Value)) : Sem Value := Instr.build 92 parts
@[go_sem ↓] theorem execOp_buildQBk (ρ : Operand → Value) (dst : Option Tmp) (x : Array (Nat × Operand)) (ty : TypeId) (pos : String) (after : Array Edge) (guard : Option (Nat × Bool)) :
    execOp ρ { dst, op := .build 92 x, type := ty, pos, after, guard } = (do pure (.value (← bdQBk (x.map fun (i, y) => (i, ρ y))))) := rfl
@[go_sem] theorem run_bdQBk (x : Int) (w : World) : (bdQBk #[(0, .int .i64 x)]).run Tryz.prog w = .ok (.agg (Bk.mk x 0 0 0 0 false).arr) w := by kernel_rfl
def QBkAt (W : World) (b : Nat) (x : Bk) : Prop := W.heap[b]? = some (.cells x.arr 92 (0, 0))
theorem QBkAt.lt {W : World} {b : Nat} {x : Bk} (h : QBkAt W b x) : b < W.heap.size := (Array.getElem?_eq_some_iff.1 h).1
theorem QBkAt.still {W W' : World} {b : Nat} {x : Bk} (h : QBkAt W b x) (hb : Below W.heap.size W W') : QBkAt W' b x := (hb.block b h.lt).trans h
theorem QBkAt.cell {W : World} {b : Nat} {x : Bk} (h : QBkAt W b x) (k : Nat) (v : Value) (hv : x.arr[k]? = some v) : W.cell? ⟨b, k, none⟩ = some v := by rw [cell?_blk' h, hv]
theorem QBkAt.frozen {W : World} {b : Nat} {x : Bk} (h : QBkAt W b x) (k : Nat) : W.frozen? ⟨b, k, none⟩ = false := frozen_of_row W b k _ _ h
theorem QBkAt.agg {W : World} {b : Nat} {x : Bk} (h : QBkAt W b x) : agg? W b 0 6 = some x.arr := by rw [agg?_blk' h 0 6 (by simp [Bk.size_arr])]; simp [Bk.arr, Bk.cells]
theorem QBkAt.there {W : World} {b : Nat} {x : Bk} (h : QBkAt W b x) : there? W b 0 6 = true := there_blk h 0 6 (by simp [Bk.size_arr])
theorem QBkAt.set {W : World} {b : Nat} {x y : Bk} (h : QBkAt W b x) (k : Nat) (v : Value) (hm : x.arr.setIfInBounds k v = y.arr) : QBkAt (W.setCell ⟨b, k, none⟩ v) b y := by
  unfold QBkAt
  rw [heap_setCell_same _ _ _ _ _ _ h, hm]
theorem QBkAt.store {W : World} {b : Nat} {x y : Bk} (h : QBkAt W b x) : QBkAt (setAgg W b 0 y.arr) b y := by
  unfold QBkAt setAgg
  rw [heap_setCells_same b _ _ _ 0 _ W h, show y.arr.toList = y.cells from rfl, setMany_Bk]
structure QOneI (w : World) (R VT VB : Nat) (T : Tt) (x : Bk) (W : World) : Prop where
  t : TAt W VT T
  bk : QBkAt W VB x
  r : ∃ z, QBkAt W R z
  below : Below w.heap.size w W
  h1 : w.heap.size ≤ VT
  h2 : R < w.heap.size
  h3 : VT < VB
section
variable {w : World} {R VT VB : Nat} {T : Tt} {x y : Bk} {W W' : World}
theorem QOneI.still (h : QOneI w R VT VB T x W) (hb : Below W.heap.size W W') : QOneI w R VT VB T x W' :=
  ⟨h.t.still hb, h.bk.still hb, h.r.imp fun _ hz => hz.still hb, h.below.trans (hb.mono h.below.size), h.h1, h.h2, h.h3⟩
theorem QOneI.set (h : QOneI w R VT VB T x W) (k : Nat) (v : Value) (hm : x.arr.setIfInBounds k v = y.arr) : QOneI w R VT VB T y (W.setCell ⟨VB, k, none⟩ v) :=
  ⟨(Below.heap_setCell _ _ _ _ (by have := h.h3; simp only; omega)).trans h.t, h.bk.set k v hm, h.r.imp fun _ hz => (Below.heap_setCell _ _ _ _ (by have := h.h3; have := h.h2; have := h.h1; simp only; omega)).trans hz, h.below.setCell (p := ⟨VB, k, none⟩) (by have := h.h1; have := h.h3; simp only; omega) _, h.h1, h.h2, h.h3⟩
end
theorem q9disc_neg (L : List Nd) (cap : Nat) (p0 : Option Addr) (w : World) :
    Calls Tryz.prog 79 #[.slice p0 L.length cap, .int .i64 (-1)] w fun e w' => e = .returned (.bool false) ∧ w = w' := by
  go_enter Tryz.func79, Tryz.ntmps79
  go_wp2_with fail
  go_ret
  exact ⟨rfl, rfl⟩
theorem jud_ten (T : Tt) (w : Int) : 10000 < (judP T w).1 ↔ (judP T w).1 = 10001 := by
  unfold judP
  split
  · simp
  · split
    · rename_i h1
      have := badM_range (w - T.nat) T.s0 (by omega)
      split
      · simp
      · simp only; omega
    · rename_i h0 h1
      split
      · simp
      · have := badM_range (-(w - T.nat)) T.h0 (by omega)
        simp only; omega
structure OneQ (P : Pm) (S : List Sh2) (L : List Nd) (s : List Nat) : Prop where
  pm : pmC P S = 0
  chk : checkC L = 0
  items : Items L 0 s
theorem q9one (P : Pm) (g off2 : Nat) (S : List Sh2) (L : List Nd) (b off cap : Nat) (p0 : Option Addr) (s : List Nat) (hok : OneQ P S L s) (tol ext : Int) (hext : 0 ≤ ext ∧ ext ≤ 1073741823) (f : Option Nat) (to_ : Nat) (q : Int) (hq : q < 10000) (hf : ∀ x, f = some x → x ∈ s ∧ x < to_) (hto : to_ ∈ s ++ [L.length]) (line before : Int) (hln : 1 ≤ line ∧ line ≤ 1000000) (hbf : -10 ≤ before ∧ before ≤ 10) (w : World) (hS : ShIn w P g off2 S) (hN : NIn w p0 b off cap L) :
    Calls Tryz.prog 57 #[.slice p0 L.length cap, .agg P.arr, .int .i64 tol, .int .i64 ext, .int .i64 (fI f), .int .i64 to_, .int .i64 q, .int .i64 line, .int .i64 before] w fun e w' => e = .returned (.agg (oneP L P S s tol ext f (to_, q) line before).arr) ∧ Below w.heap.size w w' := by
  have hPN := pmC_zero hok.pm
  have hll := (checkC_zero hok.chk).1
  have htl : to_ ≤ 2000 := by
    rcases List.mem_append.1 hto with h1 | h1
    · have := (hok.items.lt _ h1).2; omega
    · have := List.mem_singleton.1 h1; omega
  have hto2 : to_ ∈ s ∨ to_ = L.length := (List.mem_append.1 hto).imp id List.mem_singleton.1
  have hbT := line_bound hok.chk hok.items hPN.left hPN.right (fun x hx => (hf x hx).1) hto
  have hSu := q9sum P p0 b off cap L hok.chk s hok.items hPN.left hPN.right f to_ hf hto2
  obtain ⟨T0, hT0⟩ : ∃ T0, lineT L P s f to_ = T0 := ⟨_, rfl⟩
  obtain ⟨wd, hwd⟩ : ∃ wd, (widP P S line).1 = wd := ⟨_, rfl⟩
  rw [hT0] at hSu
  have HV : Hid (oneP L P S s tol ext f (to_, q) line before = oneB P tol (T0.plus ⟨0, ext, 0, 0, 0, 0, 0, 0, 0⟩) wd q (discO L f) (discB L to_) (to_ == L.length) to_ before) := Lib.hid (by unfold oneP; rw [hT0, hwd])
  have HSu : Hid (∀ W, Below w.heap.size w W → Calls Tryz.prog 53 #[.slice p0 L.length cap, .agg P.arr, .int .i64 (fI f), .int .i64 to_] W fun e w' => e = .returned (.agg T0.arr) ∧ Below W.heap.size W w') := Lib.hid fun W hb => hSu W (hN.below hb)
  have HDf : Hid (∀ W, Below w.heap.size w W → Calls Tryz.prog 79 #[.slice p0 L.length cap, .int .i64 (fI f)] W fun e w' => e = .returned (.bool (discO L f)) ∧ W = w') := Lib.hid fun W hb => by
    cases f with
    | none => exact q9disc_neg L cap p0 W
    | some x => exact q9disc L b off cap p0 x (by have := (hf x rfl).2; omega) W (hN.below hb)
  have HDt : Hid (∀ W, Below w.heap.size w W → Calls Tryz.prog 79 #[.slice p0 L.length cap, .int .i64 to_] W fun e w' => e = .returned (.bool (discB L to_)) ∧ W = w') := Lib.hid fun W hb => q9disc L b off cap p0 to_ (by omega) W (hN.below hb)
  have HWi : Hid (∀ W, Below w.heap.size w W → Calls Tryz.prog 42 #[.agg P.arr, .int .i64 line] W fun e w' => e = .returned (.tuple #[.int .i64 wd, .int .i64 (widP P S line).2]) ∧ Below W.heap.size W w') := Lib.hid fun W hb => by
    have h1 := q9broad P g off2 S hPN.b line (by omega) W (hS.below hb)
    rw [hwd] at h1
    exact h1
  have HT0 := Lib.hid hbT
  rw [hT0] at HT0
  have hwb : -1000000000000 ≤ wd ∧ wd ≤ 1000000000000 := by rw [← hwd]; exact wid_bound hok.pm line
  obtain ⟨df, hdf⟩ : ∃ df, discO L f = df := ⟨_, rfl⟩
  obtain ⟨dt, hdt⟩ : ∃ dt, discB L to_ = dt := ⟨_, rfl⟩
  obtain ⟨de, hde⟩ : ∃ de, (to_ == L.length) = de := ⟨_, rfl⟩
  rw [hdf] at HDf HV
  rw [hdt] at HDt HV
  rw [hde] at HV
  have Hde := Lib.hid hde
  obtain ⟨V, hV⟩ : ∃ V, oneP L P S s tol ext f (to_, q) line before = V := ⟨_, rfl⟩
  rw [hV] at HV ⊢
  obtain ⟨fz, hfz⟩ : ∃ fz, fI f = fz := ⟨_, rfl⟩
  rw [hfz] at HSu HDf ⊢
  have hlp := hPN.linep
  have hPa := hPN.adj
  have hPd := hPN.dbl
  have hPf := hPN.fin
  have hto0 : (0 : Int) ≤ (to_ : Int) := by omega
  clear hbT hT0 hwd hPN hok hfz hN hS hf hto hto2 hSu hdf hdt hde hV
  obtain ⟨X, hX⟩ : ∃ X, w.heap.size = X := ⟨_, rfl⟩
  have hb1 : Below w.heap.size w ((w.alloc (.cells P.arr 27)).alloc (.cells (Bk.mk 0 0 0 0 0 false).arr 92)) := ((Below.refl _ _).alloc (Nat.le_refl _) _).alloc (by simp) _
  have hP1 : PAt ((w.alloc (.cells P.arr 27)).alloc (.cells (Bk.mk 0 0 0 0 0 false).arr 92)) X P := by
    rw [← hX]; exact (Below.heap_alloc _ _ _ (by simp)).trans (heap_alloc_new w _)
  have hR1 : QBkAt ((w.alloc (.cells P.arr 27)).alloc (.cells (Bk.mk 0 0 0 0 0 false).arr 92)) (X + 1) ⟨0, 0, 0, 0, 0, false⟩ := by
    have := heap_alloc_new (w.alloc (.cells P.arr 27)) (.cells (Bk.mk 0 0 0 0 0 false).arr 92)
    rw [World.size_alloc] at this
    rw [← hX]; exact this
  have HX := Lib.hid hX
  clear hX
  go_enter Tryz.func57, Tryz.ntmps57
  go_upto_region 1 with (fail)
  try rw [HX.out]
  generalize (w.alloc (.cells P.arr 27)).alloc (.cells (Bk.mk 0 0 0 0 0 false).arr 92) = w1 at hb1 hR1 hP1 ⊢
  have HP : Hid (∀ W, Below w1.heap.size w1 W → (∀ i v, P.arr[i]? = some v → W.cell? ⟨X, i, none⟩ = some v) ∧ agg? W X 0 24 = some P.arr) := Lib.hid fun W hb => by
    have h1 := hP1.still hb
    refine ⟨fun i v hv => ?_, ?_⟩
    · rw [cell?_blk' h1]; exact hv
    · rw [agg?_blk' h1 0 24 (by rw [Pm.size_arr]; decide)]; simp [Pm.arr, Pm.cells]
  obtain ⟨R, hR⟩ : ∃ R, X + 1 = R := ⟨_, rfl⟩
  have hwR : w.heap.size ≤ R := by rw [HX.out]; omega
  have HRl := Lib.hid hR
  rw [hR] at hR1 ⊢
  clear hR
  have aP := (HP.out w1 (Below.refl _ _)).2
  have HS1 := Lib.hid (HSu.out w1 hb1)
  have HR1 := Lib.hid (And.intro hR1 hb1)
  clear HSu hP1 hR1 hb1
  go_upto_region 2 with (go_at_call 53; refine HS1.out.mono ?_; clear HS1; rintro e w3 ⟨rfl, hb3⟩)
  have hR3 := HR1.out.1.still hb3
  have hw13 := hb3.size
  obtain ⟨VT, hVT⟩ : ∃ VT, w3.heap.size = VT := ⟨_, rfl⟩
  have hba := (Below.refl w3.heap.size w3).alloc (Nat.le_refl _) (.cells T0.arr 62)
  have hT4 : TAt (w3.alloc (.cells T0.arr 62)) VT T0 := by rw [← hVT]; exact heap_alloc_new w3 _
  have hR4 := hR3.still hba
  have hb14 : Below w1.heap.size w1 (w3.alloc (.cells T0.arr 62)) := hb3.trans (hba.mono hb3.size)
  have hRVT : R < VT := by rw [← hVT]; exact hR3.lt
  rw [hVT]
  have HVT := Lib.hid hVT
  clear hVT hba hR3 hb3 aP
  generalize w3.alloc (.cells T0.arr 62) = w4 at hT4 hR4 hb14 ⊢
  have hs0 := HT0.out.s0
  obtain ⟨T1, hT1⟩ : ∃ T1, T0.plus ⟨0, ext, 0, 0, 0, 0, 0, 0, 0⟩ = T1 := ⟨_, rfl⟩
  have hset : T0.arr.setIfInBounds 1 (.int .i64 (T0.s0 + ext)) = T1.arr := by
    rw [Tt.set1, ← hT1]
    congr 1
    apply Tt.ext_all <;> simp [Tt.plus]
  have hBT1 : TtB 14100000000000 T1 := by rw [← hT1]; exact (HT0.out.plus (K := 14000000000000) (J := 1073741823) (by constructor <;> (simp only; omega))).mono (by omega)
  rw [hT1] at HV
  have yt := hT4.cell 1 _ rfl
  have yf := hT4.frozen 1
  have hT6 := hT4.set 1 _ hset
  have hR6 : QBkAt (w4.setCell ⟨VT, 1, none⟩ (.int .i64 (T0.s0 + ext))) R ⟨0, 0, 0, 0, 0, false⟩ := (Below.heap_setCell _ _ _ _ (by simp only; omega)).trans hR4
  have hw1VT : w1.heap.size ≤ VT := by rw [← HVT.out]; exact hw13
  have hb6 : Below w1.heap.size w1 (w4.setCell ⟨VT, 1, none⟩ (.int .i64 (T0.s0 + ext))) := hb14.setCell (p := ⟨VT, 1, none⟩) hw1VT _
  have HBT1 := Lib.hid hBT1
  clear hset hBT1 hT1 HT0 hT4 hR4 hb14
  go_upto_region 3 with (fail)
  clear yt yf hs0
  generalize w4.setCell ⟨VT, 1, none⟩ (.int .i64 (T0.s0 + ext)) = w6 at hT6 hR6 hb6 ⊢
  have yP := (HP.out _ hb6).2
  have hbw6 := HR1.out.2.trans (hb6.mono HR1.out.2.size)
  have HW6 := Lib.hid (HWi.out _ hbw6)
  clear HWi
  go_upto_region 4 with (go_at_call 42; refine HW6.out.mono ?_; rintro e w7 ⟨rfl, hb7⟩)
  have hT7 := hT6.still hb7
  have hR7 := hR6.still hb7
  have hb7' := hb6.trans (hb7.mono hb6.size)
  obtain ⟨VB, hVB⟩ : ∃ VB, w7.heap.size = VB := ⟨_, rfl⟩
  have hba := (Below.refl w7.heap.size w7).alloc (Nat.le_refl _) (.cells (Bk.mk to_ 0 0 0 0 false).arr 92)
  have hI : QOneI w1 R VT VB T1 ⟨to_, 0, 0, 0, 0, false⟩ (w7.alloc (.cells (Bk.mk to_ 0 0 0 0 false).arr 92)) :=
    ⟨hT7.still hba, by rw [← hVB]; exact heap_alloc_new w7 _, ⟨_, hR7.still hba⟩, hb7'.trans (hba.mono hb7'.size), hw1VT, HR1.out.1.lt, by rw [← hVB]; exact hT7.lt⟩
  clear hT6 hR6 hb6 yP HW6 hT7 hR7 hb7 hb7' hba hbw6
  go_upto_region 5 with (fail)
  have HVB := Lib.hid hVB
  try rw [hVB]
  clear hVB
  generalize w7.alloc (.cells (Bk.mk to_ 0 0 0 0 false).arr 92) = w8 at hI ⊢
  have aT := hI.t.agg
  have hn1 := HBT1.out.nat
  have hh0 := HBT1.out.h0
  have HJ := Lib.hid (q9judged T1 wd w8 (by omega))
  have hten := jud_ten T1 wd
  obtain ⟨bd, hbd⟩ : ∃ bd, (judP T1 wd).1 = bd := ⟨_, rfl⟩
  obtain ⟨cl, hcl⟩ : ∃ cl, (judP T1 wd).2 = cl := ⟨_, rfl⟩
  rw [hbd] at hten
  have HI8 := Lib.hid hI
  have hbdb : 0 ≤ bd ∧ bd ≤ 20000 := by rw [← hbd]; exact (jud_bound T1 wd).1
  have hclb : 0 ≤ cl ∧ cl ≤ 3 := by rw [← hcl]; exact (jud_bound T1 wd).2
  obtain ⟨ov, hov⟩ : ∃ ov, (if 10000 < bd then T1.nat - wd - T1.h0 else 0) = ov := ⟨_, rfl⟩
  have HV2 : Hid ((if tol < bd ∨ 10000 < bd then (⟨to_, bd, cl, 0, ov, true⟩ : Bk) else ⟨to_, bd, cl, demP P bd cl q df dt de before, ov, false⟩) = V) := Lib.hid (by rw [HV.out]; unfold oneB; simp only [hbd, hcl, hov])
  rw [hbd, hcl] at HJ
  have Hov := Lib.hid hov
  have Hten := Lib.hid hten
  clear hI hbd hcl HV hov hten
  go_upto_region 6 with (go_at_call 78; refine HJ.out.mono ?_; rintro e w9 ⟨rfl, hb9⟩; have hI9 := HI8.out.still hb9; have y1 := hI9.bk.cell 1 _ rfl; have z1 := hI9.bk.frozen 1; have y2 := hI9.bk.cell 2 _ rfl; have z2 := hI9.bk.frozen 2)
  have hI9b := (hI9.set (y := ⟨to_, bd, 0, 0, 0, false⟩) 1 (.int .i64 bd) rfl).set (y := ⟨to_, bd, cl, 0, 0, false⟩) 2 (.int .i64 cl) rfl
  have HI := Lib.hid hI9b
  clear hI9 hI9b y1 y2 z1 z2 hb9 aT HJ HI8
  generalize (w9.setCell ⟨VB, 1, none⟩ (.int .i64 bd)).setCell ⟨VB, 2, none⟩ (.int .i64 cl) = w10 at HI ⊢
  have y1 := HI.out.bk.cell 1 _ rfl
  go_upto_if 54 with (fail)
  go_cut [54] from 55 to 63 (fun _ wx => QOneI w1 R VT VB T1 ⟨to_, bd, cl, 0, ov, false⟩ wx)
  case first =>
    by_cases h1 : bd = 10001
    · have h2 : (bd == 10001) = true := by simpa using h1
      have e1 : T1.nat - wd - T1.h0 = ov := by rw [← Hov.out, if_pos (Hten.out.2 h1)]
      have yn := HI.out.t.cell 0 _ rfl
      have yh := HI.out.t.cell 5 _ rfl
      have y4 := HI.out.bk.cell 4 _ rfl
      have z4 := HI.out.bk.frozen 4
      have HI2 := Lib.hid (HI.out.set (y := ⟨to_, bd, cl, 0, ov, false⟩) 4 (.int .i64 ov) rfl)
      have E1 := Lib.hid e1
      clear h1 e1
      go_wp2_with fail
      go_meet
      rw [E1.out]
      exact HI2.out
    · have h2 : (bd == 10001) = false := by simpa using h1
      obtain rfl : 0 = ov := by rw [← Hov.out, if_neg fun h => h1 (Hten.out.1 h)]
      clear h1
      go_wp2_with fail
      go_meet
      exact HI.out
  case rest =>
  clear HI y1 hn1 hh0
  have HI := Lib.hid hcut
  clear hcut
  obtain ⟨bb, hbb⟩ : ∃ bb, decide (tol < bd ∨ 10000 < bd) = bb := ⟨_, rfl⟩
  have Hbb := Lib.hid hbb
  have y1 := HI.out.bk.cell 1 _ rfl
  clear hbb
  go_upto_region 8 with (fail)
  go_cut [72] from 64 to 72 (fun s72 wx => s72 = .bool bb ∧ wc = wx)
  case first =>
    by_cases h1 : tol < bd
    · have h2 : decide (tol < bd) = true := decide_eq_true h1
      have e1 : bb = true := by rw [← Hbb.out]; simp [h1]
      subst e1
      clear h1
      go_wp2_with fail
      go_meet
      exact ⟨rfl, rfl⟩
    · have h2 : decide (tol < bd) = false := decide_eq_false h1
      have e1 : decide (10000 < bd) = bb := by rw [← Hbb.out]; simp [h1]
      clear h1
      go_wp2_with fail
      go_meet
      exact ⟨rfl, rfl⟩
  case rest =>
  obtain ⟨rfl, rfl⟩ := hcut
  cases hb : bb
  case true =>
    subst hb
    have HV3 := Lib.hid (HV2.out.symm.trans (if_pos (of_decide_eq_true Hbb.out)))
    have y5 := HI.out.bk.cell 5 _ rfl
    have z5 := HI.out.bk.frozen 5
    have HI2 := Lib.hid (HI.out.set (y := ⟨to_, bd, cl, 0, ov, true⟩) 5 (.bool true) rfl)
    clear HV2 HI y1
    go_upto_region 10 with (fail)
    clear y5 z5
    generalize wc.setCell ⟨VB, 5, none⟩ (.bool true) = w12 at HI2 ⊢
    obtain ⟨zr, hzr⟩ := HI2.out.r
    have tR := hzr.there
    have aB := HI2.out.bk.agg
    have hbe := HR1.out.2.trans (HI2.out.below.mono HR1.out.2.size)
    have HZr := Lib.hid hzr
    clear hzr
    go_wp2_with fail
    exact ret_qbk rfl R 0 _ rfl (HZr.out.store (y := ⟨to_, bd, cl, 0, ov, true⟩)).agg rfl ⟨by rw [HV3.out], Below.setAgg hbe hwR _ _⟩
  case false =>
  subst hb
  have HV3 := Lib.hid (HV2.out.symm.trans (if_neg (of_decide_eq_false Hbb.out)))
  have yl : wc.cell? ⟨X, 2, none⟩ = some (.int .i64 P.linep) := (HP.out _ HI.out.below).1 2 _ (Pm.get2 P)
  clear HV2
  obtain ⟨dd, hdd⟩ : ∃ dd, P.linep + bd = dd := ⟨_, rfl⟩
  have hwd9 : IntKind.i64.wrap (P.linep + bd) = dd := by rw [hdd]; exact Go.IntWalk.i64_in _ (by omega)
  have hd1 : -2147483647 ≤ dd ∧ dd ≤ 2147503647 := by omega
  have HDd := Lib.hid hdd
  clear hdd
  go_upto_region 12 with (fail)
  clear yl y1 hwd9
  obtain ⟨D1, hD1⟩ : ∃ D1, (if -9999 ≤ dd ∧ dd ≤ 9999 then dd * dd else 100000000) = D1 := ⟨_, rfl⟩
  have HD1 := Lib.hid hD1
  have hD1b : 0 ≤ D1 ∧ D1 ≤ 100000000 := by
    rw [← hD1]
    split
    · rename_i h9
      have := sq_bd (d := dd) (N := 9999) h9.1 h9.2
      omega
    · omega
  clear hD1
  obtain ⟨cD, hcD⟩ : ∃ cD, decide (-9999 ≤ dd ∧ dd ≤ 9999) = cD := ⟨_, rfl⟩
  have HcD := Lib.hid hcD
  clear hcD
  go_cut [85] from 80 to 85 (fun s85 wx => s85 = .bool (!cD) ∧ wc = wx)
  case first =>
    by_cases h1 : dd < -9999
    · have h2 : decide (dd < -9999) = true := decide_eq_true h1
      obtain rfl : false = cD := by rw [← HcD.out]; symm; simp; omega
      clear h1
      go_wp2_with fail
      go_meet
      exact ⟨rfl, rfl⟩
    · have h2 : decide (dd < -9999) = false := decide_eq_false h1
      by_cases h3 : 9999 < dd
      · have h4 : decide (9999 < dd) = true := decide_eq_true h3
        obtain rfl : false = cD := by rw [← HcD.out]; symm; simp; omega
        clear h1 h3
        go_wp2_with fail
        go_meet
        exact ⟨rfl, rfl⟩
      · have h4 : decide (9999 < dd) = false := decide_eq_false h3
        obtain rfl : true = cD := by rw [← HcD.out]; symm; simp; omega
        clear h1 h3
        go_wp2_with fail
        go_meet
        exact ⟨rfl, rfl⟩
  case rest =>
  obtain ⟨rfl, rfl⟩ := hcut
  have y3 := HI.out.bk.cell 3 _ rfl
  have z3 := HI.out.bk.frozen 3
  go_upto_if 85 with (fail)
  go_cut [] from 86 to 90 (fun wx => QOneI w1 R VT VB T1 ⟨to_, bd, cl, D1, ov, false⟩ wx)
  case first =>
    cases hb : cD
    · subst hb
      have e1 : (100000000 : Int) = D1 := by rw [← HD1.out, if_neg (of_decide_eq_false HcD.out)]
      have hI2 := HI.out.set (y := ⟨to_, bd, cl, D1, ov, false⟩) 3 (.int .i64 D1) rfl
      subst e1
      have HI2 := Lib.hid hI2
      clear hI2
      go_wp2_with fail
      go_meet
      exact HI2.out
    · subst hb
      have h9 := of_decide_eq_true HcD.out
      have e1 : dd * dd = D1 := by rw [← HD1.out, if_pos h9]
      have hm : IntKind.i64.wrap (dd * dd) = D1 := by rw [e1]; exact Go.IntWalk.i64_in _ (by omega)
      have HI2 := Lib.hid (HI.out.set (y := ⟨to_, bd, cl, D1, ov, false⟩) 3 (.int .i64 D1) rfl)
      clear e1 h9
      go_wp2_with fail
      go_meet
      exact HI2.out
  case rest =>
  clear HI y3 z3
  have HI := Lib.hid hcut
  clear hcut
  obtain ⟨D2, hD2⟩ : ∃ D2, D1 + (if 0 < q then q * q else if -10000 < q then -(q * q) else 0) = D2 := ⟨_, rfl⟩
  have hD2b : -100000000 ≤ D2 ∧ D2 ≤ 200000000 := by
    rw [← hD2]
    split
    · have := sq_bd (d := q) (N := 9999) (by omega) (by omega)
      omega
    · split
      · have := sq_bd (d := q) (N := 9999) (by omega) (by omega)
        omega
      · omega
  have HD2 := Lib.hid hD2
  have y3 := HI.out.bk.cell 3 _ rfl
  have z3 := HI.out.bk.frozen 3
  clear hD2
  go_upto_if 92 with (fail)
  go_cut [92] from 93 to 108 (fun _ wx => QOneI w1 R VT VB T1 ⟨to_, bd, cl, D2, ov, false⟩ wx)
  case first =>
    by_cases hq1 : 0 < q
    · have hq2 : decide (0 < q) = true := decide_eq_true hq1
      have h9 := sq_bd (d := q) (N := 9999) (by omega) (by omega)
      have e1 : D1 + q * q = D2 := by rw [← HD2.out, if_pos hq1]
      have hI2 := HI.out.set (y := ⟨to_, bd, cl, D2, ov, false⟩) 3 (.int .i64 (D1 + q * q)) (by rw [e1]; rfl)
      generalize hqq : q * q = qq at h9 e1 hI2
      have hm : IntKind.i64.wrap (q * q) = qq := by rw [hqq]; exact Go.IntWalk.i64_in _ (by omega)
      clear e1 hqq
      go_wp2_with fail
      go_meet
      exact hI2
    · have hq2 : decide (0 < q) = false := decide_eq_false hq1
      by_cases hq3 : -10000 < q
      · have hq4 : decide (-10000 < q) = true := decide_eq_true hq3
        have h9 := sq_bd (d := q) (N := 9999) (by omega) (by omega)
        have e1 : D1 - q * q = D2 := by rw [← HD2.out, if_neg hq1, if_pos hq3]; omega
        have hI2 := HI.out.set (y := ⟨to_, bd, cl, D2, ov, false⟩) 3 (.int .i64 (D1 - q * q)) (by rw [e1]; rfl)
        generalize hqq : q * q = qq at h9 e1 hI2
        have hm : IntKind.i64.wrap (q * q) = qq := by rw [hqq]; exact Go.IntWalk.i64_in _ (by omega)
        clear e1 hqq
        go_wp2_with fail
        go_meet
        exact hI2
      · have hq4 : decide (-10000 < q) = false := decide_eq_false hq3
        have e2 : D1 = D2 := by rw [← HD2.out, if_neg hq1, if_neg hq3, Int.add_zero]
        subst e2
        go_wp2_with fail
        go_meet
        exact HI.out
  case rest =>
  clear HI y3 z3
  have HI := Lib.hid hcut
  clear hcut
  obtain ⟨c1, hc1⟩ : ∃ c1, (df && dt) = c1 := ⟨_, rfl⟩
  obtain ⟨c2, hc2⟩ : ∃ c2, (df && de) = c2 := ⟨_, rfl⟩
  obtain ⟨D3, hD3⟩ : ∃ D3, D2 + (if c1 = true then P.dbl else 0) = D3 := ⟨_, rfl⟩
  obtain ⟨D4, hD4⟩ : ∃ D4, D3 + (if c2 = true then P.fin else 0) = D4 := ⟨_, rfl⟩
  obtain ⟨D5, hD5⟩ : ∃ D5, D4 + (if 1 < cl - before ∨ 1 < before - cl then P.adj else 0) = D5 := ⟨_, rfl⟩
  have HV4 : Hid (V = ⟨to_, bd, cl, D5, ov, false⟩) := Lib.hid (by
    rw [HV3.out]
    unfold demP
    rw [HDd.out, HD1.out, HD2.out, hc1, hc2, hD3, hD4, hD5])
  have hD3b : -3000000000 ≤ D3 ∧ D3 ≤ 3000000000 := by rw [← hD3]; split <;> omega
  have hD4b : -6000000000 ≤ D4 ∧ D4 ≤ 6000000000 := by rw [← hD4]; split <;> omega
  have HD3 := Lib.hid hD3
  have HD4 := Lib.hid hD4
  have HD5 := Lib.hid hD5
  have Hc1 := Lib.hid hc1
  have Hc2 := Lib.hid hc2
  clear HV3 HDd HD1 HD2 hD3 hD4 hD5 hc1 hc2
  have hbw := HR1.out.2.trans (HI.out.below.mono HR1.out.2.size)
  have HDf1 := Lib.hid (HDf.out _ hbw)
  have HDt1 := Lib.hid (HDt.out _ hbw)
  clear hbw
  go_upto_region 19 with (fail)
  go_cut [116] from 109 to 116 (fun s116 wx => s116 = .bool c1 ∧ wc = wx)
  case first =>
    cases hb : df
    · rw [hb] at HDf1
      obtain rfl : false = c1 := by rw [← Hc1.out, hb]; rfl
      go_wp2_with (go_at_call 79; refine HDf1.out.mono ?_; rintro e w' ⟨rfl, rfl⟩)
      go_meet
      exact ⟨rfl, rfl⟩
    · rw [hb] at HDf1
      obtain rfl : dt = c1 := by rw [← Hc1.out, hb]; rfl
      go_wp2_with (first | (go_at_call_has 79 (Value.int IntKind.i64 fz); refine HDf1.out.mono ?_; rintro e w' ⟨rfl, rfl⟩) | (go_at_call_has 79 (Value.int IntKind.i64 (to_ : Int)); refine HDt1.out.mono ?_; rintro e w' ⟨rfl, rfl⟩))
      go_meet
      exact ⟨rfl, rfl⟩
  case rest =>
  obtain ⟨rfl, rfl⟩ := hcut
  have y3 := HI.out.bk.cell 3 _ rfl
  have z3 := HI.out.bk.frozen 3
  have yl : wc.cell? ⟨X, 6, none⟩ = some (.int .i64 P.dbl) := (HP.out _ HI.out.below).1 6 _ (Pm.get6 P)
  go_upto_if 116 with (fail)
  go_cut [] from 117 to 122 (fun wx => QOneI w1 R VT VB T1 ⟨to_, bd, cl, D3, ov, false⟩ wx)
  case first =>
    cases hb : c1
    · subst hb
      obtain rfl : D2 = D3 := by rw [← HD3.out]; simp
      go_wp2_with fail
      go_meet
      exact HI.out
    · subst hb
      have e1 : D2 + P.dbl = D3 := by rw [← HD3.out]; simp
      have HI2 := Lib.hid (HI.out.set (y := ⟨to_, bd, cl, D3, ov, false⟩) 3 (.int .i64 (D2 + P.dbl)) (by rw [e1]; rfl))
      clear e1
      go_wp2_with fail
      go_meet
      exact HI2.out
  case rest =>
  clear HI y3 z3 yl
  have HI := Lib.hid hcut
  clear hcut
  have hbw := HR1.out.2.trans (HI.out.below.mono HR1.out.2.size)
  have HDf2 := Lib.hid (HDf.out _ hbw)
  clear hbw
  go_upto_region 21 with (fail)
  go_cut [131] from 123 to 131 (fun s131 wx => s131 = .bool c2 ∧ wc = wx)
  case first =>
    cases hb : df
    · rw [hb] at HDf2
      obtain rfl : false = c2 := by rw [← Hc2.out, hb]; rfl
      go_wp2_with (go_at_call 79; refine HDf2.out.mono ?_; rintro e w' ⟨rfl, rfl⟩)
      go_meet
      exact ⟨rfl, rfl⟩
    · rw [hb] at HDf2
      obtain rfl : de = c2 := by rw [← Hc2.out, hb]; rfl
      have hde2 : ((to_ : Int) == (L.length : Int)) = de := by rw [← Hde.out, Bool.eq_iff_iff, beq_iff_eq, beq_iff_eq]; omega
      have hde3 : (to_ == L.length) = de := Hde.out
      go_wp2_with (go_at_call 79; refine HDf2.out.mono ?_; rintro e w' ⟨rfl, rfl⟩)
      go_meet
      exact ⟨rfl, rfl⟩
  case rest =>
  obtain ⟨rfl, rfl⟩ := hcut
  have y3 := HI.out.bk.cell 3 _ rfl
  have z3 := HI.out.bk.frozen 3
  have yl : wc.cell? ⟨X, 7, none⟩ = some (.int .i64 P.fin) := (HP.out _ HI.out.below).1 7 _ (Pm.get7 P)
  go_upto_if 131 with (fail)
  go_cut [] from 132 to 137 (fun wx => QOneI w1 R VT VB T1 ⟨to_, bd, cl, D4, ov, false⟩ wx)
  case first =>
    cases hb : c2
    · subst hb
      obtain rfl : D3 = D4 := by rw [← HD4.out]; simp
      go_wp2_with fail
      go_meet
      exact HI.out
    · subst hb
      have e1 : D3 + P.fin = D4 := by rw [← HD4.out]; simp
      have HI2 := Lib.hid (HI.out.set (y := ⟨to_, bd, cl, D4, ov, false⟩) 3 (.int .i64 (D3 + P.fin)) (by rw [e1]; rfl))
      clear e1
      go_wp2_with fail
      go_meet
      exact HI2.out
  case rest =>
  clear HI y3 z3 yl
  have HI := Lib.hid hcut
  clear hcut
  obtain ⟨cE, hcE⟩ : ∃ cE, decide (1 < cl - before ∨ 1 < before - cl) = cE := ⟨_, rfl⟩
  have HcE := Lib.hid hcE
  have y2 := HI.out.bk.cell 2 _ rfl
  clear hcE
  go_upto_region 23 with (fail)
  go_cut [149] from 138 to 149 (fun s149 wx => s149 = .bool cE ∧ wc = wx)
  case first =>
    by_cases h1 : 1 < cl - before
    · have h2 : decide (1 < cl - before) = true := decide_eq_true h1
      obtain rfl : true = cE := by rw [← HcE.out]; simp [h1]
      clear h1
      go_wp2_with fail
      go_meet
      exact ⟨rfl, rfl⟩
    · have h2 : decide (1 < cl - before) = false := decide_eq_false h1
      have e1 : decide (1 < before - cl) = cE := by rw [← HcE.out]; simp [h1]
      clear h1
      go_wp2_with fail
      go_meet
      exact ⟨rfl, rfl⟩
  case rest =>
  obtain ⟨rfl, rfl⟩ := hcut
  have y3 := HI.out.bk.cell 3 _ rfl
  have z3 := HI.out.bk.frozen 3
  have yl : wc.cell? ⟨X, 5, none⟩ = some (.int .i64 P.adj) := (HP.out _ HI.out.below).1 5 _ (Pm.get5 P)
  clear y2
  go_upto_if 149 with (fail)
  go_cut [] from 150 to 155 (fun wx => QOneI w1 R VT VB T1 ⟨to_, bd, cl, D5, ov, false⟩ wx)
  case first =>
    cases hb : cE
    · subst hb
      obtain rfl : D4 = D5 := by rw [← HD5.out, if_neg (of_decide_eq_false HcE.out), Int.add_zero]
      go_wp2_with fail
      go_meet
      exact HI.out
    · subst hb
      have e1 : D4 + P.adj = D5 := by rw [← HD5.out, if_pos (of_decide_eq_true HcE.out)]
      have HI2 := Lib.hid (HI.out.set (y := ⟨to_, bd, cl, D5, ov, false⟩) 3 (.int .i64 (D4 + P.adj)) (by rw [e1]; rfl))
      clear e1
      go_wp2_with fail
      go_meet
      exact HI2.out
  case rest =>
  clear HI y3 z3 yl
  obtain ⟨zr, hzr⟩ := hcut.r
  have tR := hzr.there
  have aB := hcut.bk.agg
  have hbe := HR1.out.2.trans (hcut.below.mono HR1.out.2.size)
  have HZr := Lib.hid hzr
  clear hzr hcut
  go_wp2_with fail
  exact ret_qbk rfl R 0 _ rfl (HZr.out.store (y := ⟨to_, bd, cl, D5, ov, false⟩)).agg rfl ⟨by rw [HV4.out], Below.setAgg hbe hwR _ _⟩
end Go.Proofs.YtiijpbfkchokaaaGreat
