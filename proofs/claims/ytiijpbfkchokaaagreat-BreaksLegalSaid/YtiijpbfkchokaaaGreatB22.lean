/-
  A line of a paragraph, judged: the program's one.
  What may be broken where, how broad lines are, what a line measures; a try is begun: the program's.
-/
import Derived.Test.YtiijpbfkchokaaaGreatB4
import Derived.Test.YtiijpbfkchokaaaGreatB19
import Derived.Deep.CutBlock
namespace Go.Proofs.YtiijpbfkchokaaaGreat
open Go.ChangeShapes Go.WideShapes Go.ChangeAt Go.RowKit
attribute [local go_sem ↓] Go.wp_at_zero Go.wp_at_succ
def bdBk (parts : Array (Nat × Value)) : Sem Value := Instr.build 91 parts
@[go_sem ↓] theorem execOp_buildBk (ρ : Operand → Value) (dst : Option Tmp) (x : Array (Nat × Operand)) (ty : TypeId) (pos : String) (after : Array Edge) (guard : Option (Nat × Bool)) :
    execOp ρ { dst, op := .build 91 x, type := ty, pos, after, guard } = (do pure (.value (← bdBk (x.map fun (i, y) => (i, ρ y))))) := rfl
@[go_sem] theorem run_bdBk (x : Int) (w : World) : (bdBk #[(0, .int .i64 x)]).run Tryz.prog w = .ok (.agg (Bk.mk x 0 0 0 0 false).arr) w := by kernel_rfl
/-- a line's end in a block -/
def BkAt (W : World) (b : Nat) (x : Bk) : Prop := W.heap[b]? = some (.cells x.arr 91 (0, 0))
theorem BkAt.lt {W : World} {b : Nat} {x : Bk} (h : BkAt W b x) : b < W.heap.size := (Array.getElem?_eq_some_iff.1 h).1
theorem BkAt.still {W W' : World} {b : Nat} {x : Bk} (h : BkAt W b x) (hb : Below W.heap.size W W') : BkAt W' b x := (hb.block b h.lt).trans h
theorem BkAt.cell {W : World} {b : Nat} {x : Bk} (h : BkAt W b x) (k : Nat) (v : Value) (hv : x.arr[k]? = some v) : W.cell? ⟨b, k, none⟩ = some v := by rw [cell?_blk' h, hv]
theorem BkAt.frozen {W : World} {b : Nat} {x : Bk} (h : BkAt W b x) (k : Nat) : W.frozen? ⟨b, k, none⟩ = false := frozen_of_row W b k _ _ h
theorem BkAt.agg {W : World} {b : Nat} {x : Bk} (h : BkAt W b x) : agg? W b 0 6 = some x.arr := by rw [agg?_blk' h 0 6 (by simp [Bk.size_arr])]; simp [Bk.arr, Bk.cells]
theorem BkAt.there {W : World} {b : Nat} {x : Bk} (h : BkAt W b x) : there? W b 0 6 = true := there_blk h 0 6 (by simp [Bk.size_arr])
theorem BkAt.set {W : World} {b : Nat} {x y : Bk} (h : BkAt W b x) (k : Nat) (v : Value) (hm : x.arr.setIfInBounds k v = y.arr) : BkAt (W.setCell ⟨b, k, none⟩ v) b y := by
  unfold BkAt
  rw [heap_setCell_same _ _ _ _ _ _ h, hm]
theorem BkAt.store {W : World} {b : Nat} {x y : Bk} (h : BkAt W b x) : BkAt (setAgg W b 0 y.arr) b y := by
  unfold BkAt setAgg
  rw [heap_setCells_same b _ _ _ 0 _ W h, show y.arr.toList = y.cells from rfl, setMany_Bk]
/-- a paragraph that is tried: block Y -/
structure TryIn (W : World) (Y X mb B : Nat) (P : Pm) (vs : Nat → Value) (L : List Nd) (b off cap : Nat) (p0 : Option Addr) (s : List Nat) (g off2 : Nat) (S : List Sh2) (tol ext : Int) : Prop where
  para : ParaL W X mb B P vs L b off cap p0 (s ++ [L.length]) (sumsP L s) (atsI (brkP L P s)) (pensI (brkP L P s))
  try_ : W.heap[Y]? = some (.cells #[.pointer (some ⟨X, 0, none⟩), .int .i64 tol, .int .i64 ext] 118 (0, 0))
  shape : ShIn W P g off2 S
section
variable {W W' : World} {Y X mb B : Nat} {P : Pm} {vs : Nat → Value} {L : List Nd} {b off cap : Nat} {p0 : Option Addr} {s : List Nat} {g off2 : Nat} {S : List Sh2} {tol ext : Int}
theorem TryIn.still (h : TryIn W Y X mb B P vs L b off cap p0 s g off2 S tol ext) (hb : Below W.heap.size W W') : TryIn W' Y X mb B P vs L b off cap p0 s g off2 S tol ext :=
  ⟨h.para.still hb, (hb.block Y (Array.getElem?_eq_some_iff.1 h.try_).1).trans h.try_, h.shape.below hb⟩
theorem TryIn.cell (h : TryIn W Y X mb B P vs L b off cap p0 s g off2 S tol ext) : W.cell? ⟨Y, 0, none⟩ = some (.pointer (some ⟨X, 0, none⟩)) ∧ W.cell? ⟨Y, 1, none⟩ = some (.int .i64 tol) ∧ W.cell? ⟨Y, 2, none⟩ = some (.int .i64 ext) := by
  refine ⟨?_, ?_, ?_⟩ <;> (rw [cell?_blk' h.try_]; rfl)
end
/-- what is asked of a paragraph, and of the numbers by which it is tried -/
structure TryOk (P : Pm) (S : List Sh2) (L : List Nd) (s : List Nat) (tol ext : Int) : Prop where
  pm : pmC P S = 0
  chk : checkC L = 0
  items : Items L 0 s
  tol : 0 ≤ tol ∧ tol ≤ 1073741823
  ext : 0 ≤ ext ∧ ext ≤ 1073741823
/-- bounds of parameters -/
structure PmN (P : Pm) : Prop where
  b : PmB P
  linep : -2147483647 ≤ P.linep ∧ P.linep ≤ 2147483647
  adj : -2147483647 ≤ P.adj ∧ P.adj ≤ 2147483647
  dbl : -2147483647 ≤ P.dbl ∧ P.dbl ≤ 2147483647
  fin : -2147483647 ≤ P.fin ∧ P.fin ≤ 2147483647
  loose : -2147483647 ≤ P.loose ∧ P.loose ≤ 2147483647
  left : P.left.good = true
  right : P.right.good = true
theorem pmC_zero {P : Pm} {S : List Sh2} (h : pmC P S = 0) : PmN P := by
  rw [pmC_ok] at h
  split at h
  · rename_i h1
    split at h
    · rename_i h2
      unfold okP at h1
      simp only [List.all_cons, List.all_nil, Bool.and_true, Bool.and_eq_true] at h1 h2
      obtain ⟨⟨⟨⟨a1, a2, a3, a4, a5, a6, a7, a8, a9, _, _, _, a10⟩, h2', h3, h4⟩, h5⟩, h6⟩ := h1
      simp only [numB, dimenB, withinB, decide_eq_true_eq] at a3 a6 a7 a8 a9 a10 h2' h3
      simp only [firmG, Bool.and_eq_true] at h2
      exact ⟨⟨by omega, by omega, by omega⟩, by omega, by omega, by omega, by omega, by omega, h2.1.1, h2.2.1⟩
    · cases h
  · cases h
theorem sq_bd {d N : Int} (h1 : -N ≤ d) (h2 : d ≤ N) : 0 ≤ d * d ∧ d * d ≤ N * N := by
  have a1 : 0 ≤ (N - d) * (N + d) := Int.mul_nonneg (by omega) (by omega)
  have a2 : (N - d) * (N + d) = N * N - d * d := by
    rw [Int.sub_mul, Int.mul_add, Int.mul_add, Int.mul_comm d N]
    omega
  have a3 : 0 ≤ d * d := by
    rcases Int.le_total 0 d with h | h
    · exact Int.mul_nonneg h h
    · have := Int.mul_nonneg (a := -d) (b := -d) (by omega) (by omega)
      rwa [Int.neg_mul_neg] at this
  omega
theorem dropTo_drop (L : List Nd) (q : Nat) : ∀ l : List Nat, ∃ k, dropTo L q l = l.drop k
  | [] => ⟨0, rfl⟩
  | x :: r => by
    unfold dropTo
    split
    · obtain ⟨k, hk⟩ := dropTo_drop L q r
      exact ⟨k + 1, hk⟩
    · exact ⟨0, rfl⟩
theorem line_bound {L : List Nd} {P : Pm} {s : List Nat} (hc : checkC L = 0) (hs : Items L 0 s) (hPl : P.left.good = true) (hPr : P.right.good = true) {f : Option Nat} {q : Nat} (hf : ∀ x, f = some x → x ∈ s) (hq : q ∈ s ++ [L.length]) : TtB 14000000000000 (lineT L P s f q) := by
  have hr := check_right hc
  have hll := (checkC_zero hc).1
  obtain ⟨m, hm⟩ : ∃ m, (s ++ [L.length])[m]? = some q := List.mem_iff_getElem?.1 hq
  have hpos := pos_at hs hm
  have hi : ∃ i, fromP L s f q = s.drop i := by
    rw [fromP_start hs hf]
    split
    · obtain ⟨k, hk⟩ := dropTo_drop L q (s.drop (startI L s f).1)
      exact ⟨_, by rw [hk, List.drop_drop]⟩
    · exact ⟨_, rfl⟩
  obtain ⟨i, hi⟩ := hi
  rw [lineT_eq hpos hi]
  have key : ∀ x, x ∈ s → discB L x = true → TtB 2200000000000 (.wide (rowN (threeP L x).2.1)) ∧ TtB 2200000000000 (.wide (rowN (threeP L x).1)) := fun x hx hd => by
    have hk10 : (nth L x).kind = 10 := by
      simp only [discB, Bool.and_eq_true, beq_iff_eq] at hd
      exact hd.2
    obtain ⟨md, u, hda⟩ := disc_at hc hs hx hk10
    obtain ⟨hok, hlen3⟩ := disc_ok hda
    have hlt3 := hda.lt
    have h5 := row_bound hok.b hr
    have h6 := row_bound hok.a hr
    exact ⟨.wide (by omega) (by omega), .wide (by omega) (by omega)⟩
  have h1 : TtB 2200000000000 (.wide (preN L f)) := by
    cases f with
    | none => exact TtB.zero.mono (by omega)
    | some x =>
      simp only [preN]
      split
      · rename_i hd; exact (key x (hf x rfl) hd).1
      · exact TtB.zero.mono (by omega)
  have h2 : TtB 8800000000000 (midT L s i m) := by
    unfold midT
    have := hpos.le
    split
    · exact ((sum_take hc hs hr hll m (by omega)).minus (sum_take hc hs hr hll i (by omega))).mono (by omega)
    · exact TtB.zero.mono (by omega)
  have h3 : TtB 2200000000000 (.wide (sufN L q)) := by
    unfold sufN
    split
    · rename_i hd
      refine (key q ?_ hd).2
      simp only [discB, Bool.and_eq_true, decide_eq_true_eq] at hd
      rcases List.mem_append.1 hq with h | h
      · exact h
      · have := List.mem_singleton.1 h; omega
    · exact TtB.zero.mono (by omega)
  exact (((h1.plus h2).plus h3).plus ((glueT_good hPl).plus (glueT_good hPr))).mono (by omega)
theorem brkF_mem {L : List Nd} {P : Pm} : ∀ (l : List Nat) (pr : Option Nat) (x : Nat × Int), x ∈ brkF L P pr l → x.1 ∈ l ∧ x.2 < 10000
  | [], _, x, h => by cases h
  | y :: r, pr, x, h => by
    unfold brkF at h
    split at h
    · rename_i q hq
      split at h
      · rename_i hlt
        rcases List.mem_cons.1 h with h | h
        · rw [h]; exact ⟨List.mem_cons_self, hlt⟩
        · have := brkF_mem r _ x h
          exact ⟨List.mem_cons_of_mem _ this.1, this.2⟩
      · have := brkF_mem r _ x h
        exact ⟨List.mem_cons_of_mem _ this.1, this.2⟩
    · have := brkF_mem r _ x h
      exact ⟨List.mem_cons_of_mem _ this.1, this.2⟩
theorem brkP_mem {L : List Nd} {P : Pm} {s : List Nat} {x : Nat × Int} (h : x ∈ brkP L P s) : x.1 ∈ s ++ [L.length] ∧ x.2 < 10000 := by
  unfold brkP at h
  rcases List.mem_append.1 h with h | h
  · have := brkF_mem _ _ _ h
    exact ⟨List.mem_append_left _ this.1, this.2⟩
  · rw [List.mem_singleton.1 h]
    exact ⟨List.mem_append_right _ (List.mem_singleton.2 rfl), by show (-10000 : Int) < 10000; decide⟩
end Go.Proofs.YtiijpbfkchokaaaGreat
namespace Go.Proofs.YtiijpbfkchokaaaGreat
open Go.ChangeShapes Go.WideShapes Go.ChangeAt Go.RowKit
attribute [local go_sem ↓] Go.wp_at_zero Go.wp_at_succ
/-- what Legal tells -/
structure LegalPost (w : World) (P : Pm) (L : List Nd) (s : List Nat) (E : Int) (e : Ending) (w' : World) : Prop where
  good : ∃ v u, e = .returned (.tuple #[v, u, .int .i64 E]) ∧ w'.ownsRow w.heap.size 3 1 v (if E = 0 then brkP L P s else []).length (ints (atsI (if E = 0 then brkP L P s else []))) ∧ w'.ownsRow w.heap.size 3 1 u (if E = 0 then brkP L P s else []).length (ints (pensI (if E = 0 then brkP L P s else []))) ∧ ∀ g, v.ownBlock = some g → u.ownBlock ≠ some g
  below : Below w.heap.size w w'
set_option maxRecDepth 100000 in
set_option maxHeartbeats 4000000 in
theorem vLegal (P : Pm) (g off2 : Nat) (S : List Sh2) (L : List Nd) (b off cap : Nat) (p0 : Option Addr) (s : List Nat) (hs : checkC L = 0 → Items L 0 s) (w : World) (hS : ShIn w P g off2 S) (hN : NIn w p0 b off cap L) :
    Calls Tryz.prog 16 #[.slice p0 L.length cap, .agg P.arr] w (LegalPost w P L s (opE P S L s)) := by
  have hb0 : Below w.heap.size w (w.alloc (.cells P.arr 27)) := (Below.refl _ _).alloc (Nat.le_refl _) _
  have d0 : PAt (w.alloc (.cells P.arr 27)) w.heap.size P := heap_alloc_new w _
  have HO := Lib.hid (vopen P g off2 S L b off cap p0 s hs _ (hS.below hb0) (hN.below hb0))
  clear hs hS hN
  go_enter Tryz.func16, Tryz.ntmps16
  go_upto_region 1 with (fail)
  obtain ⟨X0, hX0⟩ : ∃ X0, w.heap.size = X0 := ⟨_, rfl⟩
  have HX := Lib.hid hX0
  rw [hX0] at d0 ⊢
  generalize w.alloc (.cells P.arr 27) = w1 at hb0 d0 HO ⊢
  have a0 : agg? w1 X0 0 24 = some P.arr := by rw [agg?_blk' d0 0 24 (by rw [Pm.size_arr]; decide)]; simp [Pm.arr, Pm.cells]
  generalize hE : opE P S L s = E at HO
  have HE := Lib.hid hE
  have Hb0 := Lib.hid hb0
  clear hE hb0 d0 hX0
  by_cases h0 : E = 0
  · subst h0
    go_upto_region 2 with (go_at_call 38; refine HO.out.mono ?_; clear HO; rintro e w2 ho; obtain ⟨X, mb, B, vs, rfl, hL, hmb⟩ := ho.good rfl; have hb2 := ho.below)
    have x28 := hL.para.cell 28 (vs 2) rfl
    have x29 := hL.para.cell 29 (vs 3) rfl
    have HL := Lib.hid hL
    have Hb2 := Lib.hid (Hb0.out.trans (hb2.mono Hb0.out.size))
    have Hmb : Hid (w.heap.size ≤ mb) := Lib.hid (Nat.le_trans Hb0.out.size hmb)
    clear hL hb2 ho hmb a0
    generalize hv2 : vs 2 = v2 at x28
    generalize hv3 : vs 3 = v3 at x29
    have HV2 := Lib.hid hv2
    have HV3 := Lib.hid hv3
    clear hv2 hv3
    go_upto_region 4 with (fail)
    go_quiet (fail)
    go_wp2_with fail
    go_ret3
    have hl := HL.out.para.lt1
    have hl2 := HL.out.para.lt2
    have hr2 := HL.out.para.rows 2 (by decide)
    have hr3 := HL.out.para.rows 3 (by decide)
    rw [HV2.out] at hr2
    rw [HV3.out] at hr3
    have hm := Hmb.out
    refine ⟨⟨v2, v3, by rw [HE.out]; rfl, ?_, ?_, ?_⟩, ?_⟩
    · rw [HE.out, if_pos rfl]
      rw [show pxN (s ++ [L.length]) (sumsP L s) (atsI (brkP L P s)) (pensI (brkP L P s)) 2 = (brkP L P s).length by simp [pxN, atsI]] at hr2
      exact ownsRow_base (ownsRow_below hr2 (below_drewN_refl _ _ _)) (by omega)
    · rw [HE.out, if_pos rfl]
      rw [show pxN (s ++ [L.length]) (sumsP L s) (atsI (brkP L P s)) (pensI (brkP L P s)) 3 = (brkP L P s).length by simp [pxN, pensI]] at hr3
      exact ownsRow_base (ownsRow_below hr3 (below_drewN_refl _ _ _)) (by omega)
    · intro g9 h9
      have := HL.out.para.ne 2 3 (by decide) (by decide) (by decide) g9 (by rw [HV2.out]; exact h9)
      rwa [HV3.out] at this
    · exact below_drewN Hb2.out _
  · have hne : (E != 0) = true := by simpa using h0
    go_wp2_with (go_at_call 38; refine HO.out.mono ?_; clear HO; rintro e w2 ho; obtain rfl := ho.bad h0; have hb2 := ho.below; clear ho)
    go_ret3
    refine ⟨⟨.slice none 0 0, .slice none 0 0, by rw [HE.out]; rfl, ?_, ?_, (fun g h => by cases h)⟩, Hb0.out.trans (hb2.mono Hb0.out.size)⟩
    · rw [HE.out, if_neg h0]; exact World.ownsRow_nil _ _ _ _
    · rw [HE.out, if_neg h0]; exact World.ownsRow_nil _ _ _ _
/-- a line's width and indent, and the error -/
def wdE (P : Pm) (S : List Sh2) (line : Int) : Int := if pmC P S = 0 then (if line < 1 then 11 else 0) else pmC P S
def WidR (P : Pm) (S : List Sh2) (line : Int) : Ending := .returned (.tuple #[.int .i64 (if wdE P S line = 0 then (widP P S line).1 else 0), .int .i64 (if wdE P S line = 0 then (widP P S line).2 else 0), .int .i64 (wdE P S line)])
set_option maxRecDepth 100000 in
set_option maxHeartbeats 4000000 in
theorem vWidth (P : Pm) (g off2 : Nat) (S : List Sh2) (line : Int) (hl : line ≤ 9223372036854775807) (w : World) (hS : ShIn w P g off2 S) :
    Calls Tryz.prog 17 #[.agg P.arr, .int .i64 line] w fun e w' => e = WidR P S line ∧ Below w.heap.size w w' := by
  have hb0 : Below w.heap.size w (w.alloc (.cells P.arr 27)) := (Below.refl _ _).alloc (Nat.le_refl _) _
  have d0 : PAt (w.alloc (.cells P.arr 27)) w.heap.size P := heap_alloc_new w _
  have HC := Lib.hid (vcheckP P g off2 S _ (hS.below hb0))
  have HS := Lib.hid (hS.below hb0)
  clear hS
  go_enter Tryz.func17, Tryz.ntmps17
  go_upto_region 1 with (fail)
  obtain ⟨X0, hX0⟩ : ∃ X0, w.heap.size = X0 := ⟨_, rfl⟩
  rw [hX0] at d0 ⊢
  generalize w.alloc (.cells P.arr 27) = w1 at hb0 d0 HC HS ⊢
  have a0 : agg? w1 X0 0 24 = some P.arr := by rw [agg?_blk' d0 0 24 (by rw [Pm.size_arr]; decide)]; simp [Pm.arr, Pm.cells]
  have Hb0 := Lib.hid hb0
  have Hd0 := Lib.hid d0
  clear hb0 d0 hX0
  generalize hE : pmC P S = E at HC
  have HE := Lib.hid hE
  clear hE
  by_cases h0 : E = 0
  · subst h0
    by_cases hl1 : line < 1
    · have hw := Lib.hid (show wdE P S line = 11 by unfold wdE; rw [if_pos HE.out, if_pos hl1])
      have hd : decide (line < 1) = true := decide_eq_true hl1
      clear hl1
      go_wp2_with (go_at_call 20; refine HC.out.mono ?_; clear HC; rintro e w2 ⟨rfl, hb2⟩)
      go_ret3
      exact ⟨by unfold WidR; rw [hw.out]; rfl, Hb0.out.trans (hb2.mono Hb0.out.size)⟩
    · have hw := Lib.hid (show wdE P S line = 0 by unfold wdE; rw [if_pos HE.out, if_neg hl1])
      have hd : decide (line < 1) = false := decide_eq_false hl1
      have HW : Hid (∀ W, Below w1.heap.size w1 W → Calls Tryz.prog 39 #[.agg P.arr, .int .i64 line] W fun e w' => e = .returned (.tuple #[.int .i64 (widP P S line).1, .int .i64 (widP P S line).2]) ∧ Below W.heap.size W w') := Lib.hid fun W hb => vwidth P g off2 S (pmC_zero HE.out).b line (by omega) W (HS.out.below hb)
      clear hl1
      go_wp2_with (first | (go_at_call 20; refine HC.out.mono ?_; clear HC; rintro e w2 ⟨rfl, hb2⟩; have a2 : agg? w2 X0 0 24 = some P.arr := ((bfacts hb2).2.2.1 X0 0 24 Hd0.out.lt).trans a0) | (go_at_call 39; refine (HW.out _ hb2).mono ?_; rintro e w3 ⟨rfl, hb3⟩))
      go_ret3
      exact ⟨by unfold WidR; rw [hw.out]; rfl, Hb0.out.trans ((hb2.trans (hb3.mono hb2.size)).mono Hb0.out.size)⟩
  · have hne : (E != 0) = true := by simpa using h0
    have hw := Lib.hid (show wdE P S line = E by unfold wdE; rw [if_neg (by rw [HE.out]; exact h0), HE.out])
    go_wp2_with (go_at_call 20; refine HC.out.mono ?_; clear HC; rintro e w2 ⟨rfl, hb2⟩)
    go_ret3
    exact ⟨by unfold WidR; rw [hw.out, if_neg h0, if_neg h0]; rfl, Hb0.out.trans (hb2.mono Hb0.out.size)⟩
/-- the errors of what tries a paragraph -/
def tryE (P : Pm) (S : List Sh2) (L : List Nd) (s : List Nat) (tol ext : Int) : Int := if opE P S L s = 0 then (if tol < 0 ∨ ext < 0 ∨ 1073741823 < tol ∨ 1073741823 < ext then 11 else 0) else opE P S L s
structure BegunPost (w : World) (P : Pm) (L : List Nd) (b off cap : Nat) (p0 : Option Addr) (s : List Nat) (g off2 : Nat) (S : List Sh2) (tol ext : Int) (e : Ending) (w' : World) : Prop where
  good : tryE P S L s tol ext = 0 → ∃ Y X mb B vs, e = .returned (.tuple #[.pointer (some ⟨Y, 0, none⟩), .int .i64 0]) ∧ TryIn w' Y X mb B P vs L b off cap p0 s g off2 S tol ext ∧ w.heap.size ≤ mb
  bad : tryE P S L s tol ext ≠ 0 → e = .returned (.tuple #[.pointer none, .int .i64 (tryE P S L s tol ext)])
  below : Below w.heap.size w w'
set_option maxRecDepth 100000 in
set_option maxHeartbeats 4000000 in
theorem vbegun (P : Pm) (g off2 : Nat) (S : List Sh2) (L : List Nd) (b off cap : Nat) (p0 : Option Addr) (s : List Nat) (hs : checkC L = 0 → Items L 0 s) (tol ext : Int) (w : World) (hS : ShIn w P g off2 S) (hN : NIn w p0 b off cap L) :
    Calls Tryz.prog 27 #[.slice p0 L.length cap, .agg P.arr, .int .i64 tol, .int .i64 ext] w (BegunPost w P L b off cap p0 s g off2 S tol ext) := by
  have hb0 : Below w.heap.size w (w.alloc (.cells P.arr 27)) := (Below.refl _ _).alloc (Nat.le_refl _) _
  have d0 : PAt (w.alloc (.cells P.arr 27)) w.heap.size P := heap_alloc_new w _
  have HO := Lib.hid (vopen P g off2 S L b off cap p0 s hs _ (hS.below hb0) (hN.below hb0))
  have HS := Lib.hid (hS.below hb0)
  clear hs hS hN
  go_enter Tryz.func27, Tryz.ntmps27
  go_upto_region 1 with (fail)
  obtain ⟨X0, hX0⟩ : ∃ X0, w.heap.size = X0 := ⟨_, rfl⟩
  have HX := Lib.hid hX0
  rw [hX0] at d0 ⊢
  generalize w.alloc (.cells P.arr 27) = w1 at hb0 d0 HO HS ⊢
  have a0 : agg? w1 X0 0 24 = some P.arr := by rw [agg?_blk' d0 0 24 (by rw [Pm.size_arr]; decide)]; simp [Pm.arr, Pm.cells]
  generalize hE : opE P S L s = E at HO
  have HE := Lib.hid hE
  have Hb0 := Lib.hid hb0
  clear hE hb0 d0 hX0
  by_cases h0 : E = 0
  · subst h0
    go_upto_region 4 with (go_at_call 38; refine HO.out.mono ?_; clear HO; rintro e w2 ho; obtain ⟨X, mb, B, vs, rfl, hL, hmb⟩ := ho.good rfl; have hb2 := ho.below)
    have HL := Lib.hid hL
    have Hb2 := Lib.hid (Hb0.out.trans (hb2.mono Hb0.out.size))
    have HS2 := Lib.hid (HS.out.below hb2)
    have Hmb : Hid (w.heap.size ≤ mb) := Lib.hid (Nat.le_trans Hb0.out.size hmb)
    clear hL hb2 ho hmb a0
    obtain ⟨cb, hcb⟩ : ∃ cb, decide (tol < 0 ∨ ext < 0 ∨ 1073741823 < tol ∨ 1073741823 < ext) = cb := ⟨_, rfl⟩
    have Hcb := Lib.hid hcb
    clear hcb
    go_cut [34] from 21 to 34 (fun s34 wx => s34 = .bool cb ∧ w2 = wx)
    case first =>
      by_cases h1 : tol < 0
      · have h2 : decide (tol < 0) = true := decide_eq_true h1
        have e1 : cb = true := by rw [← Hcb.out]; simp [h1]
        subst e1
        clear h1
        go_wp2_with fail
        go_meet
        exact ⟨rfl, rfl⟩
      · have h2 : decide (tol < 0) = false := decide_eq_false h1
        by_cases h3 : ext < 0
        · have h4 : decide (ext < 0) = true := decide_eq_true h3
          have e1 : cb = true := by rw [← Hcb.out]; simp [h3]
          subst e1
          clear h1 h3
          go_wp2_with fail
          go_meet
          exact ⟨rfl, rfl⟩
        · have h4 : decide (ext < 0) = false := decide_eq_false h3
          by_cases h5 : 1073741823 < tol
          · have h6 : decide (1073741823 < tol) = true := decide_eq_true h5
            have e1 : cb = true := by rw [← Hcb.out]; simp [h5]
            subst e1
            clear h1 h3 h5
            go_wp2_with fail
            go_meet
            exact ⟨rfl, rfl⟩
          · have h6 : decide (1073741823 < tol) = false := decide_eq_false h5
            have e1 : decide (1073741823 < ext) = cb := by rw [← Hcb.out]; simp [h1, h3, h5]
            clear h1 h3 h5
            go_wp2_with fail
            go_meet
            exact ⟨rfl, rfl⟩
    case rest =>
      obtain ⟨rfl, rfl⟩ := hcut
      cases hb : cb
      · subst hb
        have hw := Lib.hid (show tryE P S L s tol ext = 0 by unfold tryE; rw [if_pos HE.out, if_neg (of_decide_eq_false Hcb.out)])
        obtain ⟨Y, hY⟩ : ∃ Y, w2.heap.size = Y := ⟨_, rfl⟩
        have hba := (Below.refl w2.heap.size w2).alloc (Nat.le_refl _) (.cells #[.pointer (some ⟨X, 0, none⟩), .int .i64 tol, .int .i64 ext] 118)
        have hYa := heap_alloc_new w2 (.cells #[.pointer (some ⟨X, 0, none⟩), .int .i64 tol, .int .i64 ext] 118)
        rw [hY] at hYa
        have HYa := Lib.hid hYa
        have Hba := Lib.hid hba
        clear hYa hba
        go_wp2_with fail
        go_ret2
        exact ⟨fun _ => ⟨Y, X, mb, B, vs, rfl, ⟨HL.out.still Hba.out, HYa.out, HS2.out.below Hba.out⟩, Hmb.out⟩, fun h => absurd hw.out h, Hb2.out.trans (Hba.out.mono Hb2.out.size)⟩
      · subst hb
        have hw := Lib.hid (show tryE P S L s tol ext = 11 by unfold tryE; rw [if_pos HE.out, if_pos (of_decide_eq_true Hcb.out)])
        go_wp2_with fail
        go_ret2
        exact ⟨(fun h => by rw [hw.out] at h; cases h), (fun _ => by rw [hw.out]; rfl), Hb2.out⟩
  · have hne : (E != 0) = true := by simpa using h0
    have hw := Lib.hid (show tryE P S L s tol ext = E by unfold tryE; rw [if_neg (by rw [HE.out]; exact h0), HE.out])
    go_wp2_with (go_at_call 38; refine HO.out.mono ?_; clear HO; rintro e w2 ho; obtain rfl := ho.bad h0; have hb2 := ho.below; clear ho)
    go_ret2
    exact ⟨(fun h => absurd (hw.out.symm.trans h) h0), (fun _ => by rw [hw.out]; rfl), Hb0.out.trans (hb2.mono Hb0.out.size)⟩
end Go.Proofs.YtiijpbfkchokaaaGreat
