/-
  The document's side of layer 9: what breaks cost (wrong, Takes, Lines, Cost).
-/
import Derived.Test.YtiijpbfkchokaaaGreatVBs
import Derived.Test.YtiijpbfkchokaaaGreatB8
import Derived.Test.YtiijpbfkchokaaaGreatB24
import Derived.Test.YtiijpbfkchokaaaGreatB28
import Derived.Test.YtiijpbfkchokaaaGreatF19
set_option maxRecDepth 100000
set_option maxHeartbeats 8000000
namespace Go.Proofs.YtiijpbfkchokaaaGreat
open Go.ChangeShapes Go.WideShapes Go.ChangeAt Go.RowKit
attribute [local go_sem ↓] Go.wp_at_zero Go.wp_at_succ
theorem q9wrong (P : Pm) (g off2 : Nat) (S : List Sh2) (p0 : Option Addr) (b off cap : Nat) (L : List Nd) (s : List Nat) (hs : checkC L = 0 → Items L 0 s) (tol ext : Int) (w : World) (hS : ShIn w P g off2 S) (hN : NIn w p0 b off cap L) :
    Calls Tryz.prog 31 #[.slice p0 L.length cap, .agg P.arr, .int .i64 tol, .int .i64 ext] w fun e w' => e = .returned (.int .i64 (tryE P S L s tol ext)) ∧ Below w.heap.size w w' := by
  have hb0 : Below w.heap.size w (w.alloc (.cells P.arr 27)) := (Below.refl _ _).alloc (Nat.le_refl _) _
  have d0 : PAt (w.alloc (.cells P.arr 27)) w.heap.size P := heap_alloc_new w _
  have HBo := Lib.hid (q9both P g off2 S p0 cap L s _ (hS.below hb0) fun W hb => q9paragraph p0 b off cap L s hs W ((hN.below hb0).below hb))
  obtain ⟨r, hr⟩ : ∃ r, tryE P S L s tol ext = r := ⟨_, rfl⟩
  have HR := Lib.hid hr
  rw [hr]
  obtain ⟨E, hE⟩ : ∃ E, opE P S L s = E := ⟨_, rfl⟩
  have HE := Lib.hid hE
  rw [hE] at HBo
  clear hs hS hN hE hr
  go_enter Tryz.func31, Tryz.ntmps31
  go_upto_region 1 with (fail)
  obtain ⟨X0, hX0⟩ : ∃ X0, w.heap.size = X0 := ⟨_, rfl⟩
  rw [hX0] at d0 ⊢
  generalize w.alloc (.cells P.arr 27) = w1 at hb0 d0 HBo ⊢
  have a0 : agg? w1 X0 0 24 = some P.arr := by rw [agg?_blk' d0 0 24 (by rw [Pm.size_arr]; decide)]; simp [Pm.arr, Pm.cells]
  have Hb0 := Lib.hid hb0
  clear hb0 d0 hX0
  by_cases h0 : E = 0
  · subst h0
    have hre : r = if tol < 0 ∨ ext < 0 ∨ 1073741823 < tol ∨ 1073741823 < ext then 11 else 0 := by rw [← HR.out]; unfold tryE; rw [if_pos HE.out]
    have HRe := Lib.hid hre
    clear hre HR
    go_upto_region 4 with (go_at_call 40; refine HBo.out.mono ?_; clear HBo; rintro e w2 ⟨rfl, hb2⟩)
    clear a0
    have HD1 := Lib.hid (q9dimen tol w2)
    have HD2 := Lib.hid (q9dimen ext w2)
    by_cases h1 : tol < 0
    · have h1' : decide (tol < 0) = true := decide_eq_true h1
      have hr2 : r = 11 := by rw [HRe.out, if_pos (.inl h1)]
      subst hr2
      clear HRe h1
      go_wp2_with fail
      go_ret
      exact ⟨rfl, Hb0.out.trans (hb2.mono Hb0.out.size)⟩
    · by_cases h2 : 1073741823 < tol
      · have hd : dimenB tol = false := by simp [dimenB]; omega
        have hr2 : r = 11 := by rw [HRe.out, if_pos (.inr (.inr (.inl h2)))]
        subst hr2
        have h1' : 0 ≤ tol := by omega
        rw [hd] at HD1
        clear HRe h1 h2 hd
        go_wp2_with (go_at_call 48; refine HD1.out.mono ?_; rintro e w5 ⟨rfl, rfl⟩)
        go_ret
        exact ⟨rfl, Hb0.out.trans (hb2.mono Hb0.out.size)⟩
      · have hd : dimenB tol = true := by simp [dimenB]; omega
        have h1' : 0 ≤ tol := by omega
        rw [hd] at HD1
        by_cases h3 : ext < 0
        · have h3' : decide (ext < 0) = true := decide_eq_true h3
          have hr2 : r = 11 := by rw [HRe.out, if_pos (.inr (.inl h3))]
          subst hr2
          clear HRe h1 h2 hd h3
          go_wp2_with (go_at_call 48; refine HD1.out.mono ?_; rintro e w5 ⟨rfl, rfl⟩)
          go_ret
          exact ⟨rfl, Hb0.out.trans (hb2.mono Hb0.out.size)⟩
        · have h3' : 0 ≤ ext := by omega
          by_cases h4 : 1073741823 < ext
          · have hd2 : dimenB ext = false := by simp [dimenB]; omega
            have hr2 : r = 11 := by rw [HRe.out, if_pos (.inr (.inr (.inr h4)))]
            subst hr2
            rw [hd2] at HD2
            clear HRe h1 h2 hd h3 h4 hd2
            go_wp2_with (first | (go_at_call_has 48 (Value.int IntKind.i64 tol); refine HD1.out.mono ?_; rintro e w5 ⟨rfl, rfl⟩) | (go_at_call_has 48 (Value.int IntKind.i64 ext); refine HD2.out.mono ?_; rintro e w5 ⟨rfl, rfl⟩))
            go_ret
            exact ⟨rfl, Hb0.out.trans (hb2.mono Hb0.out.size)⟩
          · have hd2 : dimenB ext = true := by simp [dimenB]; omega
            have hr2 : r = 0 := by rw [HRe.out, if_neg (by omega)]
            subst hr2
            rw [hd2] at HD2
            clear HRe h1 h2 hd h3 h4 hd2
            go_wp2_with (first | (go_at_call_has 48 (Value.int IntKind.i64 tol); refine HD1.out.mono ?_; rintro e w5 ⟨rfl, rfl⟩) | (go_at_call_has 48 (Value.int IntKind.i64 ext); refine HD2.out.mono ?_; rintro e w5 ⟨rfl, rfl⟩))
            go_ret
            exact ⟨rfl, Hb0.out.trans (hb2.mono Hb0.out.size)⟩
  · have hne : (E != 0) = true := by simpa using h0
    have hre : r = E := by rw [← HR.out]; unfold tryE; rw [if_neg (by rw [HE.out]; exact h0), HE.out]
    subst hre
    clear HR
    go_wp2_with (go_at_call 40; refine HBo.out.mono ?_; clear HBo; rintro e w2 ⟨rfl, hb2⟩)
    go_ret
    exact ⟨rfl, Hb0.out.trans (hb2.mono Hb0.out.size)⟩
theorem places_read {w w' : World} {B : List (Nat × Int)} {e : Ending} (h : PlacesPost w B e w') : ∃ pv gv cv pu gu cu, e = .returned (.tuple #[.slice pv B.length cv, .slice pu B.length cu]) ∧ ZIn w' pv gv cv (atsI B) ∧ ZIn w' pu gu cu (pensI B) ∧ B.length ≤ cv ∧ B.length ≤ cu := by
  obtain ⟨v, u, rfl, hv, hu, _⟩ := h.out
  obtain ⟨pv, gv, cv, ev, lv, zv⟩ := zin_of hv
  obtain ⟨pu, gu, cu, eu, lu, zu⟩ := zin_of hu
  have ha : (atsI B).length = B.length := by simp [atsI]
  have hp : (pensI B).length = B.length := by simp [pensI]
  have c1 := zv.cap
  have c2 := zu.cap
  rw [ha] at ev c1
  rw [hp] at eu c2
  exact ⟨pv, gv, cv, pu, gu, cu, by rw [ev, eu], zv, zu, c1, c2⟩
theorem ats_cell {W : World} {p : Option Addr} {g c : Nat} {B : List (Nat × Int)} (h : ZIn W p g c (atsI B)) {k : Nat} {z : Nat × Int} (hz : B[k]? = some z) : p = some ⟨g, 0, none⟩ ∧ W.cell? ⟨g, k, none⟩ = some (.int .i64 z.1) := by
  have hk := (List.getElem?_eq_some_iff.1 hz).1
  have hkl : k < (atsI B).length := by simpa [atsI] using hk
  refine ⟨h.hp (by intro e; rw [e] at hkl; simp at hkl), ?_⟩
  rw [h.at_ k hkl]
  have : (atsI B)[k]? = some (z.1 : Int) := by unfold atsI; rw [List.getElem?_map, hz]; rfl
  rw [(List.getElem?_eq_some_iff.1 this).2]
theorem pens_cell {W : World} {p : Option Addr} {g c : Nat} {B : List (Nat × Int)} (h : ZIn W p g c (pensI B)) {k : Nat} {z : Nat × Int} (hz : B[k]? = some z) : p = some ⟨g, 0, none⟩ ∧ W.cell? ⟨g, k, none⟩ = some (.int .i64 z.2) := by
  have hk := (List.getElem?_eq_some_iff.1 hz).1
  have hkl : k < (pensI B).length := by simpa [pensI] using hk
  refine ⟨h.hp (by intro e; rw [e] at hkl; simp at hkl), ?_⟩
  rw [h.at_ k hkl]
  have : (pensI B)[k]? = some z.2 := by unfold pensI; rw [List.getElem?_map, hz]; rfl
  rw [(List.getElem?_eq_some_iff.1 this).2]
end Go.Proofs.YtiijpbfkchokaaaGreat
namespace Go.Proofs.YtiijpbfkchokaaaGreat
open Go.ChangeShapes Go.WideShapes Go.ChangeAt Go.RowKit
attribute [local go_sem ↓] Go.wp_at_zero Go.wp_at_succ
set_option maxRecDepth 10000

structure Qw where
  atA : Option Addr
  atN : Nat
  atC : Nat
  cls : Int
  over : Int
  bad : Int
  total : Int
deriving Inhabited
def Qw.cells (n : Qw) : List Value := [.slice n.atA n.atN n.atC, .int .i64 n.cls, .int .i64 n.over, .int .i64 n.bad, .int .i64 n.total]
def Qw.arr (n : Qw) : Array Value := n.cells.toArray
@[go_sem] theorem Qw.size_arr (n : Qw) : n.arr.size = 5 := id rfl
@[go_sem] theorem Qw.get0 (n : Qw) : n.arr[0]? = some (.slice n.atA n.atN n.atC) := id rfl
@[go_sem] theorem Qw.get1 (n : Qw) : n.arr[1]? = some (.int .i64 n.cls) := id rfl
@[go_sem] theorem Qw.get2 (n : Qw) : n.arr[2]? = some (.int .i64 n.over) := id rfl
@[go_sem] theorem Qw.get3 (n : Qw) : n.arr[3]? = some (.int .i64 n.bad) := id rfl
@[go_sem] theorem Qw.get4 (n : Qw) : n.arr[4]? = some (.int .i64 n.total) := id rfl
@[go_sem] theorem Qw.set0 (n : Qw) (xA : Option Addr) (xN xC : Nat) : n.arr.setIfInBounds 0 (.slice xA xN xC) = ({ n with atA := xA, atN := xN, atC := xC } : Qw).arr := id rfl
@[go_sem] theorem Qw.set1 (n : Qw) (x : Int) : n.arr.setIfInBounds 1 (.int .i64 x) = ({ n with cls := x } : Qw).arr := id rfl
@[go_sem] theorem Qw.set2 (n : Qw) (x : Int) : n.arr.setIfInBounds 2 (.int .i64 x) = ({ n with over := x } : Qw).arr := id rfl
@[go_sem] theorem Qw.set3 (n : Qw) (x : Int) : n.arr.setIfInBounds 3 (.int .i64 x) = ({ n with bad := x } : Qw).arr := id rfl
@[go_sem] theorem Qw.set4 (n : Qw) (x : Int) : n.arr.setIfInBounds 4 (.int .i64 x) = ({ n with total := x } : Qw).arr := id rfl
@[go_sem] theorem Qw.lit (x0A : Option Addr) (x0N x0C : Nat) (x1 : Int) (x2 : Int) (x3 : Int) (x4 : Int) : (#[.slice x0A x0N x0C, .int .i64 x1, .int .i64 x2, .int .i64 x3, .int .i64 x4] : Array Value) = (Qw.mk x0A x0N x0C x1 x2 x3 x4).arr := id rfl
theorem setMany_Qw (n m : Qw) : setMany n.arr 0 m.cells = m.arr := by
  simp only [Qw.cells, setMany, Nat.reduceAdd, Qw.set0, Qw.set1, Qw.set2, Qw.set3, Qw.set4]
theorem Qw.one (n : Qw) : n.arr.all (·.oneCell') = true := by simp [Qw.arr, Qw.cells, Value.oneCell']

theorem u_qw : Tryz.prog.underlying 86 = some (.struct (Tryz.prog.fieldsOf 86)) := by kernel_rfl
theorem i_qw : (Tryz.prog.info? 86).map (·.size) = some 5 := by kernel_rfl
@[go_sem ↓] theorem execOp_loadqw (ρ : Operand → Value) (dst : Option Tmp) (x : Operand) (ty : TypeId) (pos : String) (after : Array Edge) (guard : Option (Nat × Bool)) :
    execOp ρ { dst, op := .load 86 x, type := ty, pos, after, guard } = (do pure (.value (← ldOp 86 (ρ x)))) := rfl
@[go_sem ↓] theorem execOp_storeqw (ρ : Operand → Value) (dst : Option Tmp) (x y : Operand) (ty : TypeId) (pos : String) (after : Array Edge) (guard : Option (Nat × Bool)) :
    execOp ρ { dst, op := .store 86 x y, type := ty, pos, after, guard } = (do stOp 86 (ρ x) (ρ y); pure .skip) := rfl
@[go_sem] theorem run_loadqw (b o : Nat) (w : World) : (ldOp 86 (.pointer (some ⟨b, o, none⟩))).run Tryz.prog w = ldRow Tryz.prog 86 b o w (agg? w b o 5) := run_loadAt_row _ _ _ u_qw rfl i_qw b o w
@[go_sem] theorem run_storeqw (b o : Nat) (n : Qw) (w : World) : (stOp 86 (.pointer (some ⟨b, o, none⟩)) (.agg n.arr)).run Tryz.prog w = stRow Tryz.prog 86 b o n.arr w (there? w b o 5) := run_storeAt_row _ _ i_qw b o _ (Qw.size_arr n) (Qw.one n) w

def QwAt (W : World) (b : Nat) (x : Qw) : Prop := W.heap[b]? = some (.cells x.arr 86 (0, 0))
theorem QwAt.lt {W : World} {b : Nat} {x : Qw} (h : QwAt W b x) : b < W.heap.size := (Array.getElem?_eq_some_iff.1 h).1
theorem QwAt.still {W W' : World} {b : Nat} {x : Qw} (h : QwAt W b x) (hb : Below W.heap.size W W') : QwAt W' b x := (hb.block b h.lt).trans h
theorem QwAt.cell {W : World} {b : Nat} {x : Qw} (h : QwAt W b x) (k : Nat) (v : Value) (hv : x.arr[k]? = some v) : W.cell? ⟨b, k, none⟩ = some v := by rw [cell?_blk' h, hv]
theorem QwAt.frozen {W : World} {b : Nat} {x : Qw} (h : QwAt W b x) (k : Nat) : W.frozen? ⟨b, k, none⟩ = false := frozen_of_row W b k _ _ h
theorem QwAt.agg {W : World} {b : Nat} {x : Qw} (h : QwAt W b x) : agg? W b 0 5 = some x.arr := by rw [agg?_blk' h 0 5 (by simp [Qw.size_arr])]; simp [Qw.arr, Qw.cells]
theorem QwAt.there {W : World} {b : Nat} {x : Qw} (h : QwAt W b x) : there? W b 0 5 = true := there_blk h 0 5 (by simp [Qw.size_arr])
theorem QwAt.set {W : World} {b : Nat} {x y : Qw} (h : QwAt W b x) (k : Nat) (v : Value) (hm : x.arr.setIfInBounds k v = y.arr) : QwAt (W.setCell ⟨b, k, none⟩ v) b y := by
  unfold QwAt
  rw [heap_setCell_same _ _ _ _ _ _ h, hm]
theorem QwAt.store {W : World} {b : Nat} {x y : Qw} (h : QwAt W b x) : QwAt (setAgg W b 0 y.arr) b y := by
  have := heap_setCells_same b _ (0, 0) y.arr.toList 0 x.arr W h
  rw [show y.arr.toList = y.cells from rfl, setMany_Qw] at this
  exact this
structure QwIs (W : World) (B : Nat) (x : Qw) (y : Wy) : Prop where
  row : W.ownsRow B 3 1 (.slice x.atA x.atN x.atC) y.ats.length (ints (y.ats.map fun k : Nat => (k : Int)))
  len : x.atN = y.ats.length
  cls : x.cls = y.cls
  over : x.over = y.over
  bad : x.bad = y.bad
  total : x.total = y.total
theorem QwIs.zin {W : World} {B : Nat} {x : Qw} {y : Wy} (h : QwIs W B x y) : ∃ g, ZIn W x.atA g x.atC (y.ats.map fun k : Nat => (k : Int)) ∧ y.ats.length ≤ x.atC := by
  obtain ⟨p, g, c, e, _, z⟩ := zin_of h.row
  simp only [Value.slice.injEq] at e
  obtain ⟨rfl, _, rfl⟩ := e
  have := z.cap
  rw [List.length_map] at this
  exact ⟨g, z, this⟩
structure KeepZ (W W' : World) (r : Option Nat) : Prop where
  grown : W.grownBy W' r
  typ : ∀ q, r = some q → q < W.heap.size → ∃ cur t, W.heap[q]? = some (.cells cur t (0, 0)) ∧ t ≠ 3
theorem KeepZ.of_below {W W' : World} (h : Below W.heap.size W W') : KeepZ W W' none := ⟨⟨h.os, h.tape, h.output, h.size, fun k hk _ => h.block k hk⟩, fun q e => (by cases e)⟩
theorem QwIs.keep {W W' : World} {B : Nat} {x : Qw} {y : Wy} {r : Option Nat} (h : QwIs W B x y) (k : KeepZ W W' r) : QwIs W' B x y := by
  refine ⟨ownsRow_same h.row fun q hq _ => ?_, h.len, h.cls, h.over, h.bad, h.total⟩
  refine k.grown.block q (h.row.lt q hq).2 fun e => ?_
  obtain ⟨cur, t, h1, h2⟩ := k.typ q e.symm (h.row.lt q hq).2
  obtain ⟨cur', h3⟩ := row_typ h.row hq
  rw [h1] at h3
  simp only [Option.some.injEq, Obj.cells.injEq] at h3
  exact h2 h3.2.1
theorem QwIs.base {W : World} {B B' : Nat} {x : Qw} {y : Wy} (h : QwIs W B x y) (hb : B' ≤ B) : QwIs W B' x y := ⟨ownsRow_base h.row hb, h.len, h.cls, h.over, h.bad, h.total⟩
structure QL (W : World) (B : Nat) (v : Value) (xs : List Qw) (l : List Wy) : Prop where
  row : W.ownsRow B 86 5 v l.length (xs.flatMap Qw.cells)
  len : xs.length = l.length
  each : ∀ (i : Nat) (x : Qw) (y : Wy), xs[i]? = some x → l[i]? = some y → QwIs W B x y
theorem QL.nil (W : World) (B : Nat) : QL W B (.slice none 0 0) [] [] := ⟨World.ownsRow_nil _ _ _ _, rfl, fun i x y h => by simp at h⟩
theorem QL.keep {W W' : World} {B : Nat} {v : Value} {xs : List Qw} {l : List Wy} {r : Option Nat} (h : QL W B v xs l) (k : KeepZ W W' r) (hv : ∀ q, v.ownBlock = some q → r ≠ some q) : QL W' B v xs l :=
  ⟨ownsRow_same h.row fun q hq _ => k.grown.block q (h.row.lt q hq).2 fun e => hv q hq e.symm, h.len, fun i x y hx hy => (h.each i x y hx hy).keep k⟩
theorem QL.still {W W' : World} {B : Nat} {v : Value} {xs : List Qw} {l : List Wy} (h : QL W B v xs l) (hb : Below W.heap.size W W') : QL W' B v xs l := h.keep (KeepZ.of_below hb) fun _ _ e => (by cases e)
theorem QL.base {W : World} {B B' : Nat} {v : Value} {xs : List Qw} {l : List Wy} (h : QL W B v xs l) (hb : B' ≤ B) : QL W B' v xs l := ⟨ownsRow_base h.row hb, h.len, fun i x y hx hy => (h.each i x y hx hy).base hb⟩
theorem QL.get {W : World} {B : Nat} {v : Value} {xs : List Qw} {l : List Wy} (h : QL W B v xs l) {k : Nat} (hk : k < l.length) : ∃ g cap x, v = .slice (some ⟨g, 0, none⟩) l.length cap ∧ l.length ≤ cap ∧ B ≤ g ∧ agg? W g (k * 5) 5 = some x.arr ∧ xs[k]? = some x ∧ QwIs W B x l[k] := by
  have hkx : k < xs.length := by rw [h.len]; exact hk
  obtain ⟨g, cap, e1, e2, e3, e4⟩ := row_agg Qw.cells (size := 5) (fun _ => rfl) h.row (by decide) hkx
  rw [h.len] at e1 e2
  exact ⟨g, cap, xs[k], e1, e2, e3, e4, List.getElem?_eq_getElem hkx, h.each k _ _ (List.getElem?_eq_getElem hkx) (List.getElem?_eq_getElem hk)⟩
theorem lex_step {a b : List Nat} {k : Nat} (ha : k < a.length) (hb : k < b.length) : lexB (a.reverse.drop k) (b.reverse.drop k) = if a[a.length - 1 - k]'(by omega) = b[b.length - 1 - k]'(by omega) then lexB (a.reverse.drop (k + 1)) (b.reverse.drop (k + 1)) else decide (a[a.length - 1 - k]'(by omega) < b[b.length - 1 - k]'(by omega)) := by
  have e1 : a.reverse.drop k = a[a.length - 1 - k]'(by omega) :: a.reverse.drop (k + 1) := by
    rw [List.drop_eq_getElem_cons (by simpa using ha)]
    congr 1
    rw [List.getElem_reverse]
  have e2 : b.reverse.drop k = b[b.length - 1 - k]'(by omega) :: b.reverse.drop (k + 1) := by
    rw [List.drop_eq_getElem_cons (by simpa using hb)]
    congr 1
    rw [List.getElem_reverse]
  rw [e1, e2, lexB]
theorem lex_end {a b : List Nat} {k : Nat} (ha : k ≤ a.length) (hb : k ≤ b.length) (h : ¬ (k < a.length ∧ k < b.length)) : lexB (a.reverse.drop k) (b.reverse.drop k) = decide (a.length < b.length) := by
  by_cases h1 : k < a.length
  · have h2 : k = b.length := by omega
    rw [List.drop_eq_nil_of_le (show b.reverse.length ≤ k by rw [List.length_reverse]; omega), List.drop_eq_getElem_cons (show k < a.reverse.length by simpa using h1)]
    rw [lexB]
    symm; simp; omega
  · have h2 : k = a.length := by omega
    rw [List.drop_eq_nil_of_le (show a.reverse.length ≤ k by rw [List.length_reverse]; omega)]
    by_cases h3 : k < b.length
    · rw [List.drop_eq_getElem_cons (show k < b.reverse.length by simpa using h3), lexB]
      symm; simp; omega
    · rw [List.drop_eq_nil_of_le (show b.reverse.length ≤ k by rw [List.length_reverse]; omega), lexB]
      symm; simp; omega
theorem q9better (B : Nat) (x y : Qw) (a b : Wy) (hla : a.ats.length ≤ 4000) (hlb : b.ats.length ≤ 4000) (w : World) (ha : QwIs w B x a) (hb : QwIs w B y b) :
    Calls Tryz.prog 59 #[.agg x.arr, .agg y.arr] w fun e w' => e = .returned (.bool (betB a b)) ∧ Below w.heap.size w w' := by
  have hb1 : Below w.heap.size w ((w.alloc (.cells x.arr 86)).alloc (.cells y.arr 86)) := ((Below.refl _ _).alloc (Nat.le_refl _) _).alloc (by simp) _
  have hx1 : QwAt ((w.alloc (.cells x.arr 86)).alloc (.cells y.arr 86)) w.heap.size x := (Below.heap_alloc _ _ _ (by simp)).trans (heap_alloc_new w _)
  have hy1 : QwAt ((w.alloc (.cells x.arr 86)).alloc (.cells y.arr 86)) (w.heap.size + 1) y := by
    have := heap_alloc_new (w.alloc (.cells x.arr 86)) (.cells y.arr 86)
    rwa [World.size_alloc] at this
  obtain ⟨g1, z1, k1⟩ := (ha.keep (KeepZ.of_below hb1)).zin
  obtain ⟨g2, z2, k2⟩ := (hb.keep (KeepZ.of_below hb1)).zin
  have H1 := Lib.hid z1
  have H2 := Lib.hid z2
  have Ha := Lib.hid ha
  have Hb := Lib.hid hb
  obtain ⟨R, hR⟩ : ∃ R, betB a b = R := ⟨_, rfl⟩
  rw [hR]
  have HR := Lib.hid hR
  clear ha hb z1 z2 hR
  go_enter Tryz.func59, Tryz.ntmps59
  go_upto_region 1 with (fail)
  obtain ⟨X, hX⟩ : ∃ X, w.heap.size = X := ⟨_, rfl⟩
  rw [hX] at hx1 hy1 ⊢
  generalize (w.alloc (.cells x.arr 86)).alloc (.cells y.arr 86) = w1 at hb1 hx1 hy1 H1 H2 ⊢
  have x0 := hx1.cell 0 _ (Qw.get0 x)
  have x2 := hx1.cell 2 _ (Qw.get2 x)
  have x3 := hx1.cell 3 _ (Qw.get3 x)
  have x4 := hx1.cell 4 _ (Qw.get4 x)
  have y0 := hy1.cell 0 _ (Qw.get0 y)
  have y2 := hy1.cell 2 _ (Qw.get2 y)
  have y3 := hy1.cell 3 _ (Qw.get3 y)
  have y4 := hy1.cell 4 _ (Qw.get4 y)
  rw [Ha.out.len] at x0
  rw [Ha.out.over] at x2
  rw [Ha.out.bad] at x3
  rw [Ha.out.total] at x4
  rw [Hb.out.len] at y0
  rw [Hb.out.over] at y2
  rw [Hb.out.bad] at y3
  rw [Hb.out.total] at y4
  have Hb1 := Lib.hid hb1
  clear hx1 hy1 hb1 hX
  have hbet := HR.out
  unfold betB at hbet
  by_cases h1 : a.over = b.over
  · rw [if_pos h1] at hbet
    rw [h1] at x2
    have e1 : (b.over != b.over) = false := by simp
    by_cases h2 : a.bad = b.bad
    · rw [if_pos h2] at hbet
      rw [h2] at x3
      have e2 : (b.bad != b.bad) = false := by simp
      by_cases h3 : a.total = b.total
      · rw [if_pos h3] at hbet
        rw [h3] at x4
        have e3 : (b.total != b.total) = false := by simp
        have HL := Lib.hid hbet
        clear hbet h1 h2 h3
        obtain ⟨na, hna⟩ : ∃ na, a.ats.length = na := ⟨_, rfl⟩
        obtain ⟨nb, hnb⟩ : ∃ nb, b.ats.length = nb := ⟨_, rfl⟩
        rw [hna] at x0 k1 hla
        rw [hnb] at y0 k2 hlb
        have Hna := Lib.hid hna
        have Hnb := Lib.hid hnb
        clear hna hnb
        go_wp2_with fail
        go_loopg [5] (na + 1) (fun gg t5 wr => ∃ k : Nat, gg = na + 1 - k ∧ t5 = .int .i64 ((k + 1 : Nat) : Int) ∧ k ≤ na ∧ k ≤ nb ∧ lexB (a.ats.reverse.drop k) (b.ats.reverse.drop k) = R ∧ wr = w1)
        case atStart => exact ⟨0, rfl, rfl, Nat.zero_le _, Nat.zero_le _, by rw [List.drop_zero, List.drop_zero]; exact HL.out, rfl⟩
        case round =>
          obtain ⟨k, rfl, rfl, hk1, hk2, hlx, rfl⟩ := hrel
          have Hlx := Lib.hid hlx
          clear hlx HL
          obtain ⟨i, hi⟩ : ∃ i, k + 1 = i := ⟨_, rfl⟩
          rw [hi]
          have hi0 : (0 : Int) ≤ (i : Int) := by omega
          have hi9 : i ≤ 4001 := by omega
          by_cases hka : k < na
          · have c1 : i ≤ na := by omega
            have c1' : (i : Int) ≤ (na : Int) := by omega
            by_cases hkb : k < nb
            · have c2 : i ≤ nb := by omega
              have c2' : (i : Int) ≤ (nb : Int) := by omega
              have hst := lex_step (a := a.ats) (b := b.ats) (k := k) (by rw [Hna.out]; exact hka) (by rw [Hnb.out]; exact hkb)
              have ca := H1.out.at_ (a.ats.length - 1 - k) (by rw [List.length_map, Hna.out]; omega)
              have cb := H2.out.at_ (b.ats.length - 1 - k) (by rw [List.length_map, Hnb.out]; omega)
              rw [List.getElem_map] at ca cb
              obtain ⟨u, hu⟩ : ∃ u, a.ats[a.ats.length - 1 - k]'(by rw [Hna.out]; omega) = u := ⟨_, rfl⟩
              obtain ⟨v, hv⟩ : ∃ v, b.ats[b.ats.length - 1 - k]'(by rw [Hnb.out]; omega) = v := ⟨_, rfl⟩
              rw [hu] at ca hst
              rw [hv] at cb hst
              obtain ⟨ja, hja⟩ : ∃ ja, a.ats.length - 1 - k = ja := ⟨_, rfl⟩
              obtain ⟨jb, hjb⟩ : ∃ jb, b.ats.length - 1 - k = jb := ⟨_, rfl⟩
              rw [hja] at ca
              rw [hjb] at cb
              have p1 := H1.out.hp (by intro e; have := congrArg List.length e; rw [List.length_map, Hna.out, List.length_nil] at this; omega)
              have p2 := H2.out.hp (by intro e; have := congrArg List.length e; rw [List.length_map, Hnb.out, List.length_nil] at this; omega)
              rw [p1] at x0
              rw [p2] at y0
              have ea : (na : Int) - (i : Int) = (ja : Int) := by rw [← hja, Hna.out, ← hi]; omega
              have eb : (nb : Int) - (i : Int) = (jb : Int) := by rw [← hjb, Hnb.out, ← hi]; omega
              have ja1 : (0 : Int) ≤ (ja : Int) := by omega
              have ja2 : (ja : Int) < (na : Int) := by omega
              have jb1 : (0 : Int) ≤ (jb : Int) := by omega
              have jb2 : (jb : Int) < (nb : Int) := by omega
              have Hst := Lib.hid hst
              have Hi := Lib.hid hi
              have hka' := Lib.hid hka
              have hkb' := Lib.hid hkb
              clear hu hv hja hjb p1 p2 hst hi hka hkb
              by_cases huv : u = v
              · subst huv
                have n1 : ((u : Int) != (u : Int)) = false := by simp
                have n2 : (u != u) = false := by simp
                have Hr2 := Lib.hid (show lexB (a.ats.reverse.drop (k + 1)) (b.ats.reverse.drop (k + 1)) = R by rw [← Hlx.out, Hst.out, if_pos rfl])
                go_wp2_with fail
                go_roundg (na + 1 - (k + 1))
                case measure => omega
                case rel => exact ⟨k + 1, rfl, by rw [Hi.out]; go_num, by have := hka'.out; omega, by have := hkb'.out; omega, Hr2.out, rfl⟩
              · have n1 : ((u : Int) != (v : Int)) = true := by simp; omega
                have n2 : (u != v) = true := by simpa using huv
                have Hr2 : Hid (decide (u < v) = R) := Lib.hid (by rw [← Hlx.out, Hst.out, if_neg huv])
                have n3 : decide ((u : Int) < (v : Int)) = decide (u < v) := by simp
                clear huv
                go_wp2_with fail
                go_ret
                refine ⟨ret_bool ?_, Hb1.out⟩
                rw [← Hr2.out]
            · have c2' : ¬ (i : Int) ≤ (nb : Int) := by omega
              have c2 : nb < i := by omega
              have c3 : (nb : Int) < (i : Int) := by omega
              have Hr2 : Hid (decide (na < nb) = R) := Lib.hid (by rw [← Hlx.out, lex_end (by rw [Hna.out]; exact hk1) (by rw [Hnb.out]; exact hk2) (by rw [Hna.out, Hnb.out]; omega), Hna.out, Hnb.out])
              have n3 : decide ((na : Int) < (nb : Int)) = decide (na < nb) := by simp
              clear hi hka hkb
              go_wp2_with fail
              go_ret
              refine ⟨ret_bool ?_, Hb1.out⟩
              rw [← Hr2.out]
          · have c1' : ¬ (i : Int) ≤ (na : Int) := by omega
            have c1 : na < i := by omega
            have c3 : (na : Int) < (i : Int) := by omega
            have Hr2 : Hid (decide (na < nb) = R) := Lib.hid (by rw [← Hlx.out, lex_end (by rw [Hna.out]; exact hk1) (by rw [Hnb.out]; exact hk2) (by rw [Hna.out, Hnb.out]; omega), Hna.out, Hnb.out])
            have n3 : decide ((na : Int) < (nb : Int)) = decide (na < nb) := by simp
            clear hi hka
            go_wp2_with fail
            go_ret
            refine ⟨ret_bool ?_, Hb1.out⟩
            rw [← Hr2.out]
      · rw [if_neg h3] at hbet
        have e3 : (a.total != b.total) = true := by simpa using h3
        have HL := Lib.hid hbet
        clear hbet h1 h2 h3
        go_wp2_with fail
        go_ret
        exact ⟨ret_bool HL.out, Hb1.out⟩
    · rw [if_neg h2] at hbet
      have e2 : (a.bad != b.bad) = true := by simpa using h2
      have HL := Lib.hid hbet
      clear hbet h1 h2
      go_wp2_with fail
      go_ret
      exact ⟨ret_bool HL.out, Hb1.out⟩
  · rw [if_neg h1] at hbet
    have e1 : (a.over != b.over) = true := by simpa using h1
    have HL := Lib.hid hbet
    clear hbet h1
    go_wp2_with fail
    go_ret
    exact ⟨ret_bool HL.out, Hb1.out⟩
end Go.Proofs.YtiijpbfkchokaaaGreat
