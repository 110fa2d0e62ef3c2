/-
  The document's side of layer 9: all ways to a paragraph's end (Ways), walked.
-/
import Derived.Test.YtiijpbfkchokaaaGreatF26
import Derived.Test.YtiijpbfkchokaaaGreatF28
import Derived.Test.YtiijpbfkchokaaaGreatJ2
namespace Go.Proofs.YtiijpbfkchokaaaGreat
open Go.ChangeShapes Go.WideShapes Go.ChangeAt Go.RowKit
attribute [local go_sem ↓] Go.wp_at_zero Go.wp_at_succ
structure QWaysPost (w : World) (l : List Wy) (e : Ending) (w' : World) : Prop where
  out : ∃ v xs, e = .returned v ∧ QL w' w.heap.size v xs l
  below : Below w.heap.size w w'
  len : l.length ≤ 100000
def predO : Nat → Option Nat
  | 0 => none
  | m + 1 => some m
theorem QwAt.keepZ {W : World} {b : Nat} {x : Qw} (h : QwAt W b x) (k : Nat) (v : Value) : KeepZ W (W.setCell ⟨b, k, none⟩ v) (some b) := by
  have hb2 : Below b W (W.setCell ⟨b, k, none⟩ v) := (Below.refl b W).setCell (p := ⟨b, k, none⟩) (Nat.le_refl _) _
  refine ⟨⟨hb2.os, hb2.tape, hb2.output, hb2.size, fun j hj hne => Below.heap_setCell _ _ _ _ (fun e => hne (by rw [e]))⟩, fun q hq _ => ?_⟩
  cases hq
  exact ⟨_, _, h, way_ne_int⟩
theorem owns_form3 {W : World} {B n size : Nat} {e : TypeId} {v : Value} {xs : List Value} (h : W.ownsRow B e size v n xs) : ∃ p k c, v = .slice p k c := by
  obtain ⟨p, c, e⟩ := owns_form h
  exact ⟨p, n, c, e⟩
theorem EndI.kept {w : World} {Z n : Nat} {vals : Nat → Value} {E : Nat → List Wy} {W W' : World} (h : EndI w Z n vals E W) {k : Nat} (hk : k < n) (hK : KeepZ W W' (vals k).ownBlock) : W'.cell? ⟨Z, k, none⟩ = some (vals k) ∧ W'.frozen? ⟨Z, k, none⟩ = false := by
  obtain ⟨xk, hxk⟩ := h.rows k hk
  have hZk : some Z ≠ (vals k).ownBlock := fun e => by have := (hxk.row.lt Z e.symm).1; omega
  have hob := (hK.grown.block Z h.lt hZk).trans h.ob
  exact ⟨by rw [cell?_blk' hob, vals_get vals hk], frozen_of_row W' Z k _ _ hob⟩
theorem waysE (one : Option Nat → Nat × Int → Int → Int → Bk) (all : Bool) (B : List (Nat × Int)) : waysW one all B = Ew one all B B.length (B.length - 1) := rfl
set_option maxRecDepth 100000 in
set_option maxHeartbeats 16000000 in
theorem q9ways (P : Pm) (g off2 : Nat) (S : List Sh2) (L : List Nd) (b off cap : Nat) (p0 : Option Addr) (s : List Nat) (tol ext : Int) (hok : TryOk P S L s tol ext) (all : Bool) (w : World) (hS : ShIn w P g off2 S) (hN : NIn w p0 b off cap L) :
    Calls Tryz.prog 32 #[.slice p0 L.length cap, .agg P.arr, .int .i64 tol, .int .i64 ext, .bool all] w (QWaysPost w (waysW (oneP L P S s tol ext) all (brkP L P s))) := by
  have hb0 : Below w.heap.size w (w.alloc (.cells P.arr 27)) := (Below.refl _ _).alloc (Nat.le_refl _) _
  have d0 : PAt (w.alloc (.cells P.arr 27)) w.heap.size P := heap_alloc_new w _
  have HPl := Lib.hid (q9places P p0 b off cap L hok.chk s hok.items _ (hN.below hb0))
  have hBn : (brkP L P s).length ≤ 2001 := by
    have := brkP_len (L := L) (P := P) (s := s)
    have := hok.items.len
    have := (checkC_zero hok.chk).1
    omega
  have hB1 : 1 ≤ (brkP L P s).length := by unfold brkP; rw [List.length_append, List.length_singleton]; omega
  have HO : Hid (∀ W, Below w.heap.size w W → ∀ (f : Option Nat) (k : Nat) (z : Nat × Int) (line before : Int), (brkP L P s)[k]? = some z → (∀ x, f = some x → x ∈ s ∧ x < z.1) → (1 ≤ line ∧ line ≤ 1000000) → (-10 ≤ before ∧ before ≤ 10) → Calls Tryz.prog 57 #[.slice p0 L.length cap, .agg P.arr, .int .i64 tol, .int .i64 ext, .int .i64 (fI f), .int .i64 z.1, .int .i64 z.2, .int .i64 line, .int .i64 before] W fun e w' => e = .returned (.agg (oneP L P S s tol ext f z line before).arr) ∧ Below W.heap.size W w') := Lib.hid fun W hb f k z line before hz hf hl hbf => by
    have hm := brkP_mem (List.mem_of_getElem? hz)
    exact q9one P g off2 S L b off cap p0 s ⟨hok.pm, hok.chk, hok.items⟩ tol ext hok.ext f z.1 z.2 hm.2 hf hm.1 line before hl hbf W (hS.below hb) (hN.below hb)
  have Hok := Lib.hid hok
  obtain ⟨one, hone⟩ : ∃ one, oneP L P S s tol ext = one := ⟨_, rfl⟩
  have Hone := Lib.hid hone
  rw [hone] at HO ⊢
  obtain ⟨BL, hBL⟩ : ∃ BL, brkP L P s = BL := ⟨_, rfl⟩
  have HBL := Lib.hid hBL
  have Hbb : Hid (∀ (i j : Nat) (x y : Nat × Int), BL[i]? = some x → BL[j]? = some y → i < j → x.1 ∈ s ∧ x.1 < y.1) := Lib.hid fun i j x y hi hj hij => by rw [← hBL] at hi hj; exact brk_before hok.items hi hj hij
  have Hbd : Hid (∀ (f : Option Nat) (x : Nat × Int) (line before : Int), (∀ y, f = some y → y ∈ s) → x ∈ BL → BkB (one f x line before)) := Lib.hid fun f x line before hf hx => by rw [← hone]; exact one_bound hok hf (by rw [hBL]; exact hx) line before
  have Hxb : Hid (∀ (f : Option Nat) (x : Nat × Int) (k : Nat) (acc : List Wy) (a : Wy), (∀ y, f = some y → y ∈ s) → x ∈ BL → Lok k acc → WyB k a → Lok k (extW one all f x acc a)) := Lib.hid fun f x k acc a hf hx ha hb => by rw [← hone]; exact ext_bound hok hf (by rw [hBL]; exact hx) ha hb
  rw [hBL] at HPl HO hBn hB1 ⊢
  clear hok hS hN hone hBL
  go_enter Tryz.func32, Tryz.ntmps32
  go_upto_region 1 with (fail)
  obtain ⟨X0, hX0⟩ : ∃ X0, w.heap.size = X0 := ⟨_, rfl⟩
  rw [hX0] at d0 ⊢
  generalize w.alloc (.cells P.arr 27) = w1 at hb0 d0 HPl ⊢
  have HA : Hid (∀ W, Below w1.heap.size w1 W → agg? W X0 0 24 = some P.arr) := Lib.hid fun W hb => by rw [agg?_blk' (d0.still hb) 0 24 (by rw [Pm.size_arr]; decide)]; simp [Pm.arr, Pm.cells]
  have a0 := HA.out w1 (Below.refl _ _)
  have Hb0 := Lib.hid hb0
  have HX0 := Lib.hid hX0
  clear hb0 d0 hX0
  go_upto_region 2 with (go_at_call 41; refine HPl.out.mono ?_; clear HPl; rintro e w2 hp; obtain ⟨pv, gv, cv, pu, gu, cu, rfl, zv, zu, k1, k2⟩ := places_read hp; have hb2 := hp.below; clear hp)
  clear a0
  have Hv := Lib.hid zv
  have Hu := Lib.hid zu
  have Hb2 := Lib.hid hb2
  have Hb02 := Lib.hid (Hb0.out.trans (hb2.mono Hb0.out.size))
  obtain ⟨n, hn⟩ : ∃ n, BL.length = n := ⟨_, rfl⟩
  rw [hn] at hBn k1 k2 hB1
  simp only [hn]
  have Hn := Lib.hid hn
  clear zv zu hb2 hn
  have hmk := run_mkQ n (by omega)
  have hE0 := EndI.init (w := w2) (n := n)
  obtain ⟨Z, hZ⟩ : ∃ Z, w2.heap.size = Z := ⟨_, rfl⟩
  rw [hZ] at hE0
  go_upto_region 3 with (fail)
  try rw [hZ]
  clear hmk hZ
  generalize w2.alloc (.cells ((List.range n).map fun _ => Value.slice none 0 0).toArray 83) = w3 at hE0 ⊢
  have HE0 := Lib.hid hE0
  clear hE0
  go_wp2_with fail
  go_loopg [14] (n + 1) (fun gg t14 wr => ∃ (i : Nat) (vals : Nat → Value), gg = n + 1 - i ∧ i ≤ n ∧ t14 = .int .i64 i ∧ EndI w2 Z n vals (Ew one all BL i) wr ∧ ∀ j, j < i → Lok j (Ew one all BL i j))
  case atStart => exact ⟨0, _, rfl, Nat.zero_le _, rfl, by rw [Ew_zero]; exact HE0.out, fun j hj => absurd hj (Nat.not_lt_zero _)⟩
  case round =>
    clear HE0
    obtain ⟨i, vals, rfl, hin, rfl, hE, hlok⟩ := hrel
    have HE := Lib.hid hE
    have Hlok := Lib.hid hlok
    have hi0 : (0 : Int) ≤ (i : Int) := by omega
    clear hE hlok
    by_cases hlt : i < n
    · have hi1 : (i : Int) < (n : Int) := by omega
      have hlt2 : decide (i < n) = true := decide_eq_true hlt
      obtain ⟨z, hz⟩ : ∃ z, BL[i]? = some z := ⟨_, List.getElem?_eq_getElem (by rw [Hn.out]; exact hlt)⟩
      have hzD : BL.getD i (0, 0) = z := by rw [List.getD_eq_getElem?_getD, hz]; rfl
      have Hz := Lib.hid hz
      obtain ⟨T, hT⟩ : ∃ T, endW one all BL (endsW one all BL i) i = T := ⟨_, rfl⟩
      have hT2 := hT
      rw [endW_fold, hzD] at hT2
      have HT2 := Lib.hid hT2
      have HEs : Hid (Ew one all BL (i + 1) = upE (Ew one all BL i) i T) := Lib.hid (by rw [Ew_succ, hT])
      have HEi : Hid (upE (Ew one all BL i) i [] = Ew one all BL i) := Lib.hid (by have := upE_same (Ew one all BL i) i; rwa [Ew_none one all BL (Nat.le_refl i)] at this)
      have hlt9 := Lib.hid hlt
      clear hz hzD hT hT2 hlt
      go_wp2_with fail
      go_loopg [15] (i + 2) (fun gg t15 wr => ∃ (jj : Int) (vm : Nat → Value) (acc : List Wy), gg = (jj + 3).toNat ∧ t15 = .int .i64 jj ∧ -2 ≤ jj ∧ jj < i ∧ EndI w2 Z n vm (upE (Ew one all BL i) i acc) wr ∧ Lok i acc ∧ ((∃ m : Nat, jj = (m : Int) - 1 ∧ m ≤ i ∧ (preds (penA BL) m).foldl (stepW one all BL i z) acc = T) ∨ (jj = -2 ∧ acc = T)))
      case atStart => exact ⟨(i : Int) - 1, vals, [], by omega, by go_num, by omega, by omega, by rw [HEi.out]; exact HE.out, Lok.nil i, .inl ⟨i, rfl, Nat.le_refl _, HT2.out⟩⟩
      case round =>
        obtain ⟨jj, vm, acc, rfl, rfl, hj1, hj2, hEm, hla, hmode⟩ := hrel
        have HEm := Lib.hid hEm
        have Hla := Lib.hid hla
        have Hmode := Lib.hid hmode
        clear hEm hla hmode HE HT2 HEi
        by_cases hjm : -1 ≤ jj
        · have hjm2 : decide (-1 ≤ jj) = true := decide_eq_true hjm
          obtain ⟨m, hmj, hmi, hfold⟩ : ∃ m : Nat, jj = (m : Int) - 1 ∧ m ≤ i ∧ (preds (penA BL) m).foldl (stepW one all BL i z) acc = T := by
            rcases Hmode.out with h | ⟨h, _⟩
            · exact h
            · omega
          obtain ⟨o, ho⟩ : ∃ o : Option Nat, predO m = o := ⟨_, rfl⟩
          obtain ⟨la, hla2⟩ : ∃ la, aheadW (endsW one all BL i) o = la := ⟨_, rfl⟩
          obtain ⟨f, hf⟩ : ∃ f, atA BL o = f := ⟨_, rfl⟩
          obtain ⟨U, hU⟩ : ∃ U, la.foldl (extW one all f z) acc = U := ⟨_, rfl⟩
          have hstep : stepW one all BL i z acc o = U := by unfold stepW; rw [hla2, hf, hU]
          have hwy : ∀ a ∈ la, WyB i a := fun a ha => by
            rw [← hla2] at ha
            cases m with
            | zero =>
              obtain rfl : none = o := ho
              simp only [aheadW, List.mem_singleton] at ha
              rw [ha]; exact WyB.start i
            | succ m' =>
              obtain rfl : some m' = o := ho
              exact ((Hlok.out m' (by omega)).wb a ha).mono (by omega)
          have hlen : la.length ≤ 50000 := by
            rw [← hla2]
            cases m with
            | zero => obtain rfl : none = o := ho; simp [aheadW]
            | succ m' =>
              obtain rfl : some m' = o := ho
              have := (Hlok.out m' (by omega)).len
              show (Ew one all BL i m').length ≤ _
              omega
          have hfx : ∀ x, f = some x → x ∈ s ∧ x < z.1 := fun x hx => by
            cases m with
            | zero => obtain rfl : none = o := ho; rw [← hf] at hx; cases hx
            | succ m' =>
              obtain rfl : some m' = o := ho
              rw [← hf] at hx
              have hm' : m' < BL.length := by rw [Hn.out]; omega
              have hg : BL[m']? = some BL[m'] := List.getElem?_eq_getElem hm'
              have e : (BL.getD m' (0, 0)) = BL[m'] := by rw [List.getD_eq_getElem?_getD, hg]; rfl
              simp only [atA, Option.some.injEq] at hx
              rw [e] at hx
              have := Hbb.out m' i _ _ hg Hz.out (by omega)
              rw [hx] at this
              exact this
          have hend : (m = 0 → U = T) ∧ (∀ m', m = m' + 1 → if penA BL m' ≤ -10000 then U = T else (preds (penA BL) m').foldl (stepW one all BL i z) U = T) := by
            constructor
            · intro h0
              subst h0
              obtain rfl : none = o := ho
              rw [← hstep, ← hfold]; rfl
            · intro m' h0
              subst h0
              obtain rfl : some m' = o := ho
              rw [preds_fold, hstep] at hfold
              split
              · rename_i h; rw [if_pos h] at hfold; exact hfold
              · rename_i h; rw [if_neg h] at hfold; exact hfold
          have Hend := Lib.hid hend
          have Hla2 := Lib.hid hla2
          have Hf := Lib.hid hf
          have HU := Lib.hid hU
          have Hwy := Lib.hid hwy
          have Hfx := Lib.hid hfx
          have Ho := Lib.hid ho
          have HQs : Hid (∀ W : World, Z + 1 ≤ W.heap.size → QL (W.alloc (.cells (Qw.mk none 0 0 2 0 0 0).arr 86)) (Z + 1) (.slice (some ⟨W.heap.size, 0, none⟩) 1 1) [⟨none, 0, 0, 2, 0, 0, 0⟩] [Wy.start]) := Lib.hid fun W hW => QL.start hW
          have Hmj := Lib.hid hmj
          clear hend hla2 hf hU hwy hfx ho hstep hfold hjm Hmode hmj
          have hZm := HEm.out.lt
          go_upto_if 45 with (fail)
          have hQ0 := HQs.out wr (by omega)
          have hbA : Below wr.heap.size wr (wr.alloc (.cells (Qw.mk none 0 0 2 0 0 0).arr 86)) := (Below.refl _ _).alloc (Nat.le_refl _) _
          have HQ0 := Lib.hid hQ0
          have HbA := Lib.hid hbA
          obtain ⟨SA, hSA⟩ : ∃ SA, wr.heap.size = SA := ⟨_, rfl⟩
          rw [hSA] at HQ0
          have HSA := Lib.hid hSA
          try rw [hSA]
          clear HQs hQ0 hbA hSA
          generalize wr.alloc (.cells (Qw.mk none 0 0 2 0 0 0).arr 86) = wA at HQ0 HbA ⊢
          go_cut [16, 17] from 46 to 53 (fun s16 s17 wx => s16 = .int .i64 (fI f) ∧ wA = wx ∧ ∃ xsa, QL wx (Z + 1) s17 xsa la ∧ ∀ q, s17.ownBlock = some q → (vm i).ownBlock ≠ some q)
          case first =>
            have hEA := HEm.out.still HbA.out
            cases m with
            | zero =>
              have hmj := Hmj.out
              obtain rfl : jj = -1 := by omega
              clear hmj
              obtain rfl : none = o := Ho.out
              obtain rfl : none = f := Hf.out
              obtain rfl : [Wy.start] = la := Hla2.out
              go_wp2_with fail
              go_meet
              refine ⟨rfl, rfl, _, HQ0.out, fun q hq => ?_⟩
              cases hq
              obtain ⟨xs, hx⟩ := HEm.out.rows i (by omega)
              intro e
              have := (hx.row.lt SA e).2
              rw [HSA.out] at this
              omega
            | succ m' =>
              have hmj := Hmj.out
              obtain rfl : jj = (m' : Int) := by omega
              clear hmj
              obtain rfl : some m' = o := Ho.out
              have hm' : m' < BL.length := by rw [Hn.out]; omega
              have hg : BL[m']? = some BL[m'] := List.getElem?_eq_getElem hm'
              have e : (BL.getD m' (0, 0)) = BL[m'] := by rw [List.getD_eq_getElem?_getD, hg]; rfl
              have hf9 := Hf.out
              simp only [atA] at hf9
              rw [e] at hf9
              obtain ⟨y, hy⟩ : ∃ y, BL[m'] = y := ⟨_, rfl⟩
              rw [hy] at hf9 hg
              obtain rfl : some y.1 = f := hf9
              obtain ⟨rfl, cg2⟩ := ats_cell (Hv.out.below hEA.below) hg
              have hmn : m' < n := by omega
              have cz := hEA.cell hmn
              obtain ⟨xs, hx⟩ := hEA.rows m' hmn
              rw [upE_ne _ _ (show m' ≠ i by omega)] at hx
              obtain rfl : Ew one all BL i m' = la := Hla2.out
              have Hx := Lib.hid hx
              have hne := hEA.ne m' i hmn (by omega) (by omega)
              have hm0 : (0 : Int) ≤ (m' : Int) := by omega
              have hm1 : (m' : Int) < (n : Int) := by omega
              have HNe := Lib.hid hne
              clear hEA hx hne e hg hy
              go_wp2_with fail
              go_meet
              exact ⟨rfl, rfl, xs, Hx.out, HNe.out⟩
          case rest =>
            obtain ⟨rfl, rfl, xsa, hqa, hna⟩ := hcut
            obtain ⟨pva, cva, rfl⟩ := owns_form hqa.row
            have HEA := Lib.hid (HEm.out.still HbA.out)
            obtain ⟨nl, hnl⟩ : ∃ nl, la.length = nl := ⟨_, rfl⟩
            have Hnl := Lib.hid hnl
            rw [hnl] at hlen hqa hna
            simp only [hnl]
            have Hqa := Lib.hid hqa
            have Hna := Lib.hid hna
            clear hqa hna hnl HQ0 HEm
            go_wp2_with fail
            go_loopg [18] (nl + 1) (fun gg t18 wk => ∃ (k : Nat) (vk : Nat → Value) (ak : List Wy), gg = nl + 1 - k ∧ t18 = .int .i64 k ∧ k ≤ nl ∧ EndI w2 Z n vk (upE (Ew one all BL i) i ak) wk ∧ Lok i ak ∧ (la.drop k).foldl (extW one all f z) ak = U ∧ QL wk (Z + 1) (.slice pva nl cva) xsa la ∧ ∀ q, (Value.slice pva nl cva).ownBlock = some q → (vk i).ownBlock ≠ some q)
            case atStart => exact ⟨0, vm, acc, rfl, rfl, Nat.zero_le _, HEA.out, Hla.out, by rw [List.drop_zero]; exact HU.out, Hqa.out, Hna.out⟩
            case round =>
              clear HEA Hqa Hna HU Hla
              obtain ⟨k, vk, ak, rfl, rfl, hk, hEk, hlk, hfk, hqk, hnk⟩ := hrel
              have HEk := Lib.hid hEk
              have Hlk := Lib.hid hlk
              have Hfk := Lib.hid hfk
              have Hqk := Lib.hid hqk
              have Hnk := Lib.hid hnk
              have hk0 : (0 : Int) ≤ (k : Int) := by omega
              clear hEk hlk hfk hqk hnk
              by_cases hkl : k < nl
              · have hk1 : (k : Int) < (nl : Int) := by omega
                have hkd : decide (k < nl) = true := decide_eq_true hkl
                have hkl2 : k < la.length := by rw [Hnl.out]; exact hkl
                have hq := Hqk.out
                rw [← Hnl.out] at hq
                obtain ⟨g9, cap9, xa, e1, hcap, hgB, a1, hxk, hxi⟩ := hq.get hkl2
                simp only [Value.slice.injEq] at e1
                obtain ⟨rfl, _, rfl⟩ := e1
                rw [Hnl.out] at hcap
                obtain ⟨a, ha⟩ : ∃ a, la[k] = a := ⟨_, rfl⟩
                rw [ha] at hxi
                have hdr : la.drop k = a :: la.drop (k + 1) := by rw [List.drop_eq_getElem_cons hkl2, ha]
                have hwa := Hwy.out a (by rw [← ha]; exact List.getElem_mem hkl2)
                have hfk := Hfk.out
                rw [hdr, List.foldl_cons] at hfk
                obtain ⟨rfl, cg2⟩ := ats_cell (Hv.out.below HEk.out.below) Hz.out
                obtain ⟨rfl, cg3⟩ := pens_cell (Hu.out.below HEk.out.below) Hz.out
                obtain ⟨nk, hnk9⟩ : ∃ nk, a.ats.length = nk := ⟨_, rfl⟩
                have HK : Hid (∀ W, Below wr.heap.size wr W → agg? W X0 0 24 = some P.arr ∧ W.cell? ⟨gv, i, none⟩ = some (.int .i64 z.1) ∧ W.cell? ⟨gu, i, none⟩ = some (.int .i64 z.2) ∧ W.cell? ⟨g9, k * 5, none⟩ = some (.slice xa.atA nk xa.atC) ∧ W.cell? ⟨g9, k * 5 + 1, none⟩ = some (.int .i64 a.cls) ∧ W.cell? ⟨g9, k * 5 + 2, none⟩ = some (.int .i64 a.over) ∧ W.cell? ⟨g9, k * 5 + 3, none⟩ = some (.int .i64 a.bad) ∧ W.cell? ⟨g9, k * 5 + 4, none⟩ = some (.int .i64 a.total)) := Lib.hid fun W hW => by
                  have hg : g9 < wr.heap.size := (hq.row.lt g9 rfl).2
                  have a2 : agg? W g9 (k * 5) 5 = some xa.arr := ((bfacts hW).2.2.1 _ _ _ hg).trans a1
                  have hb12 := Hb2.out.trans ((HEk.out.below.trans (hW.mono HEk.out.below.size)).mono Hb2.out.size)
                  refine ⟨HA.out W hb12, cell_below9 cg2 hW, cell_below9 cg3 hW, ?_, ?_, ?_, ?_, ?_⟩
                  · have := agg_cell a2 0 _ (Qw.get0 xa); rw [hxi.len, hnk9] at this; exact this
                  · have := agg_cell a2 1 _ (Qw.get1 xa); rw [hxi.cls] at this; exact this
                  · have := agg_cell a2 2 _ (Qw.get2 xa); rw [hxi.over] at this; exact this
                  · have := agg_cell a2 3 _ (Qw.get3 xa); rw [hxi.bad] at this; exact this
                  · have := agg_cell a2 4 _ (Qw.get4 xa); rw [hxi.total] at this; exact this
                obtain ⟨ln, hln⟩ : ∃ ln, (nk : Int) + 1 = ln := ⟨_, rfl⟩
                have hnk2 : nk ≤ i := by rw [← hnk9]; exact hwa.len
                obtain ⟨x9, hx9⟩ : ∃ x9, one f z ln a.cls = x9 := ⟨_, rfl⟩
                have HO1 : Hid (∀ W, Below wr.heap.size wr W → Calls Tryz.prog 57 #[.slice p0 L.length cap, .agg P.arr, .int .i64 tol, .int .i64 ext, .int .i64 (fI f), .int .i64 z.1, .int .i64 z.2, .int .i64 ln, .int .i64 a.cls] W fun e w' => e = .returned (.agg x9.arr) ∧ Below W.heap.size W w') := Lib.hid fun W hW => by
                  have hbW := Hb02.out.trans ((HEk.out.below.trans (hW.mono HEk.out.below.size)).mono Hb02.out.size)
                  have := HO.out W hbW f i z ln a.cls Hz.out Hfx.out (by omega) hwa.cls
                  rw [hx9] at this
                  exact this
                have Hx9b := Lib.hid (show BkB x9 by rw [← hx9]; exact Hbd.out f z ln a.cls (fun y hy => (Hfx.out y hy).1) (List.mem_of_getElem? Hz.out))
                obtain ⟨cc, hcc⟩ : ∃ cc, (x9.isBad && !all) = cc := ⟨_, rfl⟩
                have Hext : Hid ((la.drop (k + 1)).foldl (extW one all f z) (if cc = true then ak else addW ak (a.ext z.1 x9)) = U) := Lib.hid (by
                  rw [← hfk]
                  congr 1
                  unfold extW
                  rw [hnk9, hln, hx9, hcc])
                have Hcc := Lib.hid hcc
                have Hwa := Lib.hid hwa
                have Hxi := Lib.hid hxi
                have Hln := Lib.hid hln
                have Hnk9 := Lib.hid hnk9
                have hwl : IntKind.i64.wrap ((nk : Int) + 1) = ln := by rw [hln]; exact Go.IntWalk.i64_in _ (by omega)
                clear ha hdr hwa hfk hxi hx9 hcc hln hnk9 hq a1 hxk cg2 cg3 hkl Hfk
                have hz0 : (0 : Int) ≤ (z.1 : Int) := by omega
                go_upto_region 17 with (fail)
                have hbd : Below wr.heap.size wr wr.drew := (Below.refl _ _).drew
                have hbA : Below wr.heap.size wr (wr.alloc (.cells (Bk.mk 0 0 0 0 0 false).arr 92)).drew := ((Below.refl _ wr).alloc (Nat.le_refl _) _).drew
                have hzA : QBkAt (wr.alloc (.cells (Bk.mk 0 0 0 0 0 false).arr 92)).drew wr.heap.size ⟨0, 0, 0, 0, 0, false⟩ := heap_alloc_new wr _
                have hltA : wr.heap.size < (wr.alloc (.cells (Bk.mk 0 0 0 0 0 false).arr 92)).drew.heap.size := hzA.lt
                have HS : Hid (∀ W, Below wr.heap.size wr W → agg? W X0 0 24 = some P.arr ∧ W.cell? ⟨gv, i, none⟩ = some (.int .i64 z.1) ∧ W.cell? ⟨gu, i, none⟩ = some (.int .i64 z.2) ∧ W.cell? ⟨g9, k * 5, none⟩ = some (.slice xa.atA nk xa.atC) ∧ W.cell? ⟨g9, k * 5 + 1, none⟩ = some (.int .i64 a.cls)) := Lib.hid fun W hW => ⟨(HK.out W hW).1, (HK.out W hW).2.1, (HK.out W hW).2.2.1, (HK.out W hW).2.2.2.1, (HK.out W hW).2.2.2.2.1⟩
                have HSd := HS.out _ hbd
                have HSs : Hid (∀ W v, Below wr.heap.size wr W → agg? (setAgg W wr.heap.size 0 v) X0 0 24 = some P.arr ∧ (setAgg W wr.heap.size 0 v).cell? ⟨gv, i, none⟩ = some (.int .i64 z.1) ∧ (setAgg W wr.heap.size 0 v).cell? ⟨gu, i, none⟩ = some (.int .i64 z.2) ∧ (setAgg W wr.heap.size 0 v).cell? ⟨g9, k * 5, none⟩ = some (.slice xa.atA nk xa.atC) ∧ (setAgg W wr.heap.size 0 v).cell? ⟨g9, k * 5 + 1, none⟩ = some (.int .i64 a.cls)) := Lib.hid fun W v hb => HS.out _ (Below.setAgg hb (Nat.le_refl _) _ _)
                go_cut [19] from 60 to 85 (fun s19 wx => ∃ V, s19 = .pointer (some ⟨V, 0, none⟩) ∧ QBkAt wx V x9 ∧ wr.heap.size ≤ V ∧ Below wr.heap.size wr wx)
                case first =>
                  go_region_held3 (fun W => agg? W X0 0 24 = some P.arr ∧ W.cell? ⟨gv, i, none⟩ = some (.int .i64 z.1) ∧ W.cell? ⟨gu, i, none⟩ = some (.int .i64 z.2) ∧ W.cell? ⟨g9, k * 5, none⟩ = some (.slice xa.atA nk xa.atC) ∧ W.cell? ⟨g9, k * 5 + 1, none⟩ = some (.int .i64 a.cls))
                    (first | (with_reducible exact HSd) | (with_reducible exact HS.out _ hbA) | (with_reducible exact HS.out _ hd5) | (with_reducible exact HS.out _ hd6) | (with_reducible exact HS.out _ hd7) | (with_reducible exact HSs.out _ _ hd5))
                    ((first | (go_at_call 57; refine (HO1.out _ (by first | exact hbd | exact hbA)).mono ?_; rintro e w5 ⟨rfl, hb5⟩; have hd5 : Below wr.heap.size wr w5 := (by first | exact hbd.trans hb5 | exact hbA.trans (hb5.mono hbA.size)); have hd6 : Below wr.heap.size wr (w5.alloc (.cells (Bk.mk 0 0 0 0 0 false).arr 92)) := hd5.alloc hd5.size _; have hd7 : Below wr.heap.size wr (w5.alloc (.cells x9.arr 92)) := hd5.alloc hd5.size _; (first | (have hz5 : QBkAt w5 wr.heap.size ⟨0, 0, 0, 0, 0, false⟩ := (hb5.block _ hltA).trans hzA; have t5 := hz5.there) | skip))))
                  · go_wp2_with fail
                    go_meet
                    exact ⟨w5.heap.size, rfl, heap_alloc_new w5 _, hd5.size, hd7⟩
                  · go_wp2_with fail
                    go_meet
                    exact ⟨wr.heap.size, rfl, hz5.store, Nat.le_refl _, Below.setAgg hd5 (Nat.le_refl _) _ _⟩
                case rest =>
                  obtain ⟨V, rfl, hV, hVl, hb5⟩ := hcut
                  have y5 := hV.cell 5 _ (Bk.get5 x9)
                  have HV := Lib.hid hV
                  have HB5 := Lib.hid hb5
                  clear hbd hbA hzA hltA HS HSd HSs HO1 hwl hV hb5
                  obtain ⟨bb, hbb⟩ : ∃ bb, x9.isBad = bb := ⟨_, rfl⟩
                  have Hbb9 := Lib.hid hbb
                  have hcc := Hcc.out
                  rw [hbb] at y5 hcc
                  clear hbb
                  go_upto_region 18 with (fail)
                  go_cut [91] from 86 to 91 (fun s91 wx => s91 = .bool cc ∧ wc = wx)
                  case first =>
                    cases bb with
                    | false =>
                      obtain rfl : false = cc := hcc
                      go_wp2_with fail
                      go_meet
                      exact ⟨rfl, rfl⟩
                    | true =>
                      obtain rfl : (!all) = cc := hcc
                      go_wp2_with fail
                      go_meet
                      exact ⟨rfl, rfl⟩
                  case rest =>
                    obtain ⟨rfl, rfl⟩ := hcut
                    have hEc := HEk.out.still HB5.out
                    have hqc := Hqk.out.still HB5.out
                    cases cc with
                    | true =>
                      have HEc := Lib.hid hEc
                      have Hqc := Lib.hid hqc
                      clear hEc hqc hcc
                      go_wp2_with fail
                      go_roundg (nl + 1 - (k + 1))
                      case measure => omega
                      case rel => exact ⟨k + 1, vk, ak, rfl, by go_num, by omega, HEc.out, Hlk.out, by have := Hext.out; simpa using this, Hqc.out, Hnk.out⟩
                    | false =>
                      have Hext2 : Hid ((la.drop (k + 1)).foldl (extW one all f z) (addW ak (a.ext z.1 x9)) = U) := Lib.hid (by have := Hext.out; rwa [if_neg (by decide)] at this)
                      clear hEc hqc hcc Hext Hcc y5
                      have HKc := Lib.hid (HK.out _ HB5.out)
                      go_upto_region 19 with (fail)
                      go_cut [20] from 92 to 128 (fun s20 wx => ∃ V2 x0, s20 = .pointer (some ⟨V2, 0, none⟩) ∧ QwAt wx V2 x0 ∧ QwIs wx (Z + 1) x0 ⟨a.ats ++ [z.1], x9.cls, a.over + x9.over, a.bad, a.total + x9.dem⟩ ∧ wr.heap.size ≤ V2 ∧ Below wc.heap.size wc wx)
                      case first =>
                        have hwa := Hwa.out
                        have hxb := Hx9b.out
                        have hwo : IntKind.i64.wrap (a.over + x9.over) = a.over + x9.over := Go.IntWalk.i64_in _ (by have := hwa.over; have := hwa.len; have := hxb.over; omega)
                        have hwt : IntKind.i64.wrap (a.total + x9.dem) = a.total + x9.dem := Go.IntWalk.i64_in _ (by have := hwa.total; have := hwa.len; have := hxb.dem; omega)
                        obtain ⟨La, hLa⟩ : ∃ La, a.ats.map (fun q : Nat => (q : Int)) = La := ⟨_, rfl⟩
                        have hLn : La.length = nk := by rw [← hLa, List.length_map, Hnk9.out]
                        have HLn := Lib.hid hLn
                        have HAr : Hid (wr.ownsRow (Z + 1) 3 1 (.slice xa.atA nk xa.atC) La.length (ints La)) := Lib.hid (by
                          have h := Hxi.out.row
                          rw [Hxi.out.len, Hnk9.out, hLa] at h
                          rw [hLn]
                          exact h)
                        have HL : Hid (∀ W, Below wc.heap.size wc W → W.cell? ⟨gv, i, none⟩ = some (.int .i64 z.1) ∧ W.cell? ⟨g9, k * 5, none⟩ = some (.slice xa.atA nk xa.atC) ∧ W.cell? ⟨g9, k * 5 + 2, none⟩ = some (.int .i64 a.over) ∧ W.cell? ⟨g9, k * 5 + 3, none⟩ = some (.int .i64 a.bad) ∧ W.cell? ⟨g9, k * 5 + 4, none⟩ = some (.int .i64 a.total) ∧ W.cell? ⟨V, 2, none⟩ = some (.int .i64 x9.cls) ∧ W.cell? ⟨V, 3, none⟩ = some (.int .i64 x9.dem) ∧ W.cell? ⟨V, 4, none⟩ = some (.int .i64 x9.over)) := Lib.hid fun W hW => by
                          have h1 := HK.out W (HB5.out.trans (hW.mono HB5.out.size))
                          have h2 := HV.out.still hW
                          exact ⟨h1.2.1, h1.2.2.2.1, h1.2.2.2.2.2.1, h1.2.2.2.2.2.2.1, h1.2.2.2.2.2.2.2, h2.cell 2 _ (Bk.get2 x9), h2.cell 3 _ (Bk.get3 x9), h2.cell 4 _ (Bk.get4 x9)⟩
                        have HLa := Lib.hid hLa
                        have hnk3 : nk ≤ 4000 := by omega
                        clear hwa hxb hLa HKc hLn
                        refine region_makers [0, 6, 11, 12, 36, 37, 38] (fun W => Below wc.heap.size wc W) (J19 wc La z.1 ⟨none, 0, 0, x9.cls, a.over + x9.over, a.bad, a.total + x9.dem⟩) follows (by kernel_rfl) (fun m us W h => h.below) (fun us => J19.init) ?_
                        iterate 39 first
                          | (refine TK.pass rfl ?_)
                          | (refine TK.read rfl _ (by intro wT hT K hK; simp only [Act.put, lsA, lsB, lsC] at hK; obtain ⟨y1, y2, y3, y4, y5, y6, y7, y8⟩ := HL.out _ hT; go_step; exact hK _ rfl) ?_; try simp only [Act.put, lsA, lsB, lsC])
                        refine TK.nil fun us => ?_
                        refine KW.step _ rfl (fun m W hJ h0 hD R hR => wp_bs0 rfl (hR _ _ (hJ.step0 h0))) ?_
                        try simp only [Act.put, lsA, lsB, lsC]
                        refine KW.step _ rfl (fun m W hJ h6 hD R hR => ?_) ?_
                        · have h0 : m 0 = true := hD 0 rfl (by kernel_rfl)
                          obtain ⟨v', w', q1, q2, q3, q4⟩ := run_append_ints (hJ.s0 h0 h6) HAr.out (fun q hq hlt => (hJ.below.block q (Nat.lt_of_lt_of_le hlt HB5.out.size)).trans (HB5.out.block q hlt)) (by rw [HLn.out]; omega) hJ.below.size 41
                          exact wp_appI (.tmp 92) (.tmp 97) 41 rfl (us 0) (.slice xa.atA nk xa.atC) rfl rfl q1 (hR _ _ (hJ.step6 h6 h0 q2 q3 q4))
                        try simp only [Act.put, lsA, lsB, lsC]
                        refine KW.step _ rfl (fun m W hJ h11 hD R hR => wp_bs1 (.tmp 102) z.1 rfl rfl (hR _ _ (hJ.step11 h11))) ?_
                        try simp only [Act.put, lsA, lsB, lsC]
                        refine KW.step _ rfl (fun m W hJ h12 hD R hR => ?_) ?_
                        · have h6 : m 6 = true := hD 6 rfl (by kernel_rfl)
                          have h11 : m 11 = true := hD 11 rfl (by kernel_rfl)
                          obtain ⟨v', w', q1, q2, q3, _⟩ := run_append_ints (hJ.s6 h6 h12) (hJ.row11 h11 h12) (fun _ _ _ => rfl) (by rw [HLn.out, List.length_singleton]; omega) hJ.below.size 41
                          exact wp_appI (.tmp 98) (.tmp 103) 41 rfl (us 6) (us 11) rfl rfl q1 (hR _ _ (hJ.step12 h12 h6 h11 q2 q3))
                        try simp only [Act.put, lsA, lsB, lsC]
                        refine KW.step _ rfl (fun m W hJ h36 hD R hR => ?_) ?_
                        · have h12 : m 12 = true := hD 12 rfl (by kernel_rfl)
                          obtain ⟨p, c, e⟩ := owns_form (hJ.s12 h12)
                          simp only [Act.put, lsA, lsB, lsC] at hR
                          simp only [e] at hR ⊢
                          go_step
                          exact hR _ _ (hJ.step36 h36 h12 e)
                        try simp only [Act.put, lsA, lsB, lsC]
                        refine KW.step _ rfl (fun m W hJ h37 hD R hR => ?_) ?_
                        · simp only [Act.put, lsA, lsB, lsC] at hR
                          go_step
                          exact hR _ _ (hJ.step37 h37 _)
                        try simp only [Act.put, lsA, lsB, lsC]
                        refine KW.step _ rfl (fun m W hJ h38 hD R hR => ?_) ?_
                        · have h36 : m 36 = true := hD 36 rfl (by kernel_rfl)
                          have h37 : m 37 = true := hD 37 rfl (by kernel_rfl)
                          obtain ⟨V9, x', e1, e2, e3, _⟩ := hJ.s37 h37
                          obtain ⟨p, c, f1, f2⟩ := hJ.s36 h36
                          have t3 := e3.there
                          simp only [Act.put] at hR
                          simp only [e1, f2] at hR ⊢
                          go_step
                          exact hR undef _ (hJ.step38 h36 h37 e1 f2 _)
                        simp only [Act.put]
                        refine KW.nil fun w9 hJ9 => ?_
                        obtain ⟨V2, p, c, e1, e2, e3, e4⟩ := hJ9.end rfl
                        have hz9 : Z + 1 ≤ wc.heap.size := Nat.le_trans HEk.out.lt HB5.out.size
                        have Hq : Hid (QwIs w9 (Z + 1) ((⟨none, 0, 0, x9.cls, a.over + x9.over, a.bad, a.total + x9.dem⟩ : Qw).at p (La.length + 1) c) ⟨a.ats ++ [z.1], x9.cls, a.over + x9.over, a.bad, a.total + x9.dem⟩) := Lib.hid (by
                          have l1 : (a.ats ++ [z.1]).length = La.length + 1 := by rw [List.length_append, List.length_singleton, ← HLa.out, List.length_map]
                          have l2 : (a.ats ++ [z.1]).map (fun q : Nat => (q : Int)) = La ++ [(z.1 : Int)] := by rw [List.map_append, HLa.out]; rfl
                          refine ⟨?_, l1.symm, rfl, rfl, rfl, rfl⟩
                          show w9.ownsRow (Z + 1) 3 1 (.slice p (La.length + 1) c) (a.ats ++ [z.1]).length (ints ((a.ats ++ [z.1]).map fun q : Nat => (q : Int)))
                          rw [l1, l2]
                          exact ownsRow_base e4 hz9)
                        have He := Lib.hid (And.intro e2 (And.intro e3 hJ9.below))
                        simp only [e1]
                        clear e1 e2 e3 e4 hJ9 hz9
                        go_wp2_with fail
                        go_meet
                        exact ⟨V2, _, rfl, He.out.2.1, Hq.out, Nat.le_trans HB5.out.size He.out.1, He.out.2.2⟩
                      case rest =>
                        obtain ⟨V2, x0, rfl, hV2, hx0, hV2l, hb7⟩ := hcut
                        have hV7 := HV.out.still hb7
                        have y5 := hV7.cell 5 _ (Bk.get5 x9)
                        rw [Hbb9.out] at y5
                        have hb17 := HB5.out.trans (hb7.mono HB5.out.size)
                        have HV2 := Lib.hid hV2
                        have HX0' := Lib.hid hx0
                        have Hb17 := Lib.hid hb17
                        clear hV7 hV2 hx0 hb17
                        go_upto_if 130 with (fail)
                        go_cut [130] from 131 to 134 (fun _ wy => ∃ x1, QwAt wy V2 x1 ∧ QwIs wy (Z + 1) x1 (a.ext z.1 x9) ∧ Below wr.heap.size wr wy)
                        case first =>
                          have hr := HX0'.out.row
                          have hi := HX0'.out
                          cases bb with
                          | false =>
                            have Hr : Hid (QwIs wc (Z + 1) x0 (a.ext z.1 x9)) := Lib.hid ⟨hr, hi.len, hi.cls, hi.over, by rw [hi.bad]; show a.bad = a.bad + (if x9.isBad then 1 else 0); rw [Hbb9.out]; simp, hi.total⟩
                            clear hr hi
                            go_wp2_with fail
                            go_meet
                            exact ⟨x0, HV2.out, Hr.out, Hb17.out⟩
                          | true =>
                            have y3 := HV2.out.cell 3 _ (Qw.get3 x0)
                            rw [hi.bad] at y3
                            have hab := Hwa.out.bad
                            have hal := Hwa.out.len
                            have hwb : IntKind.i64.wrap (a.bad + 1) = a.bad + 1 := Go.IntWalk.i64_in _ (by omega)
                            have fz := HV2.out.frozen 3
                            have Hq : Hid (QwAt (wc.setCell ⟨V2, 3, none⟩ (.int .i64 (a.bad + 1))) V2 { x0 with bad := a.bad + 1 }) := Lib.hid (HV2.out.set 3 _ (Qw.set3 x0 _))
                            have Hr : Hid (QwIs (wc.setCell ⟨V2, 3, none⟩ (.int .i64 (a.bad + 1))) (Z + 1) { x0 with bad := a.bad + 1 } (a.ext z.1 x9)) := Lib.hid (by
                              have hk := hi.keep (HV2.out.keepZ 3 (.int .i64 (a.bad + 1)))
                              exact ⟨hk.row, hk.len, hk.cls, hk.over, by show a.bad + 1 = a.bad + (if x9.isBad then 1 else 0); rw [Hbb9.out]; simp, hk.total⟩)
                            clear hr hi hab hal
                            go_wp2_with fail
                            go_meet
                            exact ⟨_, Hq.out, Hr.out, Hb17.out.setCell (p := ⟨V2, 3, none⟩) hV2l _⟩
                        case rest =>
                          obtain ⟨x1, hV1, hx1, hb1⟩ := hcut
                          clear y5 HV2 HX0' Hb17 HKc HV HB5 Hbb9
                          have hEd := HEk.out.still hb1
                          have cz := hEd.cell hlt9.out
                          have ag := hV1.agg
                          obtain ⟨xs, hxs⟩ := hEd.rows i hlt9.out
                          rw [upE_at] at hxs
                          have hB1 : Z + 1 ≤ wc.heap.size := hEd.lt
                          have hlk9 := Hlk.out
                          have HAdd : Hid (∀ W, Below wc.heap.size wc W → Calls Tryz.prog 58 #[vk i, .agg x1.arr] W (AddPost W (Z + 1) (vk i) ak (a.ext z.1 x9))) := Lib.hid fun W hW => q9add (Z + 1) (vk i) xs ak x1 (a.ext z.1 x9) (by have := hlk9.len; omega) (fun y hy => by have := (hlk9.wb y hy).len; omega) (by show (a.ats ++ [z.1]).length ≤ 4000; rw [List.length_append, List.length_singleton, Hnk9.out]; omega) W (hxs.still hW) (hx1.keep (KeepZ.of_below hW)) (Nat.le_trans hB1 hW.size)
                          have HC : Hid (∀ W W' : World, Below wc.heap.size wc W → KeepZ W W' (vk i).ownBlock → W'.cell? ⟨Z, i, none⟩ = some (vk i) ∧ W'.frozen? ⟨Z, i, none⟩ = false) := Lib.hid fun W W' hW hK => (hEd.still hW).kept hlt9.out hK
                          have hwx : WyB (i + 1) (a.ext z.1 x9) := Hwa.out.ext Hx9b.out z.1
                          have Hlk2 := Lib.hid (hlk9.add hwx)
                          have HEd := Lib.hid hEd
                          have Hqd := Lib.hid (Hqk.out.still hb1)
                          have hdr : Below wc.heap.size wc wc.drew := (Below.refl _ _).drew
                          have cz2 : wc.drew.cell? ⟨Z, i, none⟩ = some (vk i) := cell_below9 cz hdr
                          have ag2 : agg? wc.drew V2 0 5 = some x1.arr := (hV1.still hdr).agg
                          have Hdr := Lib.hid hdr
                          clear hEd hxs hx1 hb1 hV1 hB1 hlk9 hwx hdr Hlk Hwa Hx9b Hxi Hqk HK
                          go_upto_region 22 with (fail)
                          go_region_law (go_simp; go_at_call 58; refine (HAdd.out _ Hdr.out).mono ?_; rintro e w5 hp; obtain ⟨v5, xs5, rfl, hq5, hk5, ho5⟩ := hp.out; obtain ⟨p5, n5, m5, rfl⟩ := owns_form3 hq5.row; have c5 := (HC.out _ _ Hdr.out hk5).1; have f5 := (HC.out _ _ Hdr.out hk5).2)
                          · have hE2 := (HEd.out.still Hdr.out).step hlt9.out hq5 hk5 ho5
                            rw [upE_up] at hE2
                            have hO2 := (HEd.out.still Hdr.out).other hlt9.out hk5 ho5 (Hqd.out.still Hdr.out) Hnk.out
                            have HE2 := Lib.hid hE2
                            have HO2 := Lib.hid hO2
                            clear hE2 hO2 hp hq5 hk5 ho5
                            go_wp2_with fail
                            go_roundg (nl + 1 - (k + 1))
                            case measure => omega
                            case rel => exact ⟨k + 1, _, addW ak (a.ext z.1 x9), rfl, by go_num, by omega, HE2.out, Hlk2.out, Hext2.out, HO2.out.1, fun q hq => by simpa using HO2.out.2 q hq⟩
                          · have hE2 := (HEd.out.still Hdr.out).step hlt9.out hq5 hk5 ho5
                            rw [upE_up] at hE2
                            have hO2 := (HEd.out.still Hdr.out).other hlt9.out hk5 ho5 (Hqd.out.still Hdr.out) Hnk.out
                            have HE2 := Lib.hid hE2
                            have HO2 := Lib.hid hO2
                            clear hE2 hO2 hp hq5 hk5 ho5
                            go_wp2_with fail
                            go_roundg (nl + 1 - (k + 1))
                            case measure => omega
                            case rel => exact ⟨k + 1, _, addW ak (a.ext z.1 x9), rfl, by go_num, by omega, HE2.out, Hlk2.out, Hext2.out, HO2.out.1, fun q hq => by simpa using HO2.out.2 q hq⟩
              · have hkd : decide (k < nl) = false := decide_eq_false hkl
                have hak : ak = U := by
                  have := Hfk.out
                  rw [List.drop_eq_nil_of_le (by rw [Hnl.out]; omega)] at this
                  exact this
                subst hak
                clear hkl
                cases m with
                | zero =>
                  have hmj := Hmj.out
                  obtain rfl : jj = -1 := by omega
                  clear hmj
                  have hUT := Hend.out.1 rfl
                  have HUT := Lib.hid hUT
                  clear hUT
                  go_wp2_with fail
                  go_roundg ((-2 + 3 : Int).toNat)
                  case measure => omega
                  case rel => exact ⟨-2, vk, ak, rfl, by go_num, by omega, by omega, HEk.out, Hlk.out, .inr ⟨rfl, HUT.out⟩⟩
                | succ m' =>
                  have hmj := Hmj.out
                  obtain rfl : jj = (m' : Int) := by omega
                  clear hmj
                  have hm' : m' < BL.length := by rw [Hn.out]; omega
                  have hg : BL[m']? = some BL[m'] := List.getElem?_eq_getElem hm'
                  have e : penA BL m' = BL[m'].2 := by unfold penA; rw [List.getD_eq_getElem?_getD, hg]; rfl
                  obtain ⟨rfl, cg3⟩ := pens_cell (Hu.out.below HEk.out.below) hg
                  have hen := Hend.out.2 m' rfl
                  rw [e] at hen
                  have hm0 : (0 : Int) ≤ (m' : Int) := by omega
                  have hm1 : (m' : Int) < (n : Int) := by omega
                  generalize BL[m'] = y at cg3 hen
                  clear hg e hm'
                  by_cases hpn : y.2 ≤ -10000
                  · have hpd : decide (y.2 ≤ -10000) = true := decide_eq_true hpn
                    rw [if_pos hpn] at hen
                    have HEn := Lib.hid HEk.out
                    rw [hen, ← HEs.out] at HEn
                    have Hlk2 := Lib.hid Hlk.out
                    rw [hen] at Hlk2
                    clear hpn hen
                    go_wp2_with fail
                    go_roundg (n + 1 - (i + 1))
                    case measure => omega
                    case rel => exact ⟨i + 1, vk, rfl, by omega, by go_num, HEn.out, fun j hj => by
                      rw [HEs.out]
                      by_cases h : j = i
                      · subst h; rw [upE_at]; exact Hlk2.out
                      · rw [upE_ne _ _ h]; exact Hlok.out j (by omega)⟩
                  · have hpd : decide (y.2 ≤ -10000) = false := decide_eq_false hpn
                    rw [if_neg hpn] at hen
                    have Hen := Lib.hid hen
                    clear hpn hen
                    go_wp2_with fail
                    go_roundg (((m' : Int) - 1 + 3).toNat)
                    case measure => omega
                    case rel => exact ⟨(m' : Int) - 1, vk, ak, rfl, by go_num, by omega, by omega, HEk.out, Hlk.out, .inl ⟨m', rfl, by omega, Hen.out⟩⟩
        · have hjm2 : jj < -1 := by omega
          have haT : acc = T := by
            rcases Hmode.out with ⟨m, h1, _⟩ | ⟨_, h⟩
            · omega
            · exact h
          subst haT
          have HEn := Lib.hid HEm.out
          rw [← HEs.out] at HEn
          clear hjm
          go_wp2_with fail
          go_roundg (n + 1 - (i + 1))
          case measure => omega
          case rel => exact ⟨i + 1, vm, rfl, by omega, by go_num, HEn.out, fun j hj => by
            rw [HEs.out]
            by_cases h : j = i
            · subst h; rw [upE_at]; exact Hla.out
            · rw [upE_ne _ _ h]; exact Hlok.out j (by omega)⟩
    · have hlt2 : decide (i < n) = false := decide_eq_false hlt
      have hin2 : i = n := by omega
      subst hin2
      have hk : i - 1 < i := by omega
      obtain ⟨xs, hxs⟩ := HE.out.rows (i - 1) hk
      have cz := HE.out.cell hk
      obtain ⟨k, hkk⟩ : ∃ k, i - 1 = k := ⟨_, rfl⟩
      rw [hkk] at cz hxs
      have e1 : (i : Int) - 1 = (k : Int) := by omega
      have e2 : (0 : Int) ≤ (k : Int) := by omega
      have e3 : (k : Int) < (i : Int) := by omega
      have hlen9 := (Hlok.out k (by omega)).len
      have HLen : Hid ((Ew one all BL i k).length ≤ 100000) := Lib.hid (by omega)
      have HW : Hid (waysW one all BL = Ew one all BL i k) := Lib.hid (by rw [waysE, Hn.out, hkk])
      have Hxs := Lib.hid hxs
      clear hlt hxs hkk hk hlen9
      go_wp2_with fail
      go_ret
      refine ⟨⟨_, xs, rfl, ?_⟩, Hb02.out.trans (HE.out.below.mono Hb02.out.size), by rw [HW.out]; exact HLen.out⟩
      rw [HW.out]
      exact Hxs.out.base (by have := HE.out.zb; have := Hb02.out.size; omega)
end Go.Proofs.YtiijpbfkchokaaaGreat
