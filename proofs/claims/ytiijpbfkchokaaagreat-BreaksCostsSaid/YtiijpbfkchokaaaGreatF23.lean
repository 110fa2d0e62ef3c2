/-
  The document's side of layer 9: the lines of chosen breaks (Lines), what they cost (Cost).
  The document's Cost; the law's same.
  The law BreaksCosts, walked: both sides' Cost answer alike.
-/
import Derived.Test.YtiijpbfkchokaaaGreatVBs
import Derived.Test.YtiijpbfkchokaaaGreatL6
import Derived.Test.YtiijpbfkchokaaaGreatB24
import Derived.Test.YtiijpbfkchokaaaGreatTame4
import Derived.Test.YtiijpbfkchokaaaGreatG4
import Derived.Test.YtiijpbfkchokaaaGreatF20
import Derived.Great.BuildSlice
namespace Go.Proofs.YtiijpbfkchokaaaGreat
open Go.ChangeShapes Go.WideShapes Go.ChangeAt Go.RowKit
attribute [local go_sem ↓] Go.wp_at_zero Go.wp_at_succ
def bsQBk1 (parts : Array (Nat × Value)) : Sem Value := Instr.buildSlice 33 1 parts
@[go_sem ↓] theorem execOp_bsQBk1 (ρ : Operand → Value) (dst : Option Tmp) (x : Array (Nat × Operand)) (ty : TypeId) (pos : String) (after : Array Edge) (guard : Option (Nat × Bool)) :
    execOp ρ { dst, op := .buildSlice 33 1 x, type := ty, pos, after, guard } = (do pure (.value (← bsQBk1 (x.map fun (i, y) => (i, ρ y))))) := rfl
theorem info_qbkb : (Tryz.prog.info? 92).map (fun i => (i.zero, i.size, i.bytes)) = some (some (.agg Bk.zero.arr), 6, 48) := by kernel_rfl
theorem info_qbk0 : (Tryz.prog.info? 92).map (fun i => (i.zero, i.size)) = some (some (.agg Bk.zero.arr), 6) := by kernel_rfl
@[go_sem] theorem run_bsQBk1 (n : Bk) (w : World) : (bsQBk1 #[(0, .agg n.arr)]).run Tryz.prog w = .ok (.slice (some ⟨w.heap.size, 0, none⟩) 1 1) (w.alloc (.cells n.arr 92)) := by
  obtain ⟨i, hi, hzz⟩ := Option.map_eq_some_iff.1 info_qbk0
  simp only [Prod.mk.injEq] at hzz
  obtain ⟨hz, hs⟩ := hzz
  refine run_buildSlice w _ 92 1 _ n.arr i (.agg Bk.zero.arr) Tryz.underlying33 hi hz (by rw [hs]; decide) (by rw [hs]; decide) ?_
  rw [hs]
  exact fill_bk1 n
structure QLinesPost (w : World) (l : List Bk) (e : Ending) (w' : World) : Prop where
  out : ∃ v, e = .returned v ∧ w'.ownsRow w.heap.size 92 6 v l.length (l.flatMap Bk.cells)
  below : Below w.heap.size w w'
theorem lines_hit (one : Option Nat → Nat × Int → Int → Int → Bk) {x : Nat × Int} {r : List (Nat × Int)} {c : List Int} {f : Option Nat} {line before : Int} (h : c.contains (x.1 : Int) = true) : linesW one (x :: r) c f line before = one f x line before :: linesW one r c (some x.1) (line + 1) (one f x line before).cls := by rw [linesW, if_pos h]
theorem lines_miss (one : Option Nat → Nat × Int → Int → Int → Bk) {x : Nat × Int} {r : List (Nat × Int)} {c : List Int} {f : Option Nat} {line before : Int} (h : c.contains (x.1 : Int) = false) : linesW one (x :: r) c f line before = linesW one r c f line before := by rw [linesW, if_neg (by rw [h]; decide)]
set_option maxRecDepth 100000 in
set_option maxHeartbeats 8000000 in
theorem q9lines (P : Pm) (g off2 : Nat) (S : List Sh2) (L : List Nd) (b off cap : Nat) (p0 : Option Addr) (s : List Nat) (hok : OneQ P S L s) (tol ext : Int) (hext : 0 ≤ ext ∧ ext ≤ 1073741823) (c : List Int) (pc : Option Addr) (gc oc cc : Nat) (hcl : c.length ≤ 100000) (w : World) (hS : ShIn w P g off2 S) (hN : NIn w p0 b off cap L) (hZ : ZOn w pc gc oc cc c) :
    Calls Tryz.prog 34 #[.slice p0 L.length cap, .agg P.arr, .int .i64 tol, .int .i64 ext, .slice pc c.length cc] w (QLinesPost w (linesW (oneP L P S s tol ext) (brkP L P s) c none 1 2)) := by
  have hb0 : Below w.heap.size w (w.alloc (.cells P.arr 27)) := (Below.refl _ _).alloc (Nat.le_refl _) _
  have d0 : PAt (w.alloc (.cells P.arr 27)) w.heap.size P := heap_alloc_new w _
  have HPl := Lib.hid (q9places P p0 b off cap L hok.chk s hok.items _ (hN.below hb0))
  have hBn : (brkP L P s).length ≤ 2001 := by
    have := brkP_len (L := L) (P := P) (s := s)
    have := hok.items.len
    have := (checkC_zero hok.chk).1
    omega
  have HO : Hid (∀ W, Below w.heap.size w W → ∀ (f : Option Nat) (k : Nat) (z : Nat × Int) (line before : Int), (brkP L P s)[k]? = some z → (∀ x, f = some x → x ∈ s ∧ x < z.1) → (1 ≤ line ∧ line ≤ 1000000) → (-10 ≤ before ∧ before ≤ 10) → Calls Tryz.prog 57 #[.slice p0 L.length cap, .agg P.arr, .int .i64 tol, .int .i64 ext, .int .i64 (fI f), .int .i64 z.1, .int .i64 z.2, .int .i64 line, .int .i64 before] W fun e w' => e = .returned (.agg (oneP L P S s tol ext f z line before).arr) ∧ Below W.heap.size W w') := Lib.hid fun W hb f k z line before hz hf hl hbf => by
    have hm := brkP_mem (List.mem_of_getElem? hz)
    exact q9one P g off2 S L b off cap p0 s hok tol ext hext f z.1 z.2 hm.2 hf hm.1 line before hl hbf W (hS.below hb) (hN.below hb)
  have HHas : Hid (∀ W, Below w.heap.size w W → ∀ x, Calls Tryz.prog 52 #[.slice pc c.length cc, .int .i64 x] W fun e w' => e = .returned (.bool (decide (x ∈ c))) ∧ W = w') := Lib.hid fun W hb x => q9hasO pc gc oc cc c x W (hZ.below hb) hcl
  obtain ⟨one, hone⟩ : ∃ one, oneP L P S s tol ext = one := ⟨_, rfl⟩
  have Hcls : Hid (∀ f z line before, -10 ≤ (one f z line before).cls ∧ (one f z line before).cls ≤ 10) := Lib.hid fun f z line before => by rw [← hone]; exact one_cls L P S s tol ext f z line before
  rw [hone] at HO ⊢
  obtain ⟨BL, hBL⟩ : ∃ BL, brkP L P s = BL := ⟨_, rfl⟩
  have Hbb : Hid (∀ (i j : Nat) (x y : Nat × Int), BL[i]? = some x → BL[j]? = some y → i < j → x.1 ∈ s ∧ x.1 < y.1) := Lib.hid fun i j x y hi hj hij => by rw [← hBL] at hi hj; exact brk_before hok.items hi hj hij
  rw [hBL] at HPl HO hBn ⊢
  obtain ⟨nc, hnc⟩ : ∃ nc, c.length = nc := ⟨_, rfl⟩
  rw [hnc] at HHas ⊢
  obtain ⟨R, hR⟩ : ∃ R, linesW one BL c none 1 2 = R := ⟨_, rfl⟩
  rw [hR]
  have HR := Lib.hid hR
  clear hok hS hN hZ hone hBL hnc hR hcl
  go_enter Tryz.func34, Tryz.ntmps34
  go_upto_region 1 with (fail)
  obtain ⟨X0, hX0⟩ : ∃ X0, w.heap.size = X0 := ⟨_, rfl⟩
  rw [hX0] at d0 ⊢
  generalize w.alloc (.cells P.arr 27) = w1 at hb0 d0 HPl ⊢
  have HA : Hid (∀ W, Below w1.heap.size w1 W → agg? W X0 0 24 = some P.arr) := Lib.hid fun W hb => by rw [agg?_blk' (d0.still hb) 0 24 (by rw [Pm.size_arr]; decide)]; simp [Pm.arr, Pm.cells]
  have a0 := HA.out w1 (Below.refl _ _)
  have Hb0 := Lib.hid hb0
  have HX0 := Lib.hid hX0
  clear hb0 d0 hX0
  go_upto_region 5 with (go_at_call 41; refine HPl.out.mono ?_; clear HPl; rintro e w2 hp; obtain ⟨pv, gv, cv, pu, gu, cu, rfl, zv, zu, k1, k2⟩ := places_read hp; have hb2 := hp.below; clear hp)
  clear a0
  have Hv := Lib.hid zv
  have Hu := Lib.hid zu
  have Hb2 := Lib.hid hb2
  have hb02 := Hb0.out.trans (hb2.mono Hb0.out.size)
  have Hb02 := Lib.hid hb02
  obtain ⟨n, hn⟩ : ∃ n, BL.length = n := ⟨_, rfl⟩
  rw [hn] at hBn k1 k2
  simp only [hn]
  have Hn := Lib.hid hn
  clear zv zu hb2 hb02 hn
  go_wp2_with fail
  go_loopg [13, 14, 15, 16] (n + 1) (fun gg t13 t14 t15 t16 wr => ∃ (k : Nat) (acc : List Bk) (v : Value) (f : Option Nat) (cl : Int), gg = n + 1 - k ∧ k ≤ n ∧ acc.length ≤ k ∧ t13 = v ∧ t14 = .int .i64 (fI f) ∧ t15 = .int .i64 cl ∧ t16 = .int .i64 k ∧ (-10 ≤ cl ∧ cl ≤ 10) ∧ (∀ x, f = some x → ∃ i q, i < k ∧ BL[i]? = some (x, q)) ∧ acc ++ linesW one (BL.drop k) c f ((acc.length : Int) + 1) cl = R ∧ wr.ownsRow w2.heap.size 92 6 v acc.length (acc.flatMap Bk.cells) ∧ Below w2.heap.size w2 wr)
  case atStart => exact ⟨0, [], _, none, 2, rfl, Nat.zero_le _, Nat.le_refl _, rfl, rfl, rfl, rfl, by omega, (fun x hx => by cases hx), by rw [List.drop_zero]; exact HR.out, World.ownsRow_nil _ _ _ _, Below.refl _ _⟩
  case round =>
    clear HR
    obtain ⟨k, acc, v, f, cl, rfl, hk, hak, rfl, rfl, rfl, rfl, hcl9, hf, hln, hrow, hb⟩ := hrel
    obtain ⟨po, co, eo⟩ := owns_form hrow
    have Hln := Lib.hid hln
    have Hf := Lib.hid hf
    have Hrow := Lib.hid hrow
    have HB := Lib.hid hb
    have hk0 : (0 : Int) ≤ (k : Int) := by omega
    subst eo
    clear hln hf hrow hb
    by_cases hlt : k < n
    · have hk1 : (k : Int) < (n : Int) := by omega
      obtain ⟨z, hz⟩ : ∃ z, BL[k]? = some z := ⟨_, List.getElem?_eq_getElem (by rw [Hn.out]; exact hlt)⟩
      obtain ⟨rfl, cg2⟩ := ats_cell (Hv.out.below HB.out) hz
      obtain ⟨rfl, cg3⟩ := pens_cell (Hu.out.below HB.out) hz
      have hbw := Hb02.out.trans (HB.out.mono Hb02.out.size)
      have HH := Lib.hid (HHas.out wr hbw (z.1 : Int))
      have HO1 := HO.out
      obtain ⟨a, q⟩ := z
      simp only at cg2 cg3 HH
      have hdr : BL.drop k = (a, q) :: BL.drop (k + 1) := by
        have hk9 : k < BL.length := by rw [Hn.out]; exact hlt
        rw [List.drop_eq_getElem_cons hk9]
        congr 1
        exact (List.getElem?_eq_some_iff.1 hz).2
      have Hdr := Lib.hid hdr
      have Hz := Lib.hid hz
      obtain ⟨mt, hmt⟩ : ∃ mt, decide ((a : Int) ∈ c) = mt := ⟨_, rfl⟩
      rw [hmt] at HH
      have Hmt : Hid (c.contains (a : Int) = mt) := Lib.hid (by rw [List.contains_eq_mem]; exact hmt)
      have hlt2 : decide (k < n) = true := decide_eq_true hlt
      clear hz hdr hmt hlt HO1 hbw
      cases hb9 : mt
      case false =>
        subst hb9
        have hms := lines_miss one (x := (a, q)) (r := BL.drop (k + 1)) (c := c) (f := f) (line := (acc.length : Int) + 1) (before := cl) Hmt.out
        have Hr2 := Lib.hid (show acc ++ linesW one (BL.drop (k + 1)) c f ((acc.length : Int) + 1) cl = R by
          have := Hln.out
          rw [Hdr.out, hms] at this
          exact this)
        clear hms Hln
        go_wp2_with (go_at_call 52; refine HH.out.mono ?_; clear HH; rintro e w3 ⟨rfl, rfl⟩)
        go_roundg (n + 1 - (k + 1))
        case measure => omega
        case rel => exact ⟨k + 1, acc, _, f, cl, rfl, by omega, by omega, rfl, rfl, rfl, by go_num, hcl9, (fun x hx => by
            obtain ⟨i, q9, hi, hiz⟩ := Hf.out x hx
            exact ⟨i, q9, by omega, hiz⟩), Hr2.out, Hrow.out, HB.out⟩
      case true =>
        subst hb9
        have hal : (acc.length : Int) + 1 ≤ 1000000 := by omega
        obtain ⟨x, hx⟩ : ∃ x, one f (a, q) ((acc.length : Int) + 1) cl = x := ⟨_, rfl⟩
        have hxc : -10 ≤ x.cls ∧ x.cls ≤ 10 := by rw [← hx]; exact Hcls.out _ _ _ _
        have HOn : Hid (∀ W, Below wr.heap.size wr W → Calls Tryz.prog 57 #[.slice p0 L.length cap, .agg P.arr, .int .i64 tol, .int .i64 ext, .int .i64 (fI f), .int .i64 (a : Nat), .int .i64 q, .int .i64 ((acc.length : Int) + 1), .int .i64 cl] W fun e w' => e = .returned (.agg x.arr) ∧ Below W.heap.size W w') := Lib.hid fun W hb => by
          have := HO.out W ((Hb02.out.trans (HB.out.mono Hb02.out.size)).trans (hb.mono (Hb02.out.trans (HB.out.mono Hb02.out.size)).size)) f k (a, q) ((acc.length : Int) + 1) cl Hz.out (fun y hy => by
            obtain ⟨i, q9, hi, hiz⟩ := Hf.out y hy
            exact Hbb.out i k (y, q9) (a, q) hiz Hz.out hi) (by omega) hcl9
          rw [hx] at this
          exact this
        have Hr2 := Lib.hid (show (acc ++ [x]) ++ linesW one (BL.drop (k + 1)) c (some a) (((acc ++ [x]).length : Int) + 1) x.cls = R by
          have := Hln.out
          rw [Hdr.out, lines_hit one Hmt.out, hx] at this
          rw [← this, List.append_assoc, List.length_append, List.length_singleton]
          rfl)
        have HK : Hid (∀ W, Below wr.heap.size wr W → agg? W X0 0 24 = some P.arr ∧ W.cell? ⟨gv, k, none⟩ = some (.int .i64 (a : Nat)) ∧ W.cell? ⟨gu, k, none⟩ = some (.int .i64 q)) := Lib.hid fun W hb => ⟨HA.out W ((Hb2.out.trans (HB.out.mono Hb2.out.size)).trans (hb.mono (Hb2.out.trans (HB.out.mono Hb2.out.size)).size)), cell_below9 cg2 hb, cell_below9 cg3 hb⟩
        obtain ⟨ln, hln⟩ : ∃ ln, (acc.length : Int) + 1 = ln := ⟨_, rfl⟩
        rw [hln] at HOn
        have hwl : IntKind.i64.wrap ((acc.length : Int) + 1) = ln := by rw [hln]; exact Go.IntWalk.i64_in _ (by omega)
        clear hx Hln cg3 hal hln
        go_upto_region 9 with (go_at_call 52; refine HH.out.mono ?_; clear HH; rintro e w3 ⟨rfl, rfl⟩)
        clear cg2
        have hbd : Below wr.heap.size wr wr.drew := (Below.refl _ _).drew
        have hbA : Below wr.heap.size wr (wr.alloc (.cells (Bk.mk 0 0 0 0 0 false).arr 92)).drew := ((Below.refl _ wr).alloc (Nat.le_refl _) _).drew
        have hzA : QBkAt (wr.alloc (.cells (Bk.mk 0 0 0 0 0 false).arr 92)).drew wr.heap.size ⟨0, 0, 0, 0, 0, false⟩ := heap_alloc_new wr _
        have hltA : wr.heap.size < (wr.alloc (.cells (Bk.mk 0 0 0 0 0 false).arr 92)).drew.heap.size := hzA.lt
        have HKd := HK.out _ hbd
        have HKs : Hid (∀ W v, Below wr.heap.size wr W → agg? (setAgg W wr.heap.size 0 v) X0 0 24 = some P.arr ∧ (setAgg W wr.heap.size 0 v).cell? ⟨gv, k, none⟩ = some (.int .i64 (a : Nat)) ∧ (setAgg W wr.heap.size 0 v).cell? ⟨gu, k, none⟩ = some (.int .i64 q)) := Lib.hid fun W v hb => HK.out _ (Below.setAgg hb (Nat.le_refl _) _ _)
        have ha1 : (0 : Int) ≤ (a : Int) := by omega
        go_cut [17] from 37 to 54 (fun s17 wx => ∃ V, s17 = .pointer (some ⟨V, 0, none⟩) ∧ QBkAt wx V x ∧ wr.heap.size ≤ V ∧ Below wr.heap.size wr wx)
        case first =>
          go_region_held3 (fun W => agg? W X0 0 24 = some P.arr ∧ W.cell? ⟨gv, k, none⟩ = some (.int .i64 (a : Nat)) ∧ W.cell? ⟨gu, k, none⟩ = some (.int .i64 q))
            (first | (with_reducible exact HKd) | (with_reducible exact HK.out _ hbA) | (with_reducible exact HK.out _ hd5) | (with_reducible exact HK.out _ hd6) | (with_reducible exact HK.out _ hd7) | (with_reducible exact HKs.out _ _ hd5))
            ((first | (go_at_call 57; refine (HOn.out _ (by first | exact hbd | exact hbA)).mono ?_; rintro e w5 ⟨rfl, hb5⟩; have hd5 : Below wr.heap.size wr w5 := (by first | exact hbd.trans hb5 | exact hbA.trans (hb5.mono hbA.size)); have hd6 : Below wr.heap.size wr (w5.alloc (.cells (Bk.mk 0 0 0 0 0 false).arr 92)) := hd5.alloc hd5.size _; have hd7 : Below wr.heap.size wr (w5.alloc (.cells x.arr 92)) := hd5.alloc hd5.size _; (first | (have hz5 : QBkAt w5 wr.heap.size ⟨0, 0, 0, 0, 0, false⟩ := (hb5.block _ hltA).trans hzA; have t5 := hz5.there) | skip))))
          · go_wp2_with fail
            go_meet
            exact ⟨w5.heap.size, rfl, heap_alloc_new w5 _, hd5.size, hd7⟩
          · go_wp2_with fail
            go_meet
            exact ⟨wr.heap.size, rfl, hz5.store, Nat.le_refl _, Below.setAgg hd5 (Nat.le_refl _) _ _⟩
        case rest =>
          obtain ⟨V, rfl, hV, hVl, hb5⟩ := hcut
          have ax := hV.agg
          have hrow5 := ownsRow_below Hrow.out hb5
          have hB5 := HB.out.trans (hb5.mono HB.out.size)
          obtain ⟨i0, hi0', hz0, hz1, hz2'⟩ := info_parts info_qbkb
          have Hrow5 := Lib.hid (hrow5.alloc (.cells x.arr 92))
          have H1 := Lib.hid (bks_one x)
          have hbase : w2.heap.size ≤ (wc.alloc (.cells x.arr 92)).heap.size := by rw [World.size_alloc]; have := hB5.size; omega
          clear hrow5 HK HKs HKd hbd hbA hzA hltA HOn hwl
          go_upto_region 11 with (at_builtin; refine wpList_append_lies _ rfl (.tmp 55) (.tmp 57) 33 rfl w2.heap.size 92 i0 (.agg Bk.zero.arr) 6 48 Tryz.underlying33 hi0' hz0 hz1 hz2' rfl (by decide) (.slice po acc.length co) acc.length (acc.flatMap Bk.cells) rfl Hrow5.out ⟨wc.heap.size, 0, none⟩ 1 1 x.cells rfl rfl (World.news_of_block (cs := x.cells.toArray) (heap_alloc_new _ _)) H1.out (by decide) (by unfold maxLen; omega) (by omega) hbase _ rfl ?_; intro g5 cap5 w6 hown6 hgrow6 hat6 hlt6)
          have hb6 : Below w2.heap.size (wc.alloc (.cells x.arr 92)) w6 := grown_below hgrow6 hbase fun q hq => (Hrow.out.lt q hq).1
          have hB6 : Below w2.heap.size w2 w6 := (hB5.trans (((Below.refl wc.heap.size wc).alloc (Nat.le_refl _) _).mono hB5.size)).trans hb6
          have hV6 : QBkAt w6 V x := (hgrow6.block V (by rw [World.size_alloc]; exact Nat.lt_succ_of_lt hV.lt) (fun e => by have := (Hrow.out.lt V e.symm).2; omega)).trans ((Below.heap_alloc _ _ _ hV.lt).trans hV)
          have y2 := hV6.cell 2 _ rfl
          have cg6 := (ats_cell (Hv.out.below hB6) Hz.out).2
          have Hrow6 : Hid (w6.ownsRow w2.heap.size 92 6 (.slice (some ⟨g5, 0, none⟩) (acc.length + 1) cap5) (acc ++ [x]).length ((acc ++ [x]).flatMap Bk.cells)) := Lib.hid (by
            rw [List.length_append, List.length_singleton, List.flatMap_append]
            simpa using hown6)
          have HB6 := Lib.hid hB6
          simp only at cg6
          clear hown6 hgrow6 hat6 hlt6 hb6 hB6 hV6 ax Hrow5 H1 hbase hB5 hV
          have hal2 : (acc ++ [x]).length ≤ k + 1 := by rw [List.length_append, List.length_singleton]; omega
          go_wp2_with fail
          go_roundg (n + 1 - (k + 1))
          case measure => omega
          case rel => exact ⟨k + 1, acc ++ [x], _, some a, x.cls, rfl, by omega, hal2, rfl, rfl, rfl, by go_num, hxc, (fun y hy => by
            cases hy
            exact ⟨k, q, by omega, Hz.out⟩), Hr2.out, Hrow6.out, HB6.out⟩
    · have hlt2 : decide (k < n) = false := decide_eq_false hlt
      have hkn : k = n := by omega
      have hdr : BL.drop k = [] := List.drop_eq_nil_of_le (by rw [Hn.out]; omega)
      have hRl : acc = R := by
        have := Hln.out
        rw [hdr] at this
        rw [← this]
        simp [linesW]
      subst hRl
      clear hlt hdr hkn Hln
      go_wp2_with fail
      go_ret
      exact ⟨⟨_, rfl, ownsRow_base Hrow.out Hb02.out.size⟩, Hb02.out.trans (HB.out.mono Hb02.out.size)⟩
end Go.Proofs.YtiijpbfkchokaaaGreat
namespace Go.Proofs.YtiijpbfkchokaaaGreat
open Go.ChangeShapes Go.WideShapes Go.ChangeAt Go.RowKit
attribute [local go_sem ↓] Go.wp_at_zero Go.wp_at_succ
structure QRowPost (w : World) (r : List Bk × Int) (e : Ending) (w' : World) : Prop where
  out : ∃ v, e = .returned (.tuple #[v, .int .i64 r.2]) ∧ w'.ownsRow w.heap.size 92 6 v r.1.length (r.1.flatMap Bk.cells)
  below : Below w.heap.size w w'
theorem cst_takes {P : Pm} {S : List Sh2} {L : List Nd} {s : List Nat} {tol ext : Int} {c : List Int} (h : tryE P S L s tol ext = 0) (hs : Items L 0 s) :
    cstR P S L s tol ext c = if takesW (brkP L P s) c = true then (linesW (oneP L P S s tol ext) (brkP L P s) c none 1 2, 0) else ([], 3) := by
  unfold cstR
  rw [if_pos h, lns_eq _ _ [] c none 1 2 (brkP_pair hs) (fun z hz => by cases hz), List.nil_append]
  split <;> rfl
theorem takes_len {B : List (Nat × Int)} {c : List Int} (h : takesW B c = true) : c.length ≤ B.length := by
  have := (takesW_sub B c h).length_le
  rwa [List.length_map] at this
set_option maxRecDepth 100000 in
set_option maxHeartbeats 4000000 in
theorem q9cost (P : Pm) (g off2 : Nat) (S : List Sh2) (L : List Nd) (b off cap : Nat) (p0 : Option Addr) (s : List Nat) (hs : checkC L = 0 → Items L 0 s) (tol ext : Int) (c : List Int) (pc : Option Addr) (gc oc cc : Nat) (hcl : c.length ≤ 9223372036854775807) (w : World) (hS : ShIn w P g off2 S) (hN : NIn w p0 b off cap L) (hc : ZOn w pc gc oc cc c) :
    Calls Tryz.prog 15 #[.slice p0 L.length cap, .agg P.arr, .int .i64 tol, .int .i64 ext, .slice pc c.length cc] w (QRowPost w (cstR P S L s tol ext c)) := by
  have hb0 : Below w.heap.size w (w.alloc (.cells P.arr 27)) := (Below.refl _ _).alloc (Nat.le_refl _) _
  have d0 : PAt (w.alloc (.cells P.arr 27)) w.heap.size P := heap_alloc_new w _
  have HW := Lib.hid (q9wrong P g off2 S p0 b off cap L s hs tol ext _ (hS.below hb0) (hN.below hb0))
  have hOk : tryE P S L s tol ext = 0 → OneQ P S L s ∧ (0 ≤ ext ∧ ext ≤ 1073741823) := fun h => by
    have hk := tryE_zero hs h
    exact ⟨⟨hk.pm, hk.chk, hk.items⟩, hk.ext⟩
  have HT : Hid (tryE P S L s tol ext = 0 → ∀ W, Below w.heap.size w W → Calls Tryz.prog 37 #[.slice p0 L.length cap, .agg P.arr, .slice pc c.length cc] W fun e w' => e = .returned (.bool (takesW (brkP L P s) c)) ∧ Below W.heap.size W w') := Lib.hid fun h W hb => q9takes P p0 b off cap L (hOk h).1.chk s (hOk h).1.items c pc gc oc cc hcl W (hN.below hb) (hc.below hb)
  have HL : Hid (tryE P S L s tol ext = 0 → takesW (brkP L P s) c = true → ∀ W, Below w.heap.size w W → Calls Tryz.prog 34 #[.slice p0 L.length cap, .agg P.arr, .int .i64 tol, .int .i64 ext, .slice pc c.length cc] W (QLinesPost W (linesW (oneP L P S s tol ext) (brkP L P s) c none 1 2))) := Lib.hid fun h ht W hb => by
    have h1 := takes_len ht
    have h2 := brkP_len (L := L) (P := P) (s := s)
    have h3 := (hOk h).1.items.len
    have h4 := (checkC_zero (hOk h).1.chk).1
    exact q9lines P g off2 S L b off cap p0 s (hOk h).1 tol ext (hOk h).2 c pc gc oc cc (by omega) W (hS.below hb) (hN.below hb) (hc.below hb)
  have HC : Hid (tryE P S L s tol ext = 0 → cstR P S L s tol ext c = if takesW (brkP L P s) c = true then (linesW (oneP L P S s tol ext) (brkP L P s) c none 1 2, 0) else ([], 3)) := Lib.hid fun h => cst_takes h (hOk h).1.items
  have HC2 : Hid (tryE P S L s tol ext ≠ 0 → cstR P S L s tol ext c = ([], tryE P S L s tol ext)) := Lib.hid fun h => by unfold cstR; rw [if_neg h]
  obtain ⟨r, hr⟩ : ∃ r, cstR P S L s tol ext c = r := ⟨_, rfl⟩
  rw [hr] at HC HC2 ⊢
  obtain ⟨E, hE⟩ : ∃ E, tryE P S L s tol ext = E := ⟨_, rfl⟩
  rw [hE] at HW HT HL HC HC2
  obtain ⟨ll, hll⟩ : ∃ ll, linesW (oneP L P S s tol ext) (brkP L P s) c none 1 2 = ll := ⟨_, rfl⟩
  obtain ⟨tk, htk⟩ : ∃ tk, takesW (brkP L P s) c = tk := ⟨_, rfl⟩
  rw [hll, htk] at HL HC
  rw [htk] at HT
  clear hs hS hN hc hE hr hll htk hOk
  go_enter Tryz.func15, Tryz.ntmps15
  go_upto_region 1 with (fail)
  obtain ⟨X0, hX0⟩ : ∃ X0, w.heap.size = X0 := ⟨_, rfl⟩
  rw [hX0] at d0 ⊢
  generalize w.alloc (.cells P.arr 27) = w1 at hb0 d0 HW ⊢
  have HA : Hid (∀ W, Below w1.heap.size w1 W → agg? W X0 0 24 = some P.arr) := Lib.hid fun W hb => by rw [agg?_blk' (d0.still hb) 0 24 (by rw [Pm.size_arr]; decide)]; simp [Pm.arr, Pm.cells]
  have a0 := HA.out w1 (Below.refl _ _)
  have Hb0 := Lib.hid hb0
  clear hb0 d0 hX0
  by_cases h0 : E = 0
  · subst h0
    have HT1 := Lib.hid (HT.out (by first | rfl | trivial))
    have HL1 := Lib.hid (HL.out (by first | rfl | trivial))
    have HC1 := Lib.hid (HC.out (by first | rfl | trivial))
    clear HT HL HC HC2
    go_upto_region 4 with (go_at_call 31; refine HW.out.mono ?_; clear HW; rintro e w2 ⟨rfl, hb2⟩)
    have a2 := HA.out w2 hb2
    have hbw2 := Hb0.out.trans (hb2.mono Hb0.out.size)
    have HT2 := Lib.hid (HT1.out w2 hbw2)
    clear a0 HT1
    cases tk with
    | false =>
      obtain rfl : r = ([], 3) := HC1.out
      go_wp2_with (go_at_call 37; refine HT2.out.mono ?_; clear HT2; rintro e w3 ⟨rfl, hb3⟩)
      go_ret2
      exact ⟨⟨.slice none 0 0, rfl, World.ownsRow_nil _ _ _ _⟩, hbw2.trans (hb3.mono hbw2.size)⟩
    | true =>
      obtain rfl : r = (ll, 0) := HC1.out
      go_upto_region 6 with (go_at_call 37; refine HT2.out.mono ?_; clear HT2; rintro e w3 ⟨rfl, hb3⟩)
      have hb13 := hb2.trans (hb3.mono hb2.size)
      have a3 := HA.out w3 hb13
      have HL3 := Lib.hid (HL1.out (by first | rfl | trivial) w3 (Hb0.out.trans (hb13.mono Hb0.out.size)))
      clear a2
      go_wp2_with (go_at_call 34; refine HL3.out.mono ?_; clear HL3; rintro e w4 hp; obtain ⟨v, rfl, hrow⟩ := hp.out; have hb4 := hp.below; have Hrow := Lib.hid hrow; clear hp hrow)
      have hbw3 := Hb0.out.trans (hb13.mono Hb0.out.size)
      go_ret2
      exact ⟨⟨v, rfl, ownsRow_base Hrow.out hbw3.size⟩, hbw3.trans (hb4.mono hbw3.size)⟩
  · have hne : (E != 0) = true := by simpa using h0
    obtain rfl : r = ([], E) := HC2.out h0
    clear HT HL HC HC2
    go_wp2_with (go_at_call 31; refine HW.out.mono ?_; clear HW; rintro e w2 ⟨rfl, hb2⟩)
    go_ret2
    exact ⟨⟨.slice none 0 0, rfl, World.ownsRow_nil _ _ _ _⟩, Hb0.out.trans (hb2.mono Hb0.out.size)⟩
end Go.Proofs.YtiijpbfkchokaaaGreat
namespace Go.Proofs.YtiijpbfkchokaaaGreat
open Go.ChangeShapes Go.WideShapes Go.ChangeAt Go.RowKit
attribute [local go_sem ↓] Go.wp_at_zero Go.wp_at_succ
theorem linesW_len (one : Option Nat → Nat × Int → Int → Int → Bk) : ∀ (B : List (Nat × Int)) (c : List Int) (f : Option Nat) (line before : Int), (linesW one B c f line before).length ≤ B.length
  | [], _, _, _, _ => Nat.le_refl _
  | x :: r, c, f, line, before => by
    rw [linesW]
    split
    · rw [List.length_cons, List.length_cons]
      exact Nat.succ_le_succ (linesW_len one r c _ _ _)
    · exact Nat.le_succ_of_le (linesW_len one r c _ _ _)
set_option maxRecDepth 100000 in
set_option maxHeartbeats 8000000 in
theorem same9 (B1 B2 : Nat) (v u : Value) (ls : List Bk) (hl : ls.length ≤ 100000) (w : World) (hv : w.ownsRow B1 91 6 v ls.length (ls.flatMap Bk.cells)) (hu : w.ownsRow B2 92 6 u ls.length (ls.flatMap Bk.cells)) :
    Calls Tryz.prog 10 #[v, u] w fun e w' => e = .returned (.bool true) ∧ Below w.heap.size w w' := by
  obtain ⟨pv, cv, ev⟩ := owns_form hv
  obtain ⟨pu, cu, eu⟩ := owns_form hu
  have Hr : Hid (∀ W, Below w.heap.size w W → ∀ i (hi : i < ls.length), (∃ g, pv = some ⟨g, 0, none⟩ ∧ ls.length ≤ cv ∧ agg? W g (i * 6) 6 = some ls[i].arr) ∧ (∃ g, pu = some ⟨g, 0, none⟩ ∧ ls.length ≤ cu ∧ agg? W g (i * 6) 6 = some ls[i].arr)) := Lib.hid fun W hb i hi => by
    obtain ⟨g, cap, e1, e2, _, e4⟩ := row_agg Bk.cells (size := 6) (fun _ => rfl) (ownsRow_below hv hb) (by decide) hi
    obtain ⟨g', cap', e1', e2', _, e4'⟩ := row_agg Bk.cells (size := 6) (fun _ => rfl) (ownsRow_below hu hb) (by decide) hi
    rw [ev] at e1
    rw [eu] at e1'
    cases e1
    cases e1'
    exact ⟨⟨g, rfl, e2, e4⟩, ⟨g', rfl, e2', e4'⟩⟩
  subst ev eu
  clear hv hu
  obtain ⟨n, hn⟩ : ∃ n, ls.length = n := ⟨_, rfl⟩
  rw [hn] at hl ⊢
  have Hn := Lib.hid hn
  have e0 : (n == n) = true := by simp
  have e1 : ((n : Int) != (n : Int)) = false := by simp
  have e2 : (n != n) = false := by simp
  clear hn
  go_enter Tryz.func10, Tryz.ntmps10
  go_wp2_with fail
  go_loopg [5] (n + 1) (fun gg t5 wr => ∃ k : Nat, gg = n + 1 - k ∧ k ≤ n ∧ t5 = .int .i64 k ∧ Below w.heap.size w wr)
  case atStart => exact ⟨0, rfl, Nat.zero_le _, rfl, Below.refl _ _⟩
  case round =>
    obtain ⟨k, rfl, hk, rfl, hb⟩ := hrel
    have HB := Lib.hid hb
    clear hb
    have hk0 : (0 : Int) ≤ (k : Int) := by omega
    by_cases hlt : k < n
    · have hk1 : (k : Int) < (n : Int) := by omega
      have hlt2 : decide (k < n) = true := decide_eq_true hlt
      obtain ⟨⟨g1, rfl, c1, a1⟩, ⟨g2, rfl, c2, a2⟩⟩ := Hr.out wr.drew HB.out.drew k (by rw [Hn.out]; exact hlt)
      rw [Hn.out] at c1 c2
      generalize ls[k]'(by rw [Hn.out]; exact hlt) = x at a1 a2
      have x0 := agg_cell a1 0 _ (Bk.get0 x)
      have x1 := agg_cell a1 1 _ (Bk.get1 x)
      have x2 := agg_cell a1 2 _ (Bk.get2 x)
      have x3 := agg_cell a1 3 _ (Bk.get3 x)
      have x4 := agg_cell a1 4 _ (Bk.get4 x)
      have x5 := agg_cell a1 5 _ (Bk.get5 x)
      have y0 := agg_cell a2 0 _ (Bk.get0 x)
      have y1 := agg_cell a2 1 _ (Bk.get1 x)
      have y2 := agg_cell a2 2 _ (Bk.get2 x)
      have y3 := agg_cell a2 3 _ (Bk.get3 x)
      have y4 := agg_cell a2 4 _ (Bk.get4 x)
      have y5 := agg_cell a2 5 _ (Bk.get5 x)
      obtain ⟨z0, z1, z2, z3, z4, z5⟩ := x
      simp only [Nat.add_zero] at x0 y0
      simp only at x1 x2 x3 x4 x5 y1 y2 y3 y4 y5
      have n0 : (z0 != z0) = false := by simp
      have n1 : (z1 != z1) = false := by simp
      have n2 : (z2 != z2) = false := by simp
      have n3 : (z3 != z3) = false := by simp
      have n4 : (z4 != z4) = false := by simp
      have n5 : (z5 != z5) = false := by simp
      clear a1 a2 hlt
      have hbd := HB.out.drew
      go_upto_region 6 with (fail)
      go_cut [92] from 17 to 92 (fun s92 wx => s92 = .bool false ∧ Below w.heap.size w wx)
      case first =>
        refine Rest.region follows ?_
        generalize wr.drew = wd at x0 x1 x2 x3 x4 x5 y0 y1 y2 y3 y4 y5 hbd ⊢
        refine Rest.tame 76 (fun W => wd = W) (by kernel_rfl) rfl ?_
        simp only [Nat.reduceSub, List.drop_zero]
        iterate 76 first
          | (refine TW.cons_n rfl _ (by intro wT hT R hR K hK; simp only [Act.put, List.setIfInBounds_toArray, List.set_cons_zero, List.set_cons_succ] at hK; subst hT; go_step; exact hK _ _ (hR _ rfl)) ?_; try simp only [Act.put, List.setIfInBounds_toArray, List.set_cons_zero, List.set_cons_succ])
          | (refine TW.cons_g _ _ _ rfl rfl rfl _ (by intro wT hT R hR K hK; simp only [Act.put, List.setIfInBounds_toArray, List.set_cons_zero, List.set_cons_succ] at hK; subst hT; go_step; exact hK _ _ (hR _ rfl)) ?_; try simp only [Act.put, List.setIfInBounds_toArray, List.set_cons_zero, List.set_cons_succ])
        refine TW.nil fun w9 h9 => ?_
        subst h9
        refine Rest.done ?_
        go_wp2_with fail
        go_meet
        exact ⟨rfl, hbd⟩
      case rest =>
        obtain ⟨rfl, hb9⟩ := hcut
        go_wp2_with fail
        go_roundg (n + 1 - (k + 1))
        case measure => omega
        case rel => exact ⟨k + 1, rfl, by omega, by go_num, hb9⟩
    · have hlt2 : decide (k < n) = false := decide_eq_false hlt
      have hk1 : (n : Int) ≤ (k : Int) := by omega
      clear hlt
      go_wp2_with fail
      go_ret
      exact ⟨rfl, HB.out⟩
set_option maxRecDepth 100000 in
set_option maxHeartbeats 8000000 in
theorem costs9_walk (P : Pm) (g off2 : Nat) (S : List Sh2) (L : List Nd) (b off cap : Nat) (p0 : Option Addr) (tol ext : Int) (c : List Int) (pc : Option Addr) (gc oc cc : Nat) (hcl : c.length ≤ 9223372036854775807) (w : World) (hS : ShIn w P g off2 S) (hN : NIn w p0 b off cap L) (hc : ZOn w pc gc oc cc c) :
    Calls Tryz.prog 4 #[.slice p0 L.length cap, .agg P.arr, .int .i64 tol, .int .i64 ext, .slice pc c.length cc] w fun e w' => e = .returned (.bool true) ∧ Below w.heap.size w w' := by
  obtain ⟨s, hs⟩ : ∃ s : List Nat, checkC L = 0 → Items L 0 s := ⟨itemsP L, fun h => itemsP_spec h⟩
  obtain ⟨X0, hX0⟩ : ∃ X0, w.heap.size = X0 := ⟨_, rfl⟩
  have hlen := hN.len
  have hb0 : Below w.heap.size w (w.alloc (.cells P.arr 27)) := (Below.refl _ _).alloc (Nat.le_refl _) _
  have d0 : PAt (w.alloc (.cells P.arr 27)) X0 P := by rw [← hX0]; exact heap_alloc_new w _
  have hrl : (cstR P S L s tol ext c).1.length ≤ 100000 := by
    by_cases h : tryE P S L s tol ext = 0
    · have hk := tryE_zero hs h
      rw [cst_takes h hk.items]
      split
      · have h1 := linesW_len (oneP L P S s tol ext) (brkP L P s) c none 1 2
        have h2 := brkP_len (L := L) (P := P) (s := s)
        have h3 := hk.items.len
        have h4 := (checkC_zero hk.chk).1
        simp only
        omega
      · simp
    · unfold cstR; rw [if_neg h]; simp
  go_enter Tryz.func4, Tryz.ntmps4
  go_upto_region 1 with (fail)
  generalize w.alloc (.cells P.arr 27) = w1 at hb0 d0 ⊢
  have hS1 := hS.below hb0
  have hN1 := hN.below hb0
  have HA : Hid (∀ W, Below w1.heap.size w1 W → agg? W X0 0 24 = some P.arr) := Lib.hid fun W hb => by
    have h1 : PAt W X0 P := (hb.block X0 (Array.getElem?_eq_some_iff.1 d0).1).trans d0
    rw [agg?_blk' h1 0 24 (by rw [Pm.size_arr]; decide)]; simp [Pm.arr, Pm.cells]
  have Hb0 := Lib.hid hb0
  have HL := Lib.hid (lent_any p0 b off cap L w1 hN1)
  have HSN := Lib.hid (And.intro hS1 (And.intro hN1 (hc.below hb0)))
  have HX0 := Lib.hid hX0
  have Hs := Lib.hid hs
  obtain ⟨r, hr⟩ : ∃ r, cstR P S L s tol ext c = r := ⟨_, rfl⟩
  rw [hr] at hrl
  have Hr := Lib.hid hr
  clear hs hS hN hS1 hN1 hb0 d0 hX0 hc hr
  go_upto_region 2 with (go_at_call 7; refine HL.out.mono ?_; clear HL; rintro e w2 ⟨⟨x, c9, rfl, hcx, hown⟩, hb2⟩)
  have HX := Lib.hid (lentIn_of hown hlen)
  have HP := Lib.hid (vCostO P g off2 S L x 0 c9 _ s Hs.out tol ext c pc gc oc cc hcl w2 (HSN.out.1.below hb2) HX.out.nin (HSN.out.2.2.below hb2))
  rw [Hr.out] at HP
  have a2 := HA.out w2 hb2
  have Hb2 := Lib.hid hb2
  obtain ⟨ls, E⟩ := r
  clear hown hcx hb2
  obtain ⟨nc, hnc⟩ : ∃ nc, c.length = nc := ⟨_, rfl⟩
  rw [hnc] at HP
  simp only [hnc]
  have Hnc := Lib.hid hnc
  clear hnc
  go_upto_region 3 with (go_at_call 14; refine HP.out.mono ?_; clear HP; rintro e w3 hp; obtain ⟨v, rfl, hv⟩ := hp.out; have hb3 := hp.below; clear hp)
  have hb13 := Hb2.out.trans (hb3.mono Hb2.out.size)
  have a3 := HA.out w3 hb13
  have HX3 := Lib.hid (HX.out.below hb3)
  have HQ := Lib.hid (q9cost P g off2 S L b off cap p0 s Hs.out tol ext c pc gc oc cc hcl w3 (HSN.out.1.below hb13) (HSN.out.2.1.below hb13) (HSN.out.2.2.below hb13))
  rw [Hr.out, Hnc.out] at HQ
  have Hv := Lib.hid hv
  have Hb3 := Lib.hid hb13
  clear hv hb3 hb13 a2 HX
  go_upto_region 4 with (go_at_call 15; refine HQ.out.mono ?_; clear HQ; rintro e w4 hp; obtain ⟨u, rfl, hu⟩ := hp.out; have hb4 := hp.below; clear hp)
  have hb14 := Hb3.out.trans (hb4.mono Hb3.out.size)
  have HSm := Lib.hid (same9 _ _ v u ls hrl w4 (ownsRow_below Hv.out hb4) hu)
  have HSt : Hid (∀ W, Below w4.heap.size w4 W → Calls Tryz.prog 12 #[.slice (some ⟨x, 0, none⟩) L.length c9, .slice p0 L.length cap] W fun e w' => e = .returned (.bool true) ∧ Below W.heap.size W w') := Lib.hid fun W hb => ((HX3.out.below hb4).below hb).stays (HSN.out.2.1.below (hb14.trans (hb.mono hb14.size)))
  have Hbase := Lib.hid (Hb0.out.trans (hb14.mono Hb0.out.size))
  have e2 : (E == E) = true := by simp
  clear hu hb4 hb14 a3 Hr Hs HSN HX3 HA Hv Hb3 Hb2 Hb0
  go_wp2_with (first
    | (go_at_call 10; refine HSm.out.mono ?_; rintro e w5 ⟨rfl, hb5⟩)
    | (go_at_call 11; refine (num9_any _ _).mono ?_; rintro e w9 ⟨rfl, rfl⟩)
    | (go_at_call 12; refine (HSt.out _ hb5).mono ?_; rintro e w7 ⟨rfl, hb7⟩)
    | (go_at_call 13; refine (knows9_any _).mono ?_; rintro e w8 ⟨rfl, hb8⟩))
  go_ret
  exact ⟨rfl, Hbase.out.trans ((hb5.trans ((hb7.trans (hb8.mono hb7.size)).mono hb5.size)).mono Hbase.out.size)⟩
end Go.Proofs.YtiijpbfkchokaaaGreat
