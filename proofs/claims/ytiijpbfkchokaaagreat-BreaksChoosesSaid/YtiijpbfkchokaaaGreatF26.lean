/-
  The document's side of layer 9: the lines of chosen breaks (Lines), what they cost (Cost).
-/
import Derived.Test.YtiijpbfkchokaaaGreatVBs
import Derived.Test.YtiijpbfkchokaaaGreatL6
import Derived.Test.YtiijpbfkchokaaaGreatB24
import Derived.Test.YtiijpbfkchokaaaGreatTame4
import Derived.Test.YtiijpbfkchokaaaGreatG4
import Derived.Test.YtiijpbfkchokaaaGreatF24
import Derived.Great.BuildSlice
set_option maxRecDepth 100000
set_option maxHeartbeats 8000000
namespace Go.Proofs.YtiijpbfkchokaaaGreat
open Go.ChangeShapes Go.WideShapes Go.ChangeAt Go.RowKit
attribute [local go_sem ↓] Go.wp_at_zero Go.wp_at_succ
def bsQBk1 (parts : Array (Nat × Value)) : Sem Value := Instr.buildSlice 33 1 parts
@[go_sem ↓] theorem execOp_bsQBk1 (ρ : Operand → Value) (dst : Option Tmp) (x : Array (Nat × Operand)) (ty : TypeId) (pos : String) (after : Array Edge) (guard : Option (Nat × Bool)) :
    execOp ρ { dst, op := .buildSlice 33 1 x, type := ty, pos, after, guard } = (do pure (.value (← bsQBk1 (x.map fun (i, y) => (i, ρ y))))) := rfl
theorem info_qbkb : (Tryz.prog.info? 92).map (fun i => (i.zero, i.size, i.bytes)) = some (some (.agg Bk.zero.arr), 6, 48) := by kernel_rfl
theorem info_qbk0 : (Tryz.prog.info? 92).map (fun i => (i.zero, i.size)) = some (some (.agg Bk.zero.arr), 6) := by kernel_rfl
@[go_sem] theorem run_bsQBk1 (n : Bk) (w : World) : (bsQBk1 #[(0, .agg n.arr)]).run Tryz.prog w = .ok (.slice (some ⟨w.heap.size, 0, none⟩) 1 1) (w.alloc (.cells n.arr 92)) := by
  obtain ⟨i, hi, hzz⟩ := Option.map_eq_some_iff.1 info_qbk0
  simp only [Prod.mk.injEq] at hzz
  obtain ⟨hz, hs⟩ := hzz
  refine run_buildSlice w _ 92 1 _ n.arr i (.agg Bk.zero.arr) Tryz.underlying33 hi hz (by rw [hs]; decide) (by rw [hs]; decide) ?_
  rw [hs]
  exact fill_bk1 n
structure QLinesPost (w : World) (l : List Bk) (e : Ending) (w' : World) : Prop where
  out : ∃ v, e = .returned v ∧ w'.ownsRow w.heap.size 92 6 v l.length (l.flatMap Bk.cells)
  below : Below w.heap.size w w'
theorem lines_hit (one : Option Nat → Nat × Int → Int → Int → Bk) {x : Nat × Int} {r : List (Nat × Int)} {c : List Int} {f : Option Nat} {line before : Int} (h : c.contains (x.1 : Int) = true) : linesW one (x :: r) c f line before = one f x line before :: linesW one r c (some x.1) (line + 1) (one f x line before).cls := by rw [linesW, if_pos h]
theorem lines_miss (one : Option Nat → Nat × Int → Int → Int → Bk) {x : Nat × Int} {r : List (Nat × Int)} {c : List Int} {f : Option Nat} {line before : Int} (h : c.contains (x.1 : Int) = false) : linesW one (x :: r) c f line before = linesW one r c f line before := by rw [linesW, if_neg (by rw [h]; decide)]
theorem q9lines (P : Pm) (g off2 : Nat) (S : List Sh2) (L : List Nd) (b off cap : Nat) (p0 : Option Addr) (s : List Nat) (hok : OneQ P S L s) (tol ext : Int) (hext : 0 ≤ ext ∧ ext ≤ 1073741823) (c : List Int) (pc : Option Addr) (gc oc cc : Nat) (hcl : c.length ≤ 100000) (w : World) (hS : ShIn w P g off2 S) (hN : NIn w p0 b off cap L) (hZ : ZOn w pc gc oc cc c) :
    Calls Tryz.prog 34 #[.slice p0 L.length cap, .agg P.arr, .int .i64 tol, .int .i64 ext, .slice pc c.length cc] w (QLinesPost w (linesW (oneP L P S s tol ext) (brkP L P s) c none 1 2)) := by
  have hb0 : Below w.heap.size w (w.alloc (.cells P.arr 27)) := (Below.refl _ _).alloc (Nat.le_refl _) _
  have d0 : PAt (w.alloc (.cells P.arr 27)) w.heap.size P := heap_alloc_new w _
  have HPl := Lib.hid (q9places P p0 b off cap L hok.chk s hok.items _ (hN.below hb0))
  have hBn : (brkP L P s).length ≤ 2001 := by
    have := brkP_len (L := L) (P := P) (s := s)
    have := hok.items.len
    have := (checkC_zero hok.chk).1
    omega
  have HO : Hid (∀ W, Below w.heap.size w W → ∀ (f : Option Nat) (k : Nat) (z : Nat × Int) (line before : Int), (brkP L P s)[k]? = some z → (∀ x, f = some x → x ∈ s ∧ x < z.1) → (1 ≤ line ∧ line ≤ 1000000) → (-10 ≤ before ∧ before ≤ 10) → Calls Tryz.prog 57 #[.slice p0 L.length cap, .agg P.arr, .int .i64 tol, .int .i64 ext, .int .i64 (fI f), .int .i64 z.1, .int .i64 z.2, .int .i64 line, .int .i64 before] W fun e w' => e = .returned (.agg (oneP L P S s tol ext f z line before).arr) ∧ Below W.heap.size W w') := Lib.hid fun W hb f k z line before hz hf hl hbf => by
    have hm := brkP_mem (List.mem_of_getElem? hz)
    exact q9one P g off2 S L b off cap p0 s hok tol ext hext f z.1 z.2 hm.2 hf hm.1 line before hl hbf W (hS.below hb) (hN.below hb)
  have HHas : Hid (∀ W, Below w.heap.size w W → ∀ x, Calls Tryz.prog 52 #[.slice pc c.length cc, .int .i64 x] W fun e w' => e = .returned (.bool (decide (x ∈ c))) ∧ W = w') := Lib.hid fun W hb x => q9hasO pc gc oc cc c x W (hZ.below hb) hcl
  obtain ⟨one, hone⟩ : ∃ one, oneP L P S s tol ext = one := ⟨_, rfl⟩
  have Hcls : Hid (∀ f z line before, -10 ≤ (one f z line before).cls ∧ (one f z line before).cls ≤ 10) := Lib.hid fun f z line before => by rw [← hone]; exact one_cls L P S s tol ext f z line before
  rw [hone] at HO ⊢
  obtain ⟨BL, hBL⟩ : ∃ BL, brkP L P s = BL := ⟨_, rfl⟩
  have Hbb : Hid (∀ (i j : Nat) (x y : Nat × Int), BL[i]? = some x → BL[j]? = some y → i < j → x.1 ∈ s ∧ x.1 < y.1) := Lib.hid fun i j x y hi hj hij => by rw [← hBL] at hi hj; exact brk_before hok.items hi hj hij
  rw [hBL] at HPl HO hBn ⊢
  obtain ⟨nc, hnc⟩ : ∃ nc, c.length = nc := ⟨_, rfl⟩
  rw [hnc] at HHas ⊢
  obtain ⟨R, hR⟩ : ∃ R, linesW one BL c none 1 2 = R := ⟨_, rfl⟩
  rw [hR]
  have HR := Lib.hid hR
  clear hok hS hN hZ hone hBL hnc hR hcl
  go_enter Tryz.func34, Tryz.ntmps34
  go_upto_region 1 with (fail)
  obtain ⟨X0, hX0⟩ : ∃ X0, w.heap.size = X0 := ⟨_, rfl⟩
  rw [hX0] at d0 ⊢
  generalize w.alloc (.cells P.arr 27) = w1 at hb0 d0 HPl ⊢
  have HA : Hid (∀ W, Below w1.heap.size w1 W → agg? W X0 0 24 = some P.arr) := Lib.hid fun W hb => by rw [agg?_blk' (d0.still hb) 0 24 (by rw [Pm.size_arr]; decide)]; simp [Pm.arr, Pm.cells]
  have a0 := HA.out w1 (Below.refl _ _)
  have Hb0 := Lib.hid hb0
  have HX0 := Lib.hid hX0
  clear hb0 d0 hX0
  go_upto_region 5 with (go_at_call 41; refine HPl.out.mono ?_; clear HPl; rintro e w2 hp; obtain ⟨pv, gv, cv, pu, gu, cu, rfl, zv, zu, k1, k2⟩ := places_read hp; have hb2 := hp.below; clear hp)
  clear a0
  have Hv := Lib.hid zv
  have Hu := Lib.hid zu
  have Hb2 := Lib.hid hb2
  have hb02 := Hb0.out.trans (hb2.mono Hb0.out.size)
  have Hb02 := Lib.hid hb02
  obtain ⟨n, hn⟩ : ∃ n, BL.length = n := ⟨_, rfl⟩
  rw [hn] at hBn k1 k2
  simp only [hn]
  have Hn := Lib.hid hn
  clear zv zu hb2 hb02 hn
  go_wp2_with fail
  go_loopg [13, 14, 15, 16] (n + 1) (fun gg t13 t14 t15 t16 wr => ∃ (k : Nat) (acc : List Bk) (v : Value) (f : Option Nat) (cl : Int), gg = n + 1 - k ∧ k ≤ n ∧ acc.length ≤ k ∧ t13 = v ∧ t14 = .int .i64 (fI f) ∧ t15 = .int .i64 cl ∧ t16 = .int .i64 k ∧ (-10 ≤ cl ∧ cl ≤ 10) ∧ (∀ x, f = some x → ∃ i q, i < k ∧ BL[i]? = some (x, q)) ∧ acc ++ linesW one (BL.drop k) c f ((acc.length : Int) + 1) cl = R ∧ wr.ownsRow w2.heap.size 92 6 v acc.length (acc.flatMap Bk.cells) ∧ Below w2.heap.size w2 wr)
  case atStart => exact ⟨0, [], _, none, 2, rfl, Nat.zero_le _, Nat.le_refl _, rfl, rfl, rfl, rfl, by omega, (fun x hx => by cases hx), by rw [List.drop_zero]; exact HR.out, World.ownsRow_nil _ _ _ _, Below.refl _ _⟩
  case round =>
    clear HR
    obtain ⟨k, acc, v, f, cl, rfl, hk, hak, rfl, rfl, rfl, rfl, hcl9, hf, hln, hrow, hb⟩ := hrel
    obtain ⟨po, co, eo⟩ := owns_form hrow
    have Hln := Lib.hid hln
    have Hf := Lib.hid hf
    have Hrow := Lib.hid hrow
    have HB := Lib.hid hb
    have hk0 : (0 : Int) ≤ (k : Int) := by omega
    subst eo
    clear hln hf hrow hb
    by_cases hlt : k < n
    · have hk1 : (k : Int) < (n : Int) := by omega
      obtain ⟨z, hz⟩ : ∃ z, BL[k]? = some z := ⟨_, List.getElem?_eq_getElem (by rw [Hn.out]; exact hlt)⟩
      obtain ⟨rfl, cg2⟩ := ats_cell (Hv.out.below HB.out) hz
      obtain ⟨rfl, cg3⟩ := pens_cell (Hu.out.below HB.out) hz
      have hbw := Hb02.out.trans (HB.out.mono Hb02.out.size)
      have HH := Lib.hid (HHas.out wr hbw (z.1 : Int))
      have HO1 := HO.out
      obtain ⟨a, q⟩ := z
      simp only at cg2 cg3 HH
      have hdr : BL.drop k = (a, q) :: BL.drop (k + 1) := by
        have hk9 : k < BL.length := by rw [Hn.out]; exact hlt
        rw [List.drop_eq_getElem_cons hk9]
        congr 1
        exact (List.getElem?_eq_some_iff.1 hz).2
      have Hdr := Lib.hid hdr
      have Hz := Lib.hid hz
      obtain ⟨mt, hmt⟩ : ∃ mt, decide ((a : Int) ∈ c) = mt := ⟨_, rfl⟩
      rw [hmt] at HH
      have Hmt : Hid (c.contains (a : Int) = mt) := Lib.hid (by rw [List.contains_eq_mem]; exact hmt)
      have hlt2 : decide (k < n) = true := decide_eq_true hlt
      clear hz hdr hmt hlt HO1 hbw
      cases hb9 : mt
      case false =>
        subst hb9
        have hms := lines_miss one (x := (a, q)) (r := BL.drop (k + 1)) (c := c) (f := f) (line := (acc.length : Int) + 1) (before := cl) Hmt.out
        have Hr2 := Lib.hid (show acc ++ linesW one (BL.drop (k + 1)) c f ((acc.length : Int) + 1) cl = R by
          have := Hln.out
          rw [Hdr.out, hms] at this
          exact this)
        clear hms Hln
        go_wp2_with (go_at_call 52; refine HH.out.mono ?_; clear HH; rintro e w3 ⟨rfl, rfl⟩)
        go_roundg (n + 1 - (k + 1))
        case measure => omega
        case rel => exact ⟨k + 1, acc, _, f, cl, rfl, by omega, by omega, rfl, rfl, rfl, by go_num, hcl9, (fun x hx => by
            obtain ⟨i, q9, hi, hiz⟩ := Hf.out x hx
            exact ⟨i, q9, by omega, hiz⟩), Hr2.out, Hrow.out, HB.out⟩
      case true =>
        subst hb9
        have hal : (acc.length : Int) + 1 ≤ 1000000 := by omega
        obtain ⟨x, hx⟩ : ∃ x, one f (a, q) ((acc.length : Int) + 1) cl = x := ⟨_, rfl⟩
        have hxc : -10 ≤ x.cls ∧ x.cls ≤ 10 := by rw [← hx]; exact Hcls.out _ _ _ _
        have HOn : Hid (∀ W, Below wr.heap.size wr W → Calls Tryz.prog 57 #[.slice p0 L.length cap, .agg P.arr, .int .i64 tol, .int .i64 ext, .int .i64 (fI f), .int .i64 (a : Nat), .int .i64 q, .int .i64 ((acc.length : Int) + 1), .int .i64 cl] W fun e w' => e = .returned (.agg x.arr) ∧ Below W.heap.size W w') := Lib.hid fun W hb => by
          have := HO.out W ((Hb02.out.trans (HB.out.mono Hb02.out.size)).trans (hb.mono (Hb02.out.trans (HB.out.mono Hb02.out.size)).size)) f k (a, q) ((acc.length : Int) + 1) cl Hz.out (fun y hy => by
            obtain ⟨i, q9, hi, hiz⟩ := Hf.out y hy
            exact Hbb.out i k (y, q9) (a, q) hiz Hz.out hi) (by omega) hcl9
          rw [hx] at this
          exact this
        have Hr2 := Lib.hid (show (acc ++ [x]) ++ linesW one (BL.drop (k + 1)) c (some a) (((acc ++ [x]).length : Int) + 1) x.cls = R by
          have := Hln.out
          rw [Hdr.out, lines_hit one Hmt.out, hx] at this
          rw [← this, List.append_assoc, List.length_append, List.length_singleton]
          rfl)
        have HK : Hid (∀ W, Below wr.heap.size wr W → agg? W X0 0 24 = some P.arr ∧ W.cell? ⟨gv, k, none⟩ = some (.int .i64 (a : Nat)) ∧ W.cell? ⟨gu, k, none⟩ = some (.int .i64 q)) := Lib.hid fun W hb => ⟨HA.out W ((Hb2.out.trans (HB.out.mono Hb2.out.size)).trans (hb.mono (Hb2.out.trans (HB.out.mono Hb2.out.size)).size)), cell_below9 cg2 hb, cell_below9 cg3 hb⟩
        obtain ⟨ln, hln⟩ : ∃ ln, (acc.length : Int) + 1 = ln := ⟨_, rfl⟩
        rw [hln] at HOn
        have hwl : IntKind.i64.wrap ((acc.length : Int) + 1) = ln := by rw [hln]; exact Go.IntWalk.i64_in _ (by omega)
        clear hx Hln cg3 hal hln
        go_upto_region 9 with (go_at_call 52; refine HH.out.mono ?_; clear HH; rintro e w3 ⟨rfl, rfl⟩)
        clear cg2
        have hbd : Below wr.heap.size wr wr.drew := (Below.refl _ _).drew
        have hbA : Below wr.heap.size wr (wr.alloc (.cells (Bk.mk 0 0 0 0 0 false).arr 92)).drew := ((Below.refl _ wr).alloc (Nat.le_refl _) _).drew
        have hzA : QBkAt (wr.alloc (.cells (Bk.mk 0 0 0 0 0 false).arr 92)).drew wr.heap.size ⟨0, 0, 0, 0, 0, false⟩ := heap_alloc_new wr _
        have hltA : wr.heap.size < (wr.alloc (.cells (Bk.mk 0 0 0 0 0 false).arr 92)).drew.heap.size := hzA.lt
        have HKd := HK.out _ hbd
        have HKs : Hid (∀ W v, Below wr.heap.size wr W → agg? (setAgg W wr.heap.size 0 v) X0 0 24 = some P.arr ∧ (setAgg W wr.heap.size 0 v).cell? ⟨gv, k, none⟩ = some (.int .i64 (a : Nat)) ∧ (setAgg W wr.heap.size 0 v).cell? ⟨gu, k, none⟩ = some (.int .i64 q)) := Lib.hid fun W v hb => HK.out _ (Below.setAgg hb (Nat.le_refl _) _ _)
        have ha1 : (0 : Int) ≤ (a : Int) := by omega
        go_cut [17] from 37 to 54 (fun s17 wx => ∃ V, s17 = .pointer (some ⟨V, 0, none⟩) ∧ QBkAt wx V x ∧ wr.heap.size ≤ V ∧ Below wr.heap.size wr wx)
        case first =>
          go_region_held3 (fun W => agg? W X0 0 24 = some P.arr ∧ W.cell? ⟨gv, k, none⟩ = some (.int .i64 (a : Nat)) ∧ W.cell? ⟨gu, k, none⟩ = some (.int .i64 q))
            (first | (with_reducible exact HKd) | (with_reducible exact HK.out _ hbA) | (with_reducible exact HK.out _ hd5) | (with_reducible exact HK.out _ hd6) | (with_reducible exact HK.out _ hd7) | (with_reducible exact HKs.out _ _ hd5))
            ((first | (go_at_call 57; refine (HOn.out _ (by first | exact hbd | exact hbA)).mono ?_; rintro e w5 ⟨rfl, hb5⟩; have hd5 : Below wr.heap.size wr w5 := (by first | exact hbd.trans hb5 | exact hbA.trans (hb5.mono hbA.size)); have hd6 : Below wr.heap.size wr (w5.alloc (.cells (Bk.mk 0 0 0 0 0 false).arr 92)) := hd5.alloc hd5.size _; have hd7 : Below wr.heap.size wr (w5.alloc (.cells x.arr 92)) := hd5.alloc hd5.size _; (first | (have hz5 : QBkAt w5 wr.heap.size ⟨0, 0, 0, 0, 0, false⟩ := (hb5.block _ hltA).trans hzA; have t5 := hz5.there) | skip))))
          · go_wp2_with fail
            go_meet
            exact ⟨w5.heap.size, rfl, heap_alloc_new w5 _, hd5.size, hd7⟩
          · go_wp2_with fail
            go_meet
            exact ⟨wr.heap.size, rfl, hz5.store, Nat.le_refl _, Below.setAgg hd5 (Nat.le_refl _) _ _⟩
        case rest =>
          obtain ⟨V, rfl, hV, hVl, hb5⟩ := hcut
          have ax := hV.agg
          have hrow5 := ownsRow_below Hrow.out hb5
          have hB5 := HB.out.trans (hb5.mono HB.out.size)
          obtain ⟨i0, hi0', hz0, hz1, hz2'⟩ := info_parts info_qbkb
          have Hrow5 := Lib.hid (hrow5.alloc (.cells x.arr 92))
          have H1 := Lib.hid (bks_one x)
          have hbase : w2.heap.size ≤ (wc.alloc (.cells x.arr 92)).heap.size := by rw [World.size_alloc]; have := hB5.size; omega
          clear hrow5 HK HKs HKd hbd hbA hzA hltA HOn hwl
          go_upto_region 11 with (at_builtin; refine wpList_append_lies _ rfl (.tmp 55) (.tmp 57) 33 rfl w2.heap.size 92 i0 (.agg Bk.zero.arr) 6 48 Tryz.underlying33 hi0' hz0 hz1 hz2' rfl (by decide) (.slice po acc.length co) acc.length (acc.flatMap Bk.cells) rfl Hrow5.out ⟨wc.heap.size, 0, none⟩ 1 1 x.cells rfl rfl (World.news_of_block (cs := x.cells.toArray) (heap_alloc_new _ _)) H1.out (by decide) (by unfold maxLen; omega) (by omega) hbase _ rfl ?_; intro g5 cap5 w6 hown6 hgrow6 hat6 hlt6)
          have hb6 : Below w2.heap.size (wc.alloc (.cells x.arr 92)) w6 := grown_below hgrow6 hbase fun q hq => (Hrow.out.lt q hq).1
          have hB6 : Below w2.heap.size w2 w6 := (hB5.trans (((Below.refl wc.heap.size wc).alloc (Nat.le_refl _) _).mono hB5.size)).trans hb6
          have hV6 : QBkAt w6 V x := (hgrow6.block V (by rw [World.size_alloc]; exact Nat.lt_succ_of_lt hV.lt) (fun e => by have := (Hrow.out.lt V e.symm).2; omega)).trans ((Below.heap_alloc _ _ _ hV.lt).trans hV)
          have y2 := hV6.cell 2 _ rfl
          have cg6 := (ats_cell (Hv.out.below hB6) Hz.out).2
          have Hrow6 : Hid (w6.ownsRow w2.heap.size 92 6 (.slice (some ⟨g5, 0, none⟩) (acc.length + 1) cap5) (acc ++ [x]).length ((acc ++ [x]).flatMap Bk.cells)) := Lib.hid (by
            rw [List.length_append, List.length_singleton, List.flatMap_append]
            simpa using hown6)
          have HB6 := Lib.hid hB6
          simp only at cg6
          clear hown6 hgrow6 hat6 hlt6 hb6 hB6 hV6 ax Hrow5 H1 hbase hB5 hV
          have hal2 : (acc ++ [x]).length ≤ k + 1 := by rw [List.length_append, List.length_singleton]; omega
          go_wp2_with fail
          go_roundg (n + 1 - (k + 1))
          case measure => omega
          case rel => exact ⟨k + 1, acc ++ [x], _, some a, x.cls, rfl, by omega, hal2, rfl, rfl, rfl, by go_num, hxc, (fun y hy => by
            cases hy
            exact ⟨k, q, by omega, Hz.out⟩), Hr2.out, Hrow6.out, HB6.out⟩
    · have hlt2 : decide (k < n) = false := decide_eq_false hlt
      have hkn : k = n := by omega
      have hdr : BL.drop k = [] := List.drop_eq_nil_of_le (by rw [Hn.out]; omega)
      have hRl : acc = R := by
        have := Hln.out
        rw [hdr] at this
        rw [← this]
        simp [linesW]
      subst hRl
      clear hlt hdr hkn Hln
      go_wp2_with fail
      go_ret
      exact ⟨⟨_, rfl, ownsRow_base Hrow.out Hb02.out.size⟩, Hb02.out.trans (HB.out.mono Hb02.out.size)⟩
end Go.Proofs.YtiijpbfkchokaaaGreat

namespace Go.Proofs.YtiijpbfkchokaaaGreat
open Go.ChangeShapes Go.WideShapes Go.ChangeAt Go.RowKit
attribute [local go_sem ↓] Go.wp_at_zero Go.wp_at_succ
theorem linesW_len (one : Option Nat → Nat × Int → Int → Int → Bk) : ∀ (B : List (Nat × Int)) (c : List Int) (f : Option Nat) (line before : Int), (linesW one B c f line before).length ≤ B.length
  | [], _, _, _, _ => Nat.le_refl _
  | x :: r, c, f, line, before => by
    rw [linesW]
    split
    · rw [List.length_cons, List.length_cons]
      exact Nat.succ_le_succ (linesW_len one r c _ _ _)
    · exact Nat.le_succ_of_le (linesW_len one r c _ _ _)
theorem same9 (B1 B2 : Nat) (v u : Value) (ls : List Bk) (hl : ls.length ≤ 100000) (w : World) (hv : w.ownsRow B1 91 6 v ls.length (ls.flatMap Bk.cells)) (hu : w.ownsRow B2 92 6 u ls.length (ls.flatMap Bk.cells)) :
    Calls Tryz.prog 10 #[v, u] w fun e w' => e = .returned (.bool true) ∧ Below w.heap.size w w' := by
  obtain ⟨pv, cv, ev⟩ := owns_form hv
  obtain ⟨pu, cu, eu⟩ := owns_form hu
  have Hr : Hid (∀ W, Below w.heap.size w W → ∀ i (hi : i < ls.length), (∃ g, pv = some ⟨g, 0, none⟩ ∧ ls.length ≤ cv ∧ agg? W g (i * 6) 6 = some ls[i].arr) ∧ (∃ g, pu = some ⟨g, 0, none⟩ ∧ ls.length ≤ cu ∧ agg? W g (i * 6) 6 = some ls[i].arr)) := Lib.hid fun W hb i hi => by
    obtain ⟨g, cap, e1, e2, _, e4⟩ := row_agg Bk.cells (size := 6) (fun _ => rfl) (ownsRow_below hv hb) (by decide) hi
    obtain ⟨g', cap', e1', e2', _, e4'⟩ := row_agg Bk.cells (size := 6) (fun _ => rfl) (ownsRow_below hu hb) (by decide) hi
    rw [ev] at e1
    rw [eu] at e1'
    cases e1
    cases e1'
    exact ⟨⟨g, rfl, e2, e4⟩, ⟨g', rfl, e2', e4'⟩⟩
  subst ev eu
  clear hv hu
  obtain ⟨n, hn⟩ : ∃ n, ls.length = n := ⟨_, rfl⟩
  rw [hn] at hl ⊢
  have Hn := Lib.hid hn
  have e0 : (n == n) = true := by simp
  have e1 : ((n : Int) != (n : Int)) = false := by simp
  have e2 : (n != n) = false := by simp
  clear hn
  go_enter Tryz.func10, Tryz.ntmps10
  go_wp2_with fail
  go_loopg [5] (n + 1) (fun gg t5 wr => ∃ k : Nat, gg = n + 1 - k ∧ k ≤ n ∧ t5 = .int .i64 k ∧ Below w.heap.size w wr)
  case atStart => exact ⟨0, rfl, Nat.zero_le _, rfl, Below.refl _ _⟩
  case round =>
    obtain ⟨k, rfl, hk, rfl, hb⟩ := hrel
    have HB := Lib.hid hb
    clear hb
    have hk0 : (0 : Int) ≤ (k : Int) := by omega
    by_cases hlt : k < n
    · have hk1 : (k : Int) < (n : Int) := by omega
      have hlt2 : decide (k < n) = true := decide_eq_true hlt
      obtain ⟨⟨g1, rfl, c1, a1⟩, ⟨g2, rfl, c2, a2⟩⟩ := Hr.out wr.drew HB.out.drew k (by rw [Hn.out]; exact hlt)
      rw [Hn.out] at c1 c2
      generalize ls[k]'(by rw [Hn.out]; exact hlt) = x at a1 a2
      have x0 := agg_cell a1 0 _ (Bk.get0 x)
      have x1 := agg_cell a1 1 _ (Bk.get1 x)
      have x2 := agg_cell a1 2 _ (Bk.get2 x)
      have x3 := agg_cell a1 3 _ (Bk.get3 x)
      have x4 := agg_cell a1 4 _ (Bk.get4 x)
      have x5 := agg_cell a1 5 _ (Bk.get5 x)
      have y0 := agg_cell a2 0 _ (Bk.get0 x)
      have y1 := agg_cell a2 1 _ (Bk.get1 x)
      have y2 := agg_cell a2 2 _ (Bk.get2 x)
      have y3 := agg_cell a2 3 _ (Bk.get3 x)
      have y4 := agg_cell a2 4 _ (Bk.get4 x)
      have y5 := agg_cell a2 5 _ (Bk.get5 x)
      obtain ⟨z0, z1, z2, z3, z4, z5⟩ := x
      simp only [Nat.add_zero] at x0 y0
      simp only at x1 x2 x3 x4 x5 y1 y2 y3 y4 y5
      have n0 : (z0 != z0) = false := by simp
      have n1 : (z1 != z1) = false := by simp
      have n2 : (z2 != z2) = false := by simp
      have n3 : (z3 != z3) = false := by simp
      have n4 : (z4 != z4) = false := by simp
      have n5 : (z5 != z5) = false := by simp
      clear a1 a2 hlt
      have hbd := HB.out.drew
      go_upto_region 6 with (fail)
      go_cut [92] from 17 to 92 (fun s92 wx => s92 = .bool false ∧ Below w.heap.size w wx)
      case first =>
        refine Rest.region follows ?_
        generalize wr.drew = wd at x0 x1 x2 x3 x4 x5 y0 y1 y2 y3 y4 y5 hbd ⊢
        refine Rest.tame 76 (fun W => wd = W) (by kernel_rfl) rfl ?_
        simp only [Nat.reduceSub, List.drop_zero]
        iterate 76 first
          | (refine TW.cons_n rfl _ (by intro wT hT R hR K hK; simp only [Act.put, lsA, lsB, lsC] at hK; subst hT; go_step; exact hK _ _ (hR _ rfl)) ?_; try simp only [Act.put, lsA, lsB, lsC])
          | (refine TW.cons_g _ _ _ rfl rfl rfl _ (by intro wT hT R hR K hK; simp only [Act.put, lsA, lsB, lsC] at hK; subst hT; go_step; exact hK _ _ (hR _ rfl)) ?_; try simp only [Act.put, lsA, lsB, lsC])
        refine TW.nil fun w9 h9 => ?_
        subst h9
        refine Rest.done ?_
        go_wp2_with fail
        go_meet
        exact ⟨rfl, hbd⟩
      case rest =>
        obtain ⟨rfl, hb9⟩ := hcut
        go_wp2_with fail
        go_roundg (n + 1 - (k + 1))
        case measure => omega
        case rel => exact ⟨k + 1, rfl, by omega, by go_num, hb9⟩
    · have hlt2 : decide (k < n) = false := decide_eq_false hlt
      have hk1 : (n : Int) ≤ (k : Int) := by omega
      clear hlt
      go_wp2_with fail
      go_ret
      exact ⟨rfl, HB.out⟩
end Go.Proofs.YtiijpbfkchokaaaGreat
namespace Go.Proofs.YtiijpbfkchokaaaGreat
open Go.ChangeShapes Go.WideShapes Go.ChangeAt Go.RowKit
attribute [local go_sem ↓] Go.wp_at_zero Go.wp_at_succ
/-! plain -/
def sameW (y w : Wy) : Bool := decide (y.ats.length = w.ats.length) && decide (y.cls = w.cls)
theorem addW_miss (w : Wy) : ∀ (l : List Wy), (∀ y ∈ l, sameW y w = false) → addW l w = l ++ [w]
  | [], _ => rfl
  | y :: r, h => by
    have h1 := h y List.mem_cons_self
    unfold sameW at h1
    rw [addW, if_neg (by rintro ⟨a, b⟩; simp [a, b] at h1), addW_miss w r fun z hz => h z (List.mem_cons_of_mem _ hz), List.cons_append]
theorem addW_hit (w : Wy) : ∀ (l : List Wy) (k : Nat) (hk : k < l.length), (∀ j (hj : j < k), sameW (l[j]'(by omega)) w = false) → sameW l[k] w = true → addW l w = l.set k (if betB w l[k] then w else l[k])
  | [], k, hk, _, _ => by simp at hk
  | y :: r, 0, _, _, h => by
    unfold sameW at h
    simp only [List.getElem_cons_zero, Bool.and_eq_true, decide_eq_true_eq] at h
    rw [addW, if_pos h]
    rfl
  | y :: r, k + 1, hk, hm, h => by
    have h1 := hm 0 (by omega)
    unfold sameW at h1
    simp only [List.getElem_cons_zero] at h1
    rw [addW, if_neg (by rintro ⟨a, b⟩; simp [a, b] at h1), addW_hit w r k (by simpa using hk) (fun j hj => by have := hm (j + 1) (by omega); simpa using this) (by simpa using h)]
    rfl
/-! rows -/
theorem setMany_list : ∀ (vs M A R : List Value) (cur : Array Value), cur.toList = A ++ (M ++ R) → M.length = vs.length → (setMany cur A.length vs).toList = A ++ (vs ++ R)
  | [], M, A, R, cur, h, hl => by
    have : M = [] := List.length_eq_zero_iff.1 hl
    subst this
    exact h
  | v :: vs, [], A, R, cur, h, hl => by simp at hl
  | v :: vs, m :: M, A, R, cur, h, hl => by
    have h1 : (cur.setIfInBounds A.length v).toList = (A ++ [v]) ++ (M ++ R) := by
      rw [Array.toList_setIfInBounds, h]
      simp
    have h2 := setMany_list vs M (A ++ [v]) R (cur.setIfInBounds A.length v) h1 (by simpa using hl)
    rw [List.length_append, List.length_singleton] at h2
    rw [setMany, h2]
    simp
theorem KeepZ.setAgg {W : World} {g o : Nat} {c : Array Value} {cur : Array Value} {t : TypeId} (h : W.heap[g]? = some (.cells cur t (0, 0))) (ht : t ≠ 3) : KeepZ W (setAgg W g o c) (some g) := by
  have hb := Below.setAgg (Below.refl g W) (Nat.le_refl g) o c
  refine ⟨⟨hb.os, hb.tape, hb.output, hb.size, fun k hk hne => heap_setCells_other _ _ (fun e => hne (by rw [e])) _ _ _⟩, fun q hq _ => ?_⟩
  cases hq
  exact ⟨cur, t, h, ht⟩
theorem way_ne_int : (86 : TypeId) ≠ 3 := by decide
theorem KeepZ.trans {A B C : World} {r : Option Nat} (h : KeepZ A B r) (k : KeepZ B C r) : KeepZ A C r :=
  ⟨⟨k.grown.os.trans h.grown.os, k.grown.tape.trans h.grown.tape, k.grown.output.trans h.grown.output, Nat.le_trans h.grown.size k.grown.size, fun i hi hne => (k.grown.block i (Nat.lt_of_lt_of_le hi h.grown.size) hne).trans (h.grown.block i hi hne)⟩, h.typ⟩
theorem KeepZ.below {A B : World} {r : Option Nat} (h : Below A.heap.size A B) (ht : ∀ q, r = some q → q < A.heap.size → ∃ cur t, A.heap[q]? = some (.cells cur t (0, 0)) ∧ t ≠ 3) : KeepZ A B r :=
  ⟨⟨h.os, h.tape, h.output, h.size, fun k hk _ => h.block k hk⟩, ht⟩
theorem QL.typ {W : World} {B : Nat} {v : Value} {xs : List Qw} {l : List Wy} (h : QL W B v xs l) : ∀ q, v.ownBlock = some q → q < W.heap.size → ∃ cur t, W.heap[q]? = some (.cells cur t (0, 0)) ∧ t ≠ 3 := fun q hq _ => by
  obtain ⟨cur, hc⟩ := row_typ h.row hq
  exact ⟨cur, _, hc, way_ne_int⟩
theorem QL.there {W : World} {B : Nat} {v : Value} {xs : List Qw} {l : List Wy} (h : QL W B v xs l) {k : Nat} (hk : k < l.length) {g cap : Nat} (hv : v = .slice (some ⟨g, 0, none⟩) l.length cap) : there? W g (k * 5) 5 = true := by
  obtain ⟨hl, h2⟩ := h.row
  rcases h2 with ⟨e, _⟩ | ⟨g', cap', cur, e, _, hc, hn, _, hs, _⟩
  · rw [hv] at e; cases e
  · rw [hv] at e
    cases e
    exact there_blk hc (k * 5) 5 (by rw [hs]; have := Nat.mul_le_mul_right 5 (show k + 1 ≤ cap by omega); omega)
theorem QL.store {W : World} {B : Nat} {v : Value} {xs : List Qw} {l : List Wy} (h : QL W B v xs l) {k : Nat} (hk : k < l.length) {g cap : Nat} (hv : v = .slice (some ⟨g, 0, none⟩) l.length cap) {x : Qw} {y : Wy} (hx : QwIs W B x y) :
    QL (setAgg W g (k * 5) x.arr) B v (xs.set k x) (l.set k y) ∧ KeepZ W (setAgg W g (k * 5) x.arr) v.ownBlock := by
  have hK : KeepZ W (setAgg W g (k * 5) x.arr) v.ownBlock := by
    obtain ⟨cur, hc⟩ := row_typ h.row (g := g) (by rw [hv]; rfl)
    have := KeepZ.setAgg (o := k * 5) (c := x.arr) hc way_ne_int
    rw [hv]
    exact this
  refine ⟨⟨?_, by rw [List.length_set, List.length_set]; exact h.len, fun i x' y' hx' hy' => ?_⟩, hK⟩
  · obtain ⟨hl, h2⟩ := h.row
    have hxl := h.len
    have flen : ∀ ys : List Qw, (ys.flatMap Qw.cells).length = ys.length * 5 := by
      intro ys
      induction ys with
      | nil => rfl
      | cons z r ih => rw [List.flatMap_cons, List.length_append, ih, List.length_cons]; show 5 + _ = _; omega
    refine ⟨by rw [flen, List.length_set, List.length_set, hxl], ?_⟩
    rcases h2 with ⟨e, _⟩ | ⟨g', cap', cur, e, hb, hc, hn, hm, hs, ht⟩
    · rw [hv] at e; cases e
    · rw [hv] at e
      cases e
      have hkx : k < xs.length := by omega
      have hsp : xs = xs.take k ++ xs[k] :: xs.drop (k + 1) := by
        rw [← List.drop_eq_getElem_cons hkx, List.take_append_drop]
      have hA : ((xs.take k).flatMap Qw.cells).length = k * 5 := by rw [flen, List.length_take, Nat.min_eq_left (by omega)]
      have hcur : cur.toList = (xs.take k).flatMap Qw.cells ++ (xs[k].cells ++ ((xs.drop (k + 1)).flatMap Qw.cells ++ cur.toList.drop (l.length * 5))) := by
        have h1 : cur.toList = cur.toList.take (l.length * 5) ++ cur.toList.drop (l.length * 5) := (List.take_append_drop _ _).symm
        have hflat : xs.flatMap Qw.cells = (xs.take k).flatMap Qw.cells ++ (xs[k].cells ++ (xs.drop (k + 1)).flatMap Qw.cells) := by
          have := congrArg (List.flatMap Qw.cells) hsp
          rw [List.flatMap_append, List.flatMap_cons] at this
          exact this
        rw [ht, hflat] at h1
        exact h1.trans (by simp only [List.append_assoc])
      have hset := setMany_list x.cells xs[k].cells _ _ cur hcur rfl
      rw [hA] at hset
      have hsame := heap_setCells_same g 86 (0, 0) x.arr.toList (k * 5) cur W hc
      rw [show x.arr.toList = x.cells from rfl] at hsame
      refine .inr ⟨g, cap, setMany cur (k * 5) x.cells, by rw [List.length_set]; exact hv, hb, hsame, by rw [List.length_set]; exact hn, hm, ?_, ?_⟩
      · have e5 := congrArg List.length hset
        have e6 := congrArg List.length hcur
        rw [Array.length_toList] at e5 e6
        simp only [List.length_append] at e5 e6
        have c1 : x.cells.length = 5 := rfl
        have c2 : xs[k].cells.length = 5 := rfl
        omega
      · rw [hset, List.length_set, List.set_eq_take_append_cons_drop, if_pos hkx, List.flatMap_append, List.flatMap_cons]
        have e1 : (xs.take k).flatMap Qw.cells ++ (x.cells ++ ((xs.drop (k + 1)).flatMap Qw.cells ++ cur.toList.drop (l.length * 5))) = ((xs.take k).flatMap Qw.cells ++ (x.cells ++ (xs.drop (k + 1)).flatMap Qw.cells)) ++ cur.toList.drop (l.length * 5) := by
          simp only [List.append_assoc]
        rw [e1]
        apply List.take_left'
        rw [List.length_append, List.length_append, hA, flen, List.length_drop]
        show k * 5 + (5 + _) = _
        have : xs.length - (k + 1) = l.length - (k + 1) := by rw [hxl]
        rw [this]
        omega
  · have hxl := h.len
    rw [List.getElem?_set] at hx' hy'
    by_cases e : k = i
    · rw [if_pos e, if_pos (by omega)] at hx'
      rw [if_pos e, if_pos (by omega)] at hy'
      cases hx'
      cases hy'
      exact hx.keep hK
    · rw [if_neg e] at hx' hy'
      exact (h.each i x' y' hx' hy').keep hK
end Go.Proofs.YtiijpbfkchokaaaGreat
namespace Go.Proofs.YtiijpbfkchokaaaGreat
open Go.ChangeShapes Go.WideShapes Go.ChangeAt Go.RowKit
attribute [local go_sem ↓] Go.wp_at_zero Go.wp_at_succ
def bsQw1 (parts : Array (Nat × Value)) : Sem Value := Instr.buildSlice 83 1 parts
@[go_sem ↓] theorem execOp_bsQw1 (ρ : Operand → Value) (dst : Option Tmp) (x : Array (Nat × Operand)) (ty : TypeId) (pos : String) (after : Array Edge) (guard : Option (Nat × Bool)) :
    execOp ρ { dst, op := .buildSlice 83 1 x, type := ty, pos, after, guard } = (do pure (.value (← bsQw1 (x.map fun (i, y) => (i, ρ y))))) := rfl
def Qw.zero : Qw := ⟨none, 0, 0, 0, 0, 0, 0⟩
theorem fill_qw1 (n : Qw) : Instr.fill (fun i => some (i * 5, 5)) ((Array.range (1 * 5)).map ((Value.agg Qw.zero.arr).cells[· % (Value.agg Qw.zero.arr).cells.size]!)) [(0, .agg n.arr)] = some n.arr := by kernel_rfl
theorem info_qwb : (Tryz.prog.info? 86).map (fun i => (i.zero, i.size, i.bytes)) = some (some (.agg Qw.zero.arr), 5, 56) := by kernel_rfl
theorem info_qw0 : (Tryz.prog.info? 86).map (fun i => (i.zero, i.size)) = some (some (.agg Qw.zero.arr), 5) := by kernel_rfl
@[go_sem] theorem run_bsQw1 (n : Qw) (w : World) : (bsQw1 #[(0, .agg n.arr)]).run Tryz.prog w = .ok (.slice (some ⟨w.heap.size, 0, none⟩) 1 1) (w.alloc (.cells n.arr 86)) := by
  obtain ⟨i, hi, hzz⟩ := Option.map_eq_some_iff.1 info_qw0
  simp only [Prod.mk.injEq] at hzz
  obtain ⟨hz, hs⟩ := hzz
  refine run_buildSlice w _ 86 1 _ n.arr i (.agg Qw.zero.arr) Tryz.underlying83 hi hz (by rw [hs]; decide) (by rw [hs]; decide) ?_
  rw [hs]
  exact fill_qw1 n
theorem qws_one (x : Qw) : ∀ u ∈ x.cells, u.oneCell' = true := by
  have := Qw.one x
  simp only [Qw.arr] at this
  simpa using this
structure AddPost (w : World) (B : Nat) (v : Value) (l : List Wy) (y : Wy) (e : Ending) (w' : World) : Prop where
  out : ∃ v' xs', e = .returned v' ∧ QL w' B v' xs' (addW l y) ∧ KeepZ w w' v.ownBlock ∧ (∀ q, v'.ownBlock = some q → v.ownBlock = some q ∨ w.heap.size ≤ q)
theorem q9add (B : Nat) (v : Value) (xs : List Qw) (l : List Wy) (x : Qw) (y : Wy) (hl : l.length ≤ 1000000) (hla : ∀ z ∈ l, z.ats.length ≤ 4000) (hly : y.ats.length ≤ 4000) (w : World) (h : QL w B v xs l) (hx : QwIs w B x y) (hB : B ≤ w.heap.size) :
    Calls Tryz.prog 58 #[v, .agg x.arr] w (AddPost w B v l y) := by
  have hb1 : Below w.heap.size w (w.alloc (.cells x.arr 86)) := (Below.refl _ _).alloc (Nat.le_refl _) _
  have hx1 : QwAt (w.alloc (.cells x.arr 86)) w.heap.size x := heap_alloc_new w _
  have H1 := h.still hb1
  have HX1 := hx.keep (KeepZ.of_below hb1)
  obtain ⟨pv, cv, ev⟩ := owns_form h.row
  have HT := Lib.hid h.typ
  obtain ⟨X, hX⟩ : ∃ X, w.heap.size = X := ⟨_, rfl⟩
  have Hla := Lib.hid hla
  clear h hx
  subst ev
  obtain ⟨n, hn⟩ : ∃ n, l.length = n := ⟨_, rfl⟩
  have Hn := Lib.hid hn
  rw [hn] at hl H1 HT ⊢
  clear hn hla
  go_enter Tryz.func58, Tryz.ntmps58
  go_upto_region 1 with (fail)
  rw [hX] at hx1
  try rw [hX]
  have HXe := Lib.hid hX
  clear hX
  generalize w.alloc (.cells x.arr 86) = w1 at hb1 hx1 H1 HX1 ⊢
  have HQ := Lib.hid H1
  have HXQ := Lib.hid HX1
  have Hx := Lib.hid hx1
  have Hb1 := Lib.hid hb1
  clear H1 HX1 hx1 hb1
  go_wp2_with fail
  go_loopg [5] (n + 1) (fun gg t5 wr => ∃ k : Nat, gg = n + 1 - k ∧ k ≤ n ∧ t5 = .int .i64 k ∧ (∀ j z, l[j]? = some z → j < k → sameW z y = false) ∧ Below w1.heap.size w1 wr)
  case atStart => exact ⟨0, rfl, Nat.zero_le _, rfl, fun j z _ h => absurd h (Nat.not_lt_zero _), Below.refl _ _⟩
  case round =>
    obtain ⟨k, rfl, hk, rfl, hno, hb⟩ := hrel
    have HB := Lib.hid hb
    have Hno := Lib.hid hno
    have hk0 : (0 : Int) ≤ (k : Int) := by omega
    clear hb hno
    by_cases hlt : k < n
    · have hk1 : (k : Int) < (n : Int) := by omega
      have hlt2 : decide (k < n) = true := decide_eq_true hlt
      have hkl : k < l.length := by rw [Hn.out]; exact hlt
      have hq := HQ.out.still HB.out
      rw [← Hn.out] at hq
      obtain ⟨g, cap, x1, e1, hcap, hgB, a1, hxk, hxi⟩ := hq.get hkl
      have hth := hq.there hkl e1
      simp only [Value.slice.injEq] at e1
      obtain ⟨rfl, _, rfl⟩ := e1
      rw [Hn.out] at hcap
      have HG : Hid (∀ W, Below w1.heap.size w1 W → agg? W g (k * 5) 5 = some x1.arr ∧ there? W g (k * 5) 5 = true) := Lib.hid fun W hW => by
        have hq' := HQ.out.still hW
        rw [← Hn.out] at hq'
        obtain ⟨g', cap', x1', e1', _, _, a1', hxk', _⟩ := hq'.get hkl
        have hth' := hq'.there hkl e1'
        simp only [Value.slice.injEq, Option.some.injEq, Addr.mk.injEq] at e1'
        obtain ⟨⟨rfl, _, _⟩, _, _⟩ := e1'
        rw [hxk] at hxk'
        cases hxk'
        exact ⟨a1', hth'⟩
      obtain ⟨z, hz⟩ : ∃ z, l[k] = z := ⟨_, rfl⟩
      rw [hz] at hxi
      have hzm : z ∈ l := by rw [← hz]; exact List.getElem_mem hkl
      have hzl := Hla.out z hzm
      have Hz := Lib.hid (show l[k]? = some z by rw [List.getElem?_eq_getElem hkl, hz])
      have Hxi := Lib.hid hxi
      have Hth := Lib.hid hth
      have a1d : agg? wr.drew g (k * 5) 5 = some x1.arr := a1
      have c0 := agg_cell a1d 0 _ (Qw.get0 x1)
      have c1 := agg_cell a1d 1 _ (Qw.get1 x1)
      have hxr := Hx.out.still HB.out
      have b0 : wr.drew.cell? ⟨X, 0, none⟩ = some _ := hxr.cell 0 _ (Qw.get0 x)
      have b1 : wr.drew.cell? ⟨X, 1, none⟩ = some _ := hxr.cell 1 _ (Qw.get1 x)
      simp only [Nat.add_zero] at c0
      rw [hxi.len] at c0
      rw [hxi.cls] at c1
      rw [HXQ.out.len] at b0
      rw [HXQ.out.cls] at b1
      obtain ⟨sm, hsm⟩ : ∃ sm, sameW z y = sm := ⟨_, rfl⟩
      have Hsm := Lib.hid hsm
      have Hxr := Lib.hid hxr
      have A1 := Lib.hid a1
      clear hz hzm hq hxi hsm hth hxr a1 a1d hlt hkl hxk
      obtain ⟨nz, hnz⟩ : ∃ nz, z.ats.length = nz := ⟨_, rfl⟩
      obtain ⟨ny, hny⟩ : ∃ ny, y.ats.length = ny := ⟨_, rfl⟩
      have hsm2 := Hsm.out
      unfold sameW at hsm2
      rw [hnz] at c0 hzl hsm2
      rw [hny] at b0 hsm2
      have Hsm2 := Lib.hid hsm2
      clear hsm2 hnz hny
      go_upto_region 4 with (fail)
      go_cut [31] from 12 to 31 (fun s31 wx => s31 = .bool sm ∧ Below wr.heap.size wr wx)
      case first =>
        have hbd : Below wr.heap.size wr wr.drew := (Below.refl _ _).drew
        by_cases hln : nz = ny
        · subst hln
          have e1 : ((nz : Int) == (nz : Int)) = true := by simp
          have e2 : (nz == nz) = true := by simp
          have e3 : (z.cls == y.cls) = sm := by rw [← Hsm2.out]; simp; rfl
          refine Rest.region follows ?_
          generalize wr.drew = wd at c0 c1 b0 b1 hbd ⊢
          refine Rest.tame 20 (fun W => wd = W) (by kernel_rfl) rfl ?_
          simp only [Nat.reduceSub, List.drop_zero, List.take_succ_cons, List.take_zero]
          iterate 20 first
            | (refine TW.cons_n rfl _ (by intro wT hT R hR K hK; simp only [Act.put, lsA, lsB, lsC] at hK; subst hT; go_step; exact hK _ _ (hR _ rfl)) ?_; try simp only [Act.put, lsA, lsB, lsC])
            | (refine TW.skip_g _ _ _ rfl rfl rfl ?_; try simp only [Act.put, lsA, lsB, lsC])
            | (refine TW.skip_u _ _ _ rfl rfl rfl ?_; try simp only [Act.put, lsA, lsB, lsC])
            | (refine TW.cons_g _ _ _ rfl rfl rfl _ (by intro wT hT R hR K hK; simp only [Act.put, lsA, lsB, lsC] at hK; subst hT; go_step; exact hK _ _ (hR _ rfl)) ?_; try simp only [Act.put, lsA, lsB, lsC])
          refine TW.nil fun w9 h9 => ?_
          subst h9
          refine Rest.done ?_
          go_wp2_with fail
          go_meet
          exact ⟨rfl, hbd⟩
        · have e1 : ((nz : Int) == (ny : Int)) = false := by rw [beq_eq_false_iff_ne]; omega
          have e2 : (nz == ny) = false := by simpa using hln
          obtain rfl : false = sm := by rw [← Hsm2.out]; simp [hln]
          clear hln
          refine Rest.region follows ?_
          generalize wr.drew = wd at c0 c1 b0 b1 hbd ⊢
          refine Rest.tame 20 (fun W => wd = W) (by kernel_rfl) rfl ?_
          simp only [Nat.reduceSub, List.drop_zero, List.take_succ_cons, List.take_zero]
          iterate 20 first
            | (refine TW.cons_n rfl _ (by intro wT hT R hR K hK; simp only [Act.put, lsA, lsB, lsC] at hK; subst hT; go_step; exact hK _ _ (hR _ rfl)) ?_; try simp only [Act.put, lsA, lsB, lsC])
            | (refine TW.skip_g _ _ _ rfl rfl rfl ?_; try simp only [Act.put, lsA, lsB, lsC])
            | (refine TW.skip_u _ _ _ rfl rfl rfl ?_; try simp only [Act.put, lsA, lsB, lsC])
            | (refine TW.cons_g _ _ _ rfl rfl rfl _ (by intro wT hT R hR K hK; simp only [Act.put, lsA, lsB, lsC] at hK; subst hT; go_step; exact hK _ _ (hR _ rfl)) ?_; try simp only [Act.put, lsA, lsB, lsC])
          refine TW.nil fun w9 h9 => ?_
          subst h9
          refine Rest.done ?_
          go_wp2_with fail
          go_meet
          exact ⟨rfl, hbd⟩
      case rest =>
        obtain ⟨rfl, hb2⟩ := hcut
        clear c0 c1 b0 b1
        have hB2 := HB.out.trans (hb2.mono HB.out.size)
        cases sm with
        | false =>
          go_wp2_with fail
          go_roundg (n + 1 - (k + 1))
          case measure => omega
          case rel => exact ⟨k + 1, rfl, by omega, by go_num, fun j u hj hjk => by
              rcases Nat.lt_or_ge j k with h9 | h9
              · exact Hno.out j u hj h9
              · have : j = k := by omega
                subst this
                rw [Hz.out] at hj
                cases hj
                exact Hsm.out, hB2⟩
        | true =>
          have hkl : k < l.length := (List.getElem?_eq_some_iff.1 Hz.out).1
          have hzk : l[k] = z := (List.getElem?_eq_some_iff.1 Hz.out).2
          have HAd : Hid (addW l y = l.set k (if betB y z then y else z)) := Lib.hid (by
            rw [← hzk]
            exact addW_hit y l k hkl (fun j hj => Hno.out j _ (List.getElem?_eq_getElem (by omega)) hj) (by rw [hzk]; exact Hsm.out))
          have hbd2 : Below wc.heap.size wc wc.drew := (Below.refl _ _).drew
          have hB3 := hB2.trans (hbd2.mono hB2.size)
          have ax : agg? wc.drew X 0 5 = some x.arr := (Hx.out.still hB3).agg
          have az := (HG.out _ hB3).1
          have HBt := Lib.hid (q9better B x x1 y z hly (by have := Hla.out z (List.mem_of_getElem? Hz.out); exact this) wc.drew (HXQ.out.keep (KeepZ.of_below hB3)) (Hxi.out.keep (KeepZ.of_below ((hb2.trans (hbd2.mono hb2.size))))))
          obtain ⟨bt, hbt⟩ : ∃ bt, betB y z = bt := ⟨_, rfl⟩
          rw [hbt] at HBt HAd
          clear hbt
          go_upto_region 5 with (fail)
          refine Rest.region follows ?_
          refine Rest.tame 5 (fun W => wc.drew = W) (by kernel_rfl) rfl ?_
          simp only [Nat.reduceSub, List.drop_zero, List.take_succ_cons, List.take_zero]
          iterate 5 first
            | (refine TW.cons_n rfl _ (by intro wT hT R hR K hK; simp only [Act.put, lsA, lsB, lsC] at hK; subst hT; go_step; exact hK _ _ (hR _ rfl)) ?_; try simp only [Act.put, lsA, lsB, lsC])
          refine TW.nil fun w9 h9 => ?_
          subst h9
          refine Rest.seq (by kernel_rfl) ?_
          simp only [List.drop_succ_cons, List.drop_zero]
          go_upto_if 37 with (go_at_call 59; refine HBt.out.mono ?_; rintro e w5 ⟨rfl, hb5⟩)
          have hB5 := hB3.trans (hb5.mono hB3.size)
          have hw5 := Hb1.out.trans (hB5.mono Hb1.out.size)
          have ax5 : agg? w5 X 0 5 = some x.arr := (Hx.out.still hB5).agg
          have t5 := (HG.out _ hB5).2
          have HK5 := Lib.hid (KeepZ.below (r := (Value.slice (some ⟨g, 0, none⟩) n cv).ownBlock) hw5 HT.out)
          have HQ5 := Lib.hid (HQ.out.still hB5)
          have HX5 := Lib.hid (HXQ.out.keep (KeepZ.of_below hB5))
          clear ax az HBt hw5
          cases bt with
          | true =>
            go_wp2_with fail
            go_ret
            have hst := QL.store (v := .slice (some ⟨g, 0, none⟩) n cv) (l := l) (k := k) HQ5.out hkl (g := g) (cap := cv) (by rw [Hn.out]) HX5.out
            refine ⟨_, xs.set k x, rfl, ?_, HK5.out.trans hst.2, fun q hq => .inl hq⟩
            rw [HAd.out]
            exact hst.1
          | false =>
            go_wp2_with fail
            go_ret
            refine ⟨_, xs, rfl, ?_, HK5.out, fun q hq => .inl hq⟩
            rw [HAd.out]
            have e9 : l.set k (if (false : Bool) = true then y else z) = l := by
              rw [if_neg (by decide), ← hzk]
              exact List.set_getElem_self hkl
            rw [e9]
            exact HQ5.out
    · have hlt2 : decide (k < n) = false := decide_eq_false hlt
      have hkn : k = n := by omega
      have had : addW l y = l ++ [y] := addW_miss y l fun z hz => by
        obtain ⟨j, hj, e⟩ := List.mem_iff_getElem.1 hz
        exact Hno.out j z (by rw [List.getElem?_eq_getElem hj, e]) (by rw [hkn, ← Hn.out]; exact hj)
      have Had := Lib.hid had
      have hqr := HQ.out.still HB.out
      have hbA : Below wr.heap.size wr (wr.alloc (.cells x.arr 86)) := (Below.refl _ _).alloc (Nat.le_refl _) _
      have hqA := hqr.still hbA
      have HqA := Lib.hid hqA
      have ax := (Hx.out.still HB.out).agg
      obtain ⟨i0, hi0', hz0, hz1, hz2'⟩ := info_parts info_qwb
      have hrowA : (wr.alloc (.cells x.arr 86)).ownsRow B 86 5 (.slice pv n cv) n (xs.flatMap Qw.cells) := by have := hqA.row; rwa [Hn.out] at this
      have HrowA := Lib.hid hrowA
      have H1 := Lib.hid (qws_one x)
      have hbase : B ≤ (wr.alloc (.cells x.arr 86)).heap.size := by
        have := HB.out.size
        have := Hb1.out.size
        have := hbA.size
        omega
      clear hqr hqA hrowA had hlt hkn
      go_wp2_with (at_builtin; refine wpList_append_lies _ rfl _ _ 83 rfl B 86 i0 (.agg Qw.zero.arr) 5 56 Tryz.underlying83 hi0' hz0 hz1 hz2' rfl (by decide) (.slice pv n cv) n (xs.flatMap Qw.cells) rfl HrowA.out ⟨wr.heap.size, 0, none⟩ 1 1 x.cells rfl rfl (World.news_of_block (cs := x.cells.toArray) (heap_alloc_new _ _)) H1.out (by decide) (by unfold maxLen; omega) (by omega) hbase _ rfl ?_; intro g5 cap5 w5 hown5 hgrow5 hat5 hlt5)
      go_ret
      have hkA : KeepZ (wr.alloc (.cells x.arr 86)) w5 (Value.slice pv n cv).ownBlock := ⟨hgrow5, HqA.out.typ⟩
      have hw := Hb1.out.trans ((HB.out.trans (hbA.mono HB.out.size)).mono Hb1.out.size)
      have hkw := (KeepZ.below (r := (Value.slice pv n cv).ownBlock) hw HT.out).trans hkA
      refine ⟨_, xs ++ [x], rfl, ?_, hkw, fun q hq => ?_⟩
      · rw [Had.out]
        refine ⟨?_, by rw [List.length_append, List.length_append, HqA.out.len]; rfl, fun i x' y' hx' hy' => ?_⟩
        · rw [List.length_append, List.length_singleton, Hn.out, List.flatMap_append]
          simpa using hown5
        · have hxl := HqA.out.len
          by_cases hi : i < l.length
          · rw [List.getElem?_append_left hi] at hy'
            rw [List.getElem?_append_left (by omega)] at hx'
            exact (HqA.out.each i x' y' hx' hy').keep hkA
          · have hil : i < (l ++ [y]).length := (List.getElem?_eq_some_iff.1 hy').1
            rw [List.length_append, List.length_singleton] at hil
            have e : i = l.length := by omega
            rw [e, List.getElem?_append_right (Nat.le_refl _), Nat.sub_self] at hy'
            rw [e, List.getElem?_append_right (by omega), hxl, Nat.sub_self] at hx'
            cases hx'
            cases hy'
            exact (HXQ.out.keep (KeepZ.of_below (HB.out.trans (hbA.mono HB.out.size)))).keep hkA
      · cases hq
        rcases hat5 with h9 | h9
        · exact .inl h9
        · refine .inr ?_
          rw [h9]
          exact hw.size
end Go.Proofs.YtiijpbfkchokaaaGreat
