/-
  A paragraph's parameters: the program's Check.
-/
import Derived.Test.YtiijpbfkchokaaaGreatQ1
import Derived.Test.YtiijpbfkchokaaaGreatW0
import Derived.Test.YtiijpbfkchokaaaGreatB4
import Derived.Great.BuildSlice
set_option maxRecDepth 100000
set_option maxHeartbeats 8000000
namespace Go.Proofs.YtiijpbfkchokaaaGreat
open Go.ChangeShapes Go.WideShapes Go.ChangeAt Go.RowKit
attribute [local go_sem ↓] Go.wp_at_zero Go.wp_at_succ
theorem zin_blk {w : World} {l : List Int} {g : Nat} {t : TypeId} {fr : Nat × Nat} (h : w.heap[g]? = some (.cells (ints l).toArray t fr)) : ZIn w (some ⟨g, 0, none⟩) g l.length l := by
  refine ⟨fun _ => rfl, Nat.le_refl _, fun i hi => ?_⟩
  rw [cell?_blk' h]
  simp [ints, List.getElem?_eq_getElem hi]
def bsI3 (parts : Array (Nat × Value)) : Sem Value := Instr.buildSlice 41 3 parts
def bsI13 (parts : Array (Nat × Value)) : Sem Value := Instr.buildSlice 41 13 parts
@[go_sem ↓] theorem execOp_bsI3 (ρ : Operand → Value) (dst : Option Tmp) (x : Array (Nat × Operand)) (ty : TypeId) (pos : String) (after : Array Edge) (guard : Option (Nat × Bool)) :
    execOp ρ { dst, op := .buildSlice 41 3 x, type := ty, pos, after, guard } = (do pure (.value (← bsI3 (x.map fun (i, y) => (i, ρ y))))) := rfl
@[go_sem ↓] theorem execOp_bsI13 (ρ : Operand → Value) (dst : Option Tmp) (x : Array (Nat × Operand)) (ty : TypeId) (pos : String) (after : Array Edge) (guard : Option (Nat × Bool)) :
    execOp ρ { dst, op := .buildSlice 41 13 x, type := ty, pos, after, guard } = (do pure (.value (← bsI13 (x.map fun (i, y) => (i, ρ y))))) := rfl
theorem info_int0 : (Tryz.prog.info? 3).map (fun i => (i.zero, i.size)) = some (some (.int .i64 0), 1) := by kernel_rfl
theorem fill_i3 (a b c : Int) : Instr.fill (fun i => some (i * 1, 1)) ((Array.range (3 * 1)).map ((Value.int .i64 0).cells[· % (Value.int .i64 0).cells.size]!)) [(0, .int .i64 a), (1, .int .i64 b), (2, .int .i64 c)] = some (ints [a, b, c]).toArray := by kernel_rfl
theorem fill_i13 (x0 x1 x2 x3 x4 x5 x6 x7 x8 x9 x10 x11 x12 : Int) : Instr.fill (fun i => some (i * 1, 1)) ((Array.range (13 * 1)).map ((Value.int .i64 0).cells[· % (Value.int .i64 0).cells.size]!)) [(0, .int .i64 x0), (1, .int .i64 x1), (2, .int .i64 x2), (3, .int .i64 x3), (4, .int .i64 x4), (5, .int .i64 x5), (6, .int .i64 x6), (7, .int .i64 x7), (8, .int .i64 x8), (9, .int .i64 x9), (10, .int .i64 x10), (11, .int .i64 x11), (12, .int .i64 x12)] = some (ints [x0, x1, x2, x3, x4, x5, x6, x7, x8, x9, x10, x11, x12]).toArray := by kernel_rfl
@[go_sem] theorem run_bsI3 (a b c : Int) (w : World) : (bsI3 #[(0, .int .i64 a), (1, .int .i64 b), (2, .int .i64 c)]).run Tryz.prog w = .ok (.slice (some ⟨w.heap.size, 0, none⟩) 3 3) (w.alloc (.cells (ints [a, b, c]).toArray 3)) := by
  obtain ⟨i, hi, hzz⟩ := Option.map_eq_some_iff.1 info_int0
  simp only [Prod.mk.injEq] at hzz
  obtain ⟨hz, hs⟩ := hzz
  refine run_buildSlice w _ 3 3 _ _ i (.int .i64 0) Tryz.underlying41 hi hz (by rw [hs]; decide) (by rw [hs]; decide) ?_
  rw [hs]
  exact fill_i3 a b c
@[go_sem] theorem run_bsI13 (x0 x1 x2 x3 x4 x5 x6 x7 x8 x9 x10 x11 x12 : Int) (w : World) : (bsI13 #[(0, .int .i64 x0), (1, .int .i64 x1), (2, .int .i64 x2), (3, .int .i64 x3), (4, .int .i64 x4), (5, .int .i64 x5), (6, .int .i64 x6), (7, .int .i64 x7), (8, .int .i64 x8), (9, .int .i64 x9), (10, .int .i64 x10), (11, .int .i64 x11), (12, .int .i64 x12)]).run Tryz.prog w = .ok (.slice (some ⟨w.heap.size, 0, none⟩) 13 13) (w.alloc (.cells (ints [x0, x1, x2, x3, x4, x5, x6, x7, x8, x9, x10, x11, x12]).toArray 3)) := by
  obtain ⟨i, hi, hzz⟩ := Option.map_eq_some_iff.1 info_int0
  simp only [Prod.mk.injEq] at hzz
  obtain ⟨hz, hs⟩ := hzz
  refine run_buildSlice w _ 3 13 _ _ i (.int .i64 0) Tryz.underlying41 hi hz (by rw [hs]; decide) (by rw [hs]; decide) ?_
  rw [hs]
  exact fill_i13 x0 x1 x2 x3 x4 x5 x6 x7 x8 x9 x10 x11 x12
def bsGl2 (parts : Array (Nat × Value)) : Sem Value := Instr.buildSlice 109 2 parts
@[go_sem ↓] theorem execOp_bsGl2 (ρ : Operand → Value) (dst : Option Tmp) (x : Array (Nat × Operand)) (ty : TypeId) (pos : String) (after : Array Edge) (guard : Option (Nat × Bool)) :
    execOp ρ { dst, op := .buildSlice 109 2 x, type := ty, pos, after, guard } = (do pure (.value (← bsGl2 (x.map fun (i, y) => (i, ρ y))))) := rfl
theorem fill_gl2 (n m : Gl) : Instr.fill (fun i => some (i * 5, 5)) ((Array.range (2 * 5)).map ((Value.agg Gl.zero.arr).cells[· % (Value.agg Gl.zero.arr).cells.size]!)) [(0, .agg n.arr), (1, .agg m.arr)] = some (n.cells ++ m.cells).toArray := by kernel_rfl
theorem info_gl0 : (Tryz.prog.info? 24).map (fun i => (i.zero, i.size)) = some (some (.agg Gl.zero.arr), 5) := by kernel_rfl
@[go_sem] theorem run_bsGl2 (n m : Gl) (w : World) : (bsGl2 #[(0, .agg n.arr), (1, .agg m.arr)]).run Tryz.prog w = .ok (.slice (some ⟨w.heap.size, 0, none⟩) 2 2) (w.alloc (.cells (n.cells ++ m.cells).toArray 24)) := by
  obtain ⟨i, hi, hzz⟩ := Option.map_eq_some_iff.1 info_gl0
  simp only [Prod.mk.injEq] at hzz
  obtain ⟨hz, hs⟩ := hzz
  refine run_buildSlice w _ 24 2 _ _ i (.agg Gl.zero.arr) Tryz.underlying109 hi hz (by rw [hs]; decide) (by rw [hs]; decide) ?_
  rw [hs]
  exact fill_gl2 n m
def PAt (W : World) (b : Nat) (P : Pm) : Prop := W.heap[b]? = some (.cells P.arr 27 (0, 0))
theorem PAt.lt {W : World} {b : Nat} {P : Pm} (h : PAt W b P) : b < W.heap.size := (Array.getElem?_eq_some_iff.1 h).1
theorem PAt.still {W W' : World} {b : Nat} {P : Pm} (h : PAt W b P) (hb : Below W.heap.size W W') : PAt W' b P := (hb.block b h.lt).trans h
theorem PAt.cell {W : World} {b : Nat} {P : Pm} (h : PAt W b P) (k : Nat) (v : Value) (hv : P.arr[k]? = some v) : W.cell? ⟨b, k, none⟩ = some v := by rw [cell?_blk' h, hv]
def okP (P : Pm) (S : List Sh2) : Bool := [P.pret, P.tol, P.linep, P.hyp, P.exhyp, P.adj, P.dbl, P.fin, P.loose, P.emerg, P.hsize, P.hangi, P.hanga].all numB && [P.hsize, P.hangi, P.emerg].all dimenB && decide (S.length ≤ 2000)
theorem pmC_ok (P : Pm) (S : List Sh2) : pmC P S = if (okP P S && S.all fun x => dimenB x.a && dimenB x.b) = true then (if (firmG P.left && firmG P.right) = true then 0 else 30) else 1 := by
  have key : ∀ x, dimenB x = true → numB x = true := fun x h => by
    simp [dimenB, numB, withinB] at h ⊢
    omega
  unfold pmC okP
  congr 1
  simp only [List.all_cons, List.all_nil, Bool.and_true, eq_iff_iff, Bool.and_eq_true]
  constructor
  · intro h
    obtain ⟨⟨⟨⟨⟨h1, h2⟩, h3⟩, h4⟩, h5⟩, h6⟩ := h
    obtain ⟨⟨⟨⟨⟨⟨⟨⟨⟨a1, a2⟩, a3⟩, a4⟩, a5⟩, a6⟩, a7⟩, a8⟩, a9⟩, a10⟩ := h1
    exact ⟨⟨⟨⟨a1, a2, a3, a4, a5, a6, a7, a8, a9, key _ h4, key _ h2, key _ h3, a10⟩, h2, h3, h4⟩, h5⟩, h6⟩
  · intro h
    obtain ⟨⟨⟨⟨a1, a2, a3, a4, a5, a6, a7, a8, a9, _, _, _, a10⟩, h2, h3, h4⟩, h5⟩, h6⟩ := h
    exact ⟨⟨⟨⟨⟨⟨⟨⟨⟨⟨⟨⟨⟨⟨a1, a2⟩, a3⟩, a4⟩, a5⟩, a6⟩, a7⟩, a8⟩, a9⟩, a10⟩, h2⟩, h3⟩, h4⟩, h5⟩, h6⟩
theorem firmG_9 (g : Gl) : firmG g = (g.good && firm9 g) := rfl
theorem vcheckP (P : Pm) (g off : Nat) (S : List Sh2) (w : World) (hS : ShIn w P g off S) :
    Calls Tryz.prog 20 #[.agg P.arr] w fun e w' => e = .returned (.int .i64 (pmC P S)) ∧ Below w.heap.size w w' := by
  have hb0 : Below w.heap.size w (w.alloc (.cells P.arr 27)) := (Below.refl _ _).alloc (Nat.le_refl _) _
  have d0 : PAt (w.alloc (.cells P.arr 27)) w.heap.size P := heap_alloc_new w _
  have hlen := hS.len
  have hcap := hS.cap
  have hn := hS.n
  obtain ⟨X, hX⟩ : ∃ X, w.heap.size = X := ⟨_, rfl⟩
  have H := Lib.hid hS
  have HX := Lib.hid hX
  have hX63 : X < X + 1 := by omega
  rw [hX] at d0
  clear hS hX
  go_enter Tryz.func20, Tryz.ntmps20
  go_upto_region 1 with (fail)
  rw [HX.out]
  generalize w.alloc (.cells P.arr 27) = w1 at hb0 d0 ⊢
  have c0 := d0.cell 0 _ (Pm.get0 P)
  have c1 := d0.cell 1 _ (Pm.get1 P)
  have c2 := d0.cell 2 _ (Pm.get2 P)
  have c3 := d0.cell 3 _ (Pm.get3 P)
  have c4 := d0.cell 4 _ (Pm.get4 P)
  have c5 := d0.cell 5 _ (Pm.get5 P)
  have c6 := d0.cell 6 _ (Pm.get6 P)
  have c7 := d0.cell 7 _ (Pm.get7 P)
  have c8 := d0.cell 8 _ (Pm.get8 P)
  have c9 := d0.cell 9 _ (Pm.get9 P)
  have c20 := d0.cell 20 _ (Pm.get20 P)
  have c21 := d0.cell 21 _ (Pm.get21 P)
  have c22 := d0.cell 22 _ (Pm.get22 P)
  have hZ13 := zin_blk (heap_alloc_new w1 (.cells (ints [P.pret, P.tol, P.linep, P.hyp, P.exhyp, P.adj, P.dbl, P.fin, P.loose, P.emerg, P.hsize, P.hangi, P.hanga]).toArray 3))
  have HN := Lib.hid (vnumber _ _ _ _ _ hZ13 (by simp))
  have hd1 := (d0.still ((Below.refl _ _).alloc (Nat.le_refl _) (.cells (ints [P.pret, P.tol, P.linep, P.hyp, P.exhyp, P.adj, P.dbl, P.fin, P.loose, P.emerg, P.hsize, P.hangi, P.hanga]).toArray 3)))
  have hb1 := hb0.trans (((Below.refl w1.heap.size w1).alloc (Nat.le_refl _) (.cells (ints [P.pret, P.tol, P.linep, P.hyp, P.exhyp, P.adj, P.dbl, P.fin, P.loose, P.emerg, P.hsize, P.hangi, P.hanga]).toArray 3)).mono hb0.size)
  clear hZ13 d0 hb0
  obtain ⟨n1, hn1⟩ : ∃ n1, [P.pret, P.tol, P.linep, P.hyp, P.exhyp, P.adj, P.dbl, P.fin, P.loose, P.emerg, P.hsize, P.hangi, P.hanga].all numB = n1 := ⟨_, rfl⟩
  rw [hn1] at HN
  have Hn1 := Lib.hid hn1
  clear hn1
  go_upto_region 2 with (go_at_call 43; refine HN.out.mono ?_; rintro e w2 ⟨rfl, rfl⟩)
  clear c0 c1 c2 c3 c4 c5 c6 c7 c8 c9 c20 c21 c22 HN
  generalize w1.alloc (.cells (ints [P.pret, P.tol, P.linep, P.hyp, P.exhyp, P.adj, P.dbl, P.fin, P.loose, P.emerg, P.hsize, P.hangi, P.hanga]).toArray 3) = w2 at hd1 hb1 ⊢
  have Hd1 := Lib.hid hd1
  have Hb1 := Lib.hid hb1
  clear hd1 hb1
  obtain ⟨n2, hn2⟩ : ∃ n2, okP P S = n2 := ⟨_, rfl⟩
  have Hn2 := Lib.hid hn2
  clear hn2
  go_cut [3] from 36 to 52 (fun s3 wx => s3 = .bool n2 ∧ PAt wx X P ∧ Below w.heap.size w wx)
  case first =>
    cases hb : n1
    · subst hb
      have e1 : n2 = false := by rw [← Hn2.out]; unfold okP; rw [Hn1.out]; rfl
      subst e1
      go_wp2_with fail
      go_meet
      exact ⟨rfl, Hd1.out, Hb1.out⟩
    · subst hb
      have c20 := Hd1.out.cell 20 _ (Pm.get20 P)
      have c21 := Hd1.out.cell 21 _ (Pm.get21 P)
      have c9 := Hd1.out.cell 9 _ (Pm.get9 P)
      have hZ3 := zin_blk (heap_alloc_new w2 (.cells (ints [P.hsize, P.hangi, P.emerg]).toArray 3))
      have HD := Lib.hid (vdimen9 _ _ _ _ _ hZ3 (by simp))
      have hba := (Below.refl w2.heap.size w2).alloc (Nat.le_refl _) (.cells (ints [P.hsize, P.hangi, P.emerg]).toArray 3)
      have hd3 := Hd1.out.still hba
      have hb3 := Hb1.out.trans (hba.mono Hb1.out.size)
      have c23 := hd3.cell 23 _ (Pm.get23 P)
      rw [hn] at c23
      obtain ⟨n3, hn3⟩ : ∃ n3, [P.hsize, P.hangi, P.emerg].all dimenB = n3 := ⟨_, rfl⟩
      rw [hn3] at HD
      have e2 : n2 = (n3 && decide (S.length ≤ 2000)) := by rw [← Hn2.out]; unfold okP; rw [Hn1.out, hn3]; rfl
      have E2 := Lib.hid e2
      have HD3 := Lib.hid hd3
      have HB3 := Lib.hid hb3
      clear hZ3 hba hd3 hb3 hn3 e2
      cases hb : n3
      · subst hb
        have e1 : n2 = false := by rw [E2.out]; rfl
        subst e1
        clear c23
        go_wp2_with (go_at_call 44; refine HD.out.mono ?_; rintro e w3 ⟨rfl, rfl⟩)
        go_meet
        exact ⟨rfl, HD3.out, HB3.out⟩
      · subst hb
        by_cases hl : S.length ≤ 2000
        · have e1 : n2 = true := by rw [E2.out]; simp [hl]
          subst e1
          have hl2 : decide ((S.length : Int) ≤ 2000) = true := decide_eq_true (by omega)
          clear hl
          go_wp2_with (go_at_call 44; refine HD.out.mono ?_; rintro e w3 ⟨rfl, rfl⟩)
          go_meet
          exact ⟨rfl, HD3.out, HB3.out⟩
        · have e1 : n2 = false := by rw [E2.out]; simp [hl]
          subst e1
          have hl2 : decide ((S.length : Int) ≤ 2000) = false := decide_eq_false (by omega)
          clear hl
          go_wp2_with (go_at_call 44; refine HD.out.mono ?_; rintro e w3 ⟨rfl, rfl⟩)
          go_meet
          exact ⟨rfl, HD3.out, HB3.out⟩
  case rest =>
    clear Hd1 Hb1
    obtain ⟨rfl, hd, hb⟩ := hcut
    have c23 := hd.cell 23 _ (Pm.get23 P)
    obtain ⟨pa, hpa⟩ : ∃ pa, P.shA = pa := ⟨_, rfl⟩
    have Hpa := Lib.hid hpa
    rw [hn, hpa] at c23
    clear hpa
    have HD := Lib.hid hd
    have HB := Lib.hid hb
    clear hd hb
    go_wp2_with fail
    clear c23
    go_loopg [3, 56] (S.length + 1) (fun gg t3 t56 wr => ∃ (k : Nat) (bo : Bool), gg = S.length + 1 - k ∧ k ≤ S.length ∧ t3 = .bool bo ∧ t56 = .int .i64 k ∧ bo = (n2 && (S.take k).all fun x => dimenB x.a && dimenB x.b) ∧ PAt wr X P ∧ Below w.heap.size w wr)
    case atStart => exact ⟨0, n2, rfl, Nat.zero_le _, rfl, rfl, by simp, HD.out, HB.out⟩
    case round =>
      clear HD HB
      obtain ⟨k, bo, rfl, hk, rfl, rfl, hbo, hd, hb⟩ := hrel
      have hk1 : (0 : Int) ≤ (k : Int) := by omega
      by_cases hlt : k < S.length
      · have hk2 : (k : Int) < (S.length : Int) := by omega
        have hS2 := H.out.below hb
        have ha := hS2.at_ k hlt
        obtain rfl := Hpa.out.symm.trans (hS2.hp (by intro e; rw [e] at hlt; simp at hlt))
        have hsn : (n2 && (S.take (k + 1)).all fun x => dimenB x.a && dimenB x.b) = (bo && (dimenB S[k].a && dimenB S[k].b)) := by
          rw [List.take_succ_eq_append_getElem hlt, List.all_append, hbo]
          simp [Bool.and_assoc]
        have Hsn := Lib.hid hsn
        have HD := Lib.hid hd
        have HB := Lib.hid hb
        clear hS2 hsn hbo hd hb
        generalize S[k] = y at ha Hsn
        have hba := (Below.refl wr.heap.size wr).alloc (Nat.le_refl _) (.cells y.arr 108)
        have hd3 := Lib.hid (HD.out.still hba)
        have hb3 := Lib.hid (HB.out.trans (hba.mono HB.out.size))
        have hZ2 := zin_blk (l := [y.a, y.b]) (heap_alloc_new wr (.cells y.arr 108))
        have HDm := Lib.hid (vdimen9 _ _ _ _ _ hZ2 (by simp))
        obtain ⟨nd, hnd⟩ : ∃ nd, [y.a, y.b].all dimenB = nd := ⟨_, rfl⟩
        rw [hnd] at HDm
        have Hnd := Lib.hid (show (dimenB y.a && dimenB y.b) = nd by rw [← hnd]; simp)
        clear hba hZ2 hnd HD HB
        cases hbb : bo
        · subst hbb
          go_wp2_with fail
          go_roundg (S.length + 1 - (k + 1))
          case measure => omega
          case rel => exact ⟨k + 1, false, rfl, hlt, rfl, by go_num, by rw [Hsn.out]; rfl, hd3.out, hb3.out⟩
        · subst hbb
          go_wp2_with (go_at_call 44; refine HDm.out.mono ?_; rintro e w3 ⟨rfl, rfl⟩)
          go_roundg (S.length + 1 - (k + 1))
          case measure => omega
          case rel => exact ⟨k + 1, nd, rfl, hlt, rfl, by go_num, by rw [Hsn.out, Hnd.out]; rfl, hd3.out, hb3.out⟩
      · have hk2 : decide (k < S.length) = false := decide_eq_false hlt
        have hV := pmC_ok P S
        rw [Hn2.out] at hV
        rw [List.take_of_length_le (by omega)] at hbo
        rw [← hbo] at hV
        have HV := Lib.hid hV
        have HD := Lib.hid hd
        have HB := Lib.hid hb
        clear hV hbo hd hb hlt
        cases hbb : bo
        · subst hbb
          go_wp2_with fail
          go_ret
          exact ⟨by rw [HV.out]; rfl, HB.out⟩
        · subst hbb
          have HV2 := Lib.hid (HV.out.trans (if_pos rfl))
          clear HV
          have c10 : agg? wr X 10 5 = some P.left.arr := by rw [agg?_blk' HD.out 10 5 (by rw [Pm.size_arr]; decide), Pm.sub_left]
          have c15 : agg? wr X 15 5 = some P.right.arr := by rw [agg?_blk' HD.out 15 5 (by rw [Pm.size_arr]; decide), Pm.sub_right]
          have hba := (Below.refl wr.heap.size wr).alloc (Nat.le_refl _) (.cells (P.left.cells ++ P.right.cells).toArray 24)
          have hG0 := heap_alloc_new wr (.cells (P.left.cells ++ P.right.cells).toArray 24)
          have hb3 := HB.out.trans (hba.mono HB.out.size)
          go_wp2_with fail
          obtain ⟨Y, hY⟩ : ∃ Y, wr.heap.size = Y := ⟨_, rfl⟩
          rw [hY] at hG0 ⊢
          have HY := Lib.hid hY
          clear hY c10 c15 hba
          generalize wr.alloc (.cells (P.left.cells ++ P.right.cells).toArray 24) = w5 at hG0 hb3 ⊢
          have HG := Lib.hid hG0
          have HB5 := Lib.hid hb3
          clear hG0 hb3 HD HB
          go_loopg [74] 3 (fun gg t74 wq => ∃ (k : Nat), gg = 3 - k ∧ k ≤ 2 ∧ t74 = .int .i64 k ∧ (∀ j, j < k → firmG (if j = 0 then P.left else P.right) = true) ∧ wq.heap[Y]? = some (.cells (P.left.cells ++ P.right.cells).toArray 24 (0, 0)) ∧ Below w.heap.size w wq)
          case atStart => exact ⟨0, rfl, by omega, rfl, fun j hj => by omega, HG.out, HB5.out⟩
          case round =>
            clear HG HB5
            obtain ⟨k, rfl, hk, rfl, hfm, hg, hb⟩ := hrel
            by_cases hlt : k < 2
            · have ha : agg? wr Y (k * 5) 5 = some (if k = 0 then P.left else P.right).arr := by
                rw [agg?_blk' hg (k * 5) 5 (by simp [Gl.cells]; omega)]
                rcases k with _ | _ | k
                · rfl
                · rfl
                · omega
              have hk1 : (0 : Int) ≤ (k : Int) := by omega
              have hk2 : (k : Int) < 2 := by omega
              obtain ⟨y, hy⟩ : ∃ y, (if k = 0 then P.left else P.right) = y := ⟨_, rfl⟩
              rw [hy] at ha
              have Hy := Lib.hid hy
              have Hfm := Lib.hid hfm
              have hba := (Below.refl wr.heap.size wr).alloc (Nat.le_refl _) (.cells y.arr 24)
              have HG := Lib.hid ((hba.block Y (Array.getElem?_eq_some_iff.1 hg).1).trans hg)
              have HB := Lib.hid (hb.trans (hba.mono hb.size))
              have hga : agg? (wr.alloc (.cells y.arr 24)) wr.heap.size 0 5 = some y.arr := agg?_gl _ _ _ _ _ rfl
              have Hbad : Hid (firmG y = false → pmC P S = 30) := Lib.hid fun h => by
                rw [HV2.out, if_neg]
                rw [← Hy.out] at h
                intro h2
                rw [Bool.and_eq_true] at h2
                rcases k with _ | _ | k
                · rw [show firmG P.left = false from h] at h2; cases h2.1
                · rw [show firmG P.right = false from h] at h2; cases h2.2
                · omega
              clear hy hfm hba hg hb
              go_upto_region 13 with (fail)
              generalize wr.alloc (.cells y.arr 24) = w6 at HG HB hga ⊢
              have HGC : Hid (∀ W, Calls Tryz.prog 45 #[.agg y.arr] W fun e w' => e = .returned (.int .i64 (if y.good then 0 else 30)) ∧ Below W.heap.size W w') := Lib.hid fun W => gcheck_any y W
              have HFi := Lib.hid (fun W => vfirm y W)
              obtain ⟨Q9, hQ9⟩ : ∃ Q9, wr.heap.size = Q9 := ⟨_, rfl⟩
              rw [hQ9] at hga ⊢
              clear hQ9
              cases hgd : y.good
              · have hbd := Lib.hid (Hbad.out (by rw [firmG_9, hgd]; rfl))
                rw [hgd] at HGC
                clear Hbad HV2
                go_wp2_with (go_at_call 45; refine (HGC.out _).mono ?_; rintro e w7 ⟨rfl, hb7⟩)
                go_ret
                exact ⟨by rw [hbd.out]; rfl, HB.out.trans (hb7.mono HB.out.size)⟩
              · rw [hgd] at HGC
                have hl6 : Q9 < w6.heap.size := agg?_lt hga
                cases hfi : firm9 y
                · have hbd := Lib.hid (Hbad.out (by rw [firmG_9, hgd, hfi]; rfl))
                  rw [hfi] at HFi
                  clear Hbad HV2
                  go_wp2_with (first | (go_at_call 45; refine (HGC.out _).mono ?_; rintro e w7 ⟨rfl, hb7⟩; have hga7 := ((bfacts hb7).2.2.1 Q9 0 5 hl6).trans hga; have HB7 := Lib.hid (HB.out.trans (hb7.mono HB.out.size)); have HG7 := Lib.hid ((hb7.block Y (Array.getElem?_eq_some_iff.1 HG.out).1).trans HG.out)) | (go_at_call 46; refine (HFi.out _).mono ?_; rintro e w8 ⟨rfl, hb8⟩))
                  go_ret
                  exact ⟨by rw [hbd.out]; rfl, HB7.out.trans (hb8.mono HB7.out.size)⟩
                · have hgo := Lib.hid (show firmG y = true by rw [firmG_9, hgd, hfi]; rfl)
                  rw [hfi] at HFi
                  clear Hbad
                  go_wp2_with (first | (go_at_call 45; refine (HGC.out _).mono ?_; rintro e w7 ⟨rfl, hb7⟩; have hga7 := ((bfacts hb7).2.2.1 Q9 0 5 hl6).trans hga; have HB7 := Lib.hid (HB.out.trans (hb7.mono HB.out.size)); have HG7 := Lib.hid ((hb7.block Y (Array.getElem?_eq_some_iff.1 HG.out).1).trans HG.out)) | (go_at_call 46; refine (HFi.out _).mono ?_; rintro e w8 ⟨rfl, hb8⟩))
                  have HG8 := Lib.hid ((hb8.block Y (Array.getElem?_eq_some_iff.1 HG7.out).1).trans HG7.out)
                  go_roundg (3 - (k + 1))
                  case measure => omega
                  case rel => exact ⟨k + 1, rfl, hlt, by go_num, fun j hj => by
                    by_cases e : j = k
                    · subst e; rw [Hy.out]; exact hgo.out
                    · exact Hfm.out j (by omega), HG8.out, HB7.out.trans (hb8.mono HB7.out.size)⟩
            · obtain rfl : k = 2 := by omega
              have HV3 := Lib.hid (HV2.out.trans (if_pos (by rw [show firmG P.left = true from hfm 0 (by omega), show firmG P.right = true from hfm 1 (by omega)]; rfl)))
              clear hfm hlt
              go_wp2_with fail
              go_ret
              exact ⟨by rw [HV3.out]; rfl, hb⟩
end Go.Proofs.YtiijpbfkchokaaaGreat
namespace Go.Proofs.YtiijpbfkchokaaaGreat
open Go.ChangeShapes Go.WideShapes Go.ChangeAt Go.RowKit
attribute [local go_sem ↓] Go.wp_at_zero Go.wp_at_succ
theorem q9dimen (x : Int) (w : World) : Calls Tryz.prog 48 #[.int .i64 x] w fun e w' => e = .returned (.bool (dimenB x)) ∧ w = w' := by
  go_enter Tryz.func48, Tryz.ntmps48
  go_wp2
  all_goals go_ret
  all_goals exact ⟨by simp [dimenB]; omega, rfl⟩
theorem q9finite (g : Gl) (w : World) : Calls Tryz.prog 49 #[.agg g.arr] w fun e w' => e = .returned (.bool (firmG g)) ∧ Below w.heap.size w w' := by
  cases hg : g.good
  · have HC : Hid (∀ W, Calls Tryz.prog 70 #[.agg g.arr] W fun e w' => e = .returned (.int .i64 30) ∧ Below W.heap.size W w') := Lib.hid fun W => q2check_v _ _ (by rw [hg]; rfl) W
    have Hv := Lib.hid (show firmG g = false by simp [firmG, hg])
    clear hg
    go_enter Tryz.func49, Tryz.ntmps49
    go_wp2_with (go_at_call 70; refine (HC.out _).mono ?_; rintro e w2 ⟨rfl, hb2⟩)
    go_ret
    exact ⟨ret_bool Hv.out.symm, Below.trans ((Below.refl _ _).alloc (Nat.le_refl _) _) (hb2.mono (by simp))⟩
  · have HC : Hid (∀ W, Calls Tryz.prog 70 #[.agg g.arr] W fun e w' => e = .returned (.int .i64 0) ∧ Below W.heap.size W w') := Lib.hid fun W => q2check_v _ _ (by rw [hg]; rfl) W
    have d0 := heap_alloc_new w (.cells g.arr 24)
    cases h1 : (g.ho == 0) <;> cases h2 : (g.shr == 0)
    all_goals
      have Hv := Lib.hid (show firmG g = _ by simp only [firmG, hg, h1, h2]; rfl)
      have D0 := Lib.hid d0
      go_enter Tryz.func49, Tryz.ntmps49
      go_wp2_with (go_at_call 70; refine (HC.out _).mono ?_; rintro e w2 ⟨rfl, hb2⟩; (have d2 := (hb2.block w.heap.size (by simp)).trans D0.out); (have c2 : w2.cell? ⟨w.heap.size, 2, none⟩ = some (.int .i64 g.shr) := by rw [cell?_blk' d2]; rfl); (have c4 : w2.cell? ⟨w.heap.size, 4, none⟩ = some (.int .i64 g.ho) := by rw [cell?_blk' d2]; rfl))
      go_ret
      exact ⟨ret_bool (by rw [Hv.out]; rfl), Below.trans ((Below.refl _ _).alloc (Nat.le_refl _) _) (hb2.mono (by simp))⟩
end Go.Proofs.YtiijpbfkchokaaaGreat
namespace Go.Proofs.YtiijpbfkchokaaaGreat
open Go.ChangeShapes Go.WideShapes Go.ChangeAt Go.RowKit
attribute [local go_sem ↓] Go.wp_at_zero Go.wp_at_succ
def tenQ (P : Pm) : List Int := [P.pret, P.tol, P.linep, P.hyp, P.exhyp, P.adj, P.dbl, P.fin, P.loose, P.hanga]
theorem farB_num (x : Int) : farB x = !numB x := rfl
theorem pmC_q (P : Pm) (S : List Sh2) : pmC P S = if (tenQ P).all numB = true then (if (dimenB P.hsize && (dimenB P.hangi && (dimenB P.emerg && decide (S.length ≤ 2000)))) = true then (if (S.all fun x => dimenB x.a && dimenB x.b) = true then (if (firmG P.left && firmG P.right) = true then 0 else 30) else 1) else 1) else 1 := by
  unfold pmC tenQ
  by_cases h1 : ([P.pret, P.tol, P.linep, P.hyp, P.exhyp, P.adj, P.dbl, P.fin, P.loose, P.hanga].all numB) = true
  · rw [if_pos h1]
    simp only [List.all_cons, List.all_nil, Bool.and_true, Bool.and_eq_true] at h1
    obtain ⟨a1, a2, a3, a4, a5, a6, a7, a8, a9, a10⟩ := h1
    by_cases h2 : (dimenB P.hsize && (dimenB P.hangi && (dimenB P.emerg && decide (S.length ≤ 2000)))) = true
    · rw [if_pos h2]
      simp only [Bool.and_eq_true] at h2
      obtain ⟨b1, b2, b3, b4⟩ := h2
      by_cases h3 : (S.all fun x => dimenB x.a && dimenB x.b) = true
      · rw [if_pos h3]
        rw [if_pos]
        simp only [a1, a2, a3, a4, a5, a6, a7, a8, a9, a10, b1, b2, b3, b4, h3, Bool.and_self]
      · rw [if_neg h3, if_neg]
        intro h
        simp only [Bool.and_eq_true] at h
        exact h3 h.2
    · rw [if_neg h2, if_neg]
      intro h
      apply h2
      simp only [Bool.and_eq_true] at h ⊢
      obtain ⟨⟨⟨⟨⟨_, q1⟩, q2⟩, q3⟩, q4⟩, _⟩ := h
      exact ⟨q1, q2, q3, q4⟩
  · rw [if_neg h1, if_neg]
    intro h
    apply h1
    simp only [Bool.and_eq_true] at h
    obtain ⟨⟨⟨⟨⟨⟨⟨⟨⟨⟨⟨⟨⟨⟨a1, a2⟩, a3⟩, a4⟩, a5⟩, a6⟩, a7⟩, a8⟩, a9⟩, a10⟩, _⟩, _⟩, _⟩, _⟩, _⟩ := h
    simp only [List.all_cons, List.all_nil, Bool.and_true, a1, a2, a3, a4, a5, a6, a7, a8, a9, a10]
theorem q9check (P : Pm) (g off : Nat) (S : List Sh2) (w : World) (hS : ShIn w P g off S) :
    Calls Tryz.prog 21 #[.agg P.arr] w fun e w' => e = .returned (.int .i64 (pmC P S)) ∧ Below w.heap.size w w' := by
  have hb0 : Below w.heap.size w (w.alloc (.cells P.arr 27)) := (Below.refl _ _).alloc (Nat.le_refl _) _
  have d0 : PAt (w.alloc (.cells P.arr 27)) w.heap.size P := heap_alloc_new w _
  have hlen := hS.len
  have hcap := hS.cap
  have hn := hS.n
  obtain ⟨X, hX⟩ : ∃ X, w.heap.size = X := ⟨_, rfl⟩
  have H := Lib.hid hS
  have HX := Lib.hid hX
  rw [hX] at d0
  obtain ⟨r, hr⟩ : ∃ r, pmC P S = r := ⟨_, rfl⟩
  rw [hr]
  have Hr := Lib.hid ((pmC_q P S).symm.trans hr)
  clear hS hX hr
  go_enter Tryz.func21, Tryz.ntmps21
  go_upto_region 1 with (fail)
  rw [HX.out]
  generalize w.alloc (.cells P.arr 27) = w1 at hb0 d0 ⊢
  have c0 := d0.cell 0 _ (Pm.get0 P)
  have c1 := d0.cell 1 _ (Pm.get1 P)
  have c2 := d0.cell 2 _ (Pm.get2 P)
  have c3 := d0.cell 3 _ (Pm.get3 P)
  have c4 := d0.cell 4 _ (Pm.get4 P)
  have c5 := d0.cell 5 _ (Pm.get5 P)
  have c6 := d0.cell 6 _ (Pm.get6 P)
  have c7 := d0.cell 7 _ (Pm.get7 P)
  have c8 := d0.cell 8 _ (Pm.get8 P)
  have c22 := d0.cell 22 _ (Pm.get22 P)
  obtain ⟨w2, hw2⟩ : ∃ w2, w1.alloc (.cells #[.int .i64 P.pret, .int .i64 P.tol, .int .i64 P.linep, .int .i64 P.hyp, .int .i64 P.exhyp, .int .i64 P.adj, .int .i64 P.dbl, .int .i64 P.fin, .int .i64 P.loose, .int .i64 P.hanga] 3) = w2 := ⟨_, rfl⟩
  obtain ⟨Z, hZs⟩ : ∃ Z, w1.heap.size = Z := ⟨_, rfl⟩
  have hZ : ZIn w2 (some ⟨Z, 0, none⟩) Z 10 (tenQ P) := by rw [← hw2, ← hZs]; exact zin_blk (heap_alloc_new w1 (.cells (ints (tenQ P)).toArray 3))
  have hba : Below w1.heap.size w1 w2 := by rw [← hw2]; exact (Below.refl _ _).alloc (Nat.le_refl _) _
  have hd2 := d0.still hba
  have hb2 := hb0.trans (hba.mono hb0.size)
  have HD := Lib.hid (And.intro hZ (And.intro hd2 hb2))
  clear d0 hb0 hba hZ hd2 hb2
  have Hw2 := Lib.hid hw2
  clear hw2
  go_upto_region 2 with (fail)
  rw [Hw2.out]
  clear c0 c1 c2 c3 c4 c5 c6 c7 c8 c22 Hw2 hZs
  obtain ⟨T, hT⟩ : ∃ T, tenQ P = T := ⟨_, rfl⟩
  have hTl : T.length = 10 := by rw [← hT]; rfl
  rw [hT] at HD Hr
  clear hT
  go_wp2_with fail
  go_loopg [4] 11 (fun gg t4 wr => ∃ k : Nat, gg = 11 - k ∧ k ≤ 10 ∧ t4 = .int .i64 k ∧ (T.take k).all numB = true ∧ wr = w2)
  case atStart => exact ⟨0, rfl, Nat.zero_le _, rfl, rfl, rfl⟩
  case round =>
    obtain ⟨k, rfl, hk, rfl, hall, rfl⟩ := hrel
    have hk0 : (0 : Int) ≤ (k : Int) := by omega
    by_cases hlt : k < 10
    · have hk1 : (k : Int) < 10 := by omega
      have hlt2 : decide ((k : Int) < 10) = true := decide_eq_true hk1
      have hkl : k < T.length := by rw [hTl]; exact hlt
      have ck := HD.out.1.at_ k hkl
      have htk : T.take (k + 1) = T.take k ++ [T[k]] := by
        rw [List.take_add_one, List.getElem?_eq_getElem hkl]; rfl
      have hmem : T[k] ∈ T := List.getElem_mem hkl
      generalize T[k] = v at ck htk hmem
      have HF := Lib.hid (qfar v wr)
      obtain ⟨fb, hfb⟩ : ∃ fb, farB v = fb := ⟨_, rfl⟩
      rw [hfb] at HF
      rw [farB_num] at hfb
      cases fb
      · have hv : numB v = true := by simpa using hfb
        have Hall : Hid ((T.take (k + 1)).all numB = true) := Lib.hid (by rw [htk, List.all_append, hall]; simp [hv])
        clear hall htk hmem hfb hkl hlt hv
        go_wp2_with (go_at_call 47; refine HF.out.mono ?_; clear HF; rintro e w' ⟨rfl, rfl⟩)
        go_roundg (11 - (k + 1))
        case measure => omega
        case rel => exact ⟨k + 1, rfl, by omega, by go_num, Hall.out, rfl⟩
      · have hv : numB v = false := by simpa using hfb
        have HR : Hid ((1 : Int) = r) := Lib.hid (by
          have h1 := Hr.out
          rw [if_neg] at h1
          · exact h1
          · intro h
            have := List.all_eq_true.1 h v hmem
            rw [hv] at this; cases this)
        clear hall htk hmem hfb hkl hlt hv
        go_wp2_with (go_at_call 47; refine HF.out.mono ?_; clear HF; rintro e w' ⟨rfl, rfl⟩)
        go_ret
        exact ⟨by rw [← HR.out]; rfl, HD.out.2.2⟩
    · have hk10 : k = 10 := by omega
      subst hk10
      have hall2 : T.all numB = true := by rwa [List.take_of_length_le (by rw [hTl]; exact Nat.le_refl _)] at hall
      have Hr2 := Lib.hid ((if_pos hall2).symm.trans Hr.out)
      have hdd := HD.out.2.1
      have hbb := HD.out.2.2
      have c12 := hdd.cell 20 _ (Pm.get20 P)
      have c13 := hdd.cell 21 _ (Pm.get21 P)
      have c9 := hdd.cell 9 _ (Pm.get9 P)
      have c15 := hdd.cell 23 _ (Pm.get23 P)
      rw [hn] at c15
      have HS : Hid (∀ i (hi : i < S.length), ∃ q, P.shA = some ⟨g, off, none⟩ ∧ agg? wr g (off + i * 2) 2 = some q.arr ∧ q = S[i]) := Lib.hid fun i hi => ⟨S[i], H.out.hp (by intro e; rw [e] at hi; simp at hi), (H.out.below hbb).at_ i hi, rfl⟩
      have Hdd := Lib.hid (And.intro hdd hbb)
      clear hall hall2 Hr hdd hbb hlt
      obtain ⟨c, hc⟩ : ∃ c, (dimenB P.hsize && (dimenB P.hangi && (dimenB P.emerg && decide (S.length ≤ 2000)))) = c := ⟨_, rfl⟩
      have Hc := Lib.hid hc
      clear hc
      go_upto_region 7 with (fail)
      go_cut [59] from 38 to 59 (fun s59 wx => s59 = .bool (!c) ∧ wx = wr)
      case first =>
        cases h1 : dimenB P.hsize
        ·
          have h9 := Hc.out
          rw [h1] at h9
          obtain rfl : false = c := h9
          go_wp2_with (go_at_call 48; refine (q9dimen _ _).mono ?_; rintro e w' ⟨rfl, rfl⟩)
          go_meet
          exact ⟨rfl, rfl⟩
        cases h2 : dimenB P.hangi
        ·
          have h9 := Hc.out
          rw [h1, h2] at h9
          obtain rfl : false = c := h9
          go_wp2_with (go_at_call 48; refine (q9dimen _ _).mono ?_; rintro e w' ⟨rfl, rfl⟩)
          go_meet
          exact ⟨rfl, rfl⟩
        cases h3 : dimenB P.emerg
        ·
          have h9 := Hc.out
          rw [h1, h2, h3] at h9
          obtain rfl : false = c := h9
          go_wp2_with (go_at_call 48; refine (q9dimen _ _).mono ?_; rintro e w' ⟨rfl, rfl⟩)
          go_meet
          exact ⟨rfl, rfl⟩
        by_cases h4 : S.length ≤ 2000
        · have h5 : decide (S.length ≤ 2000) = true := decide_eq_true h4
          have h6 : decide ((2000 : Int) < (S.length : Int)) = false := decide_eq_false (by omega)
          have h9 := Hc.out
          rw [h1, h2, h3, h5] at h9
          obtain rfl : true = c := h9
          go_wp2_with (go_at_call 48; refine (q9dimen _ _).mono ?_; rintro e w' ⟨rfl, rfl⟩)
          go_meet
          exact ⟨rfl, rfl⟩
        · have h5 : decide (S.length ≤ 2000) = false := decide_eq_false h4
          have h6 : decide ((2000 : Int) < (S.length : Int)) = true := decide_eq_true (by omega)
          have h9 := Hc.out
          rw [h1, h2, h3, h5] at h9
          obtain rfl : false = c := h9
          go_wp2_with (go_at_call 48; refine (q9dimen _ _).mono ?_; rintro e w' ⟨rfl, rfl⟩)
          go_meet
          exact ⟨rfl, rfl⟩
      case rest =>
        obtain ⟨rfl, rfl⟩ := hcut
        clear c12 c13 c9
        cases hcb : c
        · subst hcb
          have HR : Hid ((1 : Int) = r) := Lib.hid (by
            have h1 := Hr2.out
            rw [if_neg (by rw [Hc.out]; decide)] at h1
            exact h1)
          clear c15
          go_wp2_with fail
          go_ret
          exact ⟨by rw [← HR.out]; rfl, Hdd.out.2⟩
        · subst hcb
          have Hr3 := Lib.hid ((if_pos Hc.out).symm.trans Hr2.out)
          have hSl : S.length ≤ 2000 := by
            have h1 := Hc.out
            simp only [Bool.and_eq_true, decide_eq_true_eq] at h1
            exact h1.2.2.2
          clear Hr2 Hc
          go_wp2_with fail
          go_loopg [5] (S.length + 1) (fun gg t5 wr2 => ∃ k : Nat, gg = S.length + 1 - k ∧ k ≤ S.length ∧ t5 = .int .i64 k ∧ ((S.take k).all fun x => dimenB x.a && dimenB x.b) = true ∧ wr2 = wc)
          case atStart => exact ⟨0, rfl, Nat.zero_le _, rfl, rfl, rfl⟩
          case round =>
            obtain ⟨k, rfl, hk, rfl, hall, rfl⟩ := hrel
            have hk0 : (0 : Int) ≤ (k : Int) := by omega
            by_cases hlt : k < S.length
            · have hk1 : (k : Int) < (S.length : Int) := by omega
              have hlt2 : decide (k < S.length) = true := decide_eq_true hlt
              obtain ⟨q, hsh, aq, hqe⟩ := HS.out k hlt
              have htk : S.take (k + 1) = S.take k ++ [q] := by
                rw [List.take_add_one, List.getElem?_eq_getElem hlt, hqe]; rfl
              have hmem : q ∈ S := by rw [hqe]; exact List.getElem_mem hlt
              rw [hsh] at c15
              have cq0 : wr.cell? ⟨g, off + k * 2, none⟩ = some (.int .i64 q.a) := by have h1 := agg_cell aq 0 (.int .i64 q.a) rfl; rwa [Nat.add_zero] at h1
              have cq1 : wr.cell? ⟨g, off + k * 2 + 1, none⟩ = some (.int .i64 q.b) := agg_cell aq 1 _ rfl
              obtain ⟨b, hb⟩ : ∃ b, (dimenB q.a && dimenB q.b) = b := ⟨_, rfl⟩
              have Hb := Lib.hid hb
              have Hm := Lib.hid (And.intro htk (And.intro hmem hall))
              clear hb htk hmem hall hlt hqe aq hsh
              go_upto_region 12 with (fail)
              go_cut [84] from 67 to 84 (fun s84 wx => s84 = .bool (!b) ∧ wx = wr)
              case first =>
                cases h1 : dimenB q.a
                · have h9 := Hb.out
                  rw [h1] at h9
                  obtain rfl : false = b := h9
                  go_wp2_with (go_at_call 48; refine (q9dimen _ _).mono ?_; rintro e w' ⟨rfl, rfl⟩)
                  go_meet
                  exact ⟨rfl, rfl⟩
                · have h9 := Hb.out
                  rw [h1, Bool.true_and] at h9
                  go_wp2_with (go_at_call 48; refine (q9dimen _ _).mono ?_; rintro e w' ⟨rfl, rfl⟩)
                  go_meet
                  exact ⟨rfl, rfl⟩
              case rest =>
                obtain ⟨rfl, rfl⟩ := hcut
                clear cq0 cq1
                cases hbb : b
                · subst hbb
                  have HR : Hid ((1 : Int) = r) := Lib.hid (by
                    have h1 := Hr3.out
                    rw [if_neg] at h1
                    · exact h1
                    · intro h
                      have h2 := List.all_eq_true.1 h q Hm.out.2.1
                      rw [Hb.out] at h2; cases h2)
                  clear c15
                  go_wp2_with fail
                  go_ret
                  exact ⟨by rw [← HR.out]; rfl, Hdd.out.2⟩
                · subst hbb
                  have Hall : Hid (((S.take (k + 1)).all fun x => dimenB x.a && dimenB x.b) = true) := Lib.hid (by
                    rw [Hm.out.1, List.all_append, Hm.out.2.2]
                    simp only [List.all_cons, List.all_nil, Bool.and_true, Bool.true_and]
                    exact Hb.out)
                  clear c15
                  go_wp2_with fail
                  go_roundg (S.length + 1 - (k + 1))
                  case measure => omega
                  case rel => exact ⟨k + 1, rfl, by omega, by go_num, Hall.out, rfl⟩
            · have hkn : k = S.length := by omega
              have hlt2 : decide (k < S.length) = false := decide_eq_false hlt
              have hall2 : (S.all fun x => dimenB x.a && dimenB x.b) = true := by rwa [List.take_of_length_le (by omega)] at hall
              have Hr4 := Lib.hid ((if_pos hall2).symm.trans Hr3.out)
              have c10 : agg? wr X 10 5 = some P.left.arr := by rw [agg?_blk' Hdd.out.1 10 5 (by rw [Pm.size_arr]; decide), Pm.sub_left]
              have HFl := Lib.hid (q9finite P.left wr)
              have HFr : Hid (∀ W, Below wr.heap.size wr W → agg? W X 15 5 = some P.right.arr ∧ Calls Tryz.prog 49 #[.agg P.right.arr] W fun e w' => e = .returned (.bool (firmG P.right)) ∧ Below W.heap.size W w') := Lib.hid fun W hb => ⟨by rw [agg?_blk' (Hdd.out.1.still hb) 15 5 (by rw [Pm.size_arr]; decide), Pm.sub_right], q9finite P.right W⟩
              obtain ⟨f1, hf1⟩ : ∃ f1, firmG P.left = f1 := ⟨_, rfl⟩
              obtain ⟨f2, hf2⟩ : ∃ f2, firmG P.right = f2 := ⟨_, rfl⟩
              rw [hf1] at HFl
              rw [hf2] at HFr
              have HR := Hr4.out
              rw [hf1, hf2] at HR
              have HR := Lib.hid HR
              clear hall hall2 Hr3 Hr4 hlt hf1 hf2
              cases f1
              · have HR2 : Hid ((30 : Int) = r) := Lib.hid (by have := HR.out; rwa [if_neg (by simp)] at this)
                clear HR
                go_wp2_with (go_at_call 49; refine HFl.out.mono ?_; clear HFl; rintro e w4 ⟨rfl, hb4⟩)
                go_ret
                exact ⟨by rw [← HR2.out]; rfl, Hdd.out.2.trans (hb4.mono Hdd.out.2.size)⟩
              · cases f2
                · have HR2 : Hid ((30 : Int) = r) := Lib.hid (by have := HR.out; rwa [if_neg (by decide)] at this)
                  clear HR
                  go_upto_if 94 with (first | (go_at_call 49; refine HFl.out.mono ?_; clear HFl; rintro e w4 ⟨rfl, hb4⟩; obtain ⟨c15', HFr2⟩ := HFr.out w4 hb4) | (go_at_call 49; refine HFr2.mono ?_; clear HFr2; rintro e w5 ⟨rfl, hb5⟩))
                  go_wp2_with fail
                  go_ret
                  exact ⟨by rw [← HR2.out]; rfl, Hdd.out.2.trans ((hb4.trans (hb5.mono hb4.size)).mono Hdd.out.2.size)⟩
                · have HR2 : Hid ((0 : Int) = r) := Lib.hid (by have := HR.out; rwa [if_pos (by decide)] at this)
                  clear HR
                  go_upto_if 94 with (first | (go_at_call 49; refine HFl.out.mono ?_; clear HFl; rintro e w4 ⟨rfl, hb4⟩; obtain ⟨c15', HFr2⟩ := HFr.out w4 hb4) | (go_at_call 49; refine HFr2.mono ?_; clear HFr2; rintro e w5 ⟨rfl, hb5⟩))
                  go_wp2_with fail
                  go_ret
                  exact ⟨by rw [← HR2.out]; rfl, Hdd.out.2.trans ((hb4.trans (hb5.mono hb4.size)).mono Hdd.out.2.size)⟩
end Go.Proofs.YtiijpbfkchokaaaGreat
