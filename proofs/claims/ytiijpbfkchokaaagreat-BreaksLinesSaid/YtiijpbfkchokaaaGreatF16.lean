/-
  The document's side of layer 9: glue at a line's ends; a line's totals.
  Line: what both sides tell of a line; both walked.
  Line: the program's, walked.
-/
import Derived.Test.YtiijpbfkchokaaaGreatB17
import Derived.Test.YtiijpbfkchokaaaGreatB22
import Derived.Test.YtiijpbfkchokaaaGreatF12
import Derived.Test.YtiijpbfkchokaaaGreatF13
namespace Go.Proofs.YtiijpbfkchokaaaGreat
open Go.ChangeShapes Go.WideShapes Go.ChangeAt Go.RowKit
attribute [local go_sem ↓] Go.wp_at_zero Go.wp_at_succ
/-- totals, a glue, a result: three blocks -/
structure GluI (w : World) (Z : Nat) (T : Tt) (g : Gl) (W : World) : Prop where
  at_ : TAt W Z T
  gl : W.heap[Z + 1]? = some (.cells g.arr 24 (0, 0))
  res : TAt W (Z + 2) .zero
  below : Below w.heap.size w W
  le : w.heap.size ≤ Z
theorem GluI.set {w : World} {Z : Nat} {T T' : Tt} {g : Gl} {W : World} (h : GluI w Z T g W) (k : Nat) (v : Value) (hm : T.arr.setIfInBounds k v = T'.arr) : GluI w Z T' g (W.setCell ⟨Z, k, none⟩ v) :=
  ⟨h.at_.set k v hm, (Below.heap_setCell _ _ _ _ (by simp only; omega)).trans h.gl, (Below.heap_setCell _ _ _ _ (by simp only; omega)).trans h.res, h.below.setCell (p := ⟨Z, k, none⟩) (by have := h.le; simp only; omega) _, h.le⟩
theorem GluI.drew {w : World} {Z : Nat} {T : Tt} {g : Gl} {W : World} (h : GluI w Z T g W) : GluI w Z T g W.drew :=
  ⟨h.at_, h.gl, h.res, h.below.trans ((Below.refl W.heap.size W).drew.mono h.below.size), h.le⟩
set_option maxRecDepth 100000 in
set_option maxHeartbeats 8000000 in
theorem q9glues (T : Tt) (g : Gl) (hg : g.good = true) (hT : TtB 8800000000000 T) (w : World) :
    Calls Tryz.prog 74 #[.agg T.arr, .agg g.arr] w fun e w' => e = .returned (.agg (T.plus (glueT g)).arr) ∧ Below w.heap.size w w' := by
  have hI : GluI w w.heap.size T g (((w.alloc (.cells T.arr 62)).alloc (.cells g.arr 24)).alloc (.cells (Tt.mk 0 0 0 0 0 0 0 0 0).arr 62)) := by
    refine ⟨?_, ?_, ?_, ((((Below.refl _ _).alloc (Nat.le_refl _) _).alloc (by simp) _).alloc (by simp; omega) _), Nat.le_refl _⟩
    · refine (Below.heap_alloc _ _ _ (by simp; omega)).trans ((Below.heap_alloc _ _ _ (by simp)).trans (heap_alloc_new w _))
    · refine (Below.heap_alloc _ _ _ (by simp)).trans ?_
      have := heap_alloc_new (w.alloc (.cells T.arr 62)) (.cells g.arr 24)
      rwa [World.size_alloc] at this
    · have := heap_alloc_new ((w.alloc (.cells T.arr 62)).alloc (.cells g.arr 24)) (.cells (Tt.mk 0 0 0 0 0 0 0 0 0).arr 62)
      rwa [World.size_alloc, World.size_alloc] at this
  simp [Gl.good, dimenB, withinB] at hg
  obtain ⟨j, hj⟩ : ∃ j : Nat, g.so = (j : Int) := ⟨g.so.toNat, by omega⟩
  obtain ⟨h, hh⟩ : ∃ h : Nat, g.ho = (h : Int) := ⟨g.ho.toNat, by omega⟩
  have hj3 : j ≤ 3 := by omega
  have hh3 : h ≤ 3 := by omega
  have hj4 : (0 : Int) ≤ (j : Int) := by omega
  have hj5 : (j : Int) < 4 := by omega
  have hh4 : (0 : Int) ≤ (h : Int) := by omega
  have hh5 : (h : Int) < 4 := by omega
  have hst : -8800000000000 ≤ T.st j ∧ T.st j ≤ 8800000000000 := by
    obtain ⟨a0, a1, a2, a3, a4, -, -, -, -⟩ := hT
    rcases j with _ | _ | _ | _ | j
    · exact a1
    · exact a2
    · exact a3
    · exact a4
    · omega
  have hsh : -8800000000000 ≤ T.sh h ∧ T.sh h ≤ 8800000000000 := by
    obtain ⟨-, -, -, -, -, a1, a2, a3, a4⟩ := hT
    rcases h with _ | _ | _ | _ | h
    · exact a1
    · exact a2
    · exact a3
    · exact a4
    · omega
  obtain ⟨bn1, bn2⟩ := hT.nat
  have Hj := Lib.hid hj
  have Hh := Lib.hid hh
  obtain ⟨U, hU⟩ : ∃ U, T.plus (glueT g) = U := ⟨_, rfl⟩
  rw [hU]
  have HU := Lib.hid hU
  clear hU
  obtain ⟨g1, g2, g3, g4, g5, g6⟩ : -1073741823 ≤ g.nat ∧ g.nat ≤ 1073741823 ∧ -1073741823 ≤ g.str ∧ g.str ≤ 1073741823 ∧ -1073741823 ≤ g.shr ∧ g.shr ≤ 1073741823 := by omega
  obtain ⟨bj1, bj2⟩ := hst
  obtain ⟨bi1, bi2⟩ := hsh
  clear hg hj hh hT
  go_enter Tryz.func74, Tryz.ntmps74
  go_upto_region 1 with (fail)
  generalize ((w.alloc (.cells T.arr 62)).alloc (.cells g.arr 24)).alloc (.cells (Tt.mk 0 0 0 0 0 0 0 0 0).arr 62) = w1 at hI ⊢
  obtain ⟨Z, hZ⟩ : ∃ Z, w.heap.size = Z := ⟨_, rfl⟩
  rw [hZ] at hI ⊢
  have HZ := Lib.hid hZ
  clear hZ
  have c0 : w1.cell? ⟨Z, 0, none⟩ = some (.int .i64 T.nat) := hI.at_.cell 0 _ (Tt.get0 T)
  have f0 := hI.at_.frozen 0
  have g0 : w1.cell? ⟨Z + 1, 0, none⟩ = some (.int .i64 g.nat) := by rw [cell?_blk' hI.gl]; rfl
  go_upto_region 2 with (fail)
  have hI2 := (hI.set 0 (.int .i64 (T.nat + g.nat)) (T' := { T with nat := T.nat + g.nat }) rfl)
  clear hI c0 f0 g0
  generalize w1.setCell ⟨Z, 0, none⟩ (.int .i64 (T.nat + g.nat)) = w2 at hI2 ⊢
  have x1 : w2.cell? ⟨Z + 1, 1, none⟩ = some (.int .i64 g.str) := by rw [cell?_blk' hI2.gl]; rfl
  have x3 : w2.cell? ⟨Z + 1, 3, none⟩ = some (.int .i64 (j : Nat)) := by rw [cell?_blk' hI2.gl, ← Hj.out]; rfl
  have cj : w2.cell? ⟨Z, 1 + j, none⟩ = some (.int .i64 (T.st j)) := hI2.at_.cell (1 + j) _ (tt_get_st _ j hj3)
  have fj := hI2.at_.frozen (1 + j)
  go_region
  have hI5 := (hI2.set (1 + j) (.int .i64 (T.st j + g.str)) (tt_set_st _ _ j hj3)).drew
  clear hI2 x1 x3 cj fj bj1 bj2
  generalize (w2.setCell ⟨Z, 1 + j, none⟩ (.int .i64 (T.st j + g.str))).drew = A5 at hI5 ⊢
  have x9 : A5.cell? ⟨Z + 1, 2, none⟩ = some (.int .i64 g.shr) := by rw [cell?_blk' hI5.gl]; rfl
  have x11 : A5.cell? ⟨Z + 1, 4, none⟩ = some (.int .i64 (h : Nat)) := by rw [cell?_blk' hI5.gl, ← Hh.out]; rfl
  have ci := hI5.at_.cell (5 + h) _ (tt_get_sh _ h hh3)
  have fi := hI5.at_.frozen (5 + h)
  have hsh2 : (({ T with nat := T.nat + g.nat } : Tt).setS j (T.st j + g.str)).sh h = T.sh h := sh_setS _ _ _ _
  rw [hsh2] at ci
  clear hsh2
  go_wp2_with fail
  go_region
  have hI6 := (hI5.set (5 + h) (.int .i64 (T.sh h + g.shr)) (tt_set_sh _ _ h hh3)).drew
  clear hI5 x9 x11 ci fi bi1 bi2
  generalize (A5.setCell ⟨Z, 5 + h, none⟩ (.int .i64 (T.sh h + g.shr))).drew = A6 at hI6 ⊢
  have hg : ({ T with nat := T.nat + g.nat } : Tt).glue g = (({ T with nat := T.nat + g.nat } : Tt).setS j (T.st j + g.str)).setH h (T.sh h + g.shr) := by
    unfold Tt.glue
    rw [Hj.out, Hh.out]
    simp only [Int.toNat_natCast]
    rw [show (({ T with nat := T.nat + g.nat } : Tt).setS j (({ T with nat := T.nat + g.nat } : Tt).st j + g.str)) = (({ T with nat := T.nat + g.nat } : Tt).setS j (T.st j + g.str)) from rfl, sh_setS]
    rfl
  rw [← hg, glue_plus, HU.out] at hI6
  clear hg
  have aT := hI6.at_.agg
  have tR := hI6.res.there
  have HI := Lib.hid hI6
  clear hI6
  go_wp2_with fail
  refine ret_tt rfl (Z + 2) 0 U rfl (HI.out.res.store (U := U)).agg rfl ⟨rfl, ?_⟩
  rw [← HZ.out]
  exact Below.setAgg HI.out.below (by omega) _ _
/-- totals of a Disc's list, of a row -/
theorem q5sum_part {L X : List Nd} (hP : PartOK L X) (hr : ∀ n ∈ L, rightB n = true) (hl : X.length ≤ 2000) (p : Option Addr) (g o c : Nat) (w : World) (hN : NIn w p g o c X) :
    Calls Tryz.prog 75 #[.slice p X.length c, .bool false] w fun e w' => e = .returned (.agg (Tt.wide (rowN X)).arr) ∧ Below w.heap.size w w' := by
  have h := q5sum_of p g o c X (itsP X) (totY_part hP hr hl) (fun x hx => (small_not (hP.its.2 x hx)).2.1) w hN (fun x hx hk => by
    have := hP.its.2 x hx
    rw [hk] at this
    exact absurd this (by decide))
  rwa [sumA_small _ hP.its.2] at h
theorem q5sum_row {Y : List Nd} {s : List Nat} (h : RowOK Y s) (hl : Y.length ≤ 2000) (p : Option Addr) (g o c : Nat) (w : World) (hN : NIn w p g o c Y) :
    Calls Tryz.prog 75 #[.slice p Y.length c, .bool false] w fun e w' => e = .returned (.agg (sumA Y s).arr) ∧ Below w.heap.size w w' :=
  q5sum_of p g o c Y s (h.tot hl) h.six w hN fun x hx hk => by
    obtain ⟨m, u, hd⟩ := h.disc x hx hk
    obtain ⟨hok, hlen⟩ := disc_ok hd
    have hlt := hd.lt
    exact ⟨⟨m, u, hd⟩, fun W p g c hN => q5sum_part hok.c h.right (by omega) p g 0 c W hN⟩
set_option maxRecDepth 100000 in
set_option maxHeartbeats 8000000 in
theorem q9sum (P : Pm) (p0 : Option Addr) (b off cap : Nat) (L : List Nd) (hc : checkC L = 0) (s : List Nat) (hs : Items L 0 s) (hPl : P.left.good = true) (hPr : P.right.good = true) (f : Option Nat) (q : Nat) (hf : ∀ x, f = some x → x ∈ s ∧ x < q) (hq : q ∈ s ∨ q = L.length) (w : World) (hN : NIn w p0 b off cap L) :
    Calls Tryz.prog 53 #[.slice p0 L.length cap, .agg P.arr, .int .i64 (fI f), .int .i64 q] w fun e w' => e = .returned (.agg (lineT L P s f q).arr) ∧ Below w.heap.size w w' := by
  obtain ⟨⟨t, hrow, hsum⟩, hlen⟩ := cont_row hc hs hf hq
  have hll := (checkC_zero hc).1
  have hb1 : Below w.heap.size w ((w.alloc (.cells P.arr 27)).alloc (.cells (Tt.mk 0 0 0 0 0 0 0 0 0).arr 62)) := ((Below.refl _ _).alloc (Nat.le_refl _) _).alloc (by simp) _
  have d0 : PAt ((w.alloc (.cells P.arr 27)).alloc (.cells (Tt.mk 0 0 0 0 0 0 0 0 0).arr 62)) w.heap.size P := (Below.heap_alloc _ _ _ (by simp)).trans (heap_alloc_new w _)
  have d1 : TAt ((w.alloc (.cells P.arr 27)).alloc (.cells (Tt.mk 0 0 0 0 0 0 0 0 0).arr 62)) (w.heap.size + 1) .zero := by
    have := heap_alloc_new (w.alloc (.cells P.arr 27)) (.cells (Tt.mk 0 0 0 0 0 0 0 0 0).arr 62)
    rwa [World.size_alloc] at this
  have hlT : lineT L P s f q = ((((Tt.wide (preN L f)).plus (sumA L ((fromP L s f q).takeWhile (· < q)))).plus (.wide (sufN L q))).plus (glueT P.left)).plus (glueT P.right) := rfl
  rw [← hsum] at hlT
  have hB1 : TtB 4400000000000 (sumA (contP L s f q) t) := (hrow.tot (by omega)).bnd t [] (by simp)
  have HCt : Hid (∀ W, Below w.heap.size w W → Calls Tryz.prog 76 #[.slice p0 L.length cap, .int .i64 (fI f), .int .i64 q] W fun e w' => ∃ p g c, e = .returned (.slice p (contP L s f q).length c) ∧ NIn w' p g 0 c (contP L s f q) ∧ Below W.heap.size W w') := Lib.hid fun W hb => (q9content p0 b off cap L hc s hs f q hf hq W (hN.below hb)).mono fun e w' h => by
    obtain ⟨⟨v, rfl, hv⟩, hb'⟩ := h
    obtain ⟨_, p, g, c, rfl, hn, _⟩ := row_nodes hv (by omega)
    exact ⟨p, g, c, rfl, hn, hb'⟩
  have HSm : Hid (∀ W p g c, NIn W p g 0 c (contP L s f q) → Calls Tryz.prog 75 #[.slice p (contP L s f q).length c, .bool false] W fun e w' => e = .returned (.agg (sumA (contP L s f q) t).arr) ∧ Below W.heap.size W w') := Lib.hid fun W p g c hn => q5sum_row hrow (by omega) p g 0 c W hn
  rw [hlT]
  clear hlT hsum hrow hN hs hf hq hc
  obtain ⟨C, hC⟩ : ∃ C, contP L s f q = C := ⟨_, rfl⟩
  rw [hC] at HCt HSm hB1 ⊢
  obtain ⟨T1, hT1⟩ : ∃ T1, sumA C t = T1 := ⟨_, rfl⟩
  rw [hT1] at HSm hB1 ⊢
  have HG1 : Hid (∀ W, Calls Tryz.prog 74 #[.agg T1.arr, .agg P.left.arr] W fun e w' => e = .returned (.agg (T1.plus (glueT P.left)).arr) ∧ Below W.heap.size W w') := Lib.hid fun W => q9glues T1 P.left hPl (hB1.mono (by omega)) W
  have hB2 : TtB 8800000000000 (T1.plus (glueT P.left)) := (hB1.plus (glueT_good hPl)).mono (by omega)
  obtain ⟨T2, hT2⟩ : ∃ T2, T1.plus (glueT P.left) = T2 := ⟨_, rfl⟩
  rw [hT2] at HG1 hB2 ⊢
  have HG2 : Hid (∀ W, Calls Tryz.prog 74 #[.agg T2.arr, .agg P.right.arr] W fun e w' => e = .returned (.agg (T2.plus (glueT P.right)).arr) ∧ Below W.heap.size W w') := Lib.hid fun W => q9glues T2 P.right hPr hB2 W
  obtain ⟨T3, hT3⟩ : ∃ T3, T2.plus (glueT P.right) = T3 := ⟨_, rfl⟩
  rw [hT3] at HG2 ⊢
  obtain ⟨ff, hff⟩ : ∃ ff, fI f = ff := ⟨_, rfl⟩
  rw [hff] at HCt ⊢
  have HPg := Lib.hid (And.intro hPl hPr)
  clear hT1 hT2 hT3 hC hB1 hB2 hff hPl hPr hlen
  go_enter Tryz.func53, Tryz.ntmps53
  go_upto_region 1 with (fail)
  generalize (w.alloc (.cells P.arr 27)).alloc (.cells (Tt.mk 0 0 0 0 0 0 0 0 0).arr 62) = w1 at hb1 d0 d1 ⊢
  obtain ⟨X, hX⟩ : ∃ X, w.heap.size = X := ⟨_, rfl⟩
  have HK : Hid (∀ W, Below w1.heap.size w1 W → agg? W X 10 5 = some P.left.arr ∧ agg? W X 15 5 = some P.right.arr) := Lib.hid fun W hb => by
    have h1 : PAt W X P := by rw [← hX]; exact d0.still hb
    constructor
    · rw [agg?_blk' h1 10 5 (by rw [Pm.size_arr]; decide)]; simp [Pm.arr, Pm.cells, Gl.arr, Gl.cells]
    · rw [agg?_blk' h1 15 5 (by rw [Pm.size_arr]; decide)]; simp [Pm.arr, Pm.cells, Gl.arr, Gl.cells]
  have HKs : Hid (∀ W v, Below w1.heap.size w1 W → agg? (setAgg W (X + 1) 0 v) X 10 5 = some P.left.arr ∧ agg? (setAgg W (X + 1) 0 v) X 15 5 = some P.right.arr) := Lib.hid fun W v hb => by
    have h1 : PAt W X P := by rw [← hX]; exact d0.still hb
    have h2 : (setAgg W (X + 1) 0 v).heap[X]? = some (.cells P.arr 27 (0, 0)) := (heap_setCells_other _ _ (by omega) _ _ _).trans h1
    constructor
    · rw [agg?_blk' h2 10 5 (by rw [Pm.size_arr]; decide)]; simp [Pm.arr, Pm.cells, Gl.arr, Gl.cells]
    · rw [agg?_blk' h2 15 5 (by rw [Pm.size_arr]; decide)]; simp [Pm.arr, Pm.cells, Gl.arr, Gl.cells]
  have HR : Hid (∀ W, Below w1.heap.size w1 W → TAt W (X + 1) .zero) := Lib.hid fun W hb => by
    rw [← hX]
    exact (hb.block _ (Array.getElem?_eq_some_iff.1 d1).1).trans d1
  have HX := Lib.hid hX
  rw [hX]
  have Hb1 := Lib.hid hb1
  have hbd : Below w1.heap.size w1 w1.drew := (Below.refl _ _).drew
  have HKd := HK.out w1.drew hbd
  have hbdw := hb1.trans (hbd.mono hb1.size)
  clear hb1 d0 d1 hX
  go_region_held3 (fun W => agg? W X 10 5 = some P.left.arr ∧ agg? W X 15 5 = some P.right.arr)
    (first | (with_reducible exact HKd) | (with_reducible exact HKs.out _ _ hd8) | (with_reducible exact HK.out _ hd5) | (with_reducible exact HK.out _ hd6) | (with_reducible exact HK.out _ hd7) | (with_reducible exact HK.out _ hd8))
    ((first | (go_at_call 76; refine (HCt.out _ hbdw).mono ?_; rintro e w5 ⟨p5, g5, c5, rfl, hn5, hb5⟩; have hd5 := hbd.trans hb5)
            | (go_at_call 75; refine (HSm.out _ _ _ _ hn5).mono ?_; rintro e w6 ⟨rfl, hb6⟩; have hd6 := hd5.trans (hb6.mono hd5.size))
            | (go_at_call_has 74 (Value.agg T1.arr); refine (HG1.out _).mono ?_; rintro e w7 ⟨rfl, hb7⟩; have hd7 := hd6.trans (hb7.mono hd6.size))
            | (go_at_call_has 74 (Value.agg T2.arr); refine (HG2.out _).mono ?_; rintro e w8 ⟨rfl, hb8⟩; have hd8 := hd7.trans (hb8.mono hd7.size); have HR8 := Lib.hid (HR.out _ hd8); have tR := HR8.out.there)))
  go_wp2_with fail
  refine ret_tt rfl (X + 1) 0 T3 rfl (HR8.out.store (U := T3)).agg rfl ⟨rfl, ?_⟩
  rw [← HX.out]
  exact Below.setAgg (Hb1.out.trans (hd8.mono Hb1.out.size)) (by omega) _ _
end Go.Proofs.YtiijpbfkchokaaaGreat
namespace Go.Proofs.YtiijpbfkchokaaaGreat
open Go.ChangeShapes Go.WideShapes Go.ChangeAt Go.RowKit
attribute [local go_sem ↓] Go.wp_at_zero Go.wp_at_succ
theorem ret_tt2 {fn : Func} {R : Ending → World → Prop} {a : Act} {w : World} {p q : Tmp} (h : fn.results = #[.cell p 62, .tmp q]) (b o : Nat) (n : Tt) (v : Value) (hp : a.tmps.getD p undef = .pointer (some ⟨b, o, none⟩)) (hv : a.tmps.getD q undef = v) (hc : agg? w b o 9 = some n.arr) (hdf : a.defers = []) (hR : R (.returned (.tuple #[.agg n.arr, v])) w) : bodyPost Tryz.prog fn R .ret a w := by
  refine ⟨hdf, .tuple #[.agg n.arr, v], ?_, hR⟩
  have hl : (loadVar 62 ⟨b, o, none⟩).run Tryz.prog w = .ok (.agg n.arr) w := by
    have := run_loadAt_row (P := Tryz.prog) 62 9 _ u_tt rfl i_tt b o w
    rw [hc, ldRow_some] at this
    simpa [Instr.loadAt, Instr.sureAddr] using this
  have hp' : a.tmps[p]?.getD undef = .pointer (some ⟨b, o, none⟩) := by simpa using hp
  have hv' : a.tmps[q]?.getD undef = v := by simpa using hv
  simp [results, h, hp', hv', asAddr, hl]
/-- may a line stand between two places? -/
def linC (A : List Int) (from_ to_ : Int) : Bool := (decide (from_ = -1) || A.contains from_) && (A.contains to_ && decide (from_ < to_))
def linR (P : Pm) (S : List Sh2) (L : List Nd) (s : List Nat) (from_ to_ : Int) : Tt × Int :=
  if opE P S L s = 0 then (if linC (atsI (brkP L P s)) from_ to_ then (lineT L P s (if from_ = -1 then none else some from_.toNat) to_.toNat, 0) else (.zero, 3)) else (.zero, opE P S L s)
theorem linC_ok {P : Pm} {L : List Nd} {s : List Nat} (hs : Items L 0 s) {from_ to_ : Int} (h : linC (atsI (brkP L P s)) from_ to_ = true) :
    ∃ f q, from_ = fI f ∧ to_ = ((q : Nat) : Int) ∧ (if from_ = -1 then none else some from_.toNat) = f ∧ to_.toNat = q ∧ (∀ x, f = some x → x ∈ s ∧ x < q) ∧ q ∈ s ++ [L.length] := by
  unfold linC at h
  simp only [Bool.and_eq_true, Bool.or_eq_true, decide_eq_true_eq, List.contains_iff_mem] at h
  obtain ⟨h1, h2, h3⟩ := h
  have key : ∀ x, x ∈ atsI (brkP L P s) → ∃ y : Nat, x = (y : Int) ∧ y ∈ s ++ [L.length] := fun x hx => by
    unfold atsI at hx
    obtain ⟨y, hy, rfl⟩ := List.mem_map.1 hx
    exact ⟨y.1, rfl, (brkP_mem hy).1⟩
  obtain ⟨q, rfl, hq⟩ := key _ h2
  have hql : q ≤ L.length := by
    rcases List.mem_append.1 hq with h | h
    · exact Nat.le_of_lt (hs.lt q h).2
    · rw [List.mem_singleton.1 h]; exact Nat.le_refl _
  by_cases hf : from_ = -1
  · subst hf
    exact ⟨none, q, rfl, rfl, by rw [if_pos rfl], by simp, fun x h => (by cases h), hq⟩
  · rcases h1 with h1 | h1
    · exact absurd h1 hf
    · obtain ⟨x, rfl, hx⟩ := key _ h1
      refine ⟨some x, q, rfl, rfl, by rw [if_neg hf]; simp, by simp, fun y hy => ?_, hq⟩
      cases hy
      refine ⟨?_, by omega⟩
      rcases List.mem_append.1 hx with h | h
      · exact h
      · have := List.mem_singleton.1 h
        omega
structure LinePost (w : World) (r : Tt × Int) (e : Ending) (w' : World) : Prop where
  out : e = .returned (.tuple #[.agg r.1.arr, .int .i64 r.2])
  below : Below w.heap.size w w'
theorem opE_check {P : Pm} {S : List Sh2} {L : List Nd} {s : List Nat} (h : opE P S L s = 0) : pmC P S = 0 ∧ checkC L = 0 := by
  unfold opE at h
  split at h
  · rename_i h0
    refine ⟨h0, ?_⟩
    unfold paC at h
    split at h
    · rename_i h1; exact h1
    · rename_i h1; exact absurd h h1
  · rename_i h1; exact absurd h h1
theorem pmC_firm {P : Pm} {S : List Sh2} (h : pmC P S = 0) : P.left.good = true ∧ P.right.good = true := by
  unfold pmC at h
  split at h
  · split at h
    · rename_i h2
      unfold firmG at h2
      simp only [Bool.and_eq_true] at h2
      exact ⟨h2.1.1, h2.2.1⟩
    · exact absurd h (by decide)
  · exact absurd h (by decide)
/-- parameters' block, and a block of totals behind it -/
theorem line_blocks (w : World) (P : Pm) : ∃ X, w.heap.size = X ∧ Below w.heap.size w ((w.alloc (.cells P.arr 27)).alloc (.cells (Tt.mk 0 0 0 0 0 0 0 0 0).arr 62)) ∧ PAt ((w.alloc (.cells P.arr 27)).alloc (.cells (Tt.mk 0 0 0 0 0 0 0 0 0).arr 62)) X P ∧ TAt ((w.alloc (.cells P.arr 27)).alloc (.cells (Tt.mk 0 0 0 0 0 0 0 0 0).arr 62)) (X + 1) .zero :=
  ⟨_, rfl, ((Below.refl _ _).alloc (Nat.le_refl _) _).alloc (by simp) _, (Below.heap_alloc _ _ _ (by simp)).trans (heap_alloc_new w _), by
    have := heap_alloc_new (w.alloc (.cells P.arr 27)) (.cells (Tt.mk 0 0 0 0 0 0 0 0 0).arr 62)
    rwa [World.size_alloc] at this⟩
set_option maxRecDepth 100000 in
set_option maxHeartbeats 8000000 in
theorem q9line (P : Pm) (g off2 : Nat) (S : List Sh2) (p0 : Option Addr) (b off cap : Nat) (L : List Nd) (s : List Nat) (hs : checkC L = 0 → Items L 0 s) (from_ to_ : Int) (w : World) (hS : ShIn w P g off2 S) (hN : NIn w p0 b off cap L) :
    Calls Tryz.prog 25 #[.slice p0 L.length cap, .agg P.arr, .int .i64 from_, .int .i64 to_] w (LinePost w (linR P S L s from_ to_)) := by
  obtain ⟨X, hX, hb0, d0, d1⟩ := line_blocks w P
  have HBo := Lib.hid (q9both P g off2 S p0 cap L s _ (hS.below hb0) fun W hb => q9paragraph p0 b off cap L s hs W ((hN.below hb0).below hb))
  have HPl : Hid (opE P S L s = 0 → ∀ W, Below w.heap.size w W → Calls Tryz.prog 41 #[.slice p0 L.length cap, .agg P.arr] W (PlacesPost W (brkP L P s))) := Lib.hid fun h W hb => q9places P p0 b off cap L (opE_check h).2 s (hs (opE_check h).2) W (hN.below hb)
  have HSu : Hid (opE P S L s = 0 → linC (atsI (brkP L P s)) from_ to_ = true → ∀ W, Below w.heap.size w W → Calls Tryz.prog 53 #[.slice p0 L.length cap, .agg P.arr, .int .i64 from_, .int .i64 to_] W fun e w' => e = .returned (.agg (lineT L P s (if from_ = -1 then none else some from_.toNat) to_.toNat).arr) ∧ Below W.heap.size W w') := Lib.hid fun h hl W hb => by
    obtain ⟨f, q, e1, e2, e3, e4, h5, h6⟩ := linC_ok (hs (opE_check h).2) hl
    rw [e3, e4, e1, e2]
    exact q9sum P p0 b off cap L (opE_check h).2 s (hs (opE_check h).2) (pmC_firm (opE_check h).1).1 (pmC_firm (opE_check h).1).2 f q h5 (by rcases List.mem_append.1 h6 with h | h; exact .inl h; exact .inr (List.mem_singleton.1 h)) W (hN.below hb)
  have hBl : opE P S L s = 0 → (brkP L P s).length ≤ 3000 := fun h => by
    have h1 := brkP_len (L := L) (P := P) (s := s)
    have h2 := (hs (opE_check h).2).len
    have h3 := (checkC_zero (opE_check h).2).1
    omega
  obtain ⟨r, hr⟩ : ∃ r, linR P S L s from_ to_ = r := ⟨_, rfl⟩
  have HR := Lib.hid hr
  rw [hr]
  obtain ⟨E, hE⟩ : ∃ E, opE P S L s = E := ⟨_, rfl⟩
  have HE := Lib.hid hE
  rw [hE] at HBo HPl HSu hBl
  clear hs hS hN hE hr
  go_enter Tryz.func25, Tryz.ntmps25
  go_upto_region 1 with (fail)
  generalize (w.alloc (.cells P.arr 27)).alloc (.cells (Tt.mk 0 0 0 0 0 0 0 0 0).arr 62) = w1 at hb0 d0 d1 HBo ⊢
  have HK : Hid (∀ W, Below w1.heap.size w1 W → agg? W X 0 24 = some P.arr ∧ TAt W (X + 1) .zero) := Lib.hid fun W hb => by
    refine ⟨?_, (hb.block _ (Array.getElem?_eq_some_iff.1 d1).1).trans d1⟩
    rw [agg?_blk' (d0.still hb) 0 24 (by rw [Pm.size_arr]; decide)]; simp [Pm.arr, Pm.cells]
  try rw [hX]
  have HX := Lib.hid hX
  have Hb0 := Lib.hid hb0
  have a0 := (HK.out w1 (Below.refl _ _)).1
  clear hb0 d0 d1 hX
  by_cases h0 : E = 0
  · subst h0
    have hbl := hBl (by first | rfl | trivial)
    go_upto_region 4 with (go_at_call 40; refine HBo.out.mono ?_; clear HBo; rintro e w2 ⟨rfl, hb2⟩)
    have a2 := (HK.out w2 hb2).1
    have HP2 := Lib.hid (HPl.out (by trivial) w2 (Hb0.out.trans (hb2.mono Hb0.out.size)))
    have Hb2 := Lib.hid hb2
    clear a0 HPl hb2 hBl
    go_upto_region 5 with (go_at_call 41; refine HP2.out.mono ?_; clear HP2; rintro e w3 hp; obtain ⟨v, u, rfl, hv, hu, hne⟩ := hp.out; have hb3 := hp.below; clear hp hu hne)
    obtain ⟨pv, gv, cv, ev, lv, zv⟩ := zin_of hv
    rw [show (atsI (brkP L P s)).length = (brkP L P s).length by simp [atsI]] at ev
    subst ev
    have hb13 := Hb2.out.trans (hb3.mono Hb2.out.size)
    obtain ⟨A, hA⟩ : ∃ A, atsI (brkP L P s) = A := ⟨_, rfl⟩
    have hAl : A.length = (brkP L P s).length := by rw [← hA]; simp [atsI]
    have HHas : Hid (∀ (x : Int), Calls Tryz.prog 52 #[.slice pv (brkP L P s).length cv, .int .i64 x] w3 fun e w' => e = .returned (.bool (decide (x ∈ A))) ∧ w3 = w') := Lib.hid fun x => by
      have := q9has pv gv cv (atsI (brkP L P s)) x w3 zv (by simp [atsI]; omega)
      rwa [hA, hAl] at this
    rw [hA] at HSu
    have HA := Lib.hid hA
    have Hb3 := Lib.hid hb13
    clear hv lv zv hb3 a2 hA hAl hb13
    obtain ⟨nB, hnB⟩ : ∃ nB, (brkP L P s).length = nB := ⟨_, rfl⟩
    rw [hnB] at HHas hbl
    simp only [hnB]
    clear hnB
    obtain ⟨c0, hc0⟩ : ∃ c0, linC A from_ to_ = c0 := ⟨_, rfl⟩
    have Hc0 := Lib.hid hc0
    rw [hc0] at HSu
    clear hc0
    go_cut [44] from 26 to 44 (fun s44 wx => s44 = .bool (!c0) ∧ wx = w3)
    case first =>
      have hcc := Hc0.out
      unfold linC at hcc
      have eA : ∀ x, A.contains x = decide (x ∈ A) := fun x => by simp
      rw [eA, eA] at hcc
      have Hc1 := Lib.hid hcc
      clear hcc eA Hc0
      by_cases h1 : from_ = -1
      · subst h1
        have HT := Lib.hid (HHas.out to_)
        obtain ⟨bt, hbt⟩ : ∃ bt, decide (to_ ∈ A) = bt := ⟨_, rfl⟩
        have hcc := Hc1.out
        rw [hbt] at HT hcc
        clear hbt
        cases bt with
        | false =>
          obtain rfl : false = c0 := by simpa using hcc
          go_wp2_with (go_at_call 52; refine HT.out.mono ?_; rintro e w9 ⟨rfl, rfl⟩)
          go_meet
          exact ⟨rfl, rfl⟩
        | true =>
          by_cases h2 : -1 < to_
          · obtain rfl : true = c0 := by simpa [h2] using hcc
            clear hcc
            go_wp2_with (go_at_call 52; refine HT.out.mono ?_; rintro e w9 ⟨rfl, rfl⟩)
            go_meet
            exact ⟨by rw [decide_eq_false (show ¬ to_ ≤ -1 by omega)]; rfl, rfl⟩
          · have h2' : to_ ≤ -1 := by omega
            obtain rfl : false = c0 := by simpa [h2] using hcc
            clear hcc
            go_wp2_with (go_at_call 52; refine HT.out.mono ?_; rintro e w9 ⟨rfl, rfl⟩)
            go_meet
            exact ⟨rfl, rfl⟩
      · have h1' : (from_ != -1) = true := by simpa using h1
        have h1d : decide (from_ = -1) = false := by simpa using h1
        have HF := Lib.hid (HHas.out from_)
        have HT := Lib.hid (HHas.out to_)
        obtain ⟨bf, hbf⟩ : ∃ bf, decide (from_ ∈ A) = bf := ⟨_, rfl⟩
        obtain ⟨bt, hbt⟩ : ∃ bt, decide (to_ ∈ A) = bt := ⟨_, rfl⟩
        have hcc := Hc1.out
        rw [hbf] at HF
        rw [hbt] at HT
        rw [hbf, hbt, h1d] at hcc
        clear hbf hbt h1 h1d
        cases bf with
        | false =>
          obtain rfl : false = c0 := by simpa using hcc
          go_wp2_with (go_at_call 52; refine HF.out.mono ?_; rintro e w9 ⟨rfl, rfl⟩)
          go_meet
          exact ⟨rfl, rfl⟩
        | true =>
          cases bt with
          | false =>
            obtain rfl : false = c0 := by simpa using hcc
            go_wp2_with (first | (go_at_call_has 52 (Value.int IntKind.i64 from_); refine HF.out.mono ?_; rintro e w9 ⟨rfl, rfl⟩) | (go_at_call_has 52 (Value.int IntKind.i64 to_); refine HT.out.mono ?_; rintro e w9 ⟨rfl, rfl⟩))
            go_meet
            exact ⟨rfl, rfl⟩
          | true =>
            by_cases h2 : from_ < to_
            · obtain rfl : true = c0 := by simpa [h2] using hcc
              clear hcc
              go_wp2_with (first | (go_at_call_has 52 (Value.int IntKind.i64 from_); refine HF.out.mono ?_; rintro e w9 ⟨rfl, rfl⟩) | (go_at_call_has 52 (Value.int IntKind.i64 to_); refine HT.out.mono ?_; rintro e w9 ⟨rfl, rfl⟩))
              go_meet
              exact ⟨by rw [decide_eq_false (show ¬ to_ ≤ from_ by omega)]; rfl, rfl⟩
            · have h2' : to_ ≤ from_ := by omega
              obtain rfl : false = c0 := by simpa [h2] using hcc
              clear hcc
              go_wp2_with (first | (go_at_call_has 52 (Value.int IntKind.i64 from_); refine HF.out.mono ?_; rintro e w9 ⟨rfl, rfl⟩) | (go_at_call_has 52 (Value.int IntKind.i64 to_); refine HT.out.mono ?_; rintro e w9 ⟨rfl, rfl⟩))
              go_meet
              exact ⟨rfl, rfl⟩
    case rest =>
      obtain ⟨rfl, rfl⟩ := hcut
      have hk := HK.out _ Hb3.out
      cases c0 with
      | false =>
        have tR := hk.2.there
        have HT2 := Lib.hid hk.2
        have hre : r = (.zero, 3) := by rw [← HR.out]; unfold linR; rw [if_pos HE.out, HA.out, Hc0.out]; rfl
        have HRe := Lib.hid hre
        clear hk HR hre
        go_wp2_with fail
        refine ret_tt2 rfl (X + 1) 0 .zero (.int .i64 3) rfl rfl (HT2.out.store (U := .zero)).agg rfl ⟨by rw [HRe.out], ?_⟩
        rw [← HX.out]
        exact Below.setAgg (Hb0.out.trans (Hb3.out.mono Hb0.out.size)) (by omega) _ _
      | true =>
        have a3 := hk.1
        have HS3 := Lib.hid (HSu.out (by first | rfl | trivial) (by first | rfl | trivial) _ (Hb0.out.trans (Hb3.out.mono Hb0.out.size)))
        have hre : r = (lineT L P s (if from_ = -1 then none else some from_.toNat) to_.toNat, 0) := by rw [← HR.out]; unfold linR; rw [if_pos HE.out, HA.out, Hc0.out]; rfl
        obtain ⟨T, hT⟩ : ∃ T, lineT L P s (if from_ = -1 then none else some from_.toNat) to_.toNat = T := ⟨_, rfl⟩
        rw [hT] at HS3 hre
        have HRe := Lib.hid hre
        clear hk HR HSu hT hre
        go_wp2_with (go_at_call 53; refine HS3.out.mono ?_; clear HS3; rintro e w4 ⟨rfl, hb4⟩; have hb14 := Hb3.out.trans (hb4.mono Hb3.out.size); have HT4 := Lib.hid (HK.out _ hb14).2; have tR := HT4.out.there; clear a3)
        refine ret_tt2 rfl (X + 1) 0 T (.int .i64 0) rfl rfl (HT4.out.store (U := T)).agg rfl ⟨by rw [HRe.out], ?_⟩
        rw [← HX.out]
        exact Below.setAgg (Hb0.out.trans (hb14.mono Hb0.out.size)) (by omega) _ _
  · have hne : (E != 0) = true := by simpa using h0
    have hre : r = (.zero, E) := by rw [← HR.out]; unfold linR; rw [if_neg (by rw [HE.out]; exact h0), HE.out]
    have HRe := Lib.hid hre
    clear hre HR HPl HSu hBl
    go_wp2_with (go_at_call 40; refine HBo.out.mono ?_; clear HBo; rintro e w2 ⟨rfl, hb2⟩; have HT4 := Lib.hid (HK.out _ hb2).2; have tR := HT4.out.there; clear a0)
    refine ret_tt2 rfl (X + 1) 0 .zero (.int .i64 E) rfl rfl (HT4.out.store (U := .zero)).agg rfl ⟨by rw [HRe.out], ?_⟩
    rw [← HX.out]
    exact Below.setAgg (Hb0.out.trans (hb2.mono Hb0.out.size)) (by omega) _ _
end Go.Proofs.YtiijpbfkchokaaaGreat
namespace Go.Proofs.YtiijpbfkchokaaaGreat
open Go.ChangeShapes Go.WideShapes Go.ChangeAt Go.RowKit
attribute [local go_sem ↓] Go.wp_at_zero Go.wp_at_succ
set_option maxRecDepth 100000 in
set_option maxHeartbeats 8000000 in
theorem vLine (P : Pm) (g off2 : Nat) (S : List Sh2) (L : List Nd) (b off cap : Nat) (p0 : Option Addr) (s : List Nat) (hs : checkC L = 0 → Items L 0 s) (from_ to_ : Int) (w : World) (hS : ShIn w P g off2 S) (hN : NIn w p0 b off cap L) :
    Calls Tryz.prog 24 #[.slice p0 L.length cap, .agg P.arr, .int .i64 from_, .int .i64 to_] w (LinePost w (linR P S L s from_ to_)) := by
  obtain ⟨X0, hX, hb0, d0, d1⟩ := line_blocks w P
  have HO := Lib.hid (vopen P g off2 S L b off cap p0 s hs _ (hS.below hb0) (hN.below hb0))
  have hBl : opE P S L s = 0 → (brkP L P s).length ≤ 3000 := fun h => by
    have h1 := brkP_len (L := L) (P := P) (s := s)
    have h2 := (hs (opE_check h).2).len
    have h3 := (checkC_zero (opE_check h).2).1
    omega
  have HSu : Hid (opE P S L s = 0 → linC (atsI (brkP L P s)) from_ to_ = true → ∀ W X mb B vs, ParaL W X mb B P vs L b off cap p0 (s ++ [L.length]) (sumsP L s) (atsI (brkP L P s)) (pensI (brkP L P s)) → Calls Tryz.prog 51 #[.pointer (some ⟨X, 0, none⟩), .int .i64 from_, .int .i64 to_] W fun e w' => e = .returned (.agg (lineT L P s (if from_ = -1 then none else some from_.toNat) to_.toNat).arr) ∧ Below W.heap.size W w') := Lib.hid fun h hl W X mb B vs hp => by
    obtain ⟨f, q, e1, e2, e3, e4, h5, h6⟩ := linC_ok (hs (opE_check h).2) hl
    rw [e3, e4, e1, e2]
    exact vline X mb B P vs L b off cap p0 s _ _ (opE_check h).2 (hs (opE_check h).2) (pmC_firm (opE_check h).1).1 (pmC_firm (opE_check h).1).2 f q h5 h6 W hp
  obtain ⟨r, hr⟩ : ∃ r, linR P S L s from_ to_ = r := ⟨_, rfl⟩
  have HR := Lib.hid hr
  rw [hr]
  obtain ⟨E, hE⟩ : ∃ E, opE P S L s = E := ⟨_, rfl⟩
  have HE := Lib.hid hE
  rw [hE] at HO HSu hBl
  clear hs hS hN hE hr
  go_enter Tryz.func24, Tryz.ntmps24
  go_upto_region 1 with (fail)
  generalize (w.alloc (.cells P.arr 27)).alloc (.cells (Tt.mk 0 0 0 0 0 0 0 0 0).arr 62) = w1 at hb0 d0 d1 HO ⊢
  have HK : Hid (∀ W, Below w1.heap.size w1 W → TAt W (X0 + 1) .zero) := Lib.hid fun W hb => (hb.block _ (Array.getElem?_eq_some_iff.1 d1).1).trans d1
  have a0 : agg? w1 X0 0 24 = some P.arr := by rw [agg?_blk' d0 0 24 (by rw [Pm.size_arr]; decide)]; simp [Pm.arr, Pm.cells]
  try rw [hX]
  have HX := Lib.hid hX
  have Hb0 := Lib.hid hb0
  clear hb0 d0 d1 hX
  by_cases h0 : E = 0
  · subst h0
    have hbl := hBl (by first | rfl | trivial)
    go_upto_region 4 with (go_at_call 38; refine HO.out.mono ?_; clear HO; rintro e w2 ho; obtain ⟨X, mb, B, vs, rfl, hL, hmb⟩ := ho.good (by first | rfl | trivial); have hb2 := ho.below; clear ho)
    have Hb2 := Lib.hid hb2
    have HS2 := Lib.hid (fun h => HSu.out (by first | rfl | trivial) h w2 X mb B vs hL)
    have HLe : Hid (∀ x, Calls Tryz.prog 50 #[.pointer (some ⟨X, 0, none⟩), .int .i64 x] w2 fun e w' => e = .returned (.bool ((atsI (brkP L P s)).contains x)) ∧ w2 = w') := Lib.hid fun x => vlegal9 X mb B P vs L b off cap p0 _ _ _ _ (by simp [atsI]; omega) x w2 hL
    obtain ⟨A, hA⟩ : ∃ A, atsI (brkP L P s) = A := ⟨_, rfl⟩
    rw [hA] at HS2 HLe
    have HA := Lib.hid hA
    clear hb2 hL hA a0 HSu hBl hmb hbl
    obtain ⟨c0, hc0⟩ : ∃ c0, linC A from_ to_ = c0 := ⟨_, rfl⟩
    have Hc0 := Lib.hid hc0
    rw [hc0] at HS2
    clear hc0
    go_cut [40] from 22 to 40 (fun s40 wx => s40 = .bool (!c0) ∧ wx = w2)
    case first =>
      have Hc1 := Lib.hid (show ((decide (from_ = -1) || A.contains from_) && (A.contains to_ && decide (from_ < to_))) = c0 from Hc0.out)
      clear Hc0
      by_cases h1 : from_ = -1
      · subst h1
        have HT := Lib.hid (HLe.out to_)
        have hcc := Hc1.out
        obtain ⟨bt, hbt⟩ : ∃ bt, A.contains to_ = bt := ⟨_, rfl⟩
        rw [hbt] at HT hcc
        clear hbt
        cases bt with
        | false =>
          obtain rfl : false = c0 := by simpa using hcc
          go_wp2_with (go_at_call 50; refine HT.out.mono ?_; rintro e w9 ⟨rfl, rfl⟩)
          go_meet
          exact ⟨rfl, rfl⟩
        | true =>
          by_cases h2 : -1 < to_
          · obtain rfl : true = c0 := by simpa [h2] using hcc
            clear hcc
            go_wp2_with (go_at_call 50; refine HT.out.mono ?_; rintro e w9 ⟨rfl, rfl⟩)
            go_meet
            exact ⟨by rw [decide_eq_false (show ¬ to_ ≤ -1 by omega)]; rfl, rfl⟩
          · have h2' : to_ ≤ -1 := by omega
            obtain rfl : false = c0 := by simpa [h2] using hcc
            clear hcc
            go_wp2_with (go_at_call 50; refine HT.out.mono ?_; rintro e w9 ⟨rfl, rfl⟩)
            go_meet
            exact ⟨rfl, rfl⟩
      · have h1' : (from_ != -1) = true := by simpa using h1
        have h1d : decide (from_ = -1) = false := by simpa using h1
        have HF := Lib.hid (HLe.out from_)
        have HT := Lib.hid (HLe.out to_)
        have hcc := Hc1.out
        obtain ⟨bf, hbf⟩ : ∃ bf, A.contains from_ = bf := ⟨_, rfl⟩
        obtain ⟨bt, hbt⟩ : ∃ bt, A.contains to_ = bt := ⟨_, rfl⟩
        rw [hbf] at HF
        rw [hbt] at HT
        rw [hbf, hbt, h1d] at hcc
        clear hbf hbt h1 h1d
        cases bf with
        | false =>
          obtain rfl : false = c0 := by simpa using hcc
          go_wp2_with (go_at_call 50; refine HF.out.mono ?_; rintro e w9 ⟨rfl, rfl⟩)
          go_meet
          exact ⟨rfl, rfl⟩
        | true =>
          cases bt with
          | false =>
            obtain rfl : false = c0 := by simpa using hcc
            go_wp2_with (first | (go_at_call_has 50 (Value.int IntKind.i64 from_); refine HF.out.mono ?_; rintro e w9 ⟨rfl, rfl⟩) | (go_at_call_has 50 (Value.int IntKind.i64 to_); refine HT.out.mono ?_; rintro e w9 ⟨rfl, rfl⟩))
            go_meet
            exact ⟨rfl, rfl⟩
          | true =>
            by_cases h2 : from_ < to_
            · obtain rfl : true = c0 := by simpa [h2] using hcc
              clear hcc
              go_wp2_with (first | (go_at_call_has 50 (Value.int IntKind.i64 from_); refine HF.out.mono ?_; rintro e w9 ⟨rfl, rfl⟩) | (go_at_call_has 50 (Value.int IntKind.i64 to_); refine HT.out.mono ?_; rintro e w9 ⟨rfl, rfl⟩))
              go_meet
              exact ⟨by rw [decide_eq_false (show ¬ to_ ≤ from_ by omega)]; rfl, rfl⟩
            · have h2' : to_ ≤ from_ := by omega
              obtain rfl : false = c0 := by simpa [h2] using hcc
              clear hcc
              go_wp2_with (first | (go_at_call_has 50 (Value.int IntKind.i64 from_); refine HF.out.mono ?_; rintro e w9 ⟨rfl, rfl⟩) | (go_at_call_has 50 (Value.int IntKind.i64 to_); refine HT.out.mono ?_; rintro e w9 ⟨rfl, rfl⟩))
              go_meet
              exact ⟨rfl, rfl⟩
    case rest =>
      obtain ⟨rfl, rfl⟩ := hcut
      have hk := HK.out _ Hb2.out
      cases c0 with
      | false =>
        have tR := hk.there
        have HT2 := Lib.hid hk
        have hre : r = (.zero, 3) := by rw [← HR.out]; unfold linR; rw [if_pos HE.out, HA.out, Hc0.out]; rfl
        have HRe := Lib.hid hre
        clear hk HR hre
        go_wp2_with fail
        refine ret_tt2 rfl (X0 + 1) 0 .zero (.int .i64 3) rfl rfl (HT2.out.store (U := .zero)).agg rfl ⟨by rw [HRe.out], ?_⟩
        rw [← HX.out]
        exact Below.setAgg (Hb0.out.trans (Hb2.out.mono Hb0.out.size)) (by omega) _ _
      | true =>
        have HS3 := Lib.hid (HS2.out (by first | rfl | trivial))
        have hre : r = (lineT L P s (if from_ = -1 then none else some from_.toNat) to_.toNat, 0) := by rw [← HR.out]; unfold linR; rw [if_pos HE.out, HA.out, Hc0.out]; rfl
        obtain ⟨T, hT⟩ : ∃ T, lineT L P s (if from_ = -1 then none else some from_.toNat) to_.toNat = T := ⟨_, rfl⟩
        rw [hT] at HS3 hre
        have HRe := Lib.hid hre
        clear hk HR HS2 hT hre
        go_wp2_with (go_at_call 51; refine HS3.out.mono ?_; clear HS3; rintro e w4 ⟨rfl, hb4⟩; have hb14 := Hb2.out.trans (hb4.mono Hb2.out.size); have HT4 := Lib.hid (HK.out _ hb14); have tR := HT4.out.there)
        refine ret_tt2 rfl (X0 + 1) 0 T (.int .i64 0) rfl rfl (HT4.out.store (U := T)).agg rfl ⟨by rw [HRe.out], ?_⟩
        rw [← HX.out]
        exact Below.setAgg (Hb0.out.trans (hb14.mono Hb0.out.size)) (by omega) _ _
  · have hne : (E != 0) = true := by simpa using h0
    have hre : r = (.zero, E) := by rw [← HR.out]; unfold linR; rw [if_neg (by rw [HE.out]; exact h0), HE.out]
    have HRe := Lib.hid hre
    clear hre HR HSu hBl
    go_wp2_with (go_at_call 38; refine HO.out.mono ?_; clear HO; rintro e w2 ho; obtain rfl := ho.bad h0; have hb2 := ho.below; clear ho; have HT4 := Lib.hid (HK.out _ hb2); have tR := HT4.out.there; clear a0)
    refine ret_tt2 rfl (X0 + 1) 0 .zero (.int .i64 E) rfl rfl (HT4.out.store (U := .zero)).agg rfl ⟨by rw [HRe.out], ?_⟩
    rw [← HX.out]
    exact Below.setAgg (Hb0.out.trans (hb2.mono Hb0.out.size)) (by omega) _ _
end Go.Proofs.YtiijpbfkchokaaaGreat
