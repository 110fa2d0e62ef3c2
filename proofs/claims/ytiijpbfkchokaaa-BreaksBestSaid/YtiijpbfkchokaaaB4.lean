/-
  Totals together: the program's.
-/
import Derived.Test.YtiijpbfkchokaaaB3
namespace Go.Proofs.Ytiijpbfkchokaaa
open Go.ChangeShapes Go.WideShapes Go.ChangeAt Go.RowKit
attribute [local go_sem ↓] Go.wp_at_zero Go.wp_at_succ
def Tt.addS (a b : Tt) (g : Int) : Tt := ⟨a.nat + g * b.nat, a.s0 + g * b.s0, a.s1 + g * b.s1, a.s2 + g * b.s2, a.s3 + g * b.s3, a.h0 + g * b.h0, a.h1 + g * b.h1, a.h2 + g * b.h2, a.h3 + g * b.h3⟩
theorem addS_one (a b : Tt) : a.addS b 1 = a.plus b := by apply Tt.ext_all <;> simp [Tt.addS, Tt.plus]
theorem addS_neg (a b : Tt) : a.addS b (-1) = a.minus b := by apply Tt.ext_all <;> simp [Tt.addS, Tt.minus] <;> omega
theorem TtB.st {K : Int} {T : Tt} (h : TtB K T) (j : Nat) : -K ≤ T.st j ∧ T.st j ≤ K := by
  rcases j with _ | _ | _ | j
  · exact h.s0
  · exact h.s1
  · exact h.s2
  · exact h.s3
theorem TtB.sh {K : Int} {T : Tt} (h : TtB K T) (j : Nat) : -K ≤ T.sh j ∧ T.sh j ≤ K := by
  rcases j with _ | _ | _ | j
  · exact h.h0
  · exact h.h1
  · exact h.h2
  · exact h.h3
/-- between two rounds of add -/
structure AddI (w : World) (Z : Nat) (a b : Tt) (g : Int) (o : Nat) (W : World) : Prop where
  ex : ∃ T : Tt, TAt W Z T ∧ T.nat = a.nat + g * b.nat ∧ (∀ j, j < 4 → T.st j = if j < o then a.st j + g * b.st j else a.st j) ∧ (∀ j, j < 4 → T.sh j = if j < o then a.sh j + g * b.sh j else a.sh j)
  b : TAt W (Z + 1) b
  r : TAt W (Z + 2) .zero
  below : Below w.heap.size w W
theorem AddI.done {w : World} {Z : Nat} {a b : Tt} {g : Int} {W : World} (h : AddI w Z a b g 4 W) : TAt W Z (a.addS b g) := by
  obtain ⟨T, hT, hn, hs, hh⟩ := h.ex
  have e : T = a.addS b g := by
    have s0 := hs 0 (by decide)
    have s1 := hs 1 (by decide)
    have s2 := hs 2 (by decide)
    have s3 := hs 3 (by decide)
    have h0 := hh 0 (by decide)
    have h1 := hh 1 (by decide)
    have h2 := hh 2 (by decide)
    have h3 := hh 3 (by decide)
    exact Tt.ext_all hn s0 s1 s2 s3 h0 h1 h2 h3
  rwa [e] at hT
set_option maxRecDepth 100000 in
set_option maxHeartbeats 8000000 in
theorem vadd (a b : Tt) (g : Int) (hg : g = 1 ∨ g = -1) (ha : TtB 2305843009213693952 a) (hb : TtB 2305843009213693952 b) (w : World) :
    Calls Try.prog 31 #[.agg a.arr, .agg b.arr, .int .i64 g] w fun e w' => e = .returned (.agg (a.addS b g).arr) ∧ Below w.heap.size w w' := by
  have Hg := Lib.hid hg
  have HA := Lib.hid ha
  have HB := Lib.hid hb
  have hmul : Hid (∀ x, -2305843009213693952 ≤ x ∧ x ≤ 2305843009213693952 → -2305843009213693952 ≤ g * x ∧ g * x ≤ 2305843009213693952) := Lib.hid fun x hx => by
    rcases hg with rfl | rfl <;> omega
  have d0 : TAt (((w.alloc (.cells a.arr 89)).alloc (.cells b.arr 89)).alloc (.cells (Tt.mk 0 0 0 0 0 0 0 0 0).arr 89)) w.heap.size a := (Below.heap_alloc _ _ _ (by simp; omega)).trans ((Below.heap_alloc _ _ _ (by simp)).trans (heap_alloc_new w _))
  have d1 : TAt (((w.alloc (.cells a.arr 89)).alloc (.cells b.arr 89)).alloc (.cells (Tt.mk 0 0 0 0 0 0 0 0 0).arr 89)) (w.heap.size + 1) b := (Below.heap_alloc _ _ _ (by simp)).trans (by have := heap_alloc_new (w.alloc (.cells a.arr 89)) (.cells b.arr 89); simpa using this)
  have d2 : TAt (((w.alloc (.cells a.arr 89)).alloc (.cells b.arr 89)).alloc (.cells (Tt.mk 0 0 0 0 0 0 0 0 0).arr 89)) (w.heap.size + 2) .zero := by have := heap_alloc_new ((w.alloc (.cells a.arr 89)).alloc (.cells b.arr 89)) (.cells (Tt.mk 0 0 0 0 0 0 0 0 0).arr 89); rw [World.size_alloc, World.size_alloc] at this; exact this
  have hb0 : Below w.heap.size w (((w.alloc (.cells a.arr 89)).alloc (.cells b.arr 89)).alloc (.cells (Tt.mk 0 0 0 0 0 0 0 0 0).arr 89)) := (((Below.refl _ _).alloc (Nat.le_refl _) _).alloc (by simp) _).alloc (by simp; omega) _
  clear hg ha hb
  go_enter Try.func31, Try.ntmps31
  go_upto_region 1 with (fail)
  obtain ⟨Z, hZ⟩ : ∃ Z, w.heap.size = Z := ⟨_, rfl⟩
  generalize ((w.alloc (.cells a.arr 89)).alloc (.cells b.arr 89)).alloc (.cells (Tt.mk 0 0 0 0 0 0 0 0 0).arr 89) = w1 at d0 d1 d2 hb0 ⊢
  rw [hZ] at d0 d1 d2 ⊢
  have HZ := Lib.hid hZ
  clear hZ
  have x0 := d0.cell 0 _ (Tt.get0 a)
  have f0 := d0.frozen 0
  have y0 := d1.cell 0 _ (Tt.get0 b)
  obtain ⟨m1, m2⟩ := hmul.out b.nat HB.out.nat
  obtain ⟨a1, a2⟩ := HA.out.nat
  have hw1 : IntKind.i64.wrap (g * b.nat) = g * b.nat := Go.IntWalk.i64_in _ (by omega)
  have hw2 : IntKind.i64.wrap (a.nat + g * b.nat) = a.nat + g * b.nat := Go.IntWalk.i64_in _ (by omega)
  go_upto_region 2 with (fail)
  have hI : AddI w Z a b g 0 (w1.setCell ⟨Z, 0, none⟩ (.int .i64 (a.nat + g * b.nat))) := ⟨⟨{ a with nat := a.nat + g * b.nat }, d0.set 0 _ rfl, rfl, fun j hj => by rw [if_neg (Nat.not_lt_zero _)]; rcases j with _ | _ | _ | j <;> rfl, fun j hj => by rw [if_neg (Nat.not_lt_zero _)]; rcases j with _ | _ | _ | j <;> rfl⟩, (Below.heap_setCell _ _ _ _ (by simp only; omega)).trans d1, (Below.heap_setCell _ _ _ _ (by simp only; omega)).trans d2, hb0.setCell (p := ⟨Z, 0, none⟩) (by simp only; rw [HZ.out]; exact Nat.le_refl _) _⟩
  have HI := Lib.hid hI
  clear hI d0 d1 d2 hb0 x0 f0 y0 m1 m2 a1 a2 hw1 hw2
  generalize w1.setCell ⟨Z, 0, none⟩ (.int .i64 (a.nat + g * b.nat)) = w2 at HI ⊢
  go_wp2_with fail
  go_loopg [16] 5 (fun gg t16 wr => ∃ o : Nat, gg = 5 - o ∧ o ≤ 4 ∧ t16 = .int .i64 o ∧ AddI w Z a b g o wr)
  case atStart => exact ⟨0, rfl, Nat.zero_le _, rfl, HI.out⟩
  case round =>
    clear HI
    obtain ⟨o, rfl, ho, rfl, hI⟩ := hrel
    by_cases hlt : o < 4
    · have ho1 : (0 : Int) ≤ (o : Int) := by omega
      have ho2 : (o : Int) < 4 := by omega
      obtain ⟨⟨T, hT, hn, hs, hh⟩, hB, hR, hbl⟩ := hI
      have so := hs o hlt
      have sh := hh o hlt
      rw [if_neg (Nat.lt_irrefl _)] at so sh
      have Hn := Lib.hid hn
      have Hs := Lib.hid hs
      have Hh := Lib.hid hh
      clear hn hs hh
      have cT := hT.cell (1 + o) _ (tt_get_st _ o (by omega))
      have cB := hB.cell (1 + o) _ (tt_get_st _ o (by omega))
      have fT := hT.frozen (1 + o)
      rw [so] at cT
      obtain ⟨m1, m2⟩ := hmul.out (b.st o) (HB.out.st o)
      obtain ⟨a1, a2⟩ := HA.out.st o
      have hw1 : IntKind.i64.wrap (g * b.st o) = g * b.st o := Go.IntWalk.i64_in _ (by omega)
      have hw2 : IntKind.i64.wrap (a.st o + g * b.st o) = a.st o + g * b.st o := Go.IntWalk.i64_in _ (by omega)
      have So := Lib.hid so
      have Sh := Lib.hid sh
      clear so sh
      go_wp2_with fail
      go_region
      have hT2 : TAt (wr.setCell ⟨Z, 1 + o, none⟩ (.int .i64 (a.st o + g * b.st o))).drew Z (T.setS o (a.st o + g * b.st o)) := hT.set (1 + o) _ (tt_set_st _ _ o (by omega))
      have hB2 : TAt (wr.setCell ⟨Z, 1 + o, none⟩ (.int .i64 (a.st o + g * b.st o))).drew (Z + 1) b := (Below.heap_setCell _ _ _ _ (by simp only; omega)).trans hB
      have hR2 : TAt (wr.setCell ⟨Z, 1 + o, none⟩ (.int .i64 (a.st o + g * b.st o))).drew (Z + 2) .zero := (Below.heap_setCell _ _ _ _ (by simp only; omega)).trans hR
      have hb2 : Below w.heap.size w (wr.setCell ⟨Z, 1 + o, none⟩ (.int .i64 (a.st o + g * b.st o))).drew := (hbl.setCell (p := ⟨Z, 1 + o, none⟩) (by simp only; rw [HZ.out]; exact Nat.le_refl _) _).drew
      clear hT hB hR hbl cT cB fT m1 m2 a1 a2 hw1 hw2
      generalize (wr.setCell ⟨Z, 1 + o, none⟩ (.int .i64 (a.st o + g * b.st o))).drew = w3 at hT2 hB2 hR2 hb2 ⊢
      have cT := hT2.cell (5 + o) _ (tt_get_sh _ o (by omega))
      rw [sh_setS, Sh.out] at cT
      have cB := hB2.cell (5 + o) _ (tt_get_sh _ o (by omega))
      have fT := hT2.frozen (5 + o)
      obtain ⟨m1, m2⟩ := hmul.out (b.sh o) (HB.out.sh o)
      obtain ⟨a1, a2⟩ := HA.out.sh o
      have hw1 : IntKind.i64.wrap (g * b.sh o) = g * b.sh o := Go.IntWalk.i64_in _ (by omega)
      have hw2 : IntKind.i64.wrap (a.sh o + g * b.sh o) = a.sh o + g * b.sh o := Go.IntWalk.i64_in _ (by omega)
      go_wp2_with fail
      go_region
      have hI3 : AddI w Z a b g (o + 1) (w3.setCell ⟨Z, 5 + o, none⟩ (.int .i64 (a.sh o + g * b.sh o))).drew := by
        refine ⟨⟨(T.setS o (a.st o + g * b.st o)).setH o (a.sh o + g * b.sh o), hT2.set (5 + o) _ (tt_set_sh _ _ o (by omega)), by rw [nat_setH, nat_setS]; exact Hn.out, fun j hj => ?_, fun j hj => ?_⟩, (Below.heap_setCell _ _ _ _ (by simp only; omega)).trans hB2, (Below.heap_setCell _ _ _ _ (by simp only; omega)).trans hR2, (hb2.setCell (p := ⟨Z, 5 + o, none⟩) (by simp only; rw [HZ.out]; exact Nat.le_refl _) _).drew⟩
        · rw [st_setH, st_setS]
          by_cases e : j = o
          · subst e; rw [if_pos rfl, if_pos (by omega)]
          · rw [if_neg (by omega), Hs.out j hj]
            by_cases e2 : j < o
            · rw [if_pos e2, if_pos (by omega)]
            · rw [if_neg e2, if_neg (by omega)]
        · rw [sh_setH]
          by_cases e : j = o
          · subst e; rw [if_pos rfl, if_pos (by omega)]
          · rw [if_neg (by omega), sh_setS, Hh.out j hj]
            by_cases e2 : j < o
            · rw [if_pos e2, if_pos (by omega)]
            · rw [if_neg e2, if_neg (by omega)]
      have HI3 := Lib.hid hI3
      clear hI3 hT2 hB2 hR2 hb2 cT cB fT m1 m2 a1 a2 hw1 hw2
      go_wp2_with fail
      go_roundg (5 - (o + 1))
      case measure => omega
      case rel => exact ⟨o + 1, rfl, by omega, by go_num, HI3.out⟩
    · obtain rfl : o = 4 := by omega
      have hF := hI.done
      have hR := hI.r
      have aF := hF.agg
      have tR := hR.there
      have hbl := hI.below
      clear hI
      go_wp2_with fail
      exact ret_tt rfl (Z + 2) 0 (a.addS b g) rfl (hR.store (U := a.addS b g)).agg rfl ⟨rfl, Below.setAgg hbl (by rw [HZ.out]; omega) _ _⟩
end Go.Proofs.Ytiijpbfkchokaaa
