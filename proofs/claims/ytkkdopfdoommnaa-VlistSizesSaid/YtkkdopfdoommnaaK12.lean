/-
  The law VlistSizes: the walk.
-/
import Derived.Test.YtkkdopfdoommnaaK11
import Derived.Test.YtkkdopfdoommnaaL6
import Derived.Test.YtkkdopfdoommnaaV5
import Derived.Test.YtkkdopfdoommnaaS10
import Derived.Sort.AtCall
namespace Go.Proofs.Ytkkdopfdoommnaa
open Go.ChangeShapes Go.WideShapes Go.ChangeAt Go.RowKit Go.Shelf
def eqlTt (X Y : Operand) (x y : Value) : Sem Value := do eqGuard .eql 68 X Y x y; binOp .eql 68 x y
@[go_sem ↓] theorem execOp_eqlTt (ρ : Operand → Value) (dst : Option Tmp) (x y : Operand) (k ty : TypeId) (pos : String) (after : Array Edge) (guard : Option (Nat × Bool)) :
    execOp ρ { dst, op := .binOp .eql 68 x y k, type := ty, pos, after, guard } = (do pure (.value (← eqlTt x y (ρ x) (ρ y)))) := by
  rfl
theorem eqGuardTt : Try.prog.eqGuardType Try.prog.depth 68 = false := by kernel_rfl
@[go_sem] theorem run_eqlTt (a : Tt) (X Y : Operand) (w : World) : (eqlTt X Y (.agg a.arr) (.agg a.arr)).run Try.prog w = .ok (.bool true) w := by
  unfold eqlTt
  have h1 := run_eqGuard_agg (P := Try.prog) w .eql 68 X Y a.arr a.arr eqGuardTt
  have h2 : (binOp .eql 68 (.agg a.arr) (.agg a.arr)).run Try.prog w = .ok (.bool true) w := by rw [run_eql_struct, run_eqTt]; rfl
  simp only [Sem.run_bind, h1, Result.andThen_ok, h2]
/-- ApartInts of two lists -/
theorem apartInts_two {W : World} {B Y n : Nat} {v u : Value} {a b : List Int} (hv : W.ownsRow B 3 1 v n (ints a)) (hu : W.ownsRow B 3 1 u n (ints b)) (hne : ∀ g, v.ownBlock = some g → u.ownBlock ≠ some g) (hl : n ≤ 100000) (hY : ∃ t, W.heap[Y]? = some (.cells #[v, u] t (0, 0))) (h1 : v.ownBlock ≠ some Y) (h2 : u.ownBlock ≠ some Y) (hB : B ≤ W.heap.size) :
    Calls Try.prog 41 #[.slice (some ⟨Y, 0, none⟩) 2 2] W fun e w' => e = .returned (.bool true) ∧ Below B W w' := by
  obtain ⟨t, hY⟩ := hY
  refine apartInts_any B W.heap.size Y 2 (fun j => if j = 0 then v else u) (fun _ => n) (fun j => if j = 0 then a else b) W
    ⟨⟨fun j _ g hg => ?_, fun i j hi hj h g hg => ?_⟩, hB, (Array.getElem?_eq_some_iff.1 hY).1, fun j _ => ?_, ⟨_, t, hY, fun j hj => ?_⟩, by decide, fun _ _ => hl⟩ ⟨fun j hj => ?_, Below.refl _ _, fun _ _ _ => rfl, Nat.le_refl _⟩
  · by_cases e : j = 0
    · simp only [e, if_true] at hg; exact (hv.lt g hg).2
    · simp only [e, if_false] at hg; exact (hu.lt g hg).2
  · by_cases e : i = 0
    · by_cases f : j = 0
      · omega
      · simp only [e, if_true] at hg
        simp only [f, if_false]
        exact hne g hg
    · by_cases f : j = 0
      · simp only [e, if_false] at hg
        simp only [f, if_true]
        exact fun h => hne g h hg
      · omega
  · by_cases e : j = 0
    · simp only [e, if_true]; exact h1
    · simp only [e, if_false]; exact h2
  · match j, hj with
    | 0, _ => rfl
    | 1, _ => rfl
  · by_cases e : j = 0
    · simp only [e, if_true]; exact hv
    · simp only [e, if_false]; exact hu
theorem legR_len (L : List Nd) (s : List Nat) (hs : checkC L = 0 → Items L 0 s) : (legR L s).length ≤ 2001 := by
  unfold legR
  split
  · rename_i h
    have h1 := legalP_len L s
    have h2 := (hs (colP_check h)).len
    have h3 := (checkC_zero (colP_check h)).1
    omega
  · simp
set_option maxRecDepth 100000 in
set_option maxHeartbeats 1000000 in
theorem sizes_walk (p0 : Option Addr) (b off cap : Nat) (L : List Nd) (tk depth : Int) (w : World) (hN : NIn w p0 b off cap L) :
    Calls Try.prog 9 #[.slice p0 L.length cap, .int .i64 tk, .int .i64 depth] w fun e w' => e = .returned (.bool true) ∧ Below w.heap.size w w' := by
  have hlen := hN.len
  have HN := Lib.hid hN
  have Hs := Lib.hid (show checkC L = 0 → Items L 0 (itemsP L) from fun h => itemsP_spec h)
  have HL := Lib.hid (lent_any p0 b off cap L w hN)
  have hRl := legR_len L (itemsP L) Hs.out
  clear hN
  go_enter Try.func9, Try.ntmps9
  go_wp2_with fail
  refine HL.out.mono ?_
  clear HL
  rintro e w2 ⟨⟨x, c, rfl, hcx, hown⟩, hb2⟩
  have HX := Lib.hid (lentIn_of hown hlen)
  have HP := Lib.hid (vlegal _ x 0 c L (itemsP L) Hs.out w2 HX.out.nin)
  clear hown hcx
  go_wp2_with fail
  refine HP.out.mono ?_
  clear HP
  rintro e w3 ⟨⟨v, u, rfl, hv, hu, hne⟩, hb3⟩
  have HX3 := Lib.hid (HX.out.below hb3)
  have hz02 := hb2.size
  have hb03 := hb2.trans (hb3.mono hb2.size)
  have hz23 := hb3.size
  have HV := Lib.hid hv
  have HU := Lib.hid hu
  have HNe := Lib.hid hne
  have HS := Lib.hid (vsize _ x 0 c L (itemsP L) Hs.out tk depth w3 HX3.out.nin)
  clear hv hu hne hb3 hb2
  generalize hk1 : colP L (itemsP L) = k1
  have Hk1 := Lib.hid hk1
  clear hk1
  obtain ⟨sr, hsr⟩ : ∃ sr, sizeR L (itemsP L) tk depth = sr := ⟨_, rfl⟩
  rw [hsr] at HS
  have Hsr := Lib.hid hsr
  clear hsr
  obtain ⟨T, d, f⟩ := sr
  go_wp2_with fail
  refine HS.out.mono ?_
  clear HS
  rintro e w4 ⟨rfl, hb4⟩
  go_upto_region 4 with (fail)
  have hb04 := hb03.trans (hb4.mono hb03.size)
  have aT : TAt (w4.alloc (.cells T.arr 68)) w4.heap.size T := heap_alloc_new w4 _
  have hbA : Below w4.heap.size w4 (w4.alloc (.cells T.arr 68)) := (Below.refl _ _).alloc (Nat.le_refl _) _
  have hb5 := hb4.trans (hbA.mono hb4.size)
  have hb05 := hb03.trans (hb5.mono hb03.size)
  clear hb04 hb4 hbA
  generalize w4.alloc (.cells T.arr 68) = w5 at aT hb5 hb05 ⊢
  generalize w4.heap.size = X4 at aT ⊢
  have HQ := Lib.hid (qlegal p0 b off cap L (itemsP L) Hs.out w5 (HN.out.below hb05))
  go_wp2_with fail
  refine HQ.out.mono ?_
  clear HQ
  rintro e w6 ⟨⟨v2, u2, rfl, hv2, hu2, _⟩, hb6⟩
  rw [Hk1.out]
  have hb06 := hb05.trans (hb6.mono hb05.size)
  have HQS := Lib.hid (qsize p0 b off cap L (itemsP L) Hs.out tk depth w6 (HN.out.below hb06))
  rw [Hsr.out] at HQS
  have HV2 := Lib.hid hv2
  have HU2 := Lib.hid hu2
  clear hv2 hu2
  go_wp2_with fail
  refine HQS.out.mono ?_
  clear HQS
  rintro e w7 ⟨rfl, hb7⟩
  go_upto_region 6 with (fail)
  have aT7 : TAt w7 X4 T := ((hb7.block X4 (Nat.lt_of_lt_of_le aT.lt hb6.size))).trans ((hb6.block X4 aT.lt).trans aT)
  have aT8 : TAt (w7.alloc (.cells T.arr 68)) X4 T := (Below.heap_alloc _ _ _ aT7.lt).trans aT7
  have aU8 : TAt (w7.alloc (.cells T.arr 68)) w7.heap.size T := heap_alloc_new w7 _
  have hb78 : Below w6.heap.size w6 (w7.alloc (.cells T.arr 68)) := hb7.alloc hb7.size _
  clear aT7 hb7
  generalize w7.alloc (.cells T.arr 68) = w8 at aT8 aU8 hb78 ⊢
  generalize w7.heap.size = X7 at aU8 ⊢
  have hb38 : Below w3.heap.size w3 w8 := (hb5.trans (hb6.mono hb5.size)).trans (hb78.mono (Nat.le_trans hb5.size hb6.size))
  have hb68 : Below w6.heap.size w6 w8 := hb78
  have hb08 := hb03.trans (hb38.mono hb03.size)
  have hb38z := hb38.size
  obtain ⟨R, hR⟩ : ∃ R, legR L (itemsP L) = R := ⟨_, rfl⟩
  have hv8 := ownsRow_below HV.out hb38
  have hu8 := ownsRow_below HU.out hb38
  have hv28 := ownsRow_below HV2.out hb68
  have hu28 := ownsRow_below HU2.out hb68
  rw [hR] at hv8 hu8 hv28 hu28 hRl
  have hla : (atsP R).length = R.length := by simp [atsP]
  have hlp : (pensP R).length = R.length := by simp [pensP]
  obtain ⟨pv, gv, cv, ev, lv, zv⟩ := zin_of hv8
  obtain ⟨pu, gu, cu, eu, lu, zu⟩ := zin_of hu8
  obtain ⟨pv2, gv2, cv2, ev2, lv2, zv2⟩ := zin_of hv28
  obtain ⟨pu2, gu2, cu2, eu2, lu2, zu2⟩ := zin_of hu28
  rw [hla] at ev ev2
  rw [hlp] at eu eu2
  subst ev eu ev2 eu2
  clear lv lu lv2 lu2
  have HX8 := Lib.hid (HX3.out.below hb38)
  have HSa : Hid (Calls Try.prog 27 #[.slice pv R.length cv, .slice pv2 R.length cv2] w8 fun e w' => e = .returned (.bool true) ∧ ∃ n, w' = w8.drewN n) := Lib.hid (by have := sameInts_eq pv pv2 gv cv gv2 cv2 (atsP R) w8 zv zv2 (by omega); rwa [hla] at this)
  have HSp : Hid (∀ n, Calls Try.prog 27 #[.slice pu R.length cu, .slice pu2 R.length cu2] (w8.drewN n) fun e w' => e = .returned (.bool true) ∧ ∃ m, w' = (w8.drewN n).drewN m) := Lib.hid fun n => by
    have hz : ∀ {p : Option Addr} {g c : Nat} {l : List Int}, ZIn w8 p g c l → ZIn (w8.drewN n) p g c l := fun h => ⟨h.hp, h.cap, h.at_⟩
    have := sameInts_eq pu pu2 gu cu gu2 cu2 (pensP R) (w8.drewN n) (hz zu) (hz zu2) (by omega)
    rwa [hlp] at this
  have HV8 := Lib.hid hv8
  have HU8 := Lib.hid hu8
  have a1 := aT8.agg
  have a2 := aU8.agg
  clear zv zu zv2 zu2 hv8 hu8 hv28 hu28 hla hlp hR hb5 hb6 hb78 hb05 hb06 hb38 hb68 aT aT8 aU8
  clear HV HU HV2 HU2 Hk1 Hsr HX HX3 Hs
  go_wp2_with (first
    | (go_at_call_has 27 pv; refine HSa.out.mono ?_; rintro e wA ⟨rfl, n1, rfl⟩)
    | (go_at_call_has 27 pu; refine (HSp.out _).mono ?_; rintro e wB ⟨rfl, n2, rfl⟩; have a3 : agg? ((w8.drewN n1).drewN n2) X4 0 9 = some T.arr := a1; have a4 : agg? ((w8.drewN n1).drewN n2) X7 0 9 = some T.arr := a2)
    | (go_at_call 14; refine (num11_any _ _).mono ?_; rintro e w' ⟨rfl, rfl⟩))
  have hbd : Below w8.heap.size w8 (w8.drewN (n1 + n2)) := below_drewN_refl _ _ _
  have hb0d := below_drewN hb08 (n1 + n2)
  refine ((HX8.out.below hbd).stays (HN.out.below hb0d)).mono ?_
  rintro e w10 ⟨rfl, hbx⟩
  have hb8 : Below w8.heap.size w8 w10 := hbd.trans hbx
  have hb010 := hb08.trans (hb8.mono hb08.size)
  have hz8 := hb8.size
  have hz38 := hb38z
  clear hbx hbd hb0d a1 a2 a3 a4 HSa HSp HX8 HN hb08
  go_wp2_with fail
  refine (apartInts_two (W := w10.alloc (.cells #[.slice pv R.length cv, .slice pu R.length cu] 37)) (B := w2.heap.size) (Y := w10.heap.size) ((ownsRow_below HV8.out hb8).alloc _) ((ownsRow_below HU8.out hb8).alloc _) HNe.out (by omega) ⟨_, heap_alloc_new w10 _⟩ (fun e => by have := (HV8.out.lt _ e).2; omega) (fun e => by have := (HU8.out.lt _ e).2; omega) (by simp; omega)).mono ?_
  rintro e w11 ⟨rfl, hb11⟩
  have hbF : Below w.heap.size w w11 := (hb010.alloc (by omega) _).trans (hb11.mono (by omega))
  clear hb11 hb010 hb8 HV8 HU8
  go_wp2_with (go_at_call 15; refine (knows_any _).mono ?_; rintro e w12 ⟨rfl, hb12⟩)
  go_ret
  exact ⟨rfl, hbF.trans (hb12.mono hbF.size)⟩
end Go.Proofs.Ytkkdopfdoommnaa
