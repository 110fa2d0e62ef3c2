/-
  The law BreaksLines, walked: both sides' Line answer alike.
-/
import Derived.Test.YtiijpbfkchokaaaGreatL6
import Derived.Test.YtiijpbfkchokaaaGreatF16
import Derived.Test.YtiijpbfkchokaaaGreatG4
namespace Go.Proofs.YtiijpbfkchokaaaGreat
open Go.ChangeShapes Go.WideShapes Go.ChangeAt Go.RowKit Go.Shelf
attribute [local go_sem ↓] Go.wp_at_zero Go.wp_at_succ
def eqlTt9 (X Y : Operand) (x y : Value) : Sem Value := do eqGuard .eql 62 X Y x y; binOp .eql 62 x y
@[go_sem ↓] theorem execOp_eqlTt9 (ρ : Operand → Value) (dst : Option Tmp) (x y : Operand) (k ty : TypeId) (pos : String) (after : Array Edge) (guard : Option (Nat × Bool)) :
    execOp ρ { dst, op := .binOp .eql 62 x y k, type := ty, pos, after, guard } = (do pure (.value (← eqlTt9 x y (ρ x) (ρ y)))) := by
  rfl
theorem eqGuardTt9 : Tryz.prog.eqGuardType Tryz.prog.depth 62 = false := by kernel_rfl
@[go_sem] theorem run_eqlTt9 (a : Tt) (X Y : Operand) (w : World) : (eqlTt9 X Y (.agg a.arr) (.agg a.arr)).run Tryz.prog w = .ok (.bool true) w := by
  unfold eqlTt9
  have h1 := run_eqGuard_agg (P := Tryz.prog) w .eql 62 X Y a.arr a.arr eqGuardTt9
  have h2 : (binOp .eql 62 (.agg a.arr) (.agg a.arr)).run Tryz.prog w = .ok (.bool true) w := by rw [run_eql_struct, run_eqTt]; rfl
  simp only [Sem.run_bind, h1, Result.andThen_ok, h2]
set_option maxRecDepth 100000 in
set_option maxHeartbeats 8000000 in
theorem lines9_walk (P : Pm) (g off2 : Nat) (S : List Sh2) (L : List Nd) (b off cap : Nat) (p0 : Option Addr) (from_ to_ : Int) (w : World) (hS : ShIn w P g off2 S) (hN : NIn w p0 b off cap L) :
    Calls Tryz.prog 6 #[.slice p0 L.length cap, .agg P.arr, .int .i64 from_, .int .i64 to_] w fun e w' => e = .returned (.bool true) ∧ Below w.heap.size w w' := by
  obtain ⟨s, hs⟩ : ∃ s : List Nat, checkC L = 0 → Items L 0 s := ⟨itemsP L, fun h => itemsP_spec h⟩
  obtain ⟨X0, hX0⟩ : ∃ X0, w.heap.size = X0 := ⟨_, rfl⟩
  have hlen := hN.len
  have hb0 : Below w.heap.size w (w.alloc (.cells P.arr 27)) := (Below.refl _ _).alloc (Nat.le_refl _) _
  have d0 : PAt (w.alloc (.cells P.arr 27)) X0 P := by rw [← hX0]; exact heap_alloc_new w _
  go_enter Tryz.func6, Tryz.ntmps6
  go_upto_region 1 with (fail)
  generalize w.alloc (.cells P.arr 27) = w1 at hb0 d0 ⊢
  have hS1 := hS.below hb0
  have hN1 := hN.below hb0
  have HA : Hid (∀ W, Below w1.heap.size w1 W → agg? W X0 0 24 = some P.arr) := Lib.hid fun W hb => by
    have h1 : PAt W X0 P := (hb.block X0 (Array.getElem?_eq_some_iff.1 d0).1).trans d0
    rw [agg?_blk' h1 0 24 (by rw [Pm.size_arr]; decide)]; simp [Pm.arr, Pm.cells]
  have Hb0 := Lib.hid hb0
  have HL := Lib.hid (lent_any p0 b off cap L w1 hN1)
  have HSN := Lib.hid (And.intro hS1 hN1)
  have HX0 := Lib.hid hX0
  have Hs := Lib.hid hs
  clear hs hS hN hS1 hN1 hb0 d0 hX0
  go_upto_region 2 with (go_at_call 7; refine HL.out.mono ?_; clear HL; rintro e w2 ⟨⟨x, c, rfl, hcx, hown⟩, hb2⟩)
  have HX := Lib.hid (lentIn_of hown hlen)
  have HP := Lib.hid (vLine P g off2 S L x 0 c _ s Hs.out from_ to_ w2 (HSN.out.1.below hb2) HX.out.nin)
  have a2 := HA.out w2 hb2
  have Hb2 := Lib.hid hb2
  obtain ⟨r, hr⟩ : ∃ r, linR P S L s from_ to_ = r := ⟨_, rfl⟩
  rw [hr] at HP
  have Hr := Lib.hid hr
  obtain ⟨T, E⟩ := r
  clear hown hcx hb2 hr
  go_upto_region 3 with (go_at_call 24; refine HP.out.mono ?_; clear HP; rintro e w3 hp; obtain rfl := hp.out; have hb3 := hp.below; clear hp)
  have aT : TAt (w3.alloc (.cells T.arr 62)) w3.heap.size T := heap_alloc_new w3 _
  have hb4 : Below w2.heap.size w2 (w3.alloc (.cells T.arr 62)) := hb3.alloc hb3.size _
  clear hb3
  generalize w3.alloc (.cells T.arr 62) = w4 at aT hb4 ⊢
  generalize w3.heap.size = X4 at aT ⊢
  have hb14 := Hb2.out.trans (hb4.mono Hb2.out.size)
  have a4 := HA.out w4 hb14
  have HX4 := Lib.hid (HX.out.below hb4)
  have HQ := Lib.hid (q9line P g off2 S p0 b off cap L s Hs.out from_ to_ w4 (HSN.out.1.below hb14) (HSN.out.2.below hb14))
  rw [Hr.out] at HQ
  have HT4 := Lib.hid aT
  have Hb4 := Lib.hid hb14
  clear aT hb4 hb14 a2 HX
  go_upto_region 4 with (go_at_call 25; refine HQ.out.mono ?_; clear HQ; rintro e w5 hp; obtain rfl := hp.out; have hb5 := hp.below; clear hp)
  have aU : TAt (w5.alloc (.cells T.arr 62)) w5.heap.size T := heap_alloc_new w5 _
  have hb46 : Below w4.heap.size w4 (w5.alloc (.cells T.arr 62)) := hb5.alloc hb5.size _
  clear hb5
  generalize w5.alloc (.cells T.arr 62) = w6 at aU hb46 ⊢
  generalize w5.heap.size = X6 at aU ⊢
  have hb16 := Hb4.out.trans (hb46.mono Hb4.out.size)
  have aT6 : TAt w6 X4 T := (hb46.block X4 HT4.out.lt).trans HT4.out
  have x1 := aT6.agg
  have x2 := aU.agg
  have HSt : Hid (Calls Tryz.prog 12 #[.slice (some ⟨x, 0, none⟩) L.length c, .slice p0 L.length cap] w6 fun e w' => e = .returned (.bool true) ∧ Below w6.heap.size w6 w') := Lib.hid ((HX4.out.below hb46).stays (HSN.out.2.below hb16))
  have hbase := Hb0.out.trans (hb16.mono Hb0.out.size)
  have Hbase := Lib.hid hbase
  have e2 : (E == E) = true := by simp
  clear hb46 hb16 hbase aT6 aU a4 Hr Hs HSN HX4 HA HT4 Hb4 Hb2 Hb0
  go_wp2_with (first
    | (go_at_call 11; refine (num9_any _ _).mono ?_; rintro e w9 ⟨rfl, rfl⟩)
    | (go_at_call 12; refine HSt.out.mono ?_; rintro e w7 ⟨rfl, hb7⟩)
    | (go_at_call 13; refine (knows9_any _).mono ?_; rintro e w8 ⟨rfl, hb8⟩))
  go_ret
  exact ⟨rfl, Hbase.out.trans ((hb7.trans (hb8.mono hb7.size)).mono Hbase.out.size)⟩
end Go.Proofs.YtiijpbfkchokaaaGreat
