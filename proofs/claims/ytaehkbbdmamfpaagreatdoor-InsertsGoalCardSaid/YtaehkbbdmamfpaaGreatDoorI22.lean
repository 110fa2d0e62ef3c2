/-
  The law InsertsGoal, walked: its steps replayed.
-/
import Derived.Test.YtaehkbbdmamfpaaGreatDoorJ3
import Derived.Test.YtaehkbbdmamfpaaGreatDoorI21b
import Derived.Deep.QuietTactic
import Derived.BigQuiet
namespace Go.Proofs.YtaehkbbdmamfpaaGreatDoor
open Go.ChangeShapes Go.WideShapes Go.ChangeAt Go.RowKit
theorem step_size {L : List Nd} {C : List Cl} {depth : Int} {st : As} {x : Nat} (hc : checkC L = 0) (hlt : x < L.length) (hk : (nth L x).kind = 13) (hX : colQ (insP L x) = 0) : -8910000000000 ≤ (stepI L C depth st x).2.size ∧ (stepI L C depth st x).2.size ≤ 8910000000000 := by
  obtain ⟨_, nh, nd, _, _⟩ := ins_nb hc hlt hk
  have h1 : -1073741823 ≤ (nth L x).h ∧ (nth L x).h ≤ 1073741823 := by simpa [dimenB, withinB] using nh
  unfold stepI
  simp only
  split
  · simp
  split
  · show -8910000000000 ≤ (nth L x).h ∧ (nth L x).h ≤ 8910000000000
    omega
  · exact (best_nb (colQ_check hX) (its_of (colQ_check hX)) (wideI (clsAt C (nth L x).sub) (roomI L depth (metI st C (nth L x).sub) x) (heldI st (nth L x).sub).size) (nth L x).d nd).1
def eqlTt12 (X Y : Operand) (x y : Value) : Sem Value := do eqGuard .eql 43 X Y x y; binOp .eql 43 x y
@[go_sem ↓] theorem execOp_eqlTt12 (ρ : Operand → Value) (dst : Option Tmp) (x y : Operand) (k ty : TypeId) (pos : String) (after : Array Edge) (guard : Option (Nat × Bool)) :
    execOp ρ { dst, op := .binOp .eql 43 x y k, type := ty, pos, after, guard } = (do pure (.value (← eqlTt12 x y (ρ x) (ρ y)))) := by
  rfl
theorem eqGuardTt12 : Tryz.prog.eqGuardType Tryz.prog.depth 43 = false := by kernel_rfl
@[go_sem] theorem run_eqlTt12 (a : Tt) (X Y : Operand) (w : World) : (eqlTt12 X Y (.agg a.arr) (.agg a.arr)).run Tryz.prog w = .ok (.bool true) w := by
  unfold eqlTt12
  have h1 := run_eqGuard_agg (P := Tryz.prog) w .eql 43 X Y a.arr a.arr eqGuardTt12
  have h2 : (binOp .eql 43 (.agg a.arr) (.agg a.arr)).run Tryz.prog w = .ok (.bool true) w := by rw [run_eql_struct, run_eqTt]; rfl
  simp only [Sem.run_bind, h1, Result.andThen_ok, h2]
attribute [local go_sem ↓] Go.wp_at_zero Go.wp_at_succ
set_option maxRecDepth 100000 in
set_option maxHeartbeats 8000000 in
theorem igoal_walk (p0 : Option Addr) (b off cap : Nat) (L : List Nd) (pc : Option Addr) (bc oc cc : Nat) (C : List Cl) (goal depth : Int) (w : World) (hN : NIn w p0 b off cap L) (hC : CIn w pc bc oc cc C) :
    Calls Tryz.prog 4 #[.slice p0 L.length cap, .slice pc C.length cc, .int .i64 goal, .int .i64 depth] w fun e w' => e = .returned (.bool true) ∧ Below w.heap.size w w' := by
  have hcp := hN.cap'
  have HA := Lib.hid (iaccount p0 b off cap L pc bc oc cc C goal depth w hN hC)
  have H := Lib.hid (And.intro hN hC)
  obtain ⟨A, hA⟩ : ∃ A, accR L C goal depth = A := ⟨_, rfl⟩
  rw [hA] at HA
  obtain ⟨sa, Ta, F⟩ := A
  have HAA := Lib.hid hA
  clear hN hC hA
  go_enter Tryz.func4, Tryz.ntmps4
  go_upto_region 2 with (go_at_call 18; refine HA.out.mono ?_; clear HA; rintro e w4 hp; obtain ⟨v, rfl, hrow4⟩ := hp.out; have hb4 := hp.below; clear hp; obtain ⟨pa, ca, rfl⟩ := owns_form hrow4)
  have hal : Below w4.heap.size w4 (w4.alloc (.cells Ta.arr 43)) := (Below.refl _ _).alloc (Nat.le_refl _) _
  have hb5 := hb4.trans (hal.mono hb4.size)
  have hrow5 := ownsRow_below hrow4 hal
  have hT5 := heap_alloc_new w4 (.cells Ta.arr 43)
  obtain ⟨Z, hZ⟩ : ∃ Z, w4.heap.size = Z := ⟨_, rfl⟩
  have hZ5 : (w4.alloc (.cells Ta.arr 43)).heap.size = Z + 1 := by simp [hZ]
  have hZ4 := hb4.size
  rw [hZ] at hT5 hZ4 ⊢
  generalize w4.alloc (.cells Ta.arr 43) = w5 at hb5 hrow5 hT5 hZ5 ⊢
  have Hb5 := Lib.hid (And.intro hb5 (And.intro hZ5 hZ4))
  have Hrow5 := Lib.hid hrow5
  have HT5 := Lib.hid hT5
  clear hb4 hal hb5 hrow4 hrow5 hT5 hZ5 hZ4 hZ
  by_cases hF0 : F = 0
  case neg =>
    have hF1 : (F != 0) = true := by simpa using hF0
    have hE : accE L C ≠ 0 ∨ (dimenB goal && dimenB depth) = false := by
      by_cases h1 : accE L C = 0
      · by_cases h2 : (dimenB goal && dimenB depth) = true
        · have := accR_fine h1 h2; rw [HAA.out] at this; exact absurd (congrArg (·.2.2) this) hF0
        · exact .inr (by simpa using h2)
      · exact .inl h1
    have hbad : sa = [] ∧ Ta = .zero := by
      have h3 := HAA.out
      unfold accR at h3
      rcases hE with h1 | h1
      · rw [if_neg h1] at h3; cases h3; exact ⟨rfl, rfl⟩
      · split at h3
        · rw [if_neg (by rw [h1]; decide)] at h3; cases h3; exact ⟨rfl, rfl⟩
        · cases h3; exact ⟨rfl, rfl⟩
    obtain ⟨rfl, rfl⟩ := hbad
    have t9 : agg? w5 Z 0 9 = some Tt.zero.arr := by rw [agg?_blk' HT5.out 0 9 (by rw [Tt.size_arr]; decide)]; simp [Tt.arr, Tt.cells]
    go_wp2_with (first | (go_at_call 13; refine (num12_any _ _).mono ?_; rintro e w' ⟨rfl, rfl⟩) | (go_at_call 17; refine (live12_any _).mono ?_; rintro e w6 ⟨rfl, hb6⟩))
    go_ret
    exact ⟨rfl, Hb5.out.1.trans (hb6.mono Hb5.out.1.size)⟩
  subst hF0
  go_upto_region 9 with (go_at_call 13; refine (num12_any _ _).mono ?_; rintro e w' ⟨rfl, rfl⟩)
  have hH := arr_ints w5
  have hb6 : Below w5.heap.size w5 (w5.alloc (.cells Tryz.zeroCells46 46)) := (Below.refl _ _).alloc (Nat.le_refl _) _
  have hs6 : (w5.alloc (.cells Tryz.zeroCells46 46)).heap.size = Z + 2 := by rw [World.size_alloc, Hb5.out.2.1]
  generalize w5.alloc (.cells Tryz.zeroCells46 46) = w6 at hH hb6 hs6 ⊢
  have hS := arr_bools w6
  have hb7 : Below w6.heap.size w6 (w6.alloc (.cells Tryz.zeroCells47 47)) := (Below.refl _ _).alloc (Nat.le_refl _) _
  have hs7 : (w6.alloc (.cells Tryz.zeroCells47 47)).heap.size = Z + 3 := by rw [World.size_alloc, hs6]
  have hH7 := hH.below hb7
  generalize w6.alloc (.cells Tryz.zeroCells47 47) = w7 at hS hb7 hs7 hH7 ⊢
  have hM := arr_bools w7
  have hb8 : Below w7.heap.size w7 (w7.alloc (.cells Tryz.zeroCells47 47)) := (Below.refl _ _).alloc (Nat.le_refl _) _
  have hH8 := hH7.below hb8
  have hS8 := hS.below hb8
  have hs8 : (w7.alloc (.cells Tryz.zeroCells47 47)).heap.size = Z + 4 := by rw [World.size_alloc, hs7]
  generalize w7.alloc (.cells Tryz.zeroCells47 47) = w8 at hM hb8 hs8 hH8 hS8 ⊢
  have hb58 : Below (Z + 1) w5 w8 := by rw [Hb5.out.2.1] at hb6; exact hb6.trans ((hb7.mono (by omega)).trans (hb8.mono (by omega)))
  rw [Hb5.out.2.1] at hH8 ⊢
  rw [hs6] at hS8
  rw [hs7] at hM
  obtain ⟨hac, hdi⟩ := accR_zero (by rw [HAA.out] : (accR L C goal depth).2.2 = 0)
  have hok := accE_ok hac
  have hfn := accR_fine hac hdi
  rw [HAA.out, accF_ins] at hfn
  have hsa : sa = (accF L C goal depth (insL L)).2 := congrArg (·.1) hfn
  have hTa : Ta = (accF L C goal depth (insL L)).1.t := congrArg (·.2.1) hfn
  have hsl : (insL L).length = sa.length := by
    have := accF_count (L := L) (C := C) (goal := goal) (depth := depth) (insL L).length (Nat.le_refl _)
    rw [List.take_length] at this
    rw [hsa]
    exact this.symm
  have hcol := (colP_zero.1 hok.col).1
  have hil : sa.length ≤ 2000 := by
    rw [← hsl]
    exact Nat.le_trans (List.length_filter_le _ _) (its_few (its_of hcol) (checkC_zero hcol).1)
  have hg : dimenB goal = true := by simp only [Bool.and_eq_true] at hdi; exact hdi.1
  have hbd : ∀ i, i ≤ sa.length → StB 562949953421312000000 (accF L C goal depth ((insL L).take i)).1 ∧ StB 562951027163136000 (accF L C goal depth ((insL L).take i)).1 := fun i hi => by
    have h1 := accF_bound (L := L) (C := C) (depth := depth) hok hg ((insL L).take i) (fun x hx => (insL_kind (List.mem_of_mem_take hx)).1)
    have h2 : ((insL L).take i).length ≤ 2000 := by rw [List.length_take]; omega
    exact ⟨h1.mono (by omega), h1.mono (by omega)⟩
  have HK := Lib.hid (And.intro hok (And.intro hsa (And.intro hTa (And.intro hsl (And.intro hcol hbd)))))
  have hg0 := goal_start goal
  have HA8 := Lib.hid (And.intro hH8 (And.intro hS8 (And.intro hM hb58)))
  clear hac hdi hok hfn hsa hTa hsl hcol hg hbd hH8 hS8 hM hb58 hb6 hb7 hb8 hs6 hs7 hs8 hH hH7 hS
  go_wp2_with fail
  go_loopg [15, 16, 17] (sa.length + 1) (fun gg t15 t16 t17 wr => ∃ (i : Nat) (hold : Nat → Int) (spl met : Nat → Bool) (left nat : Int), gg = sa.length - i + 1 ∧ i ≤ sa.length ∧ t15 = .int .i64 left ∧ t16 = .int .i64 nat ∧ t17 = .int .i64 (i : Int) ∧
    GoalR (accF L C goal depth ((insL L).take i)).1 hold spl met left nat ∧ ArrV wr (Z + 1) 46 (intsF hold) ∧ ArrV wr (Z + 2) 47 (boolsF spl) ∧ ArrV wr (Z + 3) 47 (boolsF met) ∧ Below (Z + 1) w5 wr)
  case atStart => exact ⟨0, _, _, _, _, _, rfl, Nat.zero_le _, rfl, rfl, rfl, hg0, HA8.out.1, HA8.out.2.1, HA8.out.2.2.1, HA8.out.2.2.2⟩
  case round =>
    obtain ⟨i, hold, spl, met, left, nat, rfl, hi, rfl, rfl, rfl, hgr, hH, hS, hM, hb⟩ := hrel
    by_cases hlt : i < sa.length
    · have hi0 : (0 : Int) ≤ (i : Int) := by omega
      have hlt1 : (i : Int) < (sa.length : Int) := by omega
      have hin : i < (insL L).length := by rw [HK.out.2.2.2.1]; exact hlt
      obtain ⟨x, hx⟩ : ∃ x, (insL L)[i] = x := ⟨_, rfl⟩
      obtain ⟨hxm, hxk⟩ := insL_kind (by rw [← hx]; exact List.getElem_mem hin : x ∈ insL L)
      have hxl := ((its_of HK.out.2.2.2.2.1).lt x hxm).2
      obtain ⟨⟨n1, n2⟩, nh, _, _, _⟩ := ins_nb HK.out.2.2.2.2.1 hxl hxk
      obtain ⟨k, hk⟩ : ∃ k : Nat, (nth L x).sub = (k : Int) := ⟨(nth L x).sub.toNat, by omega⟩
      have hk2 : k ≤ 254 := by omega
      obtain ⟨st, hst⟩ : ∃ st, (accF L C goal depth ((insL L).take i)).1 = st := ⟨_, rfl⟩
      obtain ⟨r, hr⟩ : ∃ r, stepI L C depth st x = r := ⟨_, rfl⟩
      have hsi : sa[i]? = some r.2 := by
        have := step_nth (C := C) (goal := goal) (depth := depth) hin
        rw [hx, hst, hr, ← HK.out.2.1] at this
        exact this
      have hnext : (accF L C goal depth ((insL L).take (i + 1))).1 = r.1 := by
        rw [accF_take hin, hx, hst, hr]
      have hbd := (HK.out.2.2.2.2.2 i hi).2
      have hbd2 := (HK.out.2.2.2.2.2 (i + 1) hlt).2
      rw [hst] at hgr hbd
      rw [hnext] at hbd2
      obtain ⟨s1, s2, s3⟩ := step_what L C depth st x
      have Hsb := Lib.hid (step_size (C := C) (depth := depth) (st := st) HK.out.2.2.2.2.1 hxl hxk (HK.out.1.ins x hxm hxk))
      rw [hr] at Hsb
      rw [hr] at s1 s2 s3
      rw [hk] at s2
      have hgs := goal_step hgr hk hk2 hr rfl rfl
      obtain ⟨gs, cs, hvs, _, _, hag⟩ := row_agg Sp.cells (fun _ => rfl) Hrow5.out (by decide) hlt
      cases hvs
      have hag2 : agg? w5 gs (i * 7) 7 = some r.2.arr := by
        rw [hag]
        have : sa[i] = r.2 := by rw [List.getElem?_eq_getElem hlt] at hsi; exact Option.some.inj hsi
        rw [this]; rfl
      have HB : Hid (∀ W, Below (Z + 1) w5 W → Below w5.heap.size w5 W) := Lib.hid fun W h => by rw [Hb5.out.2.1]; exact h
      have HCe : Hid (∀ W, Below (Z + 1) w5 W → W.cell? ⟨gs, i * 7, none⟩ = some (.int .i64 (x : Int)) ∧ W.cell? ⟨gs, i * 7 + 1, none⟩ = some (.int .i64 (k : Int)) ∧ W.cell? ⟨gs, i * 7 + 2, none⟩ = some (.int .i64 r.2.what) ∧ W.cell? ⟨gs, i * 7 + 3, none⟩ = some (.int .i64 r.2.size) ∧ W.cell? ⟨gs, i * 7 + 5, none⟩ = some (.int .i64 r.2.goal)) := Lib.hid fun W h =>
        ⟨cell_bel (agg_cell hag2 0 _ (by rw [Sp.get0, s1])) (HB.out W h), cell_bel (agg_cell hag2 1 _ (by rw [Sp.get1, s2])) (HB.out W h), cell_bel (agg_cell hag2 2 _ (Sp.get2 _)) (HB.out W h), cell_bel (agg_cell hag2 3 _ (Sp.get3 _)) (HB.out W h), cell_bel (agg_cell hag2 5 _ (Sp.get5 _)) (HB.out W h)⟩
      have hN5 := H.out.1.below Hb5.out.1
      obtain rfl := hN5.at_ hxl
      have HNo : Hid (∀ W, Below (Z + 1) w5 W → W.cell? ⟨b, off + x * 19, none⟩ = some (.int .i64 13) ∧ W.cell? ⟨b, off + x * 19 + 17, none⟩ = some (.int .i64 (k : Int)) ∧ W.cell? ⟨b, off + x * 19 + 4, none⟩ = some (.int .i64 (nth L x).h) ∧ CIn W pc bc oc cc C) := Lib.hid fun W h =>
        ⟨cell_bel (agg_cell (hN5.nth hxl) 0 _ (by rw [Nd.get0, hxk])) (HB.out W h), cell_bel (agg_cell (hN5.nth hxl) 17 _ (by rw [Nd.get17, hk])) (HB.out W h), cell_bel (agg_cell (hN5.nth hxl) 4 _ (Nd.get4 _)) (HB.out W h), (H.out.2.below Hb5.out.1).below (HB.out W h)⟩
      obtain ⟨y0, y1, y2, y3, y5⟩ := HCe.out _ hb
      obtain ⟨x0, x17, x4, _⟩ := HNo.out _ hb
      have hx0 : (0 : Int) ≤ (x : Int) := by omega
      have hx1 : (x : Int) < (L.length : Int) := by omega
      have hx2 : ¬ (x : Int) < 0 := by omega
      have hx3 : ¬ (L.length : Int) ≤ (x : Int) := by omega
      have hk0 : (0 : Int) ≤ (k : Int) := by omega
      have hk1 : ¬ (k : Int) < 0 := by omega
      have hk3 : ¬ (254 : Int) < (k : Int) := by omega
      have hk4 : (k : Int) < 255 := by omega
      have HG := Lib.hid (And.intro hgs (And.intro hbd (And.intro hbd2 (And.intro hnext (And.intro hgr (And.intro s3 (And.intro hk nh)))))))
      have HM := Lib.hid (And.intro hH (And.intro hS (And.intro hM hb)))
      clear hgs hbd hbd2 hnext hgr s1 s2 s3 hk nh hH hS hM hb hag hag2 hsi hin hx hxm hxk n1 n2 hst hr hN5
      have hal : Below wr.heap.size wr (wr.alloc (.cells Cl.plain.arr 55)) := (Below.refl _ _).alloc (Nat.le_refl _) _
      have hwz : Z + 1 ≤ wr.heap.size := by have := HM.out.2.2.2.size; have := Hb5.out.2.1; omega
      have hC9 := (HNo.out _ (HM.out.2.2.2.trans (hal.mono hwz))).2.2.2
      go_upto_if 108 with (fail)
      go_cut [108] from 109 to 112 (fun _ wx => wx = wr.alloc (.cells (clsAt C (k : Int)).arr 55))
      case first =>
        by_cases hkc : k < C.length
        · have hkc1 : (k : Int) < (C.length : Int) := by omega
          have hne : C ≠ [] := by intro e; rw [e] at hkc; simp at hkc
          obtain rfl := hC9.hp hne
          have hcl := hC9.cl k hkc
          have hck : clsAt C (k : Int) = C[k] := by unfold clsAt; rw [Int.toNat_natCast, List.getElem?_eq_getElem hkc]; rfl
          have Hck := Lib.hid hck
          generalize C[k] = ck at hcl Hck
          clear hck hC9 hal
          go_wp2_with fail
          go_meet
          rw [Hck.out]
        · have hkc1 : ¬ (k : Int) < (C.length : Int) := by omega
          have hck : clsAt C (k : Int) = .plain := by unfold clsAt; rw [Int.toNat_natCast, List.getElem?_eq_none (by omega)]; rfl
          have Hck := Lib.hid hck
          clear hck hC9 hal
          go_wp2_with fail
          go_meet
          rw [Hck.out]
      case rest =>
        obtain rfl := hcut
        obtain ⟨X, hX⟩ : ∃ X, wr.heap.size = X := ⟨_, rfl⟩
        have hal9 : Below wr.heap.size wr (wr.alloc (.cells (clsAt C (k : Int)).arr 55)) := (Below.refl _ _).alloc (Nat.le_refl _) _
        have hK := heap_alloc_new wr (.cells (clsAt C (k : Int)).arr 55)
        have hH9 := HM.out.1.below hal9
        have hS9 := HM.out.2.1.below hal9
        have hM9 := HM.out.2.2.1.below hal9
        have hb9 := HM.out.2.2.2.trans (hal9.mono hwz)
        have hXz : Z + 4 ≤ X := by have h1 := HM.out.2.2.1.lt; omega
        rw [hX] at hK ⊢
        generalize wr.alloc (.cells (clsAt C (k : Int)).arr 55) = w9 at hK hH9 hS9 hM9 hb9 ⊢
        have m1 : w9.cell? ⟨Z + 1 + 1 + 1, k, none⟩ = some (.bool (met k)) := hM9.cell hk2
        have HM9 := Lib.hid (And.intro hH9 (And.intro hS9 (And.intro hM9 (And.intro hb9 hK))))
        clear hal hal9 hC9 hH9 hS9 hM9 hb9 hK hX y0 y1 y2 y3 y5 x0 x17 x4
        obtain ⟨mk, hmk⟩ : ∃ mk, met k = mk := ⟨_, rfl⟩
        rw [hmk] at m1
        have Hmk := Lib.hid hmk
        clear hmk
        go_upto_if 116 with (fail)
        go_cut [15, 16, 116] from 117 to 134 (fun t15 t16 _ wx => t15 = .int .i64 (if met k = true then left else left - scalI (clsAt C (k : Int)).have_ (clsAt C (k : Int)).scale - (clsAt C (k : Int)).skip.nat) ∧ t16 = .int .i64 (if met k = true then nat else nat + (clsAt C (k : Int)).skip.nat) ∧ ArrV wx (Z + 1) 46 (intsF hold) ∧ ArrV wx (Z + 2) 47 (boolsF spl) ∧ ArrV wx (Z + 3) 47 (boolsF (upd met k true)) ∧ Below (Z + 1) w5 wx ∧ Blk wx X (clsAt C (k : Int)).arr 55)
        case first =>
          cases mk
          · have m2 : w9.frozen? ⟨Z + 1 + 1 + 1, k, none⟩ = false := HM9.out.2.2.1.frozen k
            go_upto_region 20 with fail
            have hH10 : ArrV (w9.setCell ⟨Z + 1 + 1 + 1, k, none⟩ (.bool true)) (Z + 1) 46 (intsF hold) := HM9.out.1.other (by omega) _
            have hS10 : ArrV (w9.setCell ⟨Z + 1 + 1 + 1, k, none⟩ (.bool true)) (Z + 2) 47 (boolsF spl) := HM9.out.2.1.other (by omega) _
            have hM10 : ArrV (w9.setCell ⟨Z + 1 + 1 + 1, k, none⟩ (.bool true)) (Z + 3) 47 (boolsF (upd met k true)) := by
              have := HM9.out.2.2.1.set hk2 (.bool true)
              rw [boolsF_upd] at this
              exact this
            have hb10 : Below (Z + 1) w5 (w9.setCell ⟨Z + 1 + 1 + 1, k, none⟩ (.bool true)) := HM9.out.2.2.2.1.setCell (by show Z + 1 ≤ Z + 1 + 1 + 1; omega) _
            have hK10 : Blk (w9.setCell ⟨Z + 1 + 1 + 1, k, none⟩ (.bool true)) X (clsAt C (k : Int)).arr 55 := Blk.other HM9.out.2.2.2.2 (by omega) _
            generalize w9.setCell ⟨Z + 1 + 1 + 1, k, none⟩ (.bool true) = w10 at hH10 hS10 hM10 hb10 hK10 ⊢
            have hcb := clsAt_ok HK.out.1.cls (k : Int)
            obtain ⟨kc, hkc⟩ : ∃ kc, clsAt C (k : Int) = kc := ⟨_, rfl⟩
            rw [hkc] at hK10 hcb
            have Hkc := Lib.hid hkc
            have q0 : w10.cell? ⟨X, 0, none⟩ = some (.int .i64 kc.scale) := by rw [cell?_blk' hK10, Cl.get0]
            have q2 : w10.cell? ⟨X, 2, none⟩ = some (.int .i64 kc.have_) := by rw [cell?_blk' hK10, Cl.get2]
            have q3 : w10.cell? ⟨X, 3, none⟩ = some (.int .i64 kc.skip.nat) := by rw [cell?_blk' hK10, Cl.get3]
            have b1 := hcb.scale
            have b2 := hcb.have_
            have b3 := hcb.nat
            have b4 := scal_bound kc.have_ kc.scale
            have b5 := HG.out.2.1.goal
            rw [← HG.out.2.2.2.2.1.gleft] at b5
            have b6 := HG.out.2.1.nat
            rw [← HG.out.2.2.2.2.1.gnat] at b6
            have HW10 := Lib.hid (And.intro hH10 (And.intro hS10 (And.intro hM10 (And.intro hb10 hK10))))
            clear hH10 hS10 hM10 hb10 hK10 hcb hkc
            obtain ⟨sc, hsc⟩ : ∃ sc, scalI kc.have_ kc.scale = sc := ⟨_, rfl⟩
            have Hsc := Lib.hid hsc
            rw [hsc] at b4
            clear hsc
            have HQ : Hid (∀ W, Below w10.heap.size w10 W → W.cell? ⟨X, 0, none⟩ = some (.int .i64 kc.scale) ∧ W.cell? ⟨X, 2, none⟩ = some (.int .i64 kc.have_) ∧ W.cell? ⟨X, 3, none⟩ = some (.int .i64 kc.skip.nat)) := Lib.hid fun W h => ⟨cell_bel q0 h, cell_bel q2 h, cell_bel q3 h⟩
            go_quiet ((go_at_call 19; refine Calls.quiet_of ((iscaled_any kc.have_ kc.scale (by omega) (by omega) (by omega) (by omega) _).mono (fun e w' h => ⟨by rw [h.1, Hsc.out], 0, h.2.symm⟩))))
            have q30 : (w10.drewN nq).cell? ⟨X, 3, none⟩ = some (.int .i64 kc.skip.nat) := q3
            go_wp2_with fail
            go_meet
            rw [Hmk.out, Hkc.out, Hsc.out]
            refine ⟨?_, ?_, HW10.out.1.drewN _, HW10.out.2.1.drewN _, HW10.out.2.2.1.drewN _, below_drewN HW10.out.2.2.2.1 _, HW10.out.2.2.2.2⟩
            · first | rfl | go_num
            · first | rfl | go_num
          · go_wp2_with fail
            go_meet
            have e : upd met k true = met := by
              funext j
              by_cases h : j = k
              · subst h; rw [upd_at, Hmk.out]
              · rw [upd_ne _ _ h]
            rw [Hmk.out, e]
            exact ⟨rfl, rfl, HM9.out⟩
        case rest =>
          obtain ⟨rfl, rfl, hH, hS, hM, hb, hK⟩ := hcut
          obtain ⟨left1, hl1⟩ : ∃ y, (if met k = true then left else left - scalI (clsAt C (k : Int)).have_ (clsAt C (k : Int)).scale - (clsAt C (k : Int)).skip.nat) = y := ⟨_, rfl⟩
          obtain ⟨nat1, hn1⟩ : ∃ y, (if met k = true then nat else nat + (clsAt C (k : Int)).skip.nat) = y := ⟨_, rfl⟩
          have hgs := HG.out.1
          rw [hl1, hn1] at hgs
          rw [hl1, hn1]
          obtain ⟨y0, y1, y2, y3, y5⟩ := HCe.out _ hb
          obtain ⟨x0, x17, x4, _⟩ := HNo.out _ hb
          obtain ⟨hgo, hgs⟩ := hgs
          obtain ⟨kc, hkc⟩ : ∃ kc, clsAt C (k : Int) = kc := ⟨_, rfl⟩
          obtain ⟨v, hv⟩ : ∃ v, r.2.size = v := ⟨_, rfl⟩
          obtain ⟨wt, hwt⟩ : ∃ wt, r.2.what = wt := ⟨_, rfl⟩
          obtain ⟨hh, hhh⟩ : ∃ hh, (nth L x).h = hh := ⟨_, rfl⟩
          have Hsv := Lib.hid Hsb.out
          rw [hv] at Hsv y3
          rw [hwt] at y2
          rw [hhh] at x4
          rw [hkc] at hK
          rw [hkc, hv] at hgo
          rw [hkc, hv, hwt, hhh] at hgs
          have hcb := clsAt_ok HK.out.1.cls (k : Int)
          rw [hkc] at hcb
          have Hcb := Lib.hid hcb
          have Hgo := Lib.hid hgo
          have Hgs := Lib.hid hgs
          have Hv := Lib.hid (And.intro hv hhh)
          have HW := Lib.hid (And.intro hH (And.intro hS (And.intro hM (And.intro hb hK))))
          clear hl1 hn1 hkc hcb hgo hgs hv hhh
          have Hwt := Lib.hid hwt
          clear hwt
          go_upto_block 2 with (fail)
          go_cut [] from 140 to 201 (fun wx => ∃ (hold' : Nat → Int) (spl' : Nat → Bool), GoalR r.1 hold' spl' (upd met k true) (left1 - scalI v kc.scale) nat1 ∧ ArrV wx (Z + 1) 46 (intsF hold') ∧ ArrV wx (Z + 2) 47 (boolsF spl') ∧ ArrV wx (Z + 3) 47 (boolsF (upd met k true)) ∧ Below (Z + 1) w5 wx ∧ Blk wx X kc.arr 55)
          case first =>
            rcases Hgs.out with ⟨hw, hs, hsz, hle, hG⟩ | ⟨hw, hs, hG⟩ | ⟨hw, hs, hsz, hG⟩
            · subst hsz
              subst hw
              obtain ⟨bv1, bv2⟩ := Hsv.out
              obtain ⟨bh1, bh2⟩ : -562951027163136000 ≤ hold k ∧ hold k ≤ 562951027163136000 := by
                have bh := HG.out.2.1.held (by decide) (k : Int)
                rwa [← HG.out.2.2.2.2.1.ghold k hk2 hs] at bh
              have h1 : wc.cell? ⟨Z + 1, k, none⟩ = some (.int .i64 (hold k)) := HW.out.1.cell hk2
              have h2 : wc.drew.cell? ⟨Z + 1, k, none⟩ = some (.int .i64 (hold k)) := h1
              have h3 : wc.drew.frozen? ⟨Z + 1, k, none⟩ = false := HW.out.1.drew.frozen k
              have hH' : ArrV (wc.setCell ⟨Z + 1, k, none⟩ (.int .i64 (hold k + v))).drew (Z + 1) 46 (intsF (upd hold k (hold k + v))) := by
                have := HW.out.1.set hk2 (.int .i64 (hold k + v))
                rw [intsF_upd] at this
                exact this.drew
              have hS' : ArrV (wc.setCell ⟨Z + 1, k, none⟩ (.int .i64 (hold k + v))).drew (Z + 2) 47 (boolsF spl) := (HW.out.2.1.other (by omega) _).drew
              have hM' : ArrV (wc.setCell ⟨Z + 1, k, none⟩ (.int .i64 (hold k + v))).drew (Z + 3) 47 (boolsF (upd met k true)) := (HW.out.2.2.1.other (by omega) _).drew
              have hb' : Below (Z + 1) w5 (wc.setCell ⟨Z + 1, k, none⟩ (.int .i64 (hold k + v))).drew := (HW.out.2.2.2.1.setCell (p := ⟨Z + 1, k, none⟩) (Nat.le_refl _) _).drew
              have hK' : Blk (wc.setCell ⟨Z + 1, k, none⟩ (.int .i64 (hold k + v))).drew X kc.arr 55 := Blk.other HW.out.2.2.2.2 (by omega) _
              have HF := Lib.hid (And.intro y3 h1)
              go_upto_region 25 with (fail)
              refine Rest.region follows ?_
              refine Rest.tame 11 (fun W => W = wc.drew) (by kernel_rfl) rfl ?_
              simp only [Nat.reduceSub, List.drop_zero, List.take_succ_cons, List.take_zero]
              iterate 11 first
                | (refine TW.cons_n rfl _ (by intro wT hT R hR K hK; simp only [Act.put, lsA, lsB, lsC] at hK; subst hT; go_step; exact hK _ _ (hR _ rfl)) ?_; try simp only [Act.put, lsA, lsB, lsC])
              refine TW.nil fun w9 h9 => ?_
              subst h9
              refine Rest.seq (by kernel_rfl) ?_
              simp only [List.drop_succ_cons, List.drop_zero]
              go_upto_region 26 with (fail)
              clear h1 h2 h3 y0 y1 y2 y3 y5 x0 x17 x4
              generalize (wc.setCell ⟨Z + 1, k, none⟩ (.int .i64 (hold k + v))).drew = wd at hH' hS' hM' hb' hK' ⊢
              obtain ⟨y0, y1, y2, y3, y5⟩ := HCe.out _ hb'
              obtain ⟨x0, x17, x4, _⟩ := HNo.out _ hb'
              rw [Hv.out.1] at y3
              rw [Hv.out.2] at x4
              have g1 : wd.cell? ⟨Z + 1, k, none⟩ = some (.int .i64 (hold k + v)) := by
                have := hH'.cell hk2
                rw [this, intsF, upd_at]
              have g2 : wd.cell? ⟨Z + 1 + 1, k, none⟩ = some (.bool false) := by
                have := hS'.cell hk2
                rw [boolsF, hs] at this
                exact this
              have g3 : wd.cell? ⟨X, 1, none⟩ = some (.int .i64 kc.most) := by rw [cell?_blk' hK', Cl.get1]
              have g4 : ¬ kc.most < hold k + v := by omega
              have g5 : (v != v) = false := by simp
              have HE' := Lib.hid (And.intro hH' (And.intro hS' (And.intro hM' (And.intro hb' hK'))))
              clear hH' hS' hM' hb' hK' hH hS hM hb hK hs hle
              go_quiet (fail)
              go_wp2_with fail
              go_meet
              exact ⟨_, _, hG, HE'.out.1.drewN _, HE'.out.2.1.drewN _, HE'.out.2.2.1.drewN _, below_drewN HE'.out.2.2.2.1 _, HE'.out.2.2.2.2⟩
            · subst hw
              have h1 : wc.cell? ⟨Z + 1 + 1, k, none⟩ = some (.bool false) := by
                have := HW.out.2.1.cell hk2
                rw [boolsF, hs] at this
                exact this
              have h2 : wc.frozen? ⟨Z + 1 + 1, k, none⟩ = false := HW.out.2.1.frozen k
              go_wp2_with fail
              go_meet
              refine ⟨_, _, hG, HW.out.1.other (by omega) _, ?_, HW.out.2.2.1.other (by omega) _, HW.out.2.2.2.1.setCell (p := ⟨Z + 1 + 1, k, none⟩) (by show Z + 1 ≤ Z + 1 + 1; omega) _, Blk.other HW.out.2.2.2.2 (by omega) _⟩
              have := HW.out.2.1.set hk2 (.bool true)
              rw [boolsF_upd] at this
              exact this
            · subst hsz
              subst hw
              have h1 : wc.cell? ⟨Z + 1 + 1, k, none⟩ = some (.bool true) := by
                have := HW.out.2.1.cell hk2
                rw [boolsF, hs] at this
                exact this
              go_wp2_with fail
              go_meet
              exact ⟨_, _, hG, HW.out⟩
          case rest =>
            obtain ⟨hold2, spl2, hG2, hH2, hS2, hM2, hb2, hK2⟩ := hcut
            obtain ⟨bv1, bv2⟩ := Hsv.out
            obtain ⟨bs1, bs2⟩ := Hcb.out.scale
            have b4 := scal_bound v kc.scale
            have b5 := HG.out.2.2.1.goal
            rw [← hG2.gleft] at b5
            clear y0 y1 y2 y3 y5 x0 x17 x4 hH hS hM hb hK
            obtain ⟨y0, y1, y2, y3, y5⟩ := HCe.out _ hb2
            rw [Hv.out.1] at y3
            obtain ⟨sc, hsc⟩ : ∃ sc, scalI v kc.scale = sc := ⟨_, rfl⟩
            rw [Hgo.out, hsc] at y5
            rw [hsc] at b4 b5 hG2
            have Hsc := Lib.hid hsc
            have q0 : wc.cell? ⟨X, 0, none⟩ = some (.int .i64 kc.scale) := by rw [cell?_blk' hK2, Cl.get0]
            have HW2 := Lib.hid (And.intro hH2 (And.intro hS2 (And.intro hM2 (And.intro hb2 hG2))))
            clear hsc hH2 hS2 hM2 hG2
            go_upto_region 35 with (fail)
            go_quiet ((go_at_call 19; refine Calls.quiet_of ((iscaled_any v kc.scale (by omega) (by omega) (by omega) (by omega) _).mono (fun e w' h => ⟨by rw [h.1, Hsc.out], 0, h.2.symm⟩))))
            have y50 : (wc.drewN nq).cell? ⟨gs, i * 7 + 5, none⟩ = some (.int .i64 (left1 - sc)) := y5
            go_wp2_with fail
            go_roundg (sa.length - (i + 1) + 1)
            case measure => omega
            case rel => exact ⟨i + 1, hold2, spl2, upd met k true, left1 - sc, nat1, rfl, by omega, rfl, rfl, by go_num, by rw [HG.out.2.2.2.1]; exact HW2.out.2.2.2.2, HW2.out.1.drewN _, HW2.out.2.1.drewN _, HW2.out.2.2.1.drewN _, below_drewN HW2.out.2.2.2.1 _⟩
    · obtain rfl : i = sa.length := by omega
      have HG := Lib.hid (And.intro hgr (And.intro hH (And.intro hS (And.intro hM hb))))
      have hbz : Below w5.heap.size w5 wr := by rw [Hb5.out.2.1]; exact hb
      have z0 : wr.cell? ⟨Z, 0, none⟩ = some (.int .i64 Ta.nat) := by
        rw [cell?_blk' ((hb.block Z (by omega)).trans HT5.out), Tt.get0]
      have hnat : nat = Ta.nat := by
        have h1 := hgr.gnat
        rw [← HK.out.2.2.2.1, List.take_length] at h1
        rw [h1, HK.out.2.2.1]
      have hz2 : w.heap.size ≤ Z := Hb5.out.2.2
      subst hnat
      clear hgr hH hS hM hb
      go_wp2_with (go_at_call 17; refine (live12_any _).mono ?_; rintro e w9 ⟨rfl, hb9⟩)
      go_ret
      exact ⟨rfl, Hb5.out.1.trans ((hbz.trans (hb9.mono hbz.size)).mono Hb5.out.1.size)⟩
end Go.Proofs.YtaehkbbdmamfpaaGreatDoor
