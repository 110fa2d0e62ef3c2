/-
  The laws' questions to no builder: both sides refuse.
-/
import Derived.Test.YtomehdepjenilaaGreatC1
import Derived.Test.YtomehdepjenilaaGreatH22
import Derived.Test.YtomehdepjenilaaGreatK4
import Derived.Test.YtomehdepjenilaaGreatH26
import Derived.Test.YtomehdepjenilaaGreatK8
set_option maxRecDepth 100000
set_option maxHeartbeats 8000000
namespace Go.Proofs.YtomehdepjenilaaGreat
open Go.ChangeShapes Go.WideShapes Go.ChangeAt Go.RowKit
theorem qput_no (w : World) (p : Value) : Calls Tryz.prog 57 #[.pointer none, p] w fun e w' => e = .returned (.tuple #[.slice none 0 0, .int .i64 1]) ∧ w' = w := by
  go_enter Tryz.func57, Tryz.ntmps57
  go_wp2_with fail
  go_ret2
  exact ⟨rfl, rfl⟩
theorem qflush_no (w : World) : Calls Tryz.prog 53 #[.pointer none] w fun e w' => e = .returned (.tuple #[.slice none 0 0, .int .i64 1]) ∧ w' = w := by
  go_enter Tryz.func53, Tryz.ntmps53
  go_wp2_with fail
  go_ret2
  exact ⟨rfl, rfl⟩
theorem qstate_no (w : World) : Calls Tryz.prog 75 #[.pointer none] w fun e w' => e = .returned (.tuple #[.slice none 0 0, .slice none 0 0]) ∧ w' = w := by
  go_enter Tryz.func75, Tryz.ntmps75
  go_wp2_with fail
  go_ret2
  exact ⟨rfl, rfl⟩
theorem qroom_no (w : World) : Calls Tryz.prog 76 #[.pointer none] w fun e w' => e = .returned (.tuple #[.int .i64 0, .agg Tt.zero.arr, .int .i64 0, .int .i64 0]) ∧ Below w.heap.size w w' := by
  have hb1 : Below w.heap.size w (w.alloc (.cells Tt.zero.arr 57)) := (Below.refl _ _).alloc (Nat.le_refl _) _
  have Hb := Lib.hid hb1
  clear hb1
  go_enter Tryz.func76, Tryz.ntmps76
  go_wp2_with fail
  exact ⟨rfl, _, results_room rfl _ _ _ _ rfl (agg?_Tt _ _ _ _ _ rfl), rfl, Hb.out⟩
theorem same13_nil (w : World) : Calls Tryz.prog 54 #[.slice none 0 0, .slice none 0 0] w fun e w' => e = .returned (.bool true) ∧ w' = w := by
  go_enter Tryz.func54, Tryz.ntmps54
  go_wp2_with fail
  go_loopg [5] 1 (fun gg t5 wr => gg = 1 ∧ t5 = .int .i64 0 ∧ wr = w)
  case atStart => exact ⟨rfl, rfl, rfl⟩
  case round =>
    obtain ⟨rfl, rfl, rfl⟩ := hrel
    go_wp2_with fail
    go_loopg [6] 1 (fun gg t6 wx => gg = 1 ∧ t6 = .int .i64 0 ∧ wx = wr)
    case atStart => exact ⟨rfl, rfl, rfl⟩
    case round =>
      obtain ⟨rfl, rfl, rfl⟩ := hrel
      go_wp2_with fail
      go_ret
      exact ⟨rfl, rfl⟩
def eqlTt (X Y : Operand) (x y : Value) : Sem Value := do eqGuard .eql 57 X Y x y; binOp .eql 57 x y
@[go_sem ↓] theorem execOp_eqlTt (ρ : Operand → Value) (dst : Option Tmp) (x y : Operand) (k ty : TypeId) (pos : String) (after : Array Edge) (guard : Option (Nat × Bool)) :
    execOp ρ { dst, op := .binOp .eql 57 x y k, type := ty, pos, after, guard } = (do pure (.value (← eqlTt x y (ρ x) (ρ y)))) := by
  rfl
theorem eqGuardTt : Tryz.prog.eqGuardType Tryz.prog.depth 57 = false := by kernel_rfl
@[go_sem] theorem run_eqlTt (a : Tt) (X Y : Operand) (w : World) : (eqlTt X Y (.agg a.arr) (.agg a.arr)).run Tryz.prog w = .ok (.bool true) w := by
  unfold eqlTt
  have h1 := run_eqGuard_agg (P := Tryz.prog) w .eql 57 X Y a.arr a.arr eqGuardTt
  have h2 : (binOp .eql 57 (.agg a.arr) (.agg a.arr)).run Tryz.prog w = .ok (.bool true) w := by rw [run_eql_struct, run_eqTt]; rfl
  simp only [Sem.run_bind, h1, Result.andThen_ok, h2]
theorem apart_nils {W : World} {B Y : Nat} (hB : B ≤ W.heap.size) (hY : ∃ t, W.heap[Y]? = some (.cells #[.slice none 0 0, .slice none 0 0] t (0, 0))) :
    Calls Tryz.prog 77 #[.slice (some ⟨Y, 0, none⟩) 2 2] W fun e w' => e = .returned (.bool true) ∧ Below B W w' := by
  obtain ⟨t, hY⟩ := hY
  refine apart_any B W.heap.size Y 2 (fun _ => .slice none 0 0) (fun _ => 0) (fun _ => []) W
    ⟨⟨fun j _ g hg => (by cases hg), fun i j hi hj h g hg => (by cases hg)⟩, hB, (Array.getElem?_eq_some_iff.1 hY).1, fun j _ => (fun e => by cases e), ⟨_, t, hY, fun j hj => ?_⟩, by decide, fun j _ => Nat.zero_le _⟩ ⟨fun j hj => World.ownsRow_nil _ _ _ _, Below.refl _ _, fun _ _ _ => rfl, Nat.le_refl _⟩
  match j, hj with
  | 0, _ => rfl
  | 1, _ => rfl
theorem LentIn.spoil13 {w : World} {B g c : Nat} {L : List Nd} (h : LentIn w B g c L) : Calls Tryz.prog 59 #[.slice (some ⟨g, 0, none⟩) L.length c] w fun e w' => e = .returned (.tuple #[]) ∧ Turn1 g w w' := by
  obtain ⟨cur, h1, h2⟩ := h.blk
  refine spoil_any g 0 c _ L.length (fun _ => rfl) cur 49 w (fun _ => ⟨h1, ?_⟩) (by have := h.nin.len; omega)
  have := h.cap
  rw [h2, Nat.zero_add]
  exact Nat.mul_le_mul_right _ (by omega)
theorem Turn1.below13 {b B : Nat} {w w' : World} (h : Turn1 b w w') (hb : B ≤ b) : Below B w w' := ⟨h.base.os, h.base.tape, h.base.output, h.base.size, fun k hk => h.other k (by omega)⟩
theorem nin_nil (w : World) : NIn w none 0 0 0 [] := ⟨fun e => absurd rfl e, fun e => absurd rfl e, fun j hj => by simp at hj, Nat.le_refl _, by simp⟩
structure T5 (w : World) (X Y : Nat) (W : World) : Prop where
  a : Cb W X Tt.zero.arr 57
  b : Cb W Y Tt.zero.arr 57
  below : Below w.heap.size w W
theorem T5.step {w W W' : World} {X Y : Nat} (h : T5 w X Y W) (hb : Below W.heap.size W W') : T5 w X Y W' := ⟨h.a.below hb, h.b.below hb, h.below.trans (hb.mono h.below.size)⟩
theorem T5.aggs {w W : World} {X Y : Nat} (h : T5 w X Y W) : agg? W X 0 9 = some Tt.zero.arr ∧ agg? W Y 0 9 = some Tt.zero.arr := ⟨h.a.agg 0 9 (by decide), h.b.agg 0 9 (by decide)⟩
theorem told_no (w : World) (v : Value) (h : ∀ W, Below w.heap.size w W → NoB W v) : Calls Tryz.prog 55 #[v, .pointer none] w fun e w' => e = .returned (.bool true) ∧ Below w.heap.size w w' := by
  have HS := Lib.hid fun W hb => state_no W v (h W hb)
  have HR := Lib.hid fun W hb => room_no W v (h W hb)
  have HQ := Lib.hid qstate_no
  have HQR := Lib.hid qroom_no
  have HSame := Lib.hid fun W => same_any none none 0 0 0 0 0 0 [] [] W (nin_nil W) (nin_nil W)
  clear h
  go_enter Tryz.func55, Tryz.ntmps55
  go_upto_region 3 with (first | (go_at_call 26; refine (HS.out _ (Below.refl _ _)).mono ?_; rintro e w2 ⟨rfl, h2⟩; rw [h2]; clear h2) | (go_at_call 75; refine (HQ.out _).mono ?_; rintro e w3 ⟨rfl, h3⟩; rw [h3]; clear h3))
  go_upto_region 4 with (go_at_call 28; refine (HR.out _ (Below.refl _ _)).mono ?_; rintro e w2 ⟨rfl, hb2⟩)
  have hX : Cb (w2.alloc (.cells Tt.zero.arr 57)) w2.heap.size Tt.zero.arr 57 := Cb.new _ _ _
  have hb3 : Below w.heap.size w (w2.alloc (.cells Tt.zero.arr 57)) := hb2.alloc hb2.size _
  clear hb2
  generalize w2.alloc (.cells Tt.zero.arr 57) = w3 at hX hb3 ⊢
  generalize w2.heap.size = X at hX ⊢
  go_upto_region 5 with (go_at_call 76; refine (HQR.out _).mono ?_; rintro e w4 ⟨rfl, hb4⟩)
  have hT : T5 w X w4.heap.size (w4.alloc (.cells Tt.zero.arr 57)) := ⟨(hX.below hb4).alloc _, Cb.new _ _ _, (hb3.trans (hb4.mono hb3.size)).alloc (Nat.le_trans hb3.size hb4.size) _⟩
  clear hX hb3 hb4 HS HR HQ HQR
  generalize w4.alloc (.cells Tt.zero.arr 57) = w5 at hT ⊢
  generalize w4.heap.size = Y at hT ⊢
  obtain ⟨a1, a2⟩ := hT.aggs
  have HT0 := Lib.hid hT
  go_wp2_with (first | (go_at_call 16; refine (HSame.out _).mono ?_; rintro e wz ⟨rfl, nz, rfl⟩; have hT := T5.step hT (below_drewN_refl _ _ nz); obtain ⟨a1, a2⟩ := hT.aggs) | (go_at_call 77; refine (apart_nils (B := w.heap.size) (by have := hT.below.size; simp at this ⊢; omega) ⟨_, heap_alloc_new _ _⟩).mono ?_; rintro e w8 ⟨rfl, hb8⟩))
  go_ret
  exact ⟨rfl, ((below_drewN HT0.out.below _).alloc HT0.out.below.size _).trans hb8⟩
theorem asks_no (w : World) (v : Value) (h : ∀ W, Below w.heap.size w W → NoB W v) (k : Int) (p : Option Addr) (b o c : Nat) (L : List Nd) (hN : NIn w p b o c L) : Calls Tryz.prog 27 #[v, .pointer none, .agg (Ox.mk k p L.length c).arr] w fun e w' => e = .returned (.bool true) ∧ Below w.heap.size w w' := by
  have HT := Lib.hid fun W (hb : Below w.heap.size w W) => told_no W v fun W' hb' => h W' (hb.trans (hb'.mono hb.size))
  have HF := Lib.hid fun W hb => flush_no W v (h W hb)
  have HP := Lib.hid fun W hb p => put_no W v p (h W hb)
  have HQF := Lib.hid qflush_no
  have HQP := Lib.hid qput_no
  have HS := Lib.hid same13_nil
  have HNum := Lib.hid num13
  have HN := Lib.hid hN
  have hlen := hN.len
  clear h hN
  have hb1 : Below w.heap.size w (w.alloc (.cells (Ox.mk k p L.length c).arr 74)) := (Below.refl _ _).alloc (Nat.le_refl _) _
  have hO : Cb (w.alloc (.cells (Ox.mk k p L.length c).arr 74)) w.heap.size (Ox.mk k p L.length c).arr 74 := Cb.new _ _ _
  go_enter Tryz.func27, Tryz.ntmps27
  go_upto_region 1 with (fail)
  generalize w.alloc (.cells (Ox.mk k p L.length c).arr 74) = w1 at hb1 hO ⊢
  have y0 := hO.cell 0 _ (Ox.get0 _)
  have y1 := hO.cell 1 _ (Ox.get1 _)
  obtain ⟨Z, hZ⟩ : ∃ Z, w.heap.size = Z := ⟨_, rfl⟩
  rw [hZ] at hO y0 y1
  simp only [hZ]
  have HO := Lib.hid hO
  have Hb1 := Lib.hid hb1
  clear hO hb1 hZ
  cases hk : (k == 1)
  · have HL := Lib.hid (lent_any p b o c L w1 (HN.out.below Hb1.out))
    go_upto_region 6 with (go_at_call 56; refine HL.out.mono ?_; clear HL; rintro e w2 ⟨⟨x, cx, rfl, hcx, hown⟩, hb2⟩)
    have hX := lentIn_of hown hlen
    have hbw := Hb1.out.trans (hb2.mono Hb1.out.size)
    have y1' : w2.cell? ⟨Z, 1, none⟩ = some (.slice p L.length c) := (World.cell?_of_block (hb2.block Z HO.out.lt)).trans y1
    have HX := Lib.hid hX
    have Hbw := Lib.hid hbw
    have HSt := Lib.hid (hX.stays (HN.out.below hbw))
    clear hown hX hbw y0 y1
    go_upto_region 10 with (first
      | (go_at_call 14; refine (HP.out _ Hbw.out _).mono ?_; rintro e wf ⟨rfl, hf⟩; rw [hf]; clear hf)
      | (go_at_call 57; refine (HQP.out _ _).mono ?_; rintro e wf ⟨rfl, hf⟩; rw [hf]; clear hf)
      | (go_at_call 11; refine (HNum.out _ _).mono ?_; rintro e wf ⟨rfl, hf⟩; rw [hf]; clear hf)
      | (go_at_call 58; refine HSt.out.mono ?_; rintro e w3 ⟨rfl, hb3⟩))
    have HSp := Lib.hid ((HX.out.below hb3).spoil13)
    have hge : w.heap.size ≤ x := Nat.le_trans Hb1.out.size HX.out.ge
    have Hb3 := Lib.hid (Hbw.out.trans (hb3.mono Hbw.out.size))
    clear hb3 HSt
    go_upto_region 11 with (go_at_call 59; refine HSp.out.mono ?_; clear HSp; rintro e w4 ⟨rfl, ht4⟩)
    have Hb4 := Lib.hid (Hb3.out.trans (ht4.below13 hge))
    clear ht4
    go_wp2_with (first
      | (go_at_call 54; refine (HS.out _).mono ?_; rintro e wf ⟨rfl, hf⟩; rw [hf]; clear hf)
      | (go_at_call 55; refine (HT.out _ Hb4.out).mono ?_; rintro e w9 ⟨rfl, hb9⟩))
    go_ret
    exact ⟨rfl, Hb4.out.trans (hb9.mono Hb4.out.size)⟩
  · go_wp2_with (first
      | (go_at_call 24; refine (HF.out _ Hb1.out).mono ?_; rintro e wf ⟨rfl, hf⟩; rw [hf]; clear hf)
      | (go_at_call 53; refine (HQF.out _).mono ?_; rintro e wf ⟨rfl, hf⟩; rw [hf]; clear hf)
      | (go_at_call 54; refine (HS.out _).mono ?_; rintro e wf ⟨rfl, hf⟩; rw [hf]; clear hf)
      | (go_at_call 11; refine (HNum.out _ _).mono ?_; rintro e wf ⟨rfl, hf⟩; rw [hf]; clear hf)
      | (go_at_call 55; refine (HT.out _ Hb1.out).mono ?_; rintro e w9 ⟨rfl, hb9⟩))
    go_ret
    exact ⟨rfl, Hb1.out.trans (hb9.mono Hb1.out.size)⟩
structure OpD where
  kind : Int
  p : Option Addr
  b : Nat
  o : Nat
  c : Nat
  L : List Nd
def OpD.ox (x : OpD) : Ox := ⟨x.kind, x.p, x.L.length, x.c⟩
structure OpsIn (w : World) (p : Option Addr) (n cap : Nat) (Os : List OpD) : Prop where
  len : n = Os.length
  ex : Os ≠ [] → ∃ q o, p = some ⟨q, o, none⟩ ∧ q < w.heap.size ∧ ∀ j (h : j < Os.length), agg? w q (o + j * 2) 2 = some Os[j].ox.arr
  nodes : ∀ x ∈ Os, NIn w x.p x.b x.o x.c x.L
  small : n ≤ 9223372036854775807
theorem OpsIn.below {w w' : World} {p : Option Addr} {n cap : Nat} {Os : List OpD} (h : OpsIn w p n cap Os) (hb : Below w.heap.size w w') : OpsIn w' p n cap Os := by
  refine ⟨h.len, fun hne => ?_, fun x hx => (h.nodes x hx).below hb, h.small⟩
  obtain ⟨q, o, e, hq, ha⟩ := h.ex hne
  exact ⟨q, o, e, Nat.lt_of_lt_of_le hq hb.size, fun j hj => (agg?_block (hb.block q hq)).trans (ha j hj)⟩
@[go_sem] theorem run_bdBd0 (w : World) : (bdBd #[]).run Tryz.prog w = .ok (.agg (newA (Gp.mk 0 0 ⟨0, 0, 0, 0, 0⟩ none 0 0))) w := by kernel_rfl
theorem nil13_walk (p : Option Addr) (n cap : Nat) (Os : List OpD) (w : World) (h : OpsIn w p n cap Os) : Calls Tryz.prog 7 #[.slice p n cap] w fun e w' => e = .returned (.bool true) ∧ Below w.heap.size w w' := by
  have H := Lib.hid h
  have HK := Lib.hid knows13
  have hn := Lib.hid h.len
  have hs := h.small
  clear h
  go_enter Tryz.func7, Tryz.ntmps7
  go_upto_region 3 with (fail)
  have hB := Cb.new w (newA (Gp.mk 0 0 ⟨0, 0, 0, 0, 0⟩ none 0 0)) 71
  have hb1 : Below w.heap.size w (w.alloc (.cells (newA (Gp.mk 0 0 ⟨0, 0, 0, 0, 0⟩ none 0 0)) 71)) := (Below.refl _ _).alloc (Nat.le_refl _) _
  generalize w.alloc (.cells (newA (Gp.mk 0 0 ⟨0, 0, 0, 0, 0⟩ none 0 0)) 71) = w1 at hB hb1 ⊢
  obtain ⟨B, hBz⟩ : ∃ B, w.heap.size = B := ⟨_, rfl⟩
  rw [hBz] at hB
  simp only [hBz]
  clear hBz
  have HNB : Hid (∀ W, Below w1.heap.size w1 W → NoB W (.pointer (some ⟨B, 0, none⟩))) := Lib.hid fun W hb => .inr ⟨B, rfl, (hB.below hb).cell 8 _ rfl⟩
  have Hb1 := Lib.hid hb1
  clear hB hb1
  go_wp2_with fail
  go_loopg [5] (n + 1) (fun gg t5 wr => ∃ i : Nat, gg = n + 1 - i ∧ i ≤ n ∧ t5 = .int .i64 i ∧ Below w1.heap.size w1 wr)
  case atStart => exact ⟨0, rfl, Nat.zero_le _, rfl, Below.refl _ _⟩
  case round =>
    obtain ⟨i, rfl, hi, rfl, hbr⟩ := hrel
    have Hbr := Lib.hid hbr
    have hi0 : (0 : Int) ≤ (i : Int) := by omega
    by_cases hlt : i < n
    · have hi1 : (i : Int) < (n : Int) := by omega
      have hbw := Hb1.out.trans (hbr.mono Hb1.out.size)
      have hI := H.out.below hbw
      obtain ⟨x, hx⟩ : ∃ x, Os[i]? = some x := ⟨_, List.getElem?_eq_getElem (by rw [← hn.out]; exact hlt)⟩
      obtain ⟨hil, hxe⟩ := List.getElem?_eq_some_iff.1 hx
      have hne : Os ≠ [] := fun e => by rw [e] at hx; cases hx
      obtain ⟨q, o, rfl, hq, ha⟩ := hI.ex hne
      have ax := ha i hil
      rw [hxe] at ax
      have hxm : x ∈ Os := List.mem_of_getElem? hx
      have HA := Lib.hid fun W (hb : Below wr.heap.size wr W) => asks_no W (.pointer none) (fun _ _ => .inl rfl) x.kind x.p x.b x.o x.c x.L ((hI.nodes x hxm).below hb)
      have HB := Lib.hid fun W (hb : Below wr.heap.size wr W) => asks_no W (.pointer (some ⟨B, 0, none⟩)) (fun W' hb' => HNB.out W' ((Hbr.out.trans (hb.mono Hbr.out.size)).trans (hb'.mono (Nat.le_trans Hbr.out.size hb.size)))) x.kind x.p x.b x.o x.c x.L ((hI.nodes x hxm).below hb)
      have HAx : Hid (∀ W, Below wr.heap.size wr W → agg? W q (o + i * 2) 2 = some x.ox.arr) := Lib.hid fun W hb => (agg?_block (hb.block q hq)).trans ax
      clear ha hI hx hxe hne hbw hxm hbr
      go_wp2_with (first
        | (go_at_call_has 27 (Value.pointer (some ⟨B, 0, none⟩)); refine (HB.out _ hb3).mono ?_; rintro e w4 ⟨rfl, hb4⟩)
        | (go_at_call 27; refine (HA.out _ (Below.refl _ _)).mono ?_; rintro e w3 ⟨rfl, hb3⟩; have ax := HAx.out _ hb3))
      go_roundg (n + 1 - (i + 1))
      case measure => omega
      case rel => exact ⟨i + 1, rfl, by omega, by go_num, Hbr.out.trans ((hb3.trans (hb4.mono hb3.size)).mono Hbr.out.size)⟩
    · have hi1 : ¬ (i : Int) < (n : Int) := by omega
      have hd : decide ((i : Int) < (n : Int)) = false := decide_eq_false hi1
      go_wp2_with (go_at_call 13; refine (HK.out _).mono ?_; rintro e w5 ⟨rfl, hb5⟩)
      go_ret
      exact ⟨rfl, (Hb1.out.trans (Hbr.out.mono Hb1.out.size)).trans (hb5.mono (Nat.le_trans Hb1.out.size Hbr.out.size))⟩
end Go.Proofs.YtomehdepjenilaaGreat
