/-
  Layer 20: the law MathlChecks: what it computes: true, of any signs.
-/
import Derived.Test.YtkkdopfdoommnaaR14
import Derived.Test.YtkkdopfdoommnaaM16
namespace Go.Proofs.Ytkkdopfdoommnaa
open Go.ChangeShapes Go.WideShapes Go.ChangeAt Go.RowKit
attribute [local go_sem ↓] Go.wp_at_zero Go.wp_at_succ

theorem SignsIn.below {w w' : World} {p : Option Addr} {b cap : Nat} {L : List Sn} (h : SignsIn w p b cap L) (hb : Below w.heap.size w w') : SignsIn w' p b cap L :=
  ⟨h.hp, fun e => Nat.lt_of_lt_of_le (h.hb e) hb.size, fun j hj => ((bfacts hb).2.2.1 _ _ _ (h.hb (by intro e; rw [e] at hj; simp at hj))).trans (h.sg j hj), h.cap'⟩
theorem IntsIn.below {w w' : World} {p : Option Addr} {b cap : Nat} {l : List Int} (h : IntsIn w p b cap l) (hb : Below w.heap.size w w') : IntsIn w' p b cap l :=
  ⟨h.hp, fun j hj => (hb.cell (p := ⟨b, j, none⟩) (World.block_lt_of_cell? w ⟨b, j, none⟩ (h.at_ j hj))).trans (h.at_ j hj), h.cap'⟩
theorem SignsIn.drewN {w : World} {p : Option Addr} {b cap : Nat} {L : List Sn} (h : SignsIn w p b cap L) (n : Nat) : SignsIn (w.drewN n) p b cap L := ⟨h.hp, h.hb, h.sg, h.cap'⟩
theorem same_same (p q : Option Addr) (b1 c1 b2 c2 : Nat) (l : List Int) (w : World) (h1 : IntsIn w p b1 c1 l) (h2 : IntsIn w q b2 c2 l) (hm : l.length ≤ 9223372036854775806) :
    Calls Try.prog 27 #[.slice p l.length c1, .slice q l.length c2] w fun e w' => e = .returned (.bool true) ∧ ∃ n, w' = w.drewN n :=
  (sameInts_any p q b1 c1 b2 c2 l l w h1 h2 hm hm).mono fun _ _ ⟨a, b⟩ => ⟨a.trans (ret_bool (by simp)), b⟩
theorem ownsRow_below {w w' : World} {base : Nat} {e : TypeId} {size : Nat} {v : Value} {n : Nat} {xs : List Value} (h : w.ownsRow base e size v n xs) (hb : Below w.heap.size w w') : w'.ownsRow base e size v n xs :=
  ownsRow_same h fun g _ hlt => hb.block g hlt
/-- the program's and the document's classes, as two slices -/
theorem class_pair {w1 w2 w3 : World} {L : List Sn} {e1 e2 : Ending} (h1 : ClassPost w1 L e1 w2) (h2 : ClassPost w2 L e2 w3) :
    ∃ (l : List Int) (p q : Option Addr) (b1 c1 b2 c2 : Nat), e1 = .returned (.tuple #[.slice p l.length c1, .int .i64 (readCode L)]) ∧ e2 = .returned (.tuple #[.slice q l.length c2, .int .i64 (readCode L)]) ∧
      l.length ≤ 9223372036854775806 ∧ IntsIn w3 p b1 c1 l ∧ IntsIn w3 q b2 c2 l := by
  obtain ⟨v1, rfl, z1, y1⟩ := h1.ex
  obtain ⟨v2, rfl, z2, y2⟩ := h2.ex
  by_cases hc : readCode L = 0
  · obtain ⟨ks, hks, r1⟩ := y1 hc
    obtain ⟨ks2, hks2, r2⟩ := y2 hc
    obtain rfl : ks = ks2 := by rw [hks] at hks2; exact Option.some.inj hks2
    have hm : (classesP ks).length ≤ 9223372036854775806 := by
      obtain ⟨_, ks3, hks3, hl3, hk3⟩ := code_small hc
      obtain rfl : ks = ks3 := by rw [hks] at hks3; exact Option.some.inj hks3
      rw [classes_passes (fun k hk => classI_lo (hk3 k hk)), pass2_len, pass1_len]
      have := List.length_filter_le (fun x : Int => decide (0 < x)) (ks.map classI)
      rw [List.length_map] at this
      omega
    obtain ⟨p, b1, c1, rfl, i1⟩ := ints_of_row (ownsRow_below r1 h2.below)
    obtain ⟨q, b2, c2, rfl, i2⟩ := ints_of_row r2
    exact ⟨classesP ks, p, q, b1, c1, b2, c2, rfl, rfl, hm, i1, i2⟩
  · refine ⟨[], none, none, 0, 0, 0, 0, by rw [z1 hc]; rfl, by rw [z2 hc]; rfl, by simp, ⟨fun e => absurd rfl e, fun j hj => by simp at hj, Nat.le_refl _⟩, ⟨fun e => absurd rfl e, fun j hj => by simp at hj, Nat.le_refl _⟩⟩
def LiveE : Prop := ∀ w : World, Calls Try.prog 20 #[] w fun e w' => e = .returned (.bool true) ∧ Below w.heap.size w w'
theorem liveE : LiveE := live_any
set_option maxRecDepth 100000 in
set_option maxHeartbeats 8000000 in
theorem checks_walk (p : Option Addr) (b off cap : Nat) (L : List Sn) (w : World) (h : RSigns w p b off cap L) :
    Calls Try.prog 7 #[.slice p L.length cap] w fun e w' => e = .returned (.bool true) ∧ Below w.heap.size w w' := by
  have HS := Lib.hid (signs_any p b off cap L w h)
  have hl63 : L.length ≤ 9223372036854775807 := by have := h.len; omega
  have HL := liveE
  go_enter Try.func7, Try.ntmps7
  go_wp2_with fail
  refine HS.out.mono ?_
  clear HS
  rintro e w1 ⟨v, rfl, hrow, hb1⟩
  obtain ⟨p2, g, cap2, rfl, hS⟩ := signs_seen hrow
  have HC := Lib.hid (classes_any fmla_ok p2 g cap2 L hl63 w1 hS)
  clear hrow
  go_wp2_with fail
  refine HC.out.mono ?_
  clear HC
  rintro e w2 hC2
  obtain ⟨v2, he2, _, _⟩ := id hC2.ex
  have hb2 := hC2.below
  have hR2 := h.below (hb1.trans (hb2.mono hb1.size))
  have HC2 := Lib.hid hC2
  clear hC2
  subst he2
  have HC := Lib.hid (rclasses_any p b off cap L w2 hR2)
  clear h
  go_wp2_with fail
  refine HC.out.mono ?_
  clear HC
  rintro e w3 hC3
  obtain ⟨l, pa, pb, b1, c1, b2, c2, e1, e2, hm, i1, i2⟩ := class_pair HC2.out hC3
  have hb3 := hC3.below
  clear hC3 HC2
  obtain rfl : v2 = .slice pa l.length c1 := by injection e1 with e1; injection e1 with e1; simpa using e1
  subst e2
  clear e1
  have hR3 := hR2.below hb3
  have hS3 := (hS.below hb2).below hb3
  have hb13 := (hb1.trans (hb2.mono hb1.size)).trans (hb3.mono (Nat.le_trans hb1.size hb2.size))
  clear hR2 hS hb1 hb2 hb3
  have HK := Lib.hid (mcheck_any p2 g cap2 L hl63 w3 hS3)
  go_wp2_with fail
  refine HK.out.mono ?_
  clear HK
  rintro e w4 ⟨rfl, hb4⟩
  have HK := Lib.hid (rcheck_any p b off cap L w4 (hR3.below hb4))
  go_wp2_with (go_at_call 23; refine (num_any _ _).mono ?_; rintro e w' ⟨rfl, rfl⟩)
  refine HK.out.mono ?_
  clear HK
  rintro e w5 ⟨rfl, hb5⟩
  have hb35 := hb4.trans (hb5.mono hb4.size)
  have HK := Lib.hid (same_same pa pb b1 c1 b2 c2 l w5 (i1.below hb35) (i2.below hb35) hm)
  clear hb4 hb5 i1 i2
  go_wp2_with fail
  refine HK.out.mono ?_
  clear HK
  rintro e w6 ⟨rfl, n6, rfl⟩
  have hb56 : Below w5.heap.size w5 (w5.drewN n6) := ⟨rfl, rfl, rfl, Nat.le_refl _, fun _ _ => rfl⟩
  have hb36 := hb35.trans (hb56.mono hb35.size)
  have HK := Lib.hid (signs_any p b off cap L _ (hR3.below hb36))
  clear hb56 hb35
  generalize w5.drewN n6 = w6 at hb36 HK ⊢
  go_wp2_with (go_at_call 23; refine (num_any _ _).mono ?_; rintro e w' ⟨rfl, rfl⟩)
  refine HK.out.mono ?_
  clear HK
  rintro e w7 ⟨v, rfl, hrow7, hb7⟩
  obtain ⟨p7, g7, cap7, rfl, hS7⟩ := signs_seen hrow7
  have hb37 := hb36.trans (hb7.mono hb36.size)
  have hS37 := hS3.below hb37
  have hbw : Below w.heap.size w w7 := hb13.trans (hb37.mono hb13.size)
  have k1 := hS7.cap'
  have k2 := hS37.cap'
  have HA := Lib.hid hS7
  have HB := Lib.hid hS37
  clear hrow7 hS7 hS3 hS37 hb36 hb37 hb7 hb13 hR3
  go_wp2_with fail
  go_loopg [9] (L.length + 1) (fun g t wr => ∃ k m : Nat, g = L.length + 1 - k ∧ k ≤ L.length ∧ t = .int .i64 k ∧ wr = w7.drewN m)
  case atStart => exact ⟨0, 0, rfl, Nat.zero_le _, rfl, rfl⟩
  case round =>
    obtain ⟨k, m, rfl, hk, rfl, rfl⟩ := hrel
    have hk1 : (0 : Int) ≤ (k : Int) := by omega
    by_cases hlt : k < L.length
    · have hk2 : (k : Int) < (L.length : Int) := by omega
      have x1 : agg? w7 g (k * 9) 9 = some L[k].arr := HB.out.sg k hlt
      have x2 : agg? w7 g7 (k * 9) 9 = some L[k].arr := HA.out.sg k hlt
      obtain rfl := HB.out.hp (by intro e; rw [e] at hlt; simp at hlt)
      obtain rfl := HA.out.hp (by intro e; rw [e] at hlt; simp at hlt)
      generalize L[k] = s at x1 x2
      have hes : eqSn s s = true := eqSn_self s
      go_wp2_with fail
      go_quiet (fail)
      go_wp2_with fail
      go_roundg (L.length + 1 - (k + 1))
      case measure => omega
      case rel => exact ⟨k + 1, _, rfl, hlt, by go_num, rfl⟩
    · have hk2 : (L.length : Int) ≤ (k : Int) := by omega
      have hbm : Below w.heap.size w (w7.drewN m) := hbw.trans ⟨rfl, rfl, rfl, Nat.le_refl _, fun _ _ => rfl⟩
      go_wp2_with (go_at_call 20; refine (HL _).mono ?_; rintro e w8 ⟨rfl, hb8⟩)
      go_ret
      exact ⟨rfl, hbm.trans (hb8.mono hbm.size)⟩
end Go.Proofs.Ytkkdopfdoommnaa
