/-
  Inserts: the errors of an account, but for numbers: the program's.
-/
import Derived.Test.YtaehkbbdmamfpaaGreatDoorL6
import Derived.Test.YtaehkbbdmamfpaaGreatDoorI3
import Derived.Test.YtaehkbbdmamfpaaGreatDoorI4
namespace Go.Proofs.YtaehkbbdmamfpaaGreatDoor
open Go.ChangeShapes Go.WideShapes Go.ChangeAt Go.RowKit
attribute [local go_sem ↓] Go.wp_at_zero Go.wp_at_succ
theorem insE_skip {L : List Nd} {x : Nat} {r : List Nat} (h : (nth L x).kind ≠ 13) : insE L (x :: r) = insE L r := by rw [insE, if_neg h]
theorem insE_bad {L : List Nd} {x : Nat} {r : List Nat} (h : (nth L x).kind = 13) (h2 : colQ (insP L x) ≠ 0) : insE L (x :: r) = colQ (insP L x) := by rw [insE, if_pos h, if_neg h2]
theorem insE_good {L : List Nd} {x : Nat} {r : List Nat} (h : (nth L x).kind = 13) (h2 : colQ (insP L x) = 0) : insE L (x :: r) = insE L r := by rw [insE, if_pos h, if_pos h2]
set_option maxRecDepth 100000 in
set_option maxHeartbeats 4000000 in
theorem icheck (p0 : Option Addr) (b off cap : Nat) (L : List Nd) (pc : Option Addr) (bc oc cc : Nat) (C : List Cl) (w : World) (hN : NIn w p0 b off cap L) (hC : CIn w pc bc oc cc C) :
    Calls Tryz.prog 28 #[.slice p0 L.length cap, .slice pc C.length cc] w fun e w' => e = .returned (.int .i64 (accE L C)) ∧ Below w.heap.size w w' := by
  have HC := Lib.hid (icheckC pc bc oc cc C w hC)
  have H := Lib.hid hN
  have HL : Hid (∀ W, Below w.heap.size w W → Calls Tryz.prog 55 #[.slice p0 L.length cap] W (LegPost W L (itsP L))) := Lib.hid fun W hb => vlegal p0 b off cap L _ its_of W (H.out.below hb)
  have hl := hN.len
  clear hN hC
  obtain ⟨E1, hE1⟩ : ∃ E1, clsC C = E1 := ⟨_, rfl⟩
  rw [hE1] at HC
  by_cases h1 : E1 = 0
  case neg =>
    have hv := Lib.hid (show accE L C = E1 by unfold accE; rw [if_neg (by rw [hE1]; exact h1), hE1])
    have h1' : (E1 != 0) = true := by simpa using h1
    clear hE1 h1
    go_enter Tryz.func28, Tryz.ntmps28
    go_wp2_with (go_at_call 54; refine HC.out.mono ?_; rintro e w2 ⟨rfl, hb2⟩)
    go_ret
    exact ⟨ret_i1 hv.out.symm, hb2⟩
  subst h1
  have hA : accE L C = if colQ L = 0 then insE L (itsP L) else colQ L := by unfold accE; rw [if_pos hE1]
  have hcq : colP L (itsP L) = colQ L := rfl
  obtain ⟨E2, hE2⟩ : ∃ E2, colQ L = E2 := ⟨_, rfl⟩
  rw [hE2] at hA hcq
  by_cases h2 : E2 = 0
  case neg =>
    have hv := Lib.hid (show accE L C = E2 by rw [hA, if_neg h2])
    have h2' : (E2 != 0) = true := by simpa using h2
    have Hcq := Lib.hid hcq
    clear hA h2 hE1 hE2 hcq
    go_enter Tryz.func28, Tryz.ntmps28
    go_wp2_with (first | (go_at_call 54; refine HC.out.mono ?_; rintro e w2 ⟨rfl, hb2⟩) | (go_at_call 55; refine (HL.out _ hb2).mono ?_; rintro e w3 hp; obtain ⟨v, u, rfl, hv2, hu2, -⟩ := hp.ex; (have hb3 := hp.below); (obtain ⟨pv, kv, cv, rfl⟩ := owns_sl hv2); (obtain ⟨pu, ku, cu, rfl⟩ := owns_sl hu2); clear hp hv2 hu2; rw [Hcq.out]))
    go_ret
    exact ⟨ret_i1 hv.out.symm, hb2.trans (hb3.mono hb2.size)⟩
  subst h2
  have hck := colQ_check hE2
  have hs := its_of hck
  have hll := (checkC_zero hck).1
  rw [if_pos rfl] at hA
  have HA := Lib.hid hA
  have Hck := Lib.hid hck
  have Hs := Lib.hid hs
  have Hcq := Lib.hid hcq
  obtain ⟨s, hss⟩ : ∃ s, itsP L = s := ⟨_, rfl⟩
  rw [hss] at Hs HA
  clear hA hck hs hcq hE1 hE2 hss
  go_enter Tryz.func28, Tryz.ntmps28
  go_upto_region 7 with (first | (go_at_call 54; refine HC.out.mono ?_; clear HC; rintro e w2 ⟨rfl, hb2⟩) | (go_at_call 55; refine (HL.out _ hb2).mono ?_; clear HL; rintro e w3 hp; obtain ⟨v, u, rfl, hv2, hu2, -⟩ := hp.ex; (have hb3 := hp.below); (obtain ⟨pv, kv, cv, rfl⟩ := owns_sl hv2); (obtain ⟨pu, ku, cu, rfl⟩ := owns_sl hu2); clear hp hv2 hu2; rw [Hcq.out]))
  have HB := Lib.hid (hb2.trans (hb3.mono hb2.size))
  clear hb2 hb3 Hcq
  go_wp2_with fail
  go_loopg [9] (s.length + 1) (fun gg t9 wr => ∃ (pos : Nat) (d r : List Nat), gg = r.length + 1 ∧ t9 = .int .i64 pos ∧ s = d ++ r ∧ Items L pos r ∧ insE L s = insE L r ∧ Below w.heap.size w wr)
  case atStart => exact ⟨0, [], s, rfl, rfl, rfl, Hs.out, rfl, HB.out⟩
  case round =>
    clear HB
    obtain ⟨pos, d, r, rfl, rfl, hsd, hit, hie, hb⟩ := hrel
    have hp1 : (0 : Int) ≤ (pos : Int) := by omega
    cases hit with
    | done =>
      have hv := Lib.hid (show accE L C = 0 by rw [HA.out, hie]; rfl)
      clear hsd hie
      go_wp2_with fail
      go_ret
      exact ⟨ret_i1 hv.out.symm, hb⟩
    | @step _ m r hi hm hit2 =>
      have hmem : pos ∈ s := by rw [hsd]; simp
      have hp2 : (pos : Int) < (L.length : Int) := by omega
      have hN := H.out.below hb
      have xa : wr.cell? ⟨b, off + pos * 19, none⟩ = some (.int .i64 (nth L pos).kind) := agg_cell (hN.nth hi) 0 _ rfl
      obtain rfl := hN.at_ hi
      have Hsd := Lib.hid hsd
      have HIt := Lib.hid hit2
      have Hb := Lib.hid hb
      have HItem : Hid (∀ W, Below w.heap.size w W → Calls Tryz.prog 30 #[.slice (some ⟨b, off, none⟩) L.length cap, .int .i64 pos] W fun e w' => e = .returned (.tuple #[.int .i64 ((pos + m : Nat) : Int), .int .i64 0]) ∧ Below W.heap.size W w') := Lib.hid fun W hw => item9 _ b off cap L s Hck.out Hs.out pos m hmem hm W (H.out.below hw)
      by_cases hk : (nth L pos).kind = 13
      case neg =>
        have hk' : ((nth L pos).kind == 13) = false := by simpa using hk
        have Hie := Lib.hid (hie.trans (insE_skip hk))
        generalize (nth L pos).kind = kk at xa hk'
        clear hsd hit2 hb hmem hm hN hie hk
        go_wp2_with (go_at_call 30; refine (HItem.out _ Hb.out).mono ?_; rintro e w4 ⟨rfl, hb4⟩)
        go_roundg (r.length + 1)
        case measure => simp only [List.length_cons]; omega
        case rel => exact ⟨pos + m, d ++ [pos], r, rfl, by go_num, by rw [Hsd.out]; simp, HIt.out, Hie.out, Hb.out.trans (hb4.mono Hb.out.size)⟩
      have HIn := Lib.hid (inside9 (some ⟨b, off, none⟩) b off cap L s Hck.out Hs.out pos hmem hk wr hN)
      have hXl := insP_le (L := L) pos
      have HieG := Lib.hid (fun h => hie.trans (insE_good (r := r) hk h))
      have HieB := Lib.hid (fun h => hie.trans (insE_bad (r := r) hk h))
      rw [hk] at xa
      obtain ⟨X, hX⟩ : ∃ X, insP L pos = X := ⟨_, rfl⟩
      rw [hX] at HIn HieG HieB hXl
      clear hsd hit2 hb hmem hm hN hie hk hX
      have hcX : colP X (itsP X) = colQ X := rfl
      obtain ⟨E3, hE3⟩ : ∃ E3, colQ X = E3 := ⟨_, rfl⟩
      rw [hE3] at hcX HieG HieB
      have HcX := Lib.hid hcX
      clear hcX hE3
      go_upto_region 11 with (go_at_call 56; refine HIn.out.mono ?_; clear HIn; rintro e w4 ⟨⟨v, rfl, hv4⟩, hb4⟩; obtain ⟨_, p4, g4, c4, rfl, hN4, _⟩ := row_nodes hv4 (by omega))
      have HLX := Lib.hid (vlegal p4 g4 0 c4 X _ its_of w4 hN4)
      have Hb4 := Lib.hid (Hb.out.trans (hb4.mono Hb.out.size))
      clear hv4 hN4 hb4 Hb
      by_cases h3 : E3 = 0
      · subst h3
        go_wp2_with (first | (go_at_call 55; refine HLX.out.mono ?_; clear HLX; rintro e w5 hp; obtain ⟨v, u, rfl, hv2, hu2, -⟩ := hp.ex; (have hb5 := Hb4.out.trans (hp.below.mono Hb4.out.size)); (obtain ⟨pv, kv, cv, rfl⟩ := owns_sl hv2); (obtain ⟨pu, ku, cu, rfl⟩ := owns_sl hu2); clear hp hv2 hu2; rw [HcX.out]) | (go_at_call 30; refine (HItem.out _ hb5).mono ?_; rintro e w6 ⟨rfl, hb6⟩))
        go_roundg (r.length + 1)
        case measure => simp only [List.length_cons]; omega
        case rel => exact ⟨pos + m, d ++ [pos], r, rfl, by go_num, by rw [Hsd.out]; simp, HIt.out, HieG.out trivial, hb5.trans (hb6.mono hb5.size)⟩
      · have h3' : (E3 != 0) = true := by simpa using h3
        have hv := Lib.hid (show accE L C = E3 by rw [HA.out]; exact HieB.out h3)
        clear h3
        go_wp2_with (go_at_call 55; refine HLX.out.mono ?_; clear HLX; rintro e w5 hp; obtain ⟨v, u, rfl, hv2, hu2, -⟩ := hp.ex; (have hb5 := Hb4.out.trans (hp.below.mono Hb4.out.size)); (obtain ⟨pv, kv, cv, rfl⟩ := owns_sl hv2); (obtain ⟨pu, ku, cu, rfl⟩ := owns_sl hu2); clear hp hv2 hu2; rw [HcX.out])
        go_ret
        exact ⟨ret_i1 hv.out.symm, hb5⟩
end Go.Proofs.YtaehkbbdmamfpaaGreatDoor
