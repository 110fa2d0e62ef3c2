/-
  The laws' own functions over lists of whole numbers: ApartInts: of lists that lie apart it is true.
-/
import Derived.Test.YtkkdopfdoommnaaK10
namespace Go.Proofs.Ytkkdopfdoommnaa
open Go.ChangeShapes Go.WideShapes Go.ChangeAt Go.RowKit Go.Shelf
theorem info_ints : (Try.prog.info? 37).map (fun i => (i.zero, i.size, i.bytes)) = some (some (.slice none 0 0), 1, 24) := by kernel_rfl
set_option maxRecDepth 100000 in
set_option maxHeartbeats 4000000 in
theorem apartInts_any (B Bf Y N : Nat) (v : Nat → Value) (n : Nat → Nat) (Ms : Nat → List Int) (w : World) (ha : Aparts w B Bf Y N v n) (h : ZTold w B Bf N v n Ms w) :
    Calls Try.prog 41 #[.slice (some ⟨Y, 0, none⟩) N N] w fun e w' => e = .returned (.bool true) ∧ Below B w w' := by
  have hN := ha.hN
  have HA := Lib.hid ha
  have H0 := Lib.hid (show InZ w B Bf N v n 0 0 w from ⟨Ms, h, fun j hj => by omega, fun j hj => by omega⟩)
  clear ha h
  go_enter Try.func41, Try.ntmps41
  go_wp2_with fail
  go_loopg [4, 5] (N + 1) (fun gg t4 t5 wr => ∃ i : Nat, gg = N + 1 - i ∧ i ≤ N ∧ t4 = .int .i64 i ∧ InZ w B Bf N v n i 0 wr)
  case atStart => exact ⟨0, rfl, Nat.zero_le _, rfl, H0.out⟩
  case round =>
    obtain ⟨i, rfl, hi, rfl, hr⟩ := hrel
    have hi1 : (0 : Int) ≤ (i : Int) := by omega
    by_cases hlt : i < N
    · have hi2 : (i : Int) < (N : Int) := by omega
      obtain ⟨p, c, hv⟩ := hr.form hlt
      have hc := hr.list HA.out hlt
      rw [hv] at hc
      have hni := HA.out.hn i hlt
      have HR := Lib.hid hr
      have HV := Lib.hid hv
      have hw1 : IntKind.i64.wrap (1000 + (i : Int)) = 1000 + (i : Int) := Go.IntWalk.i64_in _ (by omega)
      clear hr hv
      go_wp2_with fail
      obtain ⟨wo, rfl⟩ : ∃ wo : World, wo = wr := ⟨_, rfl⟩
      go_loopg [5] (n i + 1) (fun gg t5 wr => ∃ k : Nat, gg = n i + 1 - k ∧ k ≤ n i ∧ t5 = .int .i64 k ∧ InZ w B Bf N v n i k wr)
      case atStart => exact ⟨0, rfl, Nat.zero_le _, rfl, HR.out⟩
      case round =>
        obtain ⟨k, rfl, hk, rfl, hr⟩ := hrel
        have hk1 : (0 : Int) ≤ (k : Int) := by omega
        have hcr := hr.list HA.out hlt
        rw [HV.out] at hcr
        by_cases hlk : k < n i
        · have hk2 : (k : Int) < (n i : Int) := by omega
          obtain ⟨g, c', hv2, hcap⟩ := hr.at_ hlt (by omega)
          have he := HV.out.symm.trans hv2
          simp only [Value.slice.injEq] at he
          obtain ⟨rfl, _, rfl⟩ := he
          obtain ⟨h4, h5, h6⟩ := hr.set HA.out hlt hv2 hlk
          obtain ⟨y5, h5⟩ := Option.isSome_iff_exists.1 h5
          have H4 := Lib.hid h4
          clear hr hv2 h4
          go_wp2_with fail
          go_roundg (n i + 1 - (k + 1))
          case measure => omega
          case rel => exact ⟨k + 1, rfl, hlk, by go_num, H4.out⟩
        · have hk2 : (n i : Int) ≤ (k : Int) := by omega
          obtain rfl : k = n i := by omega
          have H4 := Lib.hid (hr.next hlt)
          clear hr
          go_wp2_with fail
          go_roundg (N + 1 - (i + 1))
          case measure => omega
          case rel => exact ⟨i + 1, rfl, hlt, by go_num, H4.out⟩
    · have hi2 : (N : Int) ≤ (i : Int) := by omega
      obtain rfl : N = i := by omega
      have HT := Lib.hid hr.all
      clear hr hi hlt hi1 hi2 H0
      go_wp2_with fail
      obtain ⟨w2, rfl⟩ : ∃ w2 : World, w2 = wr := ⟨_, rfl⟩
      obtain ⟨i0, hi0', hz0, hz1, hz2⟩ := info_parts info_int
      obtain ⟨i1, hi1', hy0, hy1, hy2⟩ := info_parts info_ints
      go_loopg [3, 6, 7, 8] (N + 1) (fun gg t3 t6 t7 t8 wr => ∃ (i : Nat) (gv : Nat → Value), gg = N + 1 - i ∧ i ≤ N ∧ t6 = .int .i64 i ∧ Ph2 w B Bf 3 1 37 N v n (zsA n) (zsB 40) 40 gv i t3 wr)
      case atStart => exact ⟨0, fun _ => undef, rfl, Nat.zero_le _, rfl, Ph2.start _ HT.out⟩
      case round =>
        obtain ⟨i, gv, rfl, hi, rfl, hp⟩ := hrel
        have hi1 : (0 : Int) ≤ (i : Int) := by omega
        obtain ⟨gp, gc, rfl⟩ := owns_form hp.list
        by_cases hlt : i < N
        · have hi2 : (i : Int) < (N : Int) := by omega
          obtain ⟨p, c, hv⟩ := owns_form (hp.told.rows i hlt)
          have hc := ZTold.list (Ms := fun j => List.replicate (n j) (mzA j)) hp.told HA.out hlt
          rw [hv] at hc
          have hni := HA.out.hn i hlt
          have HP := Lib.hid hp
          have HG := Lib.hid (show Gz B v n i wr 0 (v i) wr from Grows.start (hp.told.rows i hlt))
          have HV := Lib.hid hv
          have hw1 : IntKind.i64.wrap (2000 + (i : Int)) = 2000 + (i : Int) := Go.IntWalk.i64_in _ (by omega)
          clear hp hv
          go_wp2_with fail
          obtain ⟨wo, rfl⟩ : ∃ wo : World, wo = wr := ⟨_, rfl⟩
          go_loopg [7, 8] 41 (fun gg t7 t8 wr => ∃ (k : Nat) (p' : Option Addr) (c' : Nat), gg = 40 + 1 - k ∧ k ≤ 40 ∧ t8 = .int .i64 k ∧ t7 = .slice p' (n i + k) c' ∧ Gz B v n i wo k (.slice p' (n i + k) c') wr)
          case atStart => exact ⟨0, _, _, rfl, Nat.zero_le _, rfl, rfl, by rw [Nat.add_zero, ← HV.out]; exact HG.out⟩
          case round =>
            obtain ⟨k, p', c', rfl, hk, rfl, rfl, hr⟩ := hrel
            have hk1 : (0 : Int) ≤ (k : Int) := by omega
            by_cases hlk : k < 40
            · have hk2 : (k : Int) < 40 := by omega
              have HRA : Hid (Gz B v n i wo k (.slice p' (n i + k) c') (wr.alloc (.cells #[.int .i64 (mzB i)] 3))) := Lib.hid (hr.alloc _)
              have hone : Hid (∀ u ∈ [Value.int .i64 (mzB i)], u.oneCell' = true) := Lib.hid (by simp [Value.oneCell'])
              have hBz : B ≤ wr.heap.size := Nat.le_trans HA.out.hB (Nat.le_trans HP.out.told.size hr.by_.size)
              clear hr
              go_wp2_with (at_builtin; refine wpList_append_keeps _ rfl _ _ _ rfl B 3 i0 (.int .i64 0) 1 8 Try.underlying37 hi0' hz0 hz1 hz2 rfl (by decide) (.slice p' (n i + k) c') (n i + k) (zsA n i ++ zsB k i) rfl HRA.out.row ⟨wr.heap.size, 0, none⟩ 1 1 [.int .i64 (mzB i)] rfl rfl (World.news_of_block (cs := #[.int .i64 (mzB i)]) (heap_alloc_new _ _)) hone.out (by decide) (by unfold maxLen; omega) (by omega) (by simp; omega) ?_; intro g1 cap1 w1 hown1 hlt1 hat1)
              go_roundg (40 + 1 - (k + 1))
              case measure => omega
              case rel => exact ⟨k + 1, _, _, rfl, hlk, by go_num, rfl, HRA.out.step hown1 hat1⟩
            · have hk2 : (40 : Int) ≤ (k : Int) := by omega
              obtain rfl : k = 40 := by omega
              have HRA : Hid (Gz B v n i wo 40 (.slice p' (n i + 40) c') (wr.alloc (.cells #[.slice p' (n i + 40) c'] 37))) := Lib.hid (hr.alloc _)
              have HL := Lib.hid (HP.out.listIn HA.out.apt hlt HRA.out)
              have hBz : Bf ≤ wr.heap.size := Nat.le_trans HP.out.told.size hr.by_.size
              clear hr
              go_wp2_with (at_builtin; refine wpList_append_keeps _ rfl _ _ _ rfl Bf 37 i1 (.slice none 0 0) 1 24 Try.underlying124 hi1' hy0 hy1 hy2 rfl (by decide) (.slice gp i gc) i ((List.range i).map gv) rfl HL.out ⟨wr.heap.size, 0, none⟩ 1 1 [.slice p' (n i + 40) c'] rfl rfl (World.news_of_block (cs := #[.slice p' (n i + 40) c']) (heap_alloc_new _ _)) (by simp [Value.oneCell']) (by decide) (by unfold maxLen; omega) (by omega) (by simp; omega) ?_; intro g1 cap1 w1 hown1 hlt1 hat1)
              go_roundg (N + 1 - (i + 1))
              case measure => omega
              case rel => exact ⟨i + 1, _, rfl, hlt, by go_num, HP.out.step HA.out.apt HA.out.hB hlt HRA.out hown1 hat1⟩
        · have hi2 : (N : Int) ≤ (i : Int) := by omega
          obtain rfl : N = i := by omega
          have HP := Lib.hid (show Pz3 w B Bf N v n (.slice gp N gc) wr from ⟨gv, hp⟩)
          clear hp hi hlt hi1 hi2 HT
          go_wp2_with fail
          obtain ⟨w3, rfl⟩ : ∃ w3 : World, w3 = wr := ⟨_, rfl⟩
          go_loopg [9, 10] (N + 1) (fun gg t9 t10 wr => ∃ i m : Nat, gg = N + 1 - i ∧ i ≤ N ∧ t9 = .int .i64 i ∧ wr = w3.drewN m)
          case atStart => exact ⟨0, 0, rfl, Nat.zero_le _, rfl, rfl⟩
          case round =>
            obtain ⟨i, m, rfl, hi, rfl, rfl⟩ := hrel
            have hi1 : (0 : Int) ≤ (i : Int) := by omega
            by_cases hlt : i < N
            · have hi2 : (i : Int) < (N : Int) := by omega
              obtain ⟨p, c, gG, gc', h2, c2, hv, hG, hcg, hcn, hc2, hy, hyG, hA, hB⟩ := HP.out.reads HA.out hlt
              simp only [Value.slice.injEq] at hG
              obtain ⟨rfl, _, rfl⟩ := hG
              have hni := HA.out.hn i hlt
              have HV := Lib.hid hv
              have RA := Lib.hid hA
              have RB := Lib.hid hB
              have hw1 : IntKind.i64.wrap (1000 + (i : Int)) = 1000 + (i : Int) := Go.IntWalk.i64_in _ (by omega)
              have hw2 : IntKind.i64.wrap (2000 + (i : Int)) = 2000 + (i : Int) := Go.IntWalk.i64_in _ (by omega)
              clear hv hA hB
              go_wp2_with fail
              go_loopg [10] (n i + 41) (fun gg t10 wr => ∃ k m : Nat, gg = n i + 41 - k ∧ k ≤ n i + 40 ∧ t10 = .int .i64 k ∧ wr = w3.drewN m)
              case atStart => exact ⟨0, m, rfl, Nat.zero_le _, rfl, rfl⟩
              case round =>
                obtain ⟨k, m2, rfl, hk, rfl, rfl⟩ := hrel
                have hk1 : (0 : Int) ≤ (k : Int) := by omega
                by_cases hlk : k < n i + 40
                · have hk2 : (k : Int) < (n i : Int) + 40 := by omega
                  by_cases hka : k < n i
                  · have hk3 : (k : Int) < (n i : Int) := by omega
                    obtain ⟨⟨g, rfl, q1⟩, q2⟩ := RA.out k hka
                    go_wp2_with fail
                    go_roundg (n i + 41 - (k + 1))
                    case measure => omega
                    case rel => exact ⟨k + 1, m2, rfl, hlk, by go_num, rfl⟩
                  · have hk3 : (n i : Int) ≤ (k : Int) := by omega
                    have q2 := RB.out k (by omega) hlk
                    go_wp2_with fail
                    go_roundg (n i + 41 - (k + 1))
                    case measure => omega
                    case rel => exact ⟨k + 1, m2, rfl, hlk, by go_num, rfl⟩
                · have hk2 : (n i : Int) + 40 ≤ (k : Int) := by omega
                  go_wp2_with fail
                  go_roundg (N + 1 - (i + 1))
                  case measure => omega
                  case rel => exact ⟨i + 1, m2, rfl, hlt, by go_num, rfl⟩
            · have hi2 : (N : Int) ≤ (i : Int) := by omega
              go_wp2_with fail
              obtain ⟨gv, hp⟩ := HP.out
              have hbl := below_drewN hp.told.below m
              clear hp
              go_ret
              exact ⟨rfl, hbl⟩
end Go.Proofs.Ytkkdopfdoommnaa
