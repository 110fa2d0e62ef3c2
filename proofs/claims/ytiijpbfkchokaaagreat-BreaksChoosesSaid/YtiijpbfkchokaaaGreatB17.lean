/-
  A line's totals: the program's line.
-/
import Derived.Test.YtiijpbfkchokaaaGreatVBs
import Derived.Test.YtiijpbfkchokaaaGreatB16
import Derived.Test.YtiijpbfkchokaaaGreatTame4
import Derived.Test.YtiijpbfkchokaaaGreatW9
import Derived.Deep.RegionHeld3
import Derived.Deep.CutRange
namespace Go.Proofs.YtiijpbfkchokaaaGreat
open Go.ChangeShapes Go.WideShapes Go.ChangeAt Go.RowKit
attribute [local go_sem ↓] Go.wp_at_zero Go.wp_at_succ
theorem idxM_mem {IT : List Nat} {i x : Nat} (h : IT[i]? = some x) : ((x : Int), Value.int .i64 (i : Nat)) ∈ idxM IT := by
  unfold idxM
  refine List.mem_map.2 ⟨(x, i), ?_, rfl⟩
  rw [List.mem_iff_getElem?]
  exact ⟨i, by rw [List.getElem?_zipIdx, h]; simp⟩
theorem idxM_nodup {IT : List Nat} (h : IT.Nodup) : ((idxM IT).map (·.1)).Nodup := by
  have e : (idxM IT).map (·.1) = IT.map (fun x : Nat => (x : Int)) := by
    unfold idxM
    rw [List.map_map]
    apply List.ext_getElem?
    intro i
    simp only [List.getElem?_map, List.getElem?_zipIdx]
    cases IT[i]? <;> rfl
  rw [e, List.nodup_iff_pairwise_ne, List.pairwise_map]
  exact h.imp fun {a b} hab e => hab (Int.ofNat_inj.1 e)
theorem its_nodup {L : List Nd} {s : List Nat} (hs : Items L 0 s) : (s ++ [L.length]).Nodup := by
  rw [List.nodup_append]
  refine ⟨(items_pairwise hs).imp fun h => by omega, by simp, fun a ha b hb => ?_⟩
  rw [List.mem_singleton] at hb
  have := (hs.lt a ha).2
  omega
theorem TotI.setT {w : World} {Z : Nat} {T U : Tt} {W : World} (h : TotI w Z T W) : TotI w Z U (setAgg W (Z + 1) 0 U.arr) :=
  ⟨h.at_.store, (heap_setCells_other _ _ (by omega) _ _ _).trans h.res, Below.setAgg h.below (by have := h.le; omega) _ _, h.le⟩
@[go_sem] theorem run_bdNd_kg (g : Gl) (w : World) : (bdNd #[(0, .int .i64 7), (7, .agg g.arr)]).run Tryz.prog w = .ok (.agg (skipN g).arr) w := by kernel_rfl
theorem ParaL.index {W : World} {X mb B : Nat} {P : Pm} {vs : Nat → Value} {L : List Nd} {b off cap : Nat} {p0 : Option Addr} {s : List Nat} {SU : List Tt} {AT PE : List Int} (h : ParaL W X mb B P vs L b off cap p0 (s ++ [L.length]) SU AT PE) (hs : Items L 0 s) {i x : Nat} (hi : (s ++ [L.length])[i]? = some x) :
    (Instr.lookup 98 (.map (some mb)) (.int .i64 x) false).run Tryz.prog W = .ok (.int .i64 i) W :=
  run_lookup_int h.para.map Tryz.underlying98 Tryz.underlying3 (idxM_nodup (its_nodup hs)) (idxM_mem hi)
set_option maxRecDepth 100000 in
set_option maxHeartbeats 8000000 in
theorem vline (X mb B : Nat) (P : Pm) (vs : Nat → Value) (L : List Nd) (b off cap : Nat) (p0 : Option Addr) (s : List Nat) (AT PE : List Int) (hc : checkC L = 0) (hs : Items L 0 s) (hPl : P.left.good = true) (hPr : P.right.good = true) (f : Option Nat) (q : Nat) (hf : ∀ x, f = some x → x ∈ s ∧ x < q) (hq : q ∈ s ++ [L.length]) (w : World) (h : ParaL w X mb B P vs L b off cap p0 (s ++ [L.length]) (sumsP L s) AT PE) :
    Calls Tryz.prog 51 #[.pointer (some ⟨X, 0, none⟩), .int .i64 (fI f), .int .i64 q] w fun e w' => e = .returned (.agg (lineT L P s f q).arr) ∧ Below w.heap.size w w' := by
  obtain ⟨m, hm⟩ : ∃ m, (s ++ [L.length])[m]? = some q := List.mem_iff_getElem?.1 hq
  have hpos := pos_at hs hm
  have hr := check_right hc
  have hll := h.len
  have hmle := hpos.le
  obtain ⟨i0, hi0⟩ : ∃ i0, i0 = (match f with | none => 0 | some x => s.idxOf x) := ⟨_, rfl⟩
  have hI : TotI w w.heap.size .zero ((w.alloc (.cells (Tt.mk 0 0 0 0 0 0 0 0 0).arr 62)).alloc (.cells (Tt.mk 0 0 0 0 0 0 0 0 0).arr 62)) :=
    ⟨by have := heap_alloc_new (w.alloc (.cells (Tt.mk 0 0 0 0 0 0 0 0 0).arr 62)) (.cells (Tt.mk 0 0 0 0 0 0 0 0 0).arr 62); rwa [World.size_alloc] at this, (Below.heap_alloc _ _ _ (by simp)).trans (heap_alloc_new w _), ((Below.refl _ _).alloc (Nat.le_refl _) _).alloc (by simp) _, Nat.le_refl _⟩
  have H := Lib.hid h
  have Hf := Lib.hid hf
  have Hm := Lib.hid hm
  have HI0 := Lib.hid hi0
  have Hpos := Lib.hid hpos
  have Hr := Lib.hid hr
  obtain ⟨fz, hfz⟩ : ∃ fz, fI f = fz := ⟨_, rfl⟩
  obtain ⟨b1, hb1⟩ : ∃ b1, f.isSome = b1 := ⟨_, rfl⟩
  have hd : decide (0 ≤ fz) = b1 := by rw [← hfz, ← hb1]; cases f <;> simp [fI]
  rw [hfz]
  have Hfz := Lib.hid hfz
  have Hb1 := Lib.hid hb1
  clear h hf hm hi0 hpos hr hfz hb1 hq
  go_enter Tryz.func51, Tryz.ntmps51
  go_upto_region 2 with (fail)
  generalize (w.alloc (.cells (Tt.mk 0 0 0 0 0 0 0 0 0).arr 62)).alloc (.cells (Tt.mk 0 0 0 0 0 0 0 0 0).arr 62) = w1 at hI ⊢
  have HI := Lib.hid hI
  clear hI
  obtain ⟨Z, hZ⟩ : ∃ Z, w.heap.size = Z := ⟨_, rfl⟩
  rw [hZ] at HI ⊢
  have HZ := Lib.hid hZ
  clear hZ
  go_upto_if 22 with (fail)
  go_cut [8] from 23 to 28 (fun s8 wx => s8 = .int .i64 (i0 : Nat) ∧ w1 = wx)
  case first =>
    cases hb : b1
    · subst hb
      have e : i0 = 0 := by
        have h1 := HI0.out
        have h2 := Hb1.out
        cases f with
        | none => exact h1
        | some x => cases h2
      subst e
      go_wp2_with fail
      go_meet
      exact ⟨rfl, rfl⟩
    · subst hb
      obtain ⟨x, hx⟩ : ∃ x, f = some x := Option.isSome_iff_exists.1 Hb1.out
      have e1 : fz = (x : Int) := by rw [← Hfz.out, hx]; rfl
      have hxs := (Hf.out x hx).1
      have e2 : (s ++ [L.length])[i0]? = some x := by
        have h1 := HI0.out
        rw [hx] at h1
        simp only at h1
        have h2 : s.idxOf x < s.length := List.idxOf_lt_length_of_mem hxs
        rw [h1, List.getElem?_append_left h2, List.getElem?_eq_getElem h2, List.getElem_idxOf h2]
      have hp1 := H.out.still HI.out.below
      have x26 := hp1.para.cell 26 (.map (some mb)) rfl
      have hlk := hp1.index hs e2
      clear hp1 e2 hxs hx hd
      subst e1
      go_wp2_with fail
      go_meet
      exact ⟨rfl, rfl⟩
  case rest =>
    obtain ⟨rfl, rfl⟩ := hcut
    have HD : Hid (∀ W, Below w.heap.size w W → Calls Tryz.prog 71 #[.pointer (some ⟨X, 0, none⟩), .int .i64 fz] W fun e w' => e = .returned (.bool (discO L f)) ∧ W = w') := Lib.hid fun W hb => by
      rw [← Hfz.out]
      exact vdisc X mb B P vs L b off cap p0 _ _ AT PE f W (H.out.still hb) fun x hx => by
        have := (hs.lt x (Hf.out x hx).1).2
        omega
    obtain ⟨bd, hbd⟩ : ∃ bd, discO L f = bd := ⟨_, rfl⟩
    have Hbd := Lib.hid hbd
    rw [hbd] at HD
    clear hbd hd
    have HD1 := Lib.hid (HD.out _ HI.out.below)
    obtain ⟨i1, hi1⟩ : ∃ i1, (startI L s f).1 = i1 := ⟨_, rfl⟩
    obtain ⟨b2, hb2⟩ : ∃ b2, (startI L s f).2 = b2 := ⟨_, rfl⟩
    have Hi1 := Lib.hid hi1
    have Hb2 := Lib.hid hb2
    clear hi1 hb2
    go_upto_if 31 with (go_at_call 71; refine HD1.out.mono ?_; rintro e w' ⟨rfl, rfl⟩)
    go_cut [8, 9, 10, 11, 12, 13] from 32 to 49 (fun s8 s9 _ _ _ _ wx => s8 = .int .i64 (i1 : Nat) ∧ s9 = .bool b2 ∧ TotI w Z (.wide (preN L f)) wx)
    case first =>
      cases hb : bd
      · subst hb
        have e1 : i0 = i1 ∧ b1 = b2 ∧ preN L f = 0 := by
          have h1 := HI0.out
          have h2 := Hb1.out
          have h3 := Hbd.out
          rw [← Hi1.out, ← Hb2.out]
          cases f with
          | none => exact ⟨h1, h2.symm, rfl⟩
          | some x =>
            simp only [discO] at h3
            simp only [startI, preN, h3]
            exact ⟨h1, h2.symm, rfl⟩
        obtain ⟨rfl, rfl, e3⟩ := e1
        have E3 := Lib.hid e3
        clear e3
        go_wp2_with fail
        go_meet
        exact ⟨rfl, rfl, by rw [E3.out]; exact HI.out⟩
      · subst hb
        obtain ⟨x, hx⟩ : ∃ x, f = some x := by
          cases f with
          | none => exact absurd Hbd.out (by simp [discO])
          | some x => exact ⟨x, rfl⟩
        obtain ⟨hxs, hxq⟩ := Hf.out x hx
        have hdx : discB L x = true := by have := Hbd.out; rw [hx] at this; exact this
        have e1 : fz = (x : Int) := by rw [← Hfz.out, hx]; rfl
        have hk10 : (nth L x).kind = 10 := by
          simp only [discB, Bool.and_eq_true, beq_iff_eq] at hdx
          exact hdx.2
        obtain ⟨md, u, hda⟩ := disc_at hc hs hxs hk10
        obtain ⟨hok, hlen3⟩ := disc_ok hda
        have hlt3 := hda.lt
        have e2 : i1 = i0 + 1 ∧ b2 = (threeP L x).2.1.isEmpty ∧ preN L f = rowN (threeP L x).2.1 := by
          have h1 := HI0.out
          rw [← Hi1.out, ← Hb2.out]
          rw [hx] at h1 ⊢
          simp only at h1
          simp only [startI, preN, hdx, if_true]
          exact ⟨by rw [h1], trivial, trivial⟩
        have E2 := Lib.hid e2
        have hi0n : i0 ≤ 4000 := by
          have h1 := HI0.out
          rw [hx] at h1
          simp only at h1
          have h2 : s.idxOf x < s.length := List.idxOf_lt_length_of_mem hxs
          have := hs.len
          omega
        have HPt := Lib.hid (parts9 p0 b off cap L s hc hs x hxs hk10 _ (H.out.nodes.below HI.out.below))
        have HTo : Hid (∀ W p g o c, NIn W p g o c (threeP L x).2.1 → Calls Tryz.prog 64 #[.slice p (threeP L x).2.1.length c] W fun e w' => e = .returned (.agg (Tt.wide (rowN (threeP L x).2.1)).arr) ∧ Below W.heap.size W w') := Lib.hid fun W p g o c hN => total_part hok.b Hr.out (by omega) p g o c W hN
        have hlen9 : (threeP L x).2.1.length ≤ 2000 := by omega
        have hp1 := H.out.still HI.out.below
        have x0 := hp1.para.cell 0 (.slice p0 L.length cap) rfl
        clear hp1 e2 hx hda hok hlen3 hlt3 hdx hxs hk10 hxq
        subst e1
        go_upto_region 7 with (go_at_call 72; refine HPt.out.mono ?_; rintro e w5 ⟨⟨vs9, rfl, hv9⟩, hb5⟩; obtain ⟨hn9, p9, g9, c9, e9, hN9, _⟩ := row_nodes (hv9.rows 1 (by decide)) (by show (threeP L x).2.1.length * 160 ≤ _; omega); rw [e9]; have HE9 := Lib.hid e9; clear e9 hn9)
        have hI5 := HI.out.still hb5
        have HT5 := Lib.hid (HTo.out w5 p9 g9 0 c9 hN9)
        have hl9 : (tP (threeP L x) 1).length = (threeP L x).2.1.length := rfl
        rw [hl9]
        clear x0 hv9 hb5 HI HTo HPt HE9 hl9
        obtain ⟨n9, hn9⟩ : ∃ n9, (threeP L x).2.1.length = n9 := ⟨_, rfl⟩
        rw [hn9] at HT5 ⊢
        have Hn9 := Lib.hid hn9
        clear hn9 hlen9 hN9
        have HI5 := Lib.hid hI5
        clear hI5
        go_upto_region 8 with (go_at_call 64; refine HT5.out.mono ?_; rintro e w6 ⟨rfl, hb6⟩; (have hI6 := HI5.out.still hb6); (have t6 := hI6.at_.there))
        have hI7 := hI6.setT (U := Tt.wide (rowN (threeP L x).2.1))
        have HI7 := Lib.hid hI7
        clear hI6 t6 hI7 hb6 HT5
        generalize setAgg w6 (Z + 1) 0 (Tt.wide (rowN (threeP L x).2.1)).arr = w7 at HI7 ⊢
        by_cases h0 : n9 = 0
        · subst h0
          have e4 : b2 = true := by rw [E2.out.2.1, List.length_eq_zero_iff.1 Hn9.out]; rfl
          subst e4
          go_wp2_with fail
          go_meet
          exact ⟨by rw [E2.out.1]; go_num, rfl, by rw [E2.out.2.2]; exact HI7.out⟩
        · have e4 : b2 = false := by
            rw [E2.out.2.1]
            cases h1 : (threeP L x).2.1 with
            | nil => exact absurd (by have := Hn9.out; rw [h1] at this; exact this.symm) h0
            | cons => rfl
          subst e4
          have hne : (n9 == 0) = false := by simpa using h0
          have hne2 : ((n9 : Int) == 0) = false := by rw [beq_eq_false_iff_ne]; omega
          go_wp2_with fail
          go_meet
          exact ⟨by rw [E2.out.1]; go_num, rfl, by rw [E2.out.2.2]; exact HI7.out⟩
    case rest =>
      clear HI HD1
      obtain ⟨rfl, rfl, hI⟩ := hcut
      have hx26 := (H.out.still hI.below).para.cell 26 (.map (some mb)) rfl
      have hlk := (H.out.still hI.below).index hs Hm.out
      have HfP := Lib.hid (show fromP L s f q = if b2 then dropTo L q (s.drop i1) else s.drop i1 by rw [← Hi1.out, ← Hb2.out]; exact fromP_start hs (fun x hx => (Hf.out x hx).1) q)
      have hi1n : i1 ≤ 4000 := by
        have h2 := hs.len
        rw [← Hi1.out]
        cases f with
        | none => exact Nat.zero_le _
        | some x =>
          have h3 : s.idxOf x < s.length := List.idxOf_lt_length_of_mem (Hf.out x rfl).1
          simp only [startI]
          split <;> (simp only; omega)
      have hsl : s.length ≤ 2000 := by have := hs.len; omega
      have HI := Lib.hid hI
      clear hI HI0 Hi1 Hb2 Hb1
      obtain ⟨T1, hT1⟩ : ∃ T1, Tt.wide (preN L f) = T1 := ⟨_, rfl⟩
      have HT1 := Lib.hid hT1
      rw [hT1] at HI
      clear hT1
      go_wp2_with fail
      clear hx26 hlk
      go_loopg [8] (m + 1 - i1) (fun gg t8 wr => ∃ i : Nat, gg = m + 1 - i ∧ i ≤ 4000 ∧ t8 = .int .i64 i ∧ fromP L s f q = (if b2 then dropTo L q (s.drop i) else s.drop i) ∧ TotI w Z T1 wr)
      case atStart => exact ⟨i1, rfl, hi1n, rfl, HfP.out, HI.out⟩
      case round =>
        clear HI HfP hi1n
        obtain ⟨i, rfl, hi4, rfl, hfp, hI⟩ := hrel
        obtain ⟨cb, hcb⟩ : ∃ cb, (b2 && decide (i < m) && fallsR (nth L (s.getD i 0)).kind) = cb := ⟨_, rfl⟩
        have Hcb := Lib.hid hcb
        have Hfp := Lib.hid hfp
        have HI := Lib.hid hI
        clear hcb hfp hI
        go_upto_region 11 with (fail)
        go_cut [77] from 56 to 79 (fun s77 wx => s77 = .bool cb ∧ TotI w Z T1 wx)
        case first =>
          cases hb : b2
          · subst hb
            have e1 : cb = false := by rw [← Hcb.out]; rfl
            subst e1
            refine Rest.region follows ?_
            refine Rest.tame 22 (fun W => TotI w Z T1 W) (by kernel_rfl) HI.out.drew ?_
            simp only [Nat.reduceSub, List.drop_zero, List.take_succ_cons, List.take_zero]
            iterate 22 first
              | (refine TW.cons_n rfl _ (by intro wT hT R hR K hK; simp only [Act.put, lsA, lsB, lsC] at hK; skip; go_step; exact hK _ _ (hR _ hT)) ?_; try simp only [Act.put, lsA, lsB, lsC])
              | (refine TW.skip_g _ _ _ rfl rfl rfl ?_; try simp only [Act.put, lsA, lsB, lsC])
              | (refine TW.skip_u _ _ _ rfl rfl rfl ?_; try simp only [Act.put, lsA, lsB, lsC])
              | (refine TW.cons_g _ _ _ rfl rfl rfl _ (by intro wT hT R hR K hK; simp only [Act.put, lsA, lsB, lsC] at hK; skip; go_step; exact hK _ _ (hR _ hT)) ?_; try simp only [Act.put, lsA, lsB, lsC])
            refine TW.nil fun w9 h9 => ?_
            refine Rest.done ?_
            go_wp2_with fail
            go_meet
            exact ⟨rfl, h9⟩
          · subst hb
            by_cases him : i < m
            · have hil : i < s.length := by omega
              have hil2 : i < (s ++ [L.length]).length := by rw [List.length_append]; omega
              have e0 : s.getD i 0 = s[i] := by simp [List.getElem?_eq_getElem hil]
              obtain ⟨x, hx⟩ : ∃ x, s.getD i 0 = x := ⟨_, rfl⟩
              have e1 : fallsR (nth L x).kind = cb := by rw [← Hcb.out, hx]; simp [him]
              have hxl : x < L.length := by rw [← hx, e0]; exact (hs.lt _ (List.getElem_mem hil)).2
              obtain ⟨pi, ci, ei⟩ := owns_form ((H.out.para).rows 0 (by decide))
              have hr0 := H.out.para.rows 0 (by decide)
              rw [ei] at hr0
              obtain ⟨g, rfl, hk9, hci, cg⟩ := zin_get9 (l := ofN (s ++ [L.length])) (i := i) hr0 (by simpa [ofN] using hil2)
              have hN9 : pxN (s ++ [L.length]) (sumsP L s) AT PE 0 = s.length + 1 := by simp [pxN]
              have hp0 := H.out.nodes.at_ hxl
              have HG : Hid (∀ W, Below w.heap.size w W → W.cell? ⟨X, 0, none⟩ = some (.slice (some ⟨b, off, none⟩) L.length cap) ∧ W.cell? ⟨X, 25, none⟩ = some (.slice (some ⟨g, 0, none⟩) (s.length + 1) ci) ∧ W.cell? ⟨g, i, none⟩ = some (.int .i64 x) ∧ agg? W b (off + x * 19) 19 = some (nth L x).arr) := Lib.hid fun W hb => by
                have h9 := H.out.still hb
                refine ⟨by rw [← hp0]; exact h9.para.cell 0 _ rfl, ?_, ?_, h9.nodes.nth hxl⟩
                · have := h9.para.cell 25 (vs 0) rfl
                  rw [ei, hN9] at this
                  exact this
                · have hr9 := h9.para.rows 0 (by decide)
                  rw [ei] at hr9
                  obtain ⟨g9, q1, _, _, q4⟩ := zin_get9 (l := ofN (s ++ [L.length])) (i := i) hr9 (by simpa [ofN] using hil2)
                  cases q1
                  rw [q4]
                  have : (ofN (s ++ [L.length]))[i]'(by simpa [ofN] using hil2) = (x : Int) := by
                    rw [← hx, e0]
                    simp only [ofN, List.getElem_map]
                    rw [List.getElem_append_left hil]
                  rw [this]
              rw [hN9] at hci
              have HFa := Lib.hid (fun W => vfalls9 (nth L x) W)
              rw [e1] at HFa
              have hx1 : (0 : Int) ≤ (x : Int) := by omega
              have hx2 : (x : Int) < (L.length : Int) := by omega
              have hi7 : (0 : Int) ≤ (i : Int) := by omega
              have hi8 : (i : Int) < (s.length : Int) + 1 := by omega
              have hi9 : decide (i < m) = true := decide_eq_true him
              clear hil hil2 e0 hx hk9 cg hN9 hr0 ei him e1 hxl
              generalize nth L x = nx at HG HFa
              refine Rest.region follows ?_
              refine Rest.tame 22 (fun W => TotI w Z T1 W) (by kernel_rfl) HI.out.drew ?_
              simp only [Nat.reduceSub, List.drop_zero, List.take_succ_cons, List.take_zero]
              iterate 22 first
                | (refine TW.cons_n rfl _ (by intro wT hT R hR K hK; simp only [Act.put, lsA, lsB, lsC] at hK; obtain ⟨y0, y25, yg, ya⟩ := HG.out _ hT.below; go_step; first | ((with_reducible refine (HFa.out _).mono ?_); rintro e w8 ⟨rfl, h8⟩; exact hK _ _ (hR _ (hT.still h8))) | exact hK _ _ (hR _ hT)) ?_; try simp only [Act.put, lsA, lsB, lsC])
                | (refine TW.skip_g _ _ _ rfl rfl rfl ?_; try simp only [Act.put, lsA, lsB, lsC])
                | (refine TW.skip_u _ _ _ rfl rfl rfl ?_; try simp only [Act.put, lsA, lsB, lsC])
                | (refine TW.cons_g _ _ _ rfl rfl rfl _ (by intro wT hT R hR K hK; simp only [Act.put, lsA, lsB, lsC] at hK; obtain ⟨y0, y25, yg, ya⟩ := HG.out _ hT.below; go_step; first | ((with_reducible refine (HFa.out _).mono ?_); rintro e w8 ⟨rfl, h8⟩; exact hK _ _ (hR _ (hT.still h8))) | exact hK _ _ (hR _ hT)) ?_; try simp only [Act.put, lsA, lsB, lsC])
              refine TW.nil fun w9 h9 => ?_
              refine Rest.done ?_
              go_wp2_with fail
              go_meet
              exact ⟨rfl, h9⟩
            · have e1 : cb = false := by rw [← Hcb.out]; simp [him]
              subst e1
              have hi9 : decide (i < m) = false := decide_eq_false him
              clear him
              refine Rest.region follows ?_
              refine Rest.tame 22 (fun W => TotI w Z T1 W) (by kernel_rfl) HI.out.drew ?_
              simp only [Nat.reduceSub, List.drop_zero, List.take_succ_cons, List.take_zero]
              iterate 22 first
                | (refine TW.cons_n rfl _ (by intro wT hT R hR K hK; simp only [Act.put, lsA, lsB, lsC] at hK; skip; go_step; exact hK _ _ (hR _ hT)) ?_; try simp only [Act.put, lsA, lsB, lsC])
                | (refine TW.skip_g _ _ _ rfl rfl rfl ?_; try simp only [Act.put, lsA, lsB, lsC])
                | (refine TW.skip_u _ _ _ rfl rfl rfl ?_; try simp only [Act.put, lsA, lsB, lsC])
                | (refine TW.cons_g _ _ _ rfl rfl rfl _ (by intro wT hT R hR K hK; simp only [Act.put, lsA, lsB, lsC] at hK; skip; go_step; exact hK _ _ (hR _ hT)) ?_; try simp only [Act.put, lsA, lsB, lsC])
              refine TW.nil fun w9 h9 => ?_
              refine Rest.done ?_
              go_wp2_with fail
              go_meet
              exact ⟨rfl, h9⟩
        case rest =>
          clear HI
          obtain ⟨rfl, hI⟩ := hcut
          cases hb : cb
          case true =>
            subst hb
            have h1 := Hcb.out
            simp only [Bool.and_eq_true, decide_eq_true_eq] at h1
            obtain ⟨⟨rfl, him⟩, hfa⟩ := h1
            have Hfp2 := Lib.hid (show fromP L s f q = (if true then dropTo L q (s.drop (i + 1)) else s.drop (i + 1)) by rw [Hfp.out]; simp only [if_true]; exact drop_go Hpos.out him hfa)
            clear Hcb Hfp hfa
            go_wp2_with fail
            go_roundg (m + 1 - (i + 1))
            case measure => omega
            case rel => exact ⟨i + 1, rfl, by omega, by go_num, Hfp2.out, hI⟩
          case false =>
            subst hb
            have Hfp2 : Hid (fromP L s f q = s.drop i) := Lib.hid (by
              have h1 := Hcb.out
              rw [Hfp.out]
              cases b2
              · rfl
              · simp only [if_true]
                exact drop_stop Hpos.out (by intro ⟨h2, h3⟩; rw [h3] at h1; simp [h2] at h1))
            clear Hcb Hfp
            go_upto_if 82 with (fail)
            obtain ⟨T2, hT2⟩ : ∃ T2, T1.plus (midT L s i m) = T2 := ⟨_, rfl⟩
            have HT2 := Lib.hid hT2
            have hB1 : TtB 2200000000000 T1 := by
              rw [← HT1.out]
              cases f with
              | none => exact TtB.zero.mono (by omega)
              | some x =>
                simp only [preN]
                split
                · rename_i hdx
                  have hk10 : (nth L x).kind = 10 := by
                    simp only [discB, Bool.and_eq_true, beq_iff_eq] at hdx
                    exact hdx.2
                  obtain ⟨md, u, hda⟩ := disc_at hc hs (Hf.out x rfl).1 hk10
                  obtain ⟨hok, hlen3⟩ := disc_ok hda
                  have hlt3 := hda.lt
                  have h5 := row_bound hok.b Hr.out
                  exact .wide (by omega) (by omega)
                · exact TtB.zero.mono (by omega)
            have hBm : TtB 8800000000000 (midT L s i m) := by
              unfold midT
              split
              · rename_i him
                exact ((sum_take hc hs Hr.out hll m hmle).minus (sum_take hc hs Hr.out hll i (by omega))).mono (by omega)
              · exact TtB.zero.mono (by omega)
            have HB1 := Lib.hid hB1
            have HBm := Lib.hid hBm
            have HI := Lib.hid hI
            clear hT2 hB1 hBm hI
            go_cut [] from 82 to 99 (fun wx => TotI w Z T2 wx)
            case first =>
              by_cases him : i < m
              · have hi9 : decide (i < m) = true := decide_eq_true him
                obtain ⟨U, hU⟩ : ∃ U, sumA L (s.take m) = U := ⟨_, rfl⟩
                obtain ⟨V, hV⟩ : ∃ V, sumA L (s.take i) = V := ⟨_, rfl⟩
                obtain ⟨D, hD⟩ : ∃ D, U.minus V = D := ⟨_, rfl⟩
                have hmid : midT L s i m = D := by unfold midT; rw [if_pos him, hU, hV, hD]
                have HA1 : Hid (∀ W, Calls Tryz.prog 63 #[.agg U.arr, .agg V.arr, .int .i64 (-1)] W fun e w' => e = .returned (.agg D.arr) ∧ Below W.heap.size W w') := Lib.hid fun W => by
                  have h1 := vadd U V (-1) (.inr rfl) (by rw [← hU]; exact (sum_take hc hs Hr.out hll m hmle).mono (by omega)) (by rw [← hV]; exact (sum_take hc hs Hr.out hll i (by omega)).mono (by omega)) W
                  rw [addS_neg, hD] at h1
                  exact h1
                have HA2 : Hid (∀ W, Calls Tryz.prog 63 #[.agg T1.arr, .agg D.arr, .int .i64 1] W fun e w' => e = .returned (.agg T2.arr) ∧ Below W.heap.size W w') := Lib.hid fun W => by
                  have h1 := vadd T1 D 1 (.inl rfl) (HB1.out.mono (by omega)) (by have := HBm.out; rw [hmid] at this; exact this.mono (by omega)) W
                  rw [addS_one, show T1.plus D = T2 by rw [← hmid]; exact HT2.out] at h1
                  exact h1
                obtain ⟨g1, c1, ev, hlc, _, r0⟩ := row_agg (size := 9) Tt.cells (fun _ => rfl) (xs := sumsP L s) (H.out.para.rows 1 (by decide)) (by decide) (j := m) (by rw [sumsP_len]; omega)
                rw [sumsP_len] at ev hlc
                have HG : Hid (∀ W, Below w.heap.size w W → W.cell? ⟨X, 27, none⟩ = some (.slice (some ⟨g1, 0, none⟩) (s.length + 1) c1) ∧ agg? W g1 (m * 9) 9 = some U.arr ∧ agg? W g1 (i * 9) 9 = some V.arr) := Lib.hid fun W hb => by
                  have h9 := H.out.still hb
                  refine ⟨?_, ?_, ?_⟩
                  · have := h9.para.cell 27 (vs 1) rfl
                    rw [ev] at this
                    exact this
                  · obtain ⟨g2, c2, ev2, _, _, r1⟩ := row_agg (size := 9) Tt.cells (fun _ => rfl) (xs := sumsP L s) (h9.para.rows 1 (by decide)) (by decide) (j := m) (by rw [sumsP_len]; omega)
                    rw [ev, sumsP_len] at ev2
                    cases ev2
                    rw [r1, sumsP_get, hU]; rfl
                  · obtain ⟨g2, c2, ev2, _, _, r1⟩ := row_agg (size := 9) Tt.cells (fun _ => rfl) (xs := sumsP L s) (h9.para.rows 1 (by decide)) (by decide) (j := i) (by rw [sumsP_len]; omega)
                    rw [ev, sumsP_len] at ev2
                    cases ev2
                    rw [r1, sumsP_get, hV]; rfl
                have hm7 : (0 : Int) ≤ (m : Int) := by omega
                have hm8 : (m : Int) < (s.length : Int) + 1 := by omega
                have hi7 : (0 : Int) ≤ (i : Int) := by omega
                have hi8 : (i : Int) < (s.length : Int) + 1 := by omega
                rw [hi9]
                clear him hU hV hD hmid ev r0
                go_upto_region 14 with (fail)
                refine Rest.region follows ?_
                refine Rest.tame 17 (fun W => TotI w Z T1 W) (by kernel_rfl) HI.out.drew ?_
                simp only [Nat.reduceSub, List.drop_zero, List.take_succ_cons, List.take_zero]
                iterate 17 first
                  | (refine TW.cons_n rfl _ (by intro wT hT R hR K hK; simp only [Act.put, lsA, lsB, lsC] at hK; obtain ⟨y27, ya, yb⟩ := HG.out _ hT.below; have yt := hT.at_.agg; go_step; first | ((with_reducible refine (HA1.out _).mono ?_); rintro e w8 ⟨rfl, h8⟩; exact hK _ _ (hR _ (hT.still h8))) | ((with_reducible refine (HA2.out _).mono ?_); rintro e w8 ⟨rfl, h8⟩; exact hK _ _ (hR _ (hT.still h8))) | exact hK _ _ (hR _ hT)) ?_; try simp only [Act.put, lsA, lsB, lsC])
                refine TW.nil fun w9 h9 => ?_
                have t9 := h9.at_.there
                have h10 := h9.setT (U := T2)
                refine Rest.seq (by kernel_rfl) ?_
                simp only [List.drop_succ_cons, List.drop_zero]
                go_wp2_with fail
                go_meet
                exact h10
              · have hi9 : decide (i < m) = false := decide_eq_false him
                have e2 : T1 = T2 := by rw [← HT2.out]; unfold midT; rw [if_neg him, plus_zero]
                have HI2 := HI.out
                rw [e2] at HI2
                rw [hi9]
                clear him e2
                go_wp2_with fail
                go_meet
                exact HI2
            case rest =>
              clear HI
              have hI := hcut
              have HI := Lib.hid hI
              clear hcut hI
              have hsf : Hid (¬ discB L q = true → sufN L q = 0) := Lib.hid fun h => by unfold sufN; rw [if_neg h]
              have HDq : Hid (∀ W, Below w.heap.size w W → Calls Tryz.prog 71 #[.pointer (some ⟨X, 0, none⟩), .int .i64 q] W fun e w' => e = .returned (.bool (discB L q)) ∧ W = w') := Lib.hid fun W hb => vdisc X mb B P vs L b off cap p0 _ _ AT PE (some q) W (H.out.still hb) fun x hx => by
                cases hx
                rcases List.mem_append.1 (List.mem_of_getElem? Hm.out) with h1 | h1
                · have := (hs.lt q h1).2; omega
                · have := List.mem_singleton.1 h1; omega
              obtain ⟨bq, hbq⟩ : ∃ bq, discB L q = bq := ⟨_, rfl⟩
              have Hbq := Lib.hid hbq
              rw [hbq] at HDq
              obtain ⟨T3, hT3⟩ : ∃ T3, T2.plus (.wide (sufN L q)) = T3 := ⟨_, rfl⟩
              have HT3 := Lib.hid hT3
              have hB2 : TtB 11000000000000 T2 := by rw [← HT2.out]; exact (HB1.out.plus HBm.out).mono (by omega)
              have HB2 := Lib.hid hB2
              have HD1 := Lib.hid (HDq.out _ HI.out.below)
              clear hbq hT3 hB2 HDq HD
              go_upto_if 102 with (go_at_call 71; refine HD1.out.mono ?_; rintro e w' ⟨rfl, rfl⟩)
              go_cut [15, 16, 17, 18] from 102 to 117 (fun _ _ _ _ wx => TotI w Z T3 wx)
              case first =>
                cases hb : bq
                · subst hb
                  have e3 : T2 = T3 := by rw [← HT3.out, hsf.out (by rw [Hbq.out]; decide)]; exact (plus_zero T2).symm
                  have HI2 := HI.out
                  rw [e3] at HI2
                  clear e3
                  go_wp2_with fail
                  go_meet
                  exact HI2
                · subst hb
                  have hdx := Hbq.out
                  have hqs : q ∈ s := by
                    simp only [discB, Bool.and_eq_true, decide_eq_true_eq] at hdx
                    rcases List.mem_append.1 (List.mem_of_getElem? Hm.out) with h1 | h1
                    · exact h1
                    · have := List.mem_singleton.1 h1; omega
                  have hk10 : (nth L q).kind = 10 := by
                    simp only [discB, Bool.and_eq_true, beq_iff_eq] at hdx
                    exact hdx.2
                  obtain ⟨md, u, hda⟩ := disc_at hc hs hqs hk10
                  obtain ⟨hok, hlen3⟩ := disc_ok hda
                  have hlt3 := hda.lt
                  have hsf2 : sufN L q = rowN (threeP L q).1 := by unfold sufN; rw [if_pos hdx]
                  obtain ⟨D, hD⟩ : ∃ D, Tt.wide (rowN (threeP L q).1) = D := ⟨_, rfl⟩
                  have hbD : TtB 2200000000000 D := by
                    have h5 := row_bound hok.a Hr.out
                    rw [← hD]
                    exact .wide (by omega) (by omega)
                  have e3 : T2.plus D = T3 := by rw [← HT3.out, hsf2, hD]
                  have HPt := Lib.hid (parts9 p0 b off cap L s hc hs q hqs hk10 _ (H.out.nodes.below HI.out.below))
                  have HTo : Hid (∀ W p g o c, NIn W p g o c (threeP L q).1 → Calls Tryz.prog 64 #[.slice p (threeP L q).1.length c] W fun e w' => e = .returned (.agg D.arr) ∧ Below W.heap.size W w') := Lib.hid fun W p g o c hN => by
                    rw [← hD]
                    exact total_part hok.a Hr.out (by omega) p g o c W hN
                  have HA2 : Hid (∀ W, Calls Tryz.prog 63 #[.agg T2.arr, .agg D.arr, .int .i64 1] W fun e w' => e = .returned (.agg T3.arr) ∧ Below W.heap.size W w') := Lib.hid fun W => by
                    have h1 := vadd T2 D 1 (.inl rfl) (HB2.out.mono (by omega)) (hbD.mono (by omega)) W
                    rw [addS_one, e3] at h1
                    exact h1
                  have hlen9 : (threeP L q).1.length ≤ 2000 := by omega
                  have x0 := (H.out.still HI.out.below).para.cell 0 (.slice p0 L.length cap) rfl
                  clear hda hok hlen3 hlt3 hdx hqs hk10 hsf2 hD hbD e3
                  go_upto_region 17 with (go_at_call 72; refine HPt.out.mono ?_; rintro e w5 ⟨⟨vs9, rfl, hv9⟩, hb5⟩; obtain ⟨hn9, p9, g9, c9, e9, hN9, _⟩ := row_nodes (hv9.rows 0 (by decide)) (by show (threeP L q).1.length * 160 ≤ _; omega); rw [e9]; have HE9 := Lib.hid e9; clear e9 hn9)
                  have hI5 := HI.out.still hb5
                  have hl9 : (tP (threeP L q) 0).length = (threeP L q).1.length := rfl
                  rw [hl9]
                  have hT5 : Hid (∀ W, Below w5.heap.size w5 W → Calls Tryz.prog 64 #[.slice p9 (threeP L q).1.length c9] W fun e w' => e = .returned (.agg D.arr) ∧ Below W.heap.size W w') := Lib.hid fun W hb => HTo.out W p9 g9 0 c9 (hN9.below hb)
                  have HI5 := Lib.hid hI5
                  clear x0 hv9 hb5 HTo HPt HE9 hl9 hN9 hlen9 hI5
                  generalize (threeP L q).1.length = n9 at hT5 ⊢
                  refine Rest.region follows ?_
                  refine Rest.tame 4 (fun W => TotI w Z T2 W ∧ Below w5.heap.size w5 W) (by kernel_rfl) ⟨HI5.out.drew, (Below.refl _ _).drew⟩ ?_
                  simp only [Nat.reduceSub, List.drop_zero, List.take_succ_cons, List.take_zero]
                  iterate 4 first
                    | (refine TW.cons_n rfl _ (by intro wT hT R hR K hK; simp only [Act.put, lsA, lsB, lsC] at hK; have yt := hT.1.at_.agg; go_step; first | ((with_reducible refine (hT5.out _ hT.2).mono ?_); rintro e w8 ⟨rfl, h8⟩; exact hK _ _ (hR _ ⟨hT.1.still h8, hT.2.trans (h8.mono hT.2.size)⟩)) | ((with_reducible refine (HA2.out _).mono ?_); rintro e w8 ⟨rfl, h8⟩; exact hK _ _ (hR _ ⟨hT.1.still h8, hT.2.trans (h8.mono hT.2.size)⟩)) | exact hK _ _ (hR _ hT)) ?_; try simp only [Act.put, lsA, lsB, lsC])
                  refine TW.nil fun w9 h9 => ?_
                  have t9 := h9.1.at_.there
                  have h10 := h9.1.setT (U := T3)
                  refine Rest.seq (by kernel_rfl) ?_
                  simp only [List.drop_succ_cons, List.drop_zero]
                  go_wp2_with fail
                  go_meet
                  exact h10
              case rest =>
                clear HI HD1
                have hI := hcut
                have HI := Lib.hid hI
                clear hcut hI
                obtain ⟨TF, hTF⟩ : ∃ TF, T3.plus ((glueT P.left).plus (glueT P.right)) = TF := ⟨_, rfl⟩
                have HF : Hid (lineT L P s f q = TF) := Lib.hid (by rw [lineT_eq Hpos.out Hfp2.out, HT1.out, HT2.out, HT3.out, hTF])
                have hBs : TtB 2200000000000 (Tt.wide (sufN L q)) := by
                  unfold sufN
                  split
                  · rename_i hdx
                    have hqs : q ∈ s := by
                      simp only [discB, Bool.and_eq_true, decide_eq_true_eq] at hdx
                      rcases List.mem_append.1 (List.mem_of_getElem? Hm.out) with h1 | h1
                      · exact h1
                      · have := List.mem_singleton.1 h1; omega
                    have hk10 : (nth L q).kind = 10 := by
                      simp only [discB, Bool.and_eq_true, beq_iff_eq] at hdx
                      exact hdx.2
                    obtain ⟨md, u, hda⟩ := disc_at hc hs hqs hk10
                    obtain ⟨hok, hlen3⟩ := disc_ok hda
                    have hlt3 := hda.lt
                    have h5 := row_bound hok.a Hr.out
                    exact .wide (by omega) (by omega)
                  · exact TtB.zero.mono (by omega)
                have hB3 : TtB 13200000000000 T3 := by rw [← HT3.out]; exact (HB2.out.plus hBs).mono (by omega)
                obtain ⟨D, hD⟩ : ∃ D, (glueT P.left).plus (glueT P.right) = D := ⟨_, rfl⟩
                have hbD : TtB 2147483646 D := by rw [← hD]; exact ((glueT_good hPl).plus (glueT_good hPr)).mono (by omega)
                rw [hD] at hTF
                have HA2 : Hid (∀ W, Calls Tryz.prog 63 #[.agg T3.arr, .agg D.arr, .int .i64 1] W fun e w' => e = .returned (.agg TF.arr) ∧ Below W.heap.size W w') := Lib.hid fun W => by
                  have h1 := vadd T3 D 1 (.inl rfl) (hB3.mono (by omega)) (hbD.mono (by omega)) W
                  rw [addS_one, hTF] at h1
                  exact h1
                have HTo : Hid (∀ W p g o c, NIn W p g o c [skipN P.left, skipN P.right] → Calls Tryz.prog 64 #[.slice p 2 c] W fun e w' => e = .returned (.agg D.arr) ∧ Below W.heap.size W w') := Lib.hid fun W p g o c hN => by
                  rw [← hD]
                  exact total_skips hPl hPr p g o c W hN
                have HG : Hid (∀ W, TotI w Z T3 W → agg? W (Z + 1) 0 9 = some T3.arr ∧ agg? W X 11 5 = some P.left.arr ∧ agg? W X 16 5 = some P.right.arr) := Lib.hid fun W hW => by
                  have h9 := (H.out.still hW.below).para.blk
                  refine ⟨hW.at_.agg, ?_, ?_⟩
                  · rw [agg?_blk' h9 11 5 (by rw [px_size]; decide)]; rfl
                  · rw [agg?_blk' h9 16 5 (by rw [px_size]; decide)]; rfl
                clear hTF hBs hB3 hD hbD HB1 HBm HB2 HT1 HT2 HT3 Hfp2 hsf
                go_upto_region 18 with (fail)
                have hI0 := HI.out.drew
                have hN2 := nodes_two (n := skipN P.left) (m := skipN P.right) (heap_alloc_new wc.drew (.cells ((skipN P.left).cells ++ (skipN P.right).cells).toArray 69))
                have HT2 := Lib.hid (HTo.out _ _ _ _ _ hN2)
                have HN : Hid (∀ W, TotI w Z T3 W → agg? (setAgg W Z 0 TF.arr) (Z + 1) 0 9 = some T3.arr ∧ agg? (setAgg W Z 0 TF.arr) X 11 5 = some P.left.arr ∧ agg? (setAgg W Z 0 TF.arr) X 16 5 = some P.right.arr) := Lib.hid fun W hW => by
                  obtain ⟨a1, a2, a3⟩ := HG.out W hW
                  have hXZ : X ≠ Z := by have := H.out.para.ltX; have := hW.le; omega
                  exact ⟨(agg?_setAgg_other (by omega)).trans a1, (agg?_setAgg_other hXZ).trans a2, (agg?_setAgg_other hXZ).trans a3⟩
                clear hN2 HTo
                have hIa := hI0.alloc (.cells ((skipN P.left).cells ++ (skipN P.right).cells).toArray 69)
                go_region_held3 (fun W => agg? W (Z + 1) 0 9 = some T3.arr ∧ agg? W X 11 5 = some P.left.arr ∧ agg? W X 16 5 = some P.right.arr)
                  (first | (with_reducible exact HG.out _ hI0) | (with_reducible exact HN.out _ hI9) | (with_reducible exact HG.out _ hI9) | (with_reducible exact HG.out _ hI8) | exact HG.out _ hIa)
                  (first | (go_at_call 64; refine HT2.out.mono ?_; rintro e w8 ⟨rfl, hb8⟩; have hI8 := hIa.still hb8) | (go_at_call 63; refine (HA2.out _).mono ?_; rintro e w9 ⟨rfl, hb9⟩; have hI9 := hI8.still hb9; have t9 := hI9.res.there))
                go_wp2_with fail
                exact ret_tt rfl Z 0 TF rfl (hI9.res.store (U := TF)).agg rfl ⟨by rw [HF.out], Below.setAgg hI9.below hI9.le _ _⟩
end Go.Proofs.YtiijpbfkchokaaaGreat
