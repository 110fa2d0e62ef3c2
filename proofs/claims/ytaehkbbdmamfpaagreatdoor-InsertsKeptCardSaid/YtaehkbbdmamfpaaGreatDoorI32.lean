/-
  The law InsertsKept, walked: the page, its boxes and the rest have all that stood there.
-/
import Derived.Test.YtaehkbbdmamfpaaGreatDoorI30
import Derived.Test.YtaehkbbdmamfpaaGreatDoorI21
import Derived.Test.YtaehkbbdmamfpaaGreatDoorI31
import Derived.Sort.AtCall
import Derived.BigQuiet
namespace Go.Proofs.YtaehkbbdmamfpaaGreatDoor
open Go.ChangeShapes Go.WideShapes Go.ChangeAt Go.RowKit
attribute [local go_sem ↓] Go.wp_at_zero Go.wp_at_succ
theorem nin_nil (w : World) (p : Option Addr) (b off cap : Nat) : NIn w p b off cap [] := ⟨fun e => absurd rfl e, fun e => absurd rfl e, fun j hj => by simp at hj, Nat.zero_le _, by simp⟩
set_option maxRecDepth 100000 in
set_option maxHeartbeats 16000000 in
theorem ikept_walk (p0 : Option Addr) (b off cap : Nat) (L : List Nd) (pc : Option Addr) (bc oc cc : Nat) (C : List Cl) (tk goal depth : Int) (w : World) (hN : NIn w p0 b off cap L) (hC : CIn w pc bc oc cc C)
    (hg : w.cell? ⟨0, 0, none⟩ = some (.iface 159 (.agg #[.pointer (some ⟨1, 72, none⟩)]))) :
    Calls Tryz.prog 5 #[.slice p0 L.length cap, .int .i64 tk, .slice pc C.length cc, .int .i64 goal, .int .i64 depth] w fun e w' => e = .returned (.bool true) ∧ Below w.heap.size w w' := by
  have hcp := hN.cap'
  have hl := hN.len
  have hw0 : 0 < w.heap.size := by
    rcases Nat.eq_zero_or_pos w.heap.size with h0 | h
    · simp [World.cell?, h0] at hg
    · exact h
  obtain ⟨R, hR⟩ : ∃ R, dealP L tk C goal depth = R := ⟨_, rfl⟩
  have HDl : Hid (∀ W g c, Below w.heap.size w W → NIn W (some ⟨g, 0, none⟩) g 0 c L → Calls Tryz.prog 8 #[.slice (some ⟨g, 0, none⟩) L.length c, .int .i64 tk, .slice pc C.length cc, .int .i64 goal, .int .i64 depth] W (DealPost W R)) := Lib.hid fun W g c hb hn => by
    rw [← hR]
    exact ideal_all g 0 c L tk pc bc oc cc C goal depth W hn (hC.below hb) ((hb.cell (p := ⟨0, 0, none⟩) hw0).trans hg)
  have H := Lib.hid hN
  have HR := Lib.hid hR
  clear hg hw0 hR hC
  obtain ⟨Rp, Rb, Rr, Re⟩ := R
  obtain ⟨i0, hi0', hz0, hz1, hz2⟩ := info_parts info_node
  have r0 := owns_empty w
  have hb0 : Below w.heap.size w (w.alloc (.cells #[] 53)) := (Below.refl _ _).alloc (Nat.le_refl _) _
  go_enter Tryz.func5, Tryz.ntmps5
  go_upto_region 1 with (fail)
  go_cut [11, 12, 13, 14] from 20 to 32 (fun t11 t12 t13 t14 wx => ∃ vs bv, t11 = vs 0 ∧ t12 = bv ∧ t13 = vs 1 ∧ t14 = .int .i64 Re ∧ DlIn wx w.heap.size vs bv Rp ⟨Rb, Rr⟩ ∧ Below w.heap.size w wx)
  case first =>
    by_cases hL : L = []
    · subst hL
      have HD0 := Lib.hid (HDl.out _ w.heap.size 0 hb0 (nin_nil _ _ _ _ _))
      clear HDl
      cases p0
      all_goals
        simp only [List.length_nil] at HD0 ⊢
        go_wp2_with (go_at_call 8; refine HD0.out.mono ?_; clear HD0; rintro e w2 ⟨⟨vs, bv, rfl, hd⟩, hb2⟩)
        go_meet
        exact ⟨vs, bv, rfl, rfl, rfl, rfl, hd.base hb0.size, hb0.trans (hb2.mono hb0.size)⟩
    · have hpos : 0 < L.length := List.length_pos_iff.2 hL
      obtain rfl := hN.hp hL
      have Hnews := Lib.hid (fun W h => (NIn.below hN h : NIn W _ _ _ _ _).news)
      clear hN
      go_wp2_with (first | (at_builtin; refine wpList_append_lies _ rfl _ _ _ rfl w.heap.size 53 i0 (.agg Nd.zero.arr) 19 160 Tryz.underlying22 hi0' hz0 hz1 hz2 rfl (by decide) (.slice (some ⟨w.heap.size, 0, none⟩) 0 0) 0 [] rfl r0 ⟨b, off, none⟩ L.length cap (L.flatMap Nd.cells) rfl (flat_len _) (Hnews.out _ hb0) (nodes_one _) hpos (by unfold maxLen; omega) (by omega) (by simp) _ rfl ?_; intro g1 cap1 w1 hown1 hgrow1 hat1 hlt1; rw [Nat.zero_add, List.nil_append] at hown1; (have hb1 := Below.grown hb0 hgrow1 (by simp) (fun q hq => by cases hq; exact Nat.le_refl _)); (have HD1 := Lib.hid (row_nodes hown1 (by omega))); (have HB1 := Lib.hid hb1); clear hown1 hgrow1 hat1 hlt1 hb1) | (go_at_call 8; obtain ⟨_, p9, g9, c9, e9, n9, _⟩ := HD1.out; cases e9; (have hg9 := n9.hp hL); cases hg9; refine (HDl.out _ _ _ HB1.out n9).mono ?_; clear HDl; rintro e w2 ⟨⟨vs, bv, rfl, hd⟩, hb2⟩))
      go_meet
      exact ⟨vs, bv, rfl, rfl, rfl, rfl, hd.base HB1.out.size, HB1.out.trans (hb2.mono HB1.out.size)⟩
  case rest =>
    obtain ⟨vs, bv, rfl, rfl, rfl, rfl, hd, hb⟩ := hcut
    have row0 : wc.ownsRow w.heap.size 53 19 (vs 0) Rp.length (Rp.flatMap Nd.cells) := hd.rws.row 0 (by show 0 < Rb.length + 2; omega)
    have row1 : wc.ownsRow w.heap.size 53 19 (vs 1) Rr.length (Rr.flatMap Nd.cells) := hd.rws.row 1 (by show 1 < Rb.length + 2; omega)
    obtain ⟨pb, cb, rfl⟩ := owns_form hd.out
    obtain ⟨pp, cpp, e0⟩ := owns_form row0
    obtain ⟨pr, cpr, e1⟩ := owns_form row1
    rw [e0, e1]
    have Hd := Lib.hid (And.intro hd (And.intro hb (And.intro row0 row1)))
    have He := Lib.hid (And.intro e0 e1)
    clear hd hb row0 row1 e0 e1 hb0 r0 HDl
    by_cases he : Re = 0
    case neg =>
      have hb3 : Rp = [] ∧ Rb = [] ∧ Rr = [] := by
        have := deal_bad (L := L) (tk := tk) (C := C) (goal := goal) (depth := depth) (by rw [HR.out]; exact he)
        rw [HR.out] at this
        exact this
      obtain ⟨rfl, rfl, rfl⟩ := hb3
      have he1 : (Re != 0) = true := by simpa using he
      simp only [List.length_nil]
      clear he
      go_wp2_with (first | (go_at_call 13; refine (num12_any _ _).mono ?_; rintro e w' ⟨rfl, rfl⟩) | (go_at_call 17; refine (live12_any _).mono ?_; rintro e w6 ⟨rfl, hb6⟩))
      go_ret
      exact ⟨rfl, Hd.out.2.1.trans (hb6.mono Hd.out.2.1.size)⟩
    subst he
    obtain ⟨t, D, rfl, ht, htl, hck, hrt, hv, hrl, hbl, hdr, hbx, hct⟩ := deal_good (L := L) (tk := tk) (C := C) (goal := goal) (depth := depth) (by rw [HR.out])
    rw [HR.out] at hv
    have hRp : Rp = itF fPlain (L.take t) := congrArg Dealt.page hv
    obtain rfl : Rb = D.boxes := congrArg Dealt.boxes hv
    have hRr : Rr = D.rest ++ L.drop t := congrArg Dealt.rest hv
    have hs := its_of hck
    have hll := (checkC_zero hck).1
    have hit := its_self (items_take hs ht)
    have htlen : (L.take t).length = t := by rw [List.length_take]; omega
    have hpl := plain_len hit
    have hrdr := ((check_run.1 hck).2.cut (by decide) ht).2
    have hc0 : checkC Rp = 0 := check_run.2 ⟨by rw [hRp]; omega, by rw [hRp]; exact plain_run hrt _ (fun x h => h)⟩
    have hc1 : checkC Rr = 0 := check_run.2 ⟨by rw [hRr]; exact hrl, by rw [hRr]; exact hdr.app hrdr⟩
    obtain ⟨_, pp', gp, cp', e0, nP, _⟩ := row_nodes Hd.out.2.2.1 (by have := (check_run.1 hc0).1; omega)
    rw [He.out.1] at e0
    cases e0
    obtain ⟨_, pr', gr, cr', e1, nR, _⟩ := row_nodes Hd.out.2.2.2 (by have := (check_run.1 hc1).1; omega)
    rw [He.out.2] at e1
    cases e1
    have HCp : Hid (∀ W, Below wc.heap.size wc W → Calls Tryz.prog 20 #[.slice pp Rp.length cpp] W fun e w' => e = .returned (.int .i64 0) ∧ Below W.heap.size W w') := Lib.hid fun W h => by have := check_any pp gp 0 cpp Rp W (nP.below h); rwa [hc0] at this
    have HCr : Hid (∀ W, Below wc.heap.size wc W → Calls Tryz.prog 20 #[.slice pr Rr.length cpr] W fun e w' => e = .returned (.int .i64 0) ∧ Below W.heap.size W w') := Lib.hid fun W h => by have := check_any pr gr 0 cpr Rr W (nR.below h); rwa [hc1] at this
    have HSt : Hid (∀ W, Below w.heap.size w W → Calls Tryz.prog 21 #[.slice p0 t cap] W fun e w' => (∃ v, e = .returned v ∧ IRow W v (itsP (L.take t)) w') ∧ Below W.heap.size W w') := Lib.hid fun W h => by
      have := qstarts p0 b off cap (L.take t) (itsP (L.take t)) W ((H.out.below h).take t) hit (fun x hx => items_ne6 hrt hx)
      rwa [htlen] at this
    have HK := Lib.hid (And.intro hrt (And.intro hRp (And.intro hRr (And.intro hck (And.intro hit (And.intro hdr (And.intro hbx (And.intro hct ht))))))))
    have HN := Lib.hid (And.intro nP nR)
    have Hpl := Lib.hid hpl
    have ht0 : (0 : Int) ≤ (t : Int) := by omega
    have ht1 : (t : Int) ≤ (cap : Int) := by omega
    have ht2 : t ≤ cap := by omega
    have hbl1 : ¬ (255 : Int) < (D.boxes.length : Int) := by omega
    clear hrt hRp hRr hck hit hdr hbx hct ht hs hc0 hc1 nP nR hrdr hv hpl HR hN
    go_upto_region 6 with (first | (go_at_call 13; refine (num12_any _ _).mono ?_; rintro e w' ⟨rfl, rfl⟩) | (go_at_call_has 20 pp; refine (HCp.out _ (Below.refl _ _)).mono ?_; clear HCp; rintro e w3 ⟨rfl, hb3⟩) | (go_at_call_has 20 pr; refine (HCr.out _ hb3).mono ?_; clear HCr; rintro e w4 ⟨rfl, hb4⟩))
    have hb5 : Below wc.heap.size wc w4 := hb3.trans (hb4.mono hb3.size)
    have hbw5 := Hd.out.2.1.trans (hb5.mono Hd.out.2.1.size)
    have H5 := Lib.hid (And.intro hb5 hbw5)
    clear hb3 hb4 hb5 hbw5
    go_upto_region 8 with (go_at_call 21; refine (HSt.out _ H5.out.2).mono ?_; clear HSt; rintro e w6 ⟨⟨v6, rfl, hrow⟩, hb6⟩)
    obtain ⟨p6, gi, c6, rfl, hII⟩ := irow_seen hrow
    have hb16 : Below wc.heap.size wc w6 := H5.out.1.trans (hb6.mono H5.out.1.size)
    have hbw6 := H5.out.2.trans (hb6.mono H5.out.2.size)
    obtain ⟨A, hA⟩ : ∃ A, L.take t = A := ⟨_, rfl⟩
    obtain ⟨s, hs⟩ : ∃ s, itsP A = s := ⟨_, rfl⟩
    have hRp := HK.out.2.1
    have hit := HK.out.2.2.2.2.1
    unfold itF at hRp
    rw [hA, hs] at hRp hit
    rw [hA, hs] at hII ⊢
    rw [hA] at htlen
    have hk6 : ∀ x ∈ s, (nth A x).kind ≠ 6 := fun x hx => by
      rw [← hs, ← hA] at hx
      rw [← hA]
      exact items_ne6 HK.out.1 hx
    have HA := Lib.hid (And.intro hA (And.intro hs (And.intro hRp (And.intro hit hk6))))
    have H6 := Lib.hid (And.intro hb16 hbw6)
    have hsl := hit.len
    have hsl2 : s.length ≤ 2000 := by omega
    clear hrow hb6 hb16 hbw6 hA hs hRp hit hk6 H5
    go_wp2_with fail
    go_loopg [15, 17] (s.length + 1) (fun gg t15 t17 wr => ∃ (i k : Nat) (out : List Nd), gg = s.length + 1 - i ∧ i ≤ s.length ∧ t17 = .int .i64 i ∧ (out ++ (s.drop i).flatMap fun x => fPlain (itemN A x)) = Rp ∧ Items A k (s.drop i) ∧ out.length ≤ k ∧ wr.ownsRow w6.heap.size 53 19 t15 out.length (out.flatMap Nd.cells) ∧ Below w6.heap.size w6 wr)
    case atStart => exact ⟨0, 0, [], rfl, Nat.zero_le _, rfl, by rw [List.drop_zero]; exact HA.out.2.2.1.symm, by rw [List.drop_zero]; exact HA.out.2.2.2.1, Nat.le_refl _, World.ownsRow_nil _ _ _ _, .refl _ _⟩
    case round =>
      obtain ⟨i, k, out, rfl, hi, rfl, hrun, hit, hok, hown, hbl⟩ := hrel
      have hi1 : (0 : Int) ≤ (i : Int) := by omega
      by_cases hin : i < s.length
      · have hi2 : (i : Int) < (s.length : Int) := by omega
        have hIr := hII.below hbl
        have cI := hIr.at_ i hin
        have hne : s ≠ [] := by intro e; rw [e] at hin; simp at hin
        obtain rfl := hII.hp hne
        have hgi := hII.hg hne
        have hdr := List.drop_eq_getElem_cons hin
        rw [hdr, List.flatMap_cons] at hrun
        rw [hdr] at hit
        have hmem : s[i] ∈ s := List.getElem_mem hin
        obtain ⟨x, hx⟩ : ∃ x, s[i] = x := ⟨_, rfl⟩
        rw [hx] at cI hrun hit hmem
        have Hx := Lib.hid (show s[i]? = some x by rw [List.getElem?_eq_getElem hin, hx])
        clear hx hdr
        cases hit with
        | step hxl hm hs2 =>
          rename_i m
          have hN2 := H.out.below (H6.out.2.trans (hbl.mono H6.out.2.size))
          have hmA := hm
          rw [← HA.out.1] at hm
          have hxt : k < (L.take t).length := by rw [HA.out.1]; exact hxl
          obtain ⟨hmL, hkt⟩ := take_beh hxt hm
          have hxL : k < L.length := by omega
          have hnA : nth A k = nth L k := by rw [← HA.out.1]; unfold nth; rw [List.getElem?_take_of_lt (by omega)]
          have hiA : itemN A k = itemN L k := by
            rw [itemN_sl hmA, itemN_sl hmL, ← HA.out.1]
            unfold sl
            rw [List.drop_take, List.take_take]
            congr 1; omega
          have xa := hN2.nth hxL
          obtain rfl := hN2.at_ hxL
          have hx1 : (0 : Int) ≤ (k : Int) := by omega
          have hx2 : (k : Int) < (L.length : Int) := by omega
          obtain ⟨n, hn⟩ : ∃ n, nth L k = n := ⟨_, rfl⟩
          have hfl : fPlain (itemN A k) = if n.kind = 13 then [] else itemN L k := by unfold fPlain; rw [item_head hmA, hnA, hn, hiA]
          rw [hfl] at hrun
          rw [hn] at xa
          have cK : wr.cell? ⟨b, off + k * 19, none⟩ = some (.int .i64 n.kind) := agg_cell xa 0 _ (Nd.get0 n)
          have hk6 := HA.out.2.2.2.2 k hmem
          rw [hnA] at hk6
          have Hin := Lib.hid hin
          have Hm := Lib.hid (And.intro hmL hk6)
          have HS2 := Lib.hid hs2
          have Hrun := Lib.hid hrun
          have hm2 := behC_pos _ _ _ hmL
          rw [List.length_drop] at hm2
          have hcapL := hN2.cap'
          clear hin hm hmA hmL hs2 hrun hmem hIr hfl xa hnA hiA hxt hk6
          by_cases h13 : n.kind = 13
          · have hk' : (n.kind != 13) = false := by simp [h13]
            have Hrun2 := Hrun.out
            rw [if_pos h13, List.nil_append] at Hrun2
            have Hrun3 := Lib.hid Hrun2
            clear h13 Hrun Hrun2 hn
            generalize n.kind = kk at cK hk'
            go_wp2_with fail
            go_roundg (s.length + 1 - (i + 1))
            case measure => have := Hin.out; omega
            case rel => exact ⟨i + 1, k + m, out, rfl, Hin.out, by go_num, Hrun3.out, HS2.out, by omega, hown, hbl⟩
          · have hk' : (n.kind != 13) = true := by simpa using h13
            have hrun2 : ((out ++ itemN L k) ++ (s.drop (i + 1)).flatMap fun x => fPlain (itemN A x)) = Rp := by
              have := Hrun.out
              rw [if_neg h13] at this
              rw [List.append_assoc]; exact this
            have Hrun2 := Lib.hid hrun2
            clear h13 Hrun hrun2 hn
            have hbw6 := H6.out.2.trans (hbl.mono H6.out.2.size)
            have HE := Lib.hid (qends (some ⟨b, off, none⟩) b off cap L k m wr.drew hN2.drew Hm.out.1 Hm.out.2)
            have hown6d : wr.drew.ownsRow w6.heap.size 53 19 u15 out.length (out.flatMap Nd.cells) := ownsRow_same hown fun _ _ _ => rfl
            have hbl6d := hbl.drew
            have HSn : Hid (∀ W, Below w6.heap.size w6 W → Below w6.heap.size w6 W ∧ W.cell? ⟨gi, i, none⟩ = some (.int .i64 (k : Int))) := Lib.hid fun W h => ⟨h, ((h.cell (p := ⟨gi, i, none⟩) hgi).trans (hbl.cell (p := ⟨gi, i, none⟩) hgi).symm).trans cI⟩
            have HT : Hid (∀ w8, Below wr.drew.heap.size wr.drew w8 → Below w6.heap.size w6 w8) := Lib.hid fun w8 h => hbl6d.trans (h.mono hbl6d.size)
            have HG : Hid (∀ w8 w9, Below wr.drew.heap.size wr.drew w8 → w8.grownBy w9 u15.ownBlock → Below w6.heap.size w6 w9) := Lib.hid fun w8 w9 h hg => Below.grown (HT.out _ h) hg (HT.out _ h).size (fun q hq => (hown6d.lt q hq).1)
            have hil : (itemN L k).length = m := by unfold itemN; rw [Hm.out.1]; simp; omega
            have Hnews : Hid (∀ w8, Below wr.drew.heap.size wr.drew w8 → ∀ j u, ((itemN L k).flatMap Nd.cells)[j]? = some u → w8.cell? ((⟨b, off + k * 19, none⟩ : Addr).add j) = some u) := Lib.hid fun w8 h => (((hN2.drew.below h).drop k (Nat.le_of_lt hxL)).take _).news
            have Hone := Lib.hid (nodes_one (itemN L k))
            have Hil := Lib.hid hil
            have hsz6 : w6.heap.size ≤ wr.heap.size := hbl.size
            obtain ⟨q, hq⟩ : ∃ q, k + m = q := ⟨_, rfl⟩
            rw [hq] at HE
            have hkm1 : (k : Int) ≤ (q : Int) := by omega
            have hkm2 : (q : Int) ≤ (cap : Int) := by omega
            have hkm3 : (0 : Int) ≤ (q : Int) := by omega
            have hkm4 : k ≤ q := by omega
            have hkm5 : ¬ cap = k := by omega
            have hmq : (q - k : Nat) = m := by omega
            have hol : out.length ≤ 2000 := by omega
            clear hq hil hown hbw6 hN2
            generalize n.kind = kk at cK hk'
            go_upto_region 12 with fail
            go_region_held3 (fun w' => Below w6.heap.size w6 w' ∧ w'.cell? ⟨gi, i, none⟩ = some (.int .i64 (k : Int)))
              (first | exact HSn.out _ hbl6d | exact HSn.out _ (HT.out _ hb8) | exact HSn.out _ (HG.out _ _ hb8 hgrow9))
              ((first | ((with_reducible refine HE.out.mono ?_); rintro e w8 ⟨rfl, hb8⟩) | (refine step_append_lies _ (by rfl) _ _ _ (by rfl) w6.heap.size 53 i0 (.agg Nd.zero.arr) 19 160 Tryz.underlying22 hi0' hz0 hz1 hz2 (by rfl) (by decide) u15 out.length (out.flatMap Nd.cells) (by rfl) (ownsRow_below hown6d hb8) ⟨b, off + k * 19, none⟩ m (cap - k) ((itemN L k).flatMap Nd.cells) (by rfl) (by rw [flat_len, Hil.out]) (Hnews.out _ hb8) Hone.out hm2.1 (by unfold maxLen; omega) (by omega) (HT.out _ hb8).size _ rfl ?_; intro g9 cap9 w9 hown9 hgrow9 hat9 hlt9)))
            go_wp2_with fail
            go_roundg (s.length + 1 - (i + 1))
            case measure => have := Hin.out; omega
            case rel => exact ⟨i + 1, k + m, out ++ itemN L k, rfl, Hin.out, by go_num, Hrun2.out, HS2.out, by rw [List.length_append, Hil.out]; omega, by rw [List.length_append, Hil.out, List.flatMap_append]; exact hown9, HG.out _ _ hb8 hgrow9⟩
      · obtain rfl : i = s.length := by omega
        rw [List.drop_length, List.flatMap_nil, List.append_nil] at hrun
        subst hrun
        obtain ⟨p15, c15, rfl⟩ := owns_form hown
        go_upto_region 13 with fail
        obtain ⟨_, p15', g15, c15', e15, n15, _⟩ := row_nodes hown (by have h1 := Hpl.out; rw [← HK.out.2.1, HA.out.1, htlen] at h1; omega)
        cases e15
        have hbw := H6.out.1.trans (hbl.mono H6.out.1.size)
        have hbww := H6.out.2.trans (hbl.mono H6.out.2.size)
        have hnr : Rr.length = D.rest.length + (L.length - t) := by rw [HK.out.2.2.1, List.length_append, List.length_drop]
        have hrl2 : Rr.length ≤ 2000 := by rw [HK.out.2.2.1]; exact hrl
        have HSm1 : Hid (∀ n, Calls Tryz.prog 11 #[.slice pp out.length cpp, .slice p15 out.length c15] (wr.drewN n) fun e w' => e = .returned (.bool true) ∧ ∃ m, w' = (wr.drewN n).drewN m) := Lib.hid fun n => (same_any pp p15 gp 0 cpp g15 0 c15 out out (wr.drewN n) ((HN.out.1.below hbw).drewN n) (n15.drewN n)).mono fun e w' h => ⟨by rw [h.1]; simp, h.2⟩
        obtain ⟨d, hd⟩ : ∃ d, D.rest.length = d := ⟨_, rfl⟩
        have hdrop : Rr.drop d = L.drop t := by rw [HK.out.2.2.1, ← hd]; exact List.drop_left
        have Hdd := Lib.hid (And.intro hd hdrop)
        have hRcap := HN.out.2.cap'
        obtain ⟨nr, hnr'⟩ : ∃ nr, Rr.length = nr := ⟨_, rfl⟩
        have Hnr := Lib.hid hnr'
        rw [hd, hnr'] at hnr
        rw [hnr'] at hrl2 hRcap ⊢
        have hE : (nr : Int) - (L.length : Int) + (t : Int) = (d : Int) := by omega
        have hA1 : ¬ (nr : Int) < (L.length : Int) - (t : Int) := by omega
        have hA2 : decide ((nr : Int) < (L.length : Int) - (t : Int)) = false := decide_eq_false hA1
        have hd0 : (0 : Int) ≤ (d : Int) := by omega
        have hd1 : (d : Int) ≤ (nr : Int) := by omega
        have hd2 : (nr : Int) ≤ (cpr : Int) := by omega
        have hd3 : d ≤ nr := by omega
        have hd4 : d ≤ cpr := by omega
        have ht3 : (t : Int) ≤ (L.length : Int) := by omega
        have Hw := Lib.hid (And.intro hbw (And.intro hbww (And.intro hown n15)))
        have Hnr2 := Lib.hid hnr
        clear hd hdrop hnr hnr' hbw hbww hown n15 hin hit hsl hII
        go_cut [124] from 96 to 124 (fun t124 wx => t124 = .bool false ∧ ∃ n, wx = wr.drewN n)
        case first =>
          by_cases hend : t = L.length
          · have hz5 : nr - d = 0 := by have := Hnr2.out; omega
            have hz6 : L.length - t = 0 := by omega
            have HS0 : Hid (∀ (p q : Option Addr) (c c' n : Nat), Calls Tryz.prog 11 #[.slice p 0 c, .slice q 0 c'] (wr.drewN n) fun e w' => e = .returned (.bool true) ∧ ∃ m, w' = (wr.drewN n).drewN m) := Lib.hid fun p q c c' n => (same_any p q 0 0 c 0 0 c' [] [] (wr.drewN n) (nin_nil _ _ _ _ _) (nin_nil _ _ _ _ _)).mono fun e w' h => ⟨by rw [h.1]; simp, h.2⟩
            clear hend
            cases p0
            · cases pr
              · go_quiet (first | (go_at_call_has 11 p15; exact Calls.quiet_of (HSm1.out _)) | (go_at_call 11; exact Calls.quiet_of (HS0.out _ _ _ _ _)))
                go_wp2_with fail
                go_meet
                exact ⟨rfl, _, rfl⟩
              · by_cases hq1 : cpr = d
                · subst hq1
                  go_quiet (first | (go_at_call_has 11 p15; exact Calls.quiet_of (HSm1.out _)) | (go_at_call 11; exact Calls.quiet_of (HS0.out _ _ _ _ _)))
                  go_wp2_with fail
                  go_meet
                  exact ⟨rfl, _, rfl⟩
                · go_quiet (first | (go_at_call_has 11 p15; exact Calls.quiet_of (HSm1.out _)) | (go_at_call 11; exact Calls.quiet_of (HS0.out _ _ _ _ _)))
                  go_wp2_with fail
                  go_meet
                  exact ⟨rfl, _, rfl⟩
            · by_cases hq2 : cap = t
              · subst hq2
                cases pr
                · go_quiet (first | (go_at_call_has 11 p15; exact Calls.quiet_of (HSm1.out _)) | (go_at_call 11; exact Calls.quiet_of (HS0.out _ _ _ _ _)))
                  go_wp2_with fail
                  go_meet
                  exact ⟨rfl, _, rfl⟩
                · by_cases hq1 : cpr = d
                  · subst hq1
                    go_quiet (first | (go_at_call_has 11 p15; exact Calls.quiet_of (HSm1.out _)) | (go_at_call 11; exact Calls.quiet_of (HS0.out _ _ _ _ _)))
                    go_wp2_with fail
                    go_meet
                    exact ⟨rfl, _, rfl⟩
                  · go_quiet (first | (go_at_call_has 11 p15; exact Calls.quiet_of (HSm1.out _)) | (go_at_call 11; exact Calls.quiet_of (HS0.out _ _ _ _ _)))
                    go_wp2_with fail
                    go_meet
                    exact ⟨rfl, _, rfl⟩
              · cases pr
                · go_quiet (first | (go_at_call_has 11 p15; exact Calls.quiet_of (HSm1.out _)) | (go_at_call 11; exact Calls.quiet_of (HS0.out _ _ _ _ _)))
                  go_wp2_with fail
                  go_meet
                  exact ⟨rfl, _, rfl⟩
                · by_cases hq1 : cpr = d
                  · subst hq1
                    go_quiet (first | (go_at_call_has 11 p15; exact Calls.quiet_of (HSm1.out _)) | (go_at_call 11; exact Calls.quiet_of (HS0.out _ _ _ _ _)))
                    go_wp2_with fail
                    go_meet
                    exact ⟨rfl, _, rfl⟩
                  · go_quiet (first | (go_at_call_has 11 p15; exact Calls.quiet_of (HSm1.out _)) | (go_at_call 11; exact Calls.quiet_of (HS0.out _ _ _ _ _)))
                    go_wp2_with fail
                    go_meet
                    exact ⟨rfl, _, rfl⟩
          · have hL : L ≠ [] := by intro e; subst e; exact hend (by simpa using htl)
            obtain rfl := H.out.hp hL
            have hRne : Rr ≠ [] := by intro e; have h1 := Hnr.out; have h2 := Hnr2.out; rw [e, List.length_nil] at h1; omega
            obtain rfl := HN.out.2.hp hRne
            have hnr := Hnr2.out
            have hq1 : ¬ cpr = d := by omega
            have hq2 : ¬ cap = t := by omega
            have hq3 : nr - d = L.length - t := by omega
            clear hnr
            have HSm2 : Hid (∀ n, Calls Tryz.prog 11 #[.slice (some ⟨gr, d * 19, none⟩) (L.length - t) (cpr - d), .slice (some ⟨b, off + t * 19, none⟩) (L.length - t) (cap - t)] (wr.drewN n) fun e w' => e = .returned (.bool true) ∧ ∃ m, w' = (wr.drewN n).drewN m) := Lib.hid fun n => by
              have h1 := ((HN.out.2.below Hw.out.1).drewN n).drop d (by rw [Hnr.out]; have := Hnr2.out; omega)
              have h2 := ((H.out.below Hw.out.2.1).drewN n).drop t htl
              rw [Hdd.out.2] at h1
              have := same_any _ _ gr _ _ b _ _ (L.drop t) (L.drop t) (wr.drewN n) h1 h2
              rw [List.length_drop] at this
              refine (show Calls _ _ #[.slice (some ⟨gr, 0 + d * 19, none⟩) (L.length - t) (cpr - d), .slice (some ⟨b, off + t * 19, none⟩) (L.length - t) (cap - t)] _ _ from this) |> fun h => ?_
              rw [Nat.zero_add] at h
              exact h.mono fun e w' h => ⟨by rw [h.1]; simp, h.2⟩
            go_quiet (first | (go_at_call_has 11 p15; exact Calls.quiet_of (HSm1.out _)) | (go_at_call 11; exact Calls.quiet_of (HSm2.out _)))
            go_wp2_with fail
            go_meet
            exact ⟨rfl, _, rfl⟩
        case rest =>
          obtain ⟨rfl, nq, rfl⟩ := hcut
          have hbd : Below wc.heap.size wc (wr.drewN nq) := below_drewN Hw.out.1 nq
          have hbdw : Below w.heap.size w (wr.drewN nq) := below_drewN Hw.out.2.1 nq
          have hdD := Hd.out.1.still hbd
          have Hbd := Lib.hid (And.intro hbd hbdw)
          have HdD := Lib.hid hdD
          clear hbd hbdw hdD
          generalize wr.drewN nq = wd at Hbd HdD ⊢
          go_wp2_with fail
          go_loopg [19] (D.boxes.length + 1) (fun gg t19 wq => ∃ k : Nat, gg = D.boxes.length - k + 1 ∧ k ≤ D.boxes.length ∧ t19 = .int .i64 (k : Int) ∧ Below wd.heap.size wd wq)
          case atStart => exact ⟨0, rfl, Nat.zero_le _, rfl, Below.refl _ _⟩
          case round =>
            obtain ⟨k, rfl, hk, rfl, hbq⟩ := hrel
            by_cases hlt : k < D.boxes.length
            · have hk0 : (0 : Int) ≤ (k : Int) := by omega
              have hk1 : (k : Int) < (D.boxes.length : Int) := by omega
              have hdq := HdD.out.still hbq
              obtain ⟨gB, cB, eB, q1, q2, hgB, hcell, q3⟩ := out_cell hdq.out (k := k) (by show k < D.boxes.length + 2 - 2; omega)
              clear q1 q2 q3
              cases eB
              have hrow := hdq.rws.row (k + 2) (by show k + 2 < D.boxes.length + 2; omega)
              obtain ⟨bx, hbx⟩ : ∃ bx, boxK D.boxes k = bx := ⟨_, rfl⟩
              have hrow2 : wr.ownsRow w.heap.size 53 19 (vs (k + 2)) bx.length (bx.flatMap Nd.cells) := by rw [← hbx]; exact hrow
              have hcol : colQ bx = 0 := by rw [← hbx]; exact HK.out.2.2.2.2.2.2.1 k
              have hct := HK.out.2.2.2.2.2.2.2.1 k
              rw [hbx] at hct
              have hbl2 := (checkC_zero (colQ_check hcol)).1
              obtain ⟨_, pk, gk, ck, ek, nk, _⟩ := row_nodes hrow2 (by omega)
              rw [ek] at hcell
              have hcl : ∀ W, Below wr.heap.size wr W → W.cell? ⟨gB, k, none⟩ = some (.slice pk bx.length ck) := fun W h => (h.cell (p := ⟨gB, k, none⟩) (World.block_lt_of_cell? _ _ hcell)).trans hcell
              obtain ⟨X4, hX4⟩ : ∃ X, lostL bx = X := ⟨_, rfl⟩
              obtain ⟨X7, hX7⟩ : ∃ X, contL D.rest (k : Int) = X := ⟨_, rfl⟩
              have hX13 : contL (L.take t) (k : Int) = X4 ++ X7 := by rw [← hX4, ← hX7]; exact hct.symm
              have hrun := colG_of hcol
              have l4 : X4.length ≤ 2000 := by rw [← hX4]; exact Nat.le_trans (lost_len hrun.1.its) hbl2
              have HCk := Lib.hid (qcolumn pk gk 0 ck bx (itsP bx) (fun h => its_of h) wr nk)
              rw [show colP bx (itsP bx) = 0 from hcol] at HCk
              have hbqw : Below w.heap.size w wr := Hbd.out.2.trans (hbq.mono Hbd.out.2.size)
              have hbqc : Below wc.heap.size wc wr := Hbd.out.1.trans (hbq.mono Hbd.out.1.size)
              have HC4 : Hid (∀ W, Below wr.heap.size wr W → Calls Tryz.prog 24 #[.slice pk bx.length ck] W fun e w' => (∃ v, e = .returned v ∧ NRow W v X4 w') ∧ Below W.heap.size W w') := Lib.hid fun W h => by
                rw [← hX4]
                exact lost_any pk gk 0 ck bx (itsP bx) hrun.1.its (fun x hx => items_ne6 hrun.1 hx) hbl2 W (nk.below h)
              have hdrl : D.rest.length = d := Hdd.out.1
              have htk : Rr.take d = D.rest := by rw [HK.out.2.2.1, ← hdrl]; exact List.take_left
              have l7 : X7.length ≤ 2000 := by
                have h1 := cont_len (A := D.rest) HK.out.2.2.2.2.2.1 (k : Int)
                rw [hX7] at h1
                omega
              have HC7 : Hid (∀ W, Below wr.heap.size wr W → Calls Tryz.prog 25 #[.slice pr d cpr, .int .i64 k] W fun e w' => (∃ v, e = .returned v ∧ NRow W v X7 w') ∧ Below W.heap.size W w') := Lib.hid fun W h => by
                have h1 := (HN.out.2.below (hbqc.trans (h.mono hbqc.size))).take d
                rw [htk] at h1
                have h2 := contents_any pr gr 0 cpr D.rest HK.out.2.2.2.2.2.1 (by omega) (k : Int) W h1
                rw [hX7, hdrl] at h2
                exact h2
              have HC13 : Hid (∀ W, Below wr.heap.size wr W → Calls Tryz.prog 25 #[.slice p0 t cap, .int .i64 k] W fun e w' => (∃ v, e = .returned v ∧ NRow W v (X4 ++ X7) w') ∧ Below W.heap.size W w') := Lib.hid fun W h => by
                have h1 := (H.out.below (hbqw.trans (h.mono hbqw.size))).take t
                have h2 := contents_any p0 b off cap (L.take t) HK.out.1 (by rw [HA.out.1]; omega) (k : Int) W h1
                rw [hX13, HA.out.1, htlen] at h2
                exact h2
              have Hq := Lib.hid (And.intro hbq hbqw)
              have HCl := Lib.hid hcl
              clear hdq hrow hrow2 hcol hct ek nk hX4 hX7 hX13 hrun hbqw hbqc hcl hbq hbx hbl2 hdrl htk
              go_upto_region 21 with (go_at_call 23; refine HCk.out.mono ?_; clear HCk; rintro e w8 ⟨rfl, hb8⟩)
              have HR8 : Hid (∀ W, Below w8.heap.size w8 W → Below wr.heap.size wr W) := Lib.hid fun W h => hb8.trans (h.mono hb8.size)
              have HB8 := Lib.hid hb8
              clear hb8 hcell
              refine region_makers [4, 7, 8, 13, 14, 15] (fun W => Below w8.heap.size w8 W) (JK w8 (fun j => if j = 4 then X4 else if j = 7 then X7 else X4 ++ X7)) follows (by kernel_rfl) (fun m us W h => h.below) (fun us => JK.init) ?_
              iterate 16 first
                | (refine TK.pass rfl ?_)
                | (refine TK.read rfl _ (by intro wT hT K hK; simp only [Act.put, lsA, lsB, lsC] at hK; have y1 := HCl.out _ (HR8.out _ hT); go_step; exact hK _ rfl) ?_; try simp only [Act.put, lsA, lsB, lsC])
              refine TK.nil fun us => ?_
              refine KW.step _ rfl (fun mm W1 hJ h4 hD RR hRR => ?_) ?_
              · go_step
                refine (HC4.out _ (HR8.out _ hJ.below)).mono ?_
                rintro ev W2 ⟨⟨v, rfl, hv⟩, hb⟩
                exact hRR _ _ (hJ.call (.inl rfl) h4 hv hb)
              try simp only [Act.put, lsA, lsB, lsC]
              refine KW.step _ rfl (fun mm W1 hJ h7 hD RR hRR => ?_) ?_
              · go_step
                refine (HC7.out _ (HR8.out _ hJ.below)).mono ?_
                rintro ev W2 ⟨⟨v, rfl, hv⟩, hb⟩
                exact hRR _ _ (hJ.call (.inr (.inl rfl)) h7 hv hb)
              try simp only [Act.put, lsA, lsB, lsC]
              refine KW.step _ rfl (fun mm W1 hJ h8 hD RR hRR => ?_) ?_
              · have m4 := hD 4 rfl (by kernel_rfl)
                have m7 := hD 7 rfl (by kernel_rfl)
                have row4 : W1.ownsRow w8.heap.size 53 19 (us 4) X4.length (X4.flatMap Nd.cells) := hJ.row 4 (by simp [alK, m4, h8])
                have row7 : W1.ownsRow w8.heap.size 53 19 (us 7) X7.length (X7.flatMap Nd.cells) := hJ.row 7 (by simp [alK, m7])
                obtain ⟨_, ⟨e7, hn0⟩ | ⟨g7, c7, cur, e7, _, _, _, _, _, _⟩⟩ := id row7
                · have hX0 : X7 = [] := List.length_eq_zero_iff.1 hn0
                  refine wp_append_none (.tmp 150) (.tmp 153) 22 rfl w8.heap.size 53 i0 19 Tryz.underlying22 hi0' (us 4) X4.length (X4.flatMap Nd.cells) rfl row4 e7 ?_
                  exact hRR _ _ (hJ.app m4 m7 h8 (by simp) (by show W1.ownsRow w8.heap.size _ 19 _ (X4.length + X7.length) (X4.flatMap Nd.cells ++ X7.flatMap Nd.cells); rw [hX0]; simpa using row4) (grown_refl _ _) (.inl rfl))
                · have HCs := row7.cells (g := g7) (by rw [e7]; rfl)
                  refine wp_append_at (.tmp 150) (.tmp 153) 22 rfl w8.heap.size 53 i0 (.agg Nd.zero.arr) 19 160 Tryz.underlying22 hi0' hz0 hz1 hz2 rfl (by decide) (us 4) X4.length (X4.flatMap Nd.cells) rfl row4 ⟨g7, 0, none⟩ _ _ (X7.flatMap Nd.cells) e7 (flat_len _) HCs (nodes_one _) (by unfold maxLen; omega) (by omega) hJ.below.size ?_
                  intro v8 w9 hown8 hgrow8 hat8
                  exact hRR _ _ (hJ.app m4 m7 h8 (by simp) hown8 hgrow8 hat8)
              try simp only [Act.put, lsA, lsB, lsC]
              refine KW.step _ rfl (fun mm W1 hJ h13 hD RR hRR => ?_) ?_
              · go_step
                refine (HC13.out _ (HR8.out _ hJ.below)).mono ?_
                rintro ev W2 ⟨⟨v, rfl, hv⟩, hb⟩
                exact hRR _ _ (hJ.call (.inr (.inr rfl)) h13 hv hb)
              try simp only [Act.put, lsA, lsB, lsC]
              refine KW.step _ rfl (fun mm W1 hJ h14 hD RR hRR => ?_) ?_
              · have m8 := hD 8 rfl (by kernel_rfl)
                have m13 := hD 13 rfl (by kernel_rfl)
                have row8 : W1.ownsRow w8.heap.size 53 19 (us 8) (X4 ++ X7).length ((X4 ++ X7).flatMap Nd.cells) := hJ.row 8 (by simp [alK, m8])
                have row13 : W1.ownsRow w8.heap.size 53 19 (us 13) (X4 ++ X7).length ((X4 ++ X7).flatMap Nd.cells) := hJ.row 13 (by simp [alK, m13])
                have lx : (X4 ++ X7).length ≤ 4000 := by rw [List.length_append]; omega
                generalize X4 ++ X7 = XS at row8 row13 lx
                obtain ⟨q8, p8, g8, c8, e8, n8, _⟩ := row_nodes row8 (by omega)
                obtain ⟨q13, p13, g13, c13, e13, n13, _⟩ := row_nodes row13 (by omega)
                clear q8 q13
                simp only [Act.put] at hRR
                simp only [e8, e13] at hRR ⊢
                go_step
                refine (same_any p8 p13 g8 0 c8 g13 0 c13 XS XS W1 n8 n13).mono ?_
                rintro ev W2 ⟨rfl, n, rfl⟩
                rw [decide_eq_true rfl]
                exact hRR _ _ (hJ.bool (.inl ⟨rfl, rfl⟩) (below_drewN_refl _ _ _))
              try simp only [Act.put, lsA, lsB, lsC]
              refine KW.step _ rfl (fun mm W1 hJ h15 hD RR hRR => ?_) ?_
              · have e14 : us 14 = .bool true := hJ.same (hD 14 rfl (by kernel_rfl))
                simp only [Act.put] at hRR
                simp only [e14] at hRR ⊢
                go_step
                exact hRR _ _ (hJ.bool (.inr ⟨rfl, rfl⟩) (Below.refl _ _))
              simp only [Act.put]
              refine KW.nil fun w9 hJ9 => ?_
              have e15 : us 15 = .bool false := hJ9.fin rfl
              have hb9 := HR8.out _ hJ9.below
              simp only [e15]
              clear hJ9 e15
              go_wp2_with fail
              go_roundg (D.boxes.length - (k + 1) + 1)
              case measure => omega
              case rel => exact ⟨k + 1, rfl, by omega, by go_num, Hq.out.1.trans (hb9.mono Hq.out.1.size)⟩
            · obtain rfl : k = D.boxes.length := by omega
              go_wp2_with (go_at_call 17; refine (live12_any _).mono ?_; rintro e w9 ⟨rfl, hb9⟩)
              go_ret
              exact ⟨rfl, Hbd.out.2.trans ((hbq.trans (hb9.mono hbq.size)).mono Hbd.out.2.size)⟩
end Go.Proofs.YtaehkbbdmamfpaaGreatDoor
