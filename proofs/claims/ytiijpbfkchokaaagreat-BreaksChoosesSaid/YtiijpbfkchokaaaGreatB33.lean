/-
  The best breaks: the program's Choose.
-/
import Derived.Test.YtiijpbfkchokaaaGreatB32
namespace Go.Proofs.YtiijpbfkchokaaaGreat
open Go.ChangeShapes Go.WideShapes Go.ChangeAt Go.RowKit Go.Lib
attribute [local go_sem ↓] Go.wp_at_zero Go.wp_at_succ
theorem add_plain9 (b off j : Nat) : (⟨b, off, none⟩ : Addr).add j = ⟨b, off + j, none⟩ := by unfold Addr.add; split <;> simp_all
theorem looseW_cons (P : Int) (y w : Wy) (r : List Wy) (l : Int) : looseW P y (w :: r) l = looseW P y r (if w.over = y.over ∧ w.bad = y.bad ∧ ((l < (w.ats.length : Int) - y.ats.length ∧ (w.ats.length : Int) - y.ats.length ≤ P) ∨ ((w.ats.length : Int) - y.ats.length < l ∧ P ≤ (w.ats.length : Int) - y.ats.length)) then (w.ats.length : Int) - y.ats.length else l) := rfl
set_option maxRecDepth 100000 in
set_option maxHeartbeats 8000000 in
theorem vChoose (P : Pm) (g off2 : Nat) (S : List Sh2) (L : List Nd) (b off cap : Nat) (p0 : Option Addr) (s : List Nat) (hs : checkC L = 0 → Items L 0 s) (tol ext : Int) (last : Bool) (w : World) (hS : ShIn w P g off2 S) (hN : NIn w p0 b off cap L) :
    Calls Tryz.prog 8 #[.slice p0 L.length cap, .agg P.arr, .int .i64 tol, .int .i64 ext, .bool last] w (ChPost w (chR P S L s tol ext last)) := by
  have hb0 : Below w.heap.size w (w.alloc (.cells P.arr 27)) := (Below.refl _ _).alloc (Nat.le_refl _) _
  have d0 : PAt (w.alloc (.cells P.arr 27)) w.heap.size P := heap_alloc_new w _
  have HO := hid (vbegun P g off2 S L b off cap p0 s hs tol ext _ (hS.below hb0) (hN.below hb0))
  have Hs := hid hs
  clear hs hS hN
  go_enter Tryz.func8, Tryz.ntmps8
  go_upto_region 1 with (fail)
  obtain ⟨X0, hX0⟩ : ∃ X0, w.heap.size = X0 := ⟨_, rfl⟩
  rw [hX0] at d0 ⊢
  generalize w.alloc (.cells P.arr 27) = w1 at hb0 d0 HO ⊢
  have a0 : agg? w1 X0 0 24 = some P.arr := by rw [agg?_blk' d0 0 24 (by rw [Pm.size_arr]; decide)]; simp [Pm.arr, Pm.cells]
  obtain ⟨E, hE⟩ : ∃ E, tryE P S L s tol ext = E := ⟨_, rfl⟩
  have HE := hid hE
  have Hb0 := hid (And.intro hb0 d0)
  have HX0 := hid hX0
  clear hb0 d0 hX0
  by_cases h0 : E = 0
  case neg =>
    have hne : (E != 0) = true := by simpa using h0
    have HR : Hid (chR P S L s tol ext last = ([], 0, E)) := hid (by unfold chR; rw [if_neg (by rw [HE.out]; exact h0), HE.out])
    go_wp2_with (go_at_call 27; refine HO.out.mono ?_; clear HO; rintro e w2 ho; obtain he := ho.bad (by rw [HE.out]; exact h0); rw [HE.out] at he; subst he; have hb2 := ho.below; clear ho)
    go_ret3
    rw [HR.out]
    exact ⟨⟨.slice none 0 0, rfl, World.ownsRow_nil _ _ _ _⟩, Hb0.out.1.trans (hb2.mono Hb0.out.1.size)⟩
  subst h0
  have hok := tryE_zero Hs.out HE.out
  have Hok := hid hok
  clear hok
  go_upto_region 4 with (go_at_call 27; refine HO.out.mono ?_; clear HO; rintro e w2 ho; obtain ⟨Y, X, mb, B, vs, rfl, hT, hmb⟩ := ho.good hE; have hb2 := ho.below)
  have d2 : PAt w2 X0 P := (hb2.block X0 (Array.getElem?_eq_some_iff.1 Hb0.out.2).1).trans Hb0.out.2
  have HW : Hid (∀ (al : Bool) W, Below w2.heap.size w2 W → Calls Tryz.prog 28 #[.pointer (some ⟨Y, 0, none⟩), .bool al] W (WaysPost W (waysW (oneP L P S s tol ext) al (brkP L P s)))) := hid fun al W hb => vways Y X mb B P vs L b off cap p0 s g off2 S tol ext Hok.out al W (hT.still hb)
  have HL : Hid (∀ (z : Wy) W C0 v k, Below w2.heap.size w2 W → W.ownsRow C0 3 1 v k (ints (natsI z.ats)) → z.ats.length ≤ 100000 → ∃ pc cc, v = .slice pc z.ats.length cc ∧ Calls Tryz.prog 30 #[.pointer (some ⟨Y, 0, none⟩), .slice pc z.ats.length cc] W (LinesPost W (lnsW (oneP L P S s tol ext) (brkP L P s) (natsI z.ats) none 1 2))) := hid fun z W C0 v k hb hr hl => by
    obtain ⟨pc, gc, cc, e1, e2, hz⟩ := zin_of hr
    have e3 : (natsI z.ats).length = z.ats.length := by simp [natsI]
    have h1 := vlines Y X mb B P vs L b off cap p0 s g off2 S tol ext Hok.out (natsI z.ats) pc gc cc (by rw [e3]; omega) W (hT.still hb) hz
    rw [e3] at e1 h1
    exact ⟨pc, cc, e1, h1⟩
  have HB : Hid (BOk (brkP L P s)) := hid (brk_ok Hok.out.items)
  have HWy : Hid (∀ a ∈ fieldW (oneP L P S s tol ext) (brkP L P s) last, 0 < a.ats.length ∧ a.ats.length ≤ 2100) := hid fun a ha => by
    obtain ⟨ls, hp⟩ := fieldW_sound HB.out ha
    refine ⟨?_, ?_⟩
    · cases hp
      simp [Wy.ext]
    · have h1 := hp.len_le
      have h2 : nextA (some ((brkP L P s).length - 1)) = (brkP L P s).length - 1 + 1 := rfl
      have := brkP_len (L := L) (P := P) (s := s)
      have := Hok.out.items.len
      have := (checkC_zero Hok.out.chk).1
      omega
  have HLn : Hid (∀ a ∈ fieldW (oneP L P S s tol ext) (brkP L P s) last, ∃ ls, lnsW (oneP L P S s tol ext) (brkP L P s) (natsI a.ats) none 1 2 = some ls) := hid fun a ha => by
    obtain ⟨ls, hp⟩ := fieldW_sound HB.out ha
    exact ⟨ls, hp.lines_end HB.out.rises HB.out.ne⟩
  have HR : Hid (chR P S L s tol ext last = chM (oneP L P S s tol ext) (brkP L P s) (chooseW (oneP L P S s tol ext) (brkP L P s) last P.loose)) := hid (by unfold chR; rw [if_pos HE.out])
  have Hb2 := hid (Hb0.out.1.trans (hb2.mono Hb0.out.1.size))
  have cl2 : Hid (∀ W, Below w2.heap.size w2 W → W.cell? ⟨X0, 8, none⟩ = some (.int .i64 P.loose)) := hid fun W hb => by
    have h1 : PAt W X0 P := (hb.block X0 (Array.getElem?_eq_some_iff.1 d2).1).trans d2
    rw [cell?_blk' h1]; rfl
  have hPl : -2147483647 ≤ P.loose ∧ P.loose ≤ 2147483647 := by
    exact (pmC_zero Hok.out.pm).loose
  clear hb2 ho hmb hT a0 hE d2 Hs HE Hok Hb0
  obtain ⟨one, hone⟩ : ∃ one, oneP L P S s tol ext = one := ⟨_, rfl⟩
  obtain ⟨BL, hBL⟩ : ∃ BL, brkP L P s = BL := ⟨_, rfl⟩
  rw [hone, hBL] at HW HL HWy HLn HR
  rw [hBL] at HB
  clear hone hBL
  obtain ⟨fl, hfl⟩ : ∃ fl, fieldW one BL last = fl := ⟨_, rfl⟩
  obtain ⟨l1, hl1⟩ : ∃ l1, waysW one false BL = l1 := ⟨_, rfl⟩
  obtain ⟨c1, hc1⟩ : ∃ c1, (l1.isEmpty && last) = c1 := ⟨_, rfl⟩
  have Hfl : Hid (fl = if c1 = true then waysW one true BL else l1) := hid (by rw [← hfl, ← hc1, ← hl1]; rfl)
  have Hc1 := hid hc1
  have HW1 : Hid (Calls Tryz.prog 28 #[.pointer (some ⟨Y, 0, none⟩), .bool false] w2 (WaysPost w2 l1)) := hid (by rw [← hl1]; exact HW.out false w2 (Below.refl _ _))
  rw [hfl] at HWy HLn
  have Hff := hid hfl
  clear hfl hl1 hc1
  go_upto_region 5 with (go_at_call 28; refine HW1.out.mono ?_; rintro e w3 hp; obtain ⟨p1, g1, q1, ps1, rfl, hys⟩ := hp.out; have hb3 := hp.below; have hl3 := hp.len; clear hp)
  have Hys := hid (And.intro hys hb3)
  obtain ⟨n1, hn1⟩ : ∃ n1, l1.length = n1 := ⟨_, rfl⟩
  have hq1 : n1 ≤ q1 := by rw [← hn1]; exact hys.cap
  rw [hn1] at hl3 ⊢
  have Hn1 := hid hn1
  clear hys hb3 hn1 HW1
  go_cut [39] from 34 to 39 (fun s39 wx => s39 = .bool c1 ∧ wx = w3)
  case first =>
    have h1 := Hc1.out
    cases hz : ((n1 : Int) == 0)
    · have e1 : c1 = false := by
        rw [← h1]
        have : l1 ≠ [] := by intro e; have := Hn1.out; rw [e] at this; simp at this; subst this; simp at hz
        cases l1 with
        | nil => exact absurd rfl this
        | cons _ _ => rfl
      subst e1
      clear h1
      go_wp2_with fail
      go_meet
      exact ⟨rfl, rfl⟩
    · have e1 : last = c1 := by
        rw [← h1]
        have h2 : n1 = 0 := by simpa using hz
        have : l1 = [] := List.length_eq_zero_iff.1 (by rw [Hn1.out, h2])
        rw [this]; rfl
      clear h1
      go_wp2_with fail
      go_meet
      exact ⟨rfl, rfl⟩
  case rest =>
    obtain ⟨rfl, rfl⟩ := hcut
    go_upto_if 39 with (fail)
    go_cut [14] from 40 to 42 (fun t14 wx => ∃ p5 g5 q5 ps5, t14 = .slice p5 fl.length q5 ∧ WysIn wx p5 g5 q5 ps5 fl ∧ fl.length ≤ 100000 ∧ Below w2.heap.size w2 wx)
    case first =>
      cases hc : c1
      · subst hc
        have e1 : fl = l1 := by rw [Hfl.out]; rfl
        have HH : Hid (∃ p5 g5 q5 ps5, Value.slice p1 n1 q1 = .slice p5 fl.length q5 ∧ WysIn wc p5 g5 q5 ps5 fl ∧ fl.length ≤ 100000 ∧ Below w2.heap.size w2 wc) := hid (by
          rw [e1, Hn1.out]
          exact ⟨p1, g1, q1, ps1, rfl, Hys.out.1, hl3, Hys.out.2⟩)
        clear e1
        go_wp2_with fail
        go_meet
        exact HH.out
      · subst hc
        have e1 : fl = waysW one true BL := by rw [Hfl.out]; rfl
        have HW2 : Hid (Calls Tryz.prog 28 #[.pointer (some ⟨Y, 0, none⟩), .bool true] wc (WaysPost wc fl)) := hid (by rw [e1]; exact HW.out true wc Hys.out.2)
        clear e1
        go_wp2_with (go_at_call 28; refine HW2.out.mono ?_; rintro e w4 hp; obtain ⟨p5, g5, q5, ps5, rfl, hys⟩ := hp.out; have hb4 := hp.below; have hl4 := hp.len; clear hp)
        go_meet
        exact ⟨p5, g5, q5, ps5, rfl, hys, hl4, Hys.out.2.trans (hb4.mono Hys.out.2.size)⟩
    case rest =>
      obtain ⟨p5, g5, q5, ps5, rfl, hys, hl5, hb5⟩ := hcut
      clear Hc1 Hn1 Hys HW hl3 hq1
      rename_i w3x
      clear w3x
      obtain ⟨r0, hr0⟩ : ∃ r0, pickW 0 fl none = r0 := ⟨_, rfl⟩
      have HP := hid (vpick p5 g5 q5 ps5 fl 0 (by omega) wc hys)
      rw [hr0] at HP
      have Hr0 := hid hr0
      have Hys := hid (And.intro hys hb5)
      obtain ⟨nf, hnf⟩ : ∃ nf, fl.length = nf := ⟨_, rfl⟩
      have hqc : nf ≤ q5 := by rw [← hnf]; exact hys.cap
      rw [hnf] at HP hl5 ⊢
      have Hnf := hid hnf
      clear hr0 hys hb5 hnf
      go_upto_region 8 with (go_at_call 29; refine HP.out.mono ?_; clear HP; rintro e w6 ⟨⟨po, rfl, hop⟩, m6, rfl⟩)
      cases r0 with
      | none =>
        obtain rfl := hop.none_
        have HC : Hid (chR P S L s tol ext last = ([], 0, 90)) := hid (by
          rw [HR.out]
          unfold chooseW
          rw [Hff.out, Hr0.out]
          rfl)
        simp only [ptrO]
        go_wp2_with fail
        go_ret3
        rw [HC.out]
        exact ⟨⟨.slice none 0 0, rfl, World.ownsRow_nil _ _ _ _⟩, below_drewN (Hb2.out.trans (Hys.out.2.mono Hb2.out.size)) _⟩
      | some y =>
        obtain ⟨p, rfl, hpy⟩ := hop.some_
        have hyf : y ∈ fl := by
          rcases pickW_mem Hr0.out with h | h
          · exact h.1
          · cases h
        have Hy := hid (And.intro hpy hyf)
        obtain ⟨lo, hlo⟩ : ∃ lo, looseW P.loose y fl 0 = lo := ⟨_, rfl⟩
        have Hlo := hid hlo
        simp only [ptrO]
        clear hop hpy hyf hlo
        go_upto_region 10 with (fail)
        have hwN : Hid (∀ n, Below w2.heap.size w2 (wc.drewN n)) := hid fun n => below_drewN Hys.out.2 n
        go_wp2_with fail
        go_loopg [11, 17, 18, 48] (nf + 1) (fun gg t11 t17 t18 t48 wr => ∃ (k m : Nat) (l0 : Int), gg = nf + 1 - k ∧ k ≤ nf ∧ t11 = .int .i64 l0 ∧ t48 = .int .i64 k ∧ (-10000 ≤ l0 ∧ l0 ≤ 10000) ∧ looseW P.loose y (fl.drop k) l0 = lo ∧ wr = wc.drewN m)
        case atStart => exact ⟨0, _, 0, rfl, Nat.zero_le _, rfl, rfl, by omega, Hlo.out, rfl⟩
        case round =>
          obtain ⟨k, m, l0, rfl, hk, rfl, rfl, hl0, hlk, rfl⟩ := hrel
          have hk0 : (0 : Int) ≤ (k : Int) := by omega
          have cy : Hid (∀ n, (wc.drewN n).cell? ⟨p, 5, none⟩ = some (.int .i64 (y.ats.length : Nat)) ∧ W3 (wc.drewN n) p y) := hid fun n => ⟨(Hy.out.1.keep (keep_drewN wc n)).rest.1, (Hy.out.1.keep (keep_drewN wc n)).three⟩
          have hy2 := (HWy.out y Hy.out.2)
          by_cases hlt : k < nf
          · have hk1 : (k : Int) < (nf : Int) := by omega
            have hlt2 : decide (k < nf) = true := decide_eq_true hlt
            have hkf : k < fl.length := by rw [Hnf.out]; exact hlt
            have hkp : k < ps5.length := by rw [Hys.out.1.len]; exact hkf
            have ck := (Hys.out.1.drewN m).cell k ps5[k] (List.getElem?_eq_getElem hkp)
            have hwy := Hys.out.1.way k ps5[k] fl[k] (List.getElem?_eq_getElem hkp) (List.getElem?_eq_getElem hkf)
            obtain rfl := Hys.out.1.hp (by intro e; rw [e] at hkf; simp at hkf)
            have hwl := HWy.out fl[k] (List.getElem_mem hkf)
            rw [List.drop_eq_getElem_cons hkf, looseW_cons] at hlk
            generalize fl[k] = a at hwy hlk hwl
            generalize ps5[k] = pa at ck hwy
            have ca : Hid (∀ n, (wc.drewN n).cell? ⟨pa, 5, none⟩ = some (.int .i64 (a.ats.length : Nat)) ∧ W3 (wc.drewN n) pa a) := hid fun n => ⟨(hwy.keep (keep_drewN wc n)).rest.1, (hwy.keep (keep_drewN wc n)).three⟩
            obtain ⟨la, hla⟩ : ∃ la, a.ats.length = la := ⟨_, rfl⟩
            obtain ⟨ly, hly⟩ : ∃ ly, y.ats.length = ly := ⟨_, rfl⟩
            rw [hla] at ca hwl hlk
            rw [hly] at cy hy2 hlk
            obtain ⟨d, hd⟩ : ∃ d : Int, (la : Int) - (ly : Int) = d := ⟨_, rfl⟩
            rw [hd] at hlk
            have hdb : -10000 ≤ d ∧ d ≤ 10000 := by omega
            have hw1 : IntKind.i64.wrap ((la : Int) - (ly : Int)) = d := by rw [hd]; exact Go.IntWalk.i64_in _ (by omega)
            have Hlk := hid hlk
            clear hlk hwy hkf hkp hlt hla hly hwl hy2 hd
            go_upto_region 13 with (fail)
            refine Rest.region follows ?_
            refine Rest.tame 10 (fun W => ∃ k, W = wc.drewN k) (by kernel_rfl) (by first | exact isd ⟨_, rfl⟩ | exact isd ⟨0, rfl⟩) ?_
            simp only [Nat.reduceSub, List.drop_zero, List.take_succ_cons, List.take_zero]
            iterate 10 first
              | (refine TW.cons_n rfl _ (by intro wT hT R hR K hK; simp only [Act.put, lsA, lsB, lsC] at hK; obtain ⟨nt, rfl⟩ := hT; have ya := (ca.out nt).1; have yb := (cy.out nt).1; go_step; exact hK _ _ (hR _ ⟨_, rfl⟩)) ?_; try simp only [Act.put, lsA, lsB, lsC])
              | (refine TW.skip_g _ _ _ rfl rfl rfl ?_; try simp only [Act.put, lsA, lsB, lsC])
              | (refine TW.skip_u _ _ _ rfl rfl rfl ?_; try simp only [Act.put, lsA, lsB, lsC])
              | (refine TW.cons_g _ _ _ rfl rfl rfl _ (by intro wT hT R hR K hK; simp only [Act.put, lsA, lsB, lsC] at hK; obtain ⟨nt, rfl⟩ := hT; have ya := (ca.out nt).1; have yb := (cy.out nt).1; go_step; exact hK _ _ (hR _ ⟨_, rfl⟩)) ?_; try simp only [Act.put, lsA, lsB, lsC])
            refine TW.nil fun w9 h9 => ?_
            obtain ⟨n9, rfl⟩ := h9
            refine Rest.done ?_
            clear hw1 ck
            obtain ⟨cnd, hcnd⟩ : ∃ cnd, (a.over == y.over && (a.bad == y.bad && ((decide (l0 < d) && decide (d ≤ P.loose)) || (decide (d < l0) && decide (P.loose ≤ d))))) = cnd := ⟨_, rfl⟩
            have Hcnd := hid hcnd
            have Hlk2 : Hid (looseW P.loose y (fl.drop (k + 1)) (if cnd = true then d else l0) = lo) := hid (by
              rw [← Hlk.out, ← hcnd]
              congr 1
              simp only [Bool.and_eq_true, Bool.or_eq_true, decide_eq_true_eq, beq_iff_eq])
            clear hcnd Hlk
            go_upto_region 14 with (fail)
            go_cut [102] from 61 to 102 (fun s102 wx => s102 = .bool cnd ∧ ∃ n, wx = wc.drewN n)
            case first =>
              cases hA : (a.over == y.over)
              · -- over differs
                have h1 := Hcnd.out
                rw [hA] at h1
                obtain rfl : false = cnd := h1
                clear Hcnd Hlk2
                refine Rest.region follows ?_
                refine Rest.tame 42 (fun W => ∃ k, W = wc.drewN k) (by kernel_rfl) (by first | exact isd ⟨_, rfl⟩ | exact isd ⟨0, rfl⟩) ?_
                simp only [Nat.reduceSub, List.drop_zero, List.take_succ_cons, List.take_zero]
                iterate 42 first
                  | (refine TW.cons_n rfl _ (by intro wT hT R hR K hK; simp only [Act.put, lsA, lsB, lsC] at hK; obtain ⟨nt, rfl⟩ := hT; obtain ⟨ya0, ya1, -⟩ := (ca.out nt).2; obtain ⟨yb0, yb1, -⟩ := (cy.out nt).2; have yc := cl2.out _ (hwN.out nt); go_step; exact hK _ _ (hR _ ⟨_, rfl⟩)) ?_; try simp only [Act.put, lsA, lsB, lsC])
                  | (refine TW.skip_g _ _ _ rfl rfl rfl ?_; try simp only [Act.put, lsA, lsB, lsC])
                  | (refine TW.skip_u _ _ _ rfl rfl rfl ?_; try simp only [Act.put, lsA, lsB, lsC])
                  | (refine TW.cons_g _ _ _ rfl rfl rfl _ (by intro wT hT R hR K hK; simp only [Act.put, lsA, lsB, lsC] at hK; obtain ⟨nt, rfl⟩ := hT; obtain ⟨ya0, ya1, -⟩ := (ca.out nt).2; obtain ⟨yb0, yb1, -⟩ := (cy.out nt).2; have yc := cl2.out _ (hwN.out nt); go_step; exact hK _ _ (hR _ ⟨_, rfl⟩)) ?_; try simp only [Act.put, lsA, lsB, lsC])
                refine TW.nil fun w9 h9 => ?_
                obtain ⟨n9, rfl⟩ := h9
                refine Rest.done ?_
                go_wp2_with fail
                go_meet
                exact ⟨rfl, _, rfl⟩
              cases hB : (a.bad == y.bad)
              · -- bad differs
                have h1 := Hcnd.out
                rw [hA, hB] at h1
                obtain rfl : false = cnd := h1
                clear Hcnd Hlk2
                refine Rest.region follows ?_
                refine Rest.tame 42 (fun W => ∃ k, W = wc.drewN k) (by kernel_rfl) (by first | exact isd ⟨_, rfl⟩ | exact isd ⟨0, rfl⟩) ?_
                simp only [Nat.reduceSub, List.drop_zero, List.take_succ_cons, List.take_zero]
                iterate 42 first
                  | (refine TW.cons_n rfl _ (by intro wT hT R hR K hK; simp only [Act.put, lsA, lsB, lsC] at hK; obtain ⟨nt, rfl⟩ := hT; obtain ⟨ya0, ya1, -⟩ := (ca.out nt).2; obtain ⟨yb0, yb1, -⟩ := (cy.out nt).2; have yc := cl2.out _ (hwN.out nt); go_step; exact hK _ _ (hR _ ⟨_, rfl⟩)) ?_; try simp only [Act.put, lsA, lsB, lsC])
                  | (refine TW.skip_g _ _ _ rfl rfl rfl ?_; try simp only [Act.put, lsA, lsB, lsC])
                  | (refine TW.skip_u _ _ _ rfl rfl rfl ?_; try simp only [Act.put, lsA, lsB, lsC])
                  | (refine TW.cons_g _ _ _ rfl rfl rfl _ (by intro wT hT R hR K hK; simp only [Act.put, lsA, lsB, lsC] at hK; obtain ⟨nt, rfl⟩ := hT; obtain ⟨ya0, ya1, -⟩ := (ca.out nt).2; obtain ⟨yb0, yb1, -⟩ := (cy.out nt).2; have yc := cl2.out _ (hwN.out nt); go_step; exact hK _ _ (hR _ ⟨_, rfl⟩)) ?_; try simp only [Act.put, lsA, lsB, lsC])
                refine TW.nil fun w9 h9 => ?_
                obtain ⟨n9, rfl⟩ := h9
                refine Rest.done ?_
                go_wp2_with fail
                go_meet
                exact ⟨rfl, _, rfl⟩
              cases hC : decide (l0 < d)
              · cases hE : decide (d < l0)
                · -- the same
                  have h1 := Hcnd.out
                  rw [hA, hB, hC, hE] at h1
                  obtain rfl : false = cnd := h1
                  clear Hcnd Hlk2
                  refine Rest.region follows ?_
                  refine Rest.tame 42 (fun W => ∃ k, W = wc.drewN k) (by kernel_rfl) (by first | exact isd ⟨_, rfl⟩ | exact isd ⟨0, rfl⟩) ?_
                  simp only [Nat.reduceSub, List.drop_zero, List.take_succ_cons, List.take_zero]
                  iterate 42 first
                    | (refine TW.cons_n rfl _ (by intro wT hT R hR K hK; simp only [Act.put, lsA, lsB, lsC] at hK; obtain ⟨nt, rfl⟩ := hT; obtain ⟨ya0, ya1, -⟩ := (ca.out nt).2; obtain ⟨yb0, yb1, -⟩ := (cy.out nt).2; have yc := cl2.out _ (hwN.out nt); go_step; exact hK _ _ (hR _ ⟨_, rfl⟩)) ?_; try simp only [Act.put, lsA, lsB, lsC])
                    | (refine TW.skip_g _ _ _ rfl rfl rfl ?_; try simp only [Act.put, lsA, lsB, lsC])
                    | (refine TW.skip_u _ _ _ rfl rfl rfl ?_; try simp only [Act.put, lsA, lsB, lsC])
                    | (refine TW.cons_g _ _ _ rfl rfl rfl _ (by intro wT hT R hR K hK; simp only [Act.put, lsA, lsB, lsC] at hK; obtain ⟨nt, rfl⟩ := hT; obtain ⟨ya0, ya1, -⟩ := (ca.out nt).2; obtain ⟨yb0, yb1, -⟩ := (cy.out nt).2; have yc := cl2.out _ (hwN.out nt); go_step; exact hK _ _ (hR _ ⟨_, rfl⟩)) ?_; try simp only [Act.put, lsA, lsB, lsC])
                  refine TW.nil fun w9 h9 => ?_
                  obtain ⟨n9, rfl⟩ := h9
                  refine Rest.done ?_
                  go_wp2_with fail
                  go_meet
                  exact ⟨rfl, _, rfl⟩
                · cases hF : decide (P.loose ≤ d)
                  · -- too far
                    have h1 := Hcnd.out
                    rw [hA, hB, hC, hE, hF] at h1
                    obtain rfl : false = cnd := h1
                    clear Hcnd Hlk2
                    refine Rest.region follows ?_
                    refine Rest.tame 42 (fun W => ∃ k, W = wc.drewN k) (by kernel_rfl) (by first | exact isd ⟨_, rfl⟩ | exact isd ⟨0, rfl⟩) ?_
                    simp only [Nat.reduceSub, List.drop_zero, List.take_succ_cons, List.take_zero]
                    iterate 42 first
                      | (refine TW.cons_n rfl _ (by intro wT hT R hR K hK; simp only [Act.put, lsA, lsB, lsC] at hK; obtain ⟨nt, rfl⟩ := hT; obtain ⟨ya0, ya1, -⟩ := (ca.out nt).2; obtain ⟨yb0, yb1, -⟩ := (cy.out nt).2; have yc := cl2.out _ (hwN.out nt); go_step; exact hK _ _ (hR _ ⟨_, rfl⟩)) ?_; try simp only [Act.put, lsA, lsB, lsC])
                      | (refine TW.skip_g _ _ _ rfl rfl rfl ?_; try simp only [Act.put, lsA, lsB, lsC])
                      | (refine TW.skip_u _ _ _ rfl rfl rfl ?_; try simp only [Act.put, lsA, lsB, lsC])
                      | (refine TW.cons_g _ _ _ rfl rfl rfl _ (by intro wT hT R hR K hK; simp only [Act.put, lsA, lsB, lsC] at hK; obtain ⟨nt, rfl⟩ := hT; obtain ⟨ya0, ya1, -⟩ := (ca.out nt).2; obtain ⟨yb0, yb1, -⟩ := (cy.out nt).2; have yc := cl2.out _ (hwN.out nt); go_step; exact hK _ _ (hR _ ⟨_, rfl⟩)) ?_; try simp only [Act.put, lsA, lsB, lsC])
                    refine TW.nil fun w9 h9 => ?_
                    obtain ⟨n9, rfl⟩ := h9
                    refine Rest.done ?_
                    go_wp2_with fail
                    go_meet
                    exact ⟨rfl, _, rfl⟩
                  · -- nearer
                    have h1 := Hcnd.out
                    rw [hA, hB, hC, hE, hF] at h1
                    obtain rfl : true = cnd := h1
                    clear Hcnd Hlk2
                    refine Rest.region follows ?_
                    refine Rest.tame 42 (fun W => ∃ k, W = wc.drewN k) (by kernel_rfl) (by first | exact isd ⟨_, rfl⟩ | exact isd ⟨0, rfl⟩) ?_
                    simp only [Nat.reduceSub, List.drop_zero, List.take_succ_cons, List.take_zero]
                    iterate 42 first
                      | (refine TW.cons_n rfl _ (by intro wT hT R hR K hK; simp only [Act.put, lsA, lsB, lsC] at hK; obtain ⟨nt, rfl⟩ := hT; obtain ⟨ya0, ya1, -⟩ := (ca.out nt).2; obtain ⟨yb0, yb1, -⟩ := (cy.out nt).2; have yc := cl2.out _ (hwN.out nt); go_step; exact hK _ _ (hR _ ⟨_, rfl⟩)) ?_; try simp only [Act.put, lsA, lsB, lsC])
                      | (refine TW.skip_g _ _ _ rfl rfl rfl ?_; try simp only [Act.put, lsA, lsB, lsC])
                      | (refine TW.skip_u _ _ _ rfl rfl rfl ?_; try simp only [Act.put, lsA, lsB, lsC])
                      | (refine TW.cons_g _ _ _ rfl rfl rfl _ (by intro wT hT R hR K hK; simp only [Act.put, lsA, lsB, lsC] at hK; obtain ⟨nt, rfl⟩ := hT; obtain ⟨ya0, ya1, -⟩ := (ca.out nt).2; obtain ⟨yb0, yb1, -⟩ := (cy.out nt).2; have yc := cl2.out _ (hwN.out nt); go_step; exact hK _ _ (hR _ ⟨_, rfl⟩)) ?_; try simp only [Act.put, lsA, lsB, lsC])
                    refine TW.nil fun w9 h9 => ?_
                    obtain ⟨n9, rfl⟩ := h9
                    refine Rest.done ?_
                    go_wp2_with fail
                    go_meet
                    exact ⟨rfl, _, rfl⟩
              · have hE : decide (d < l0) = false := by
                  have := of_decide_eq_true hC
                  exact decide_eq_false (by omega)
                cases hD : decide (d ≤ P.loose)
                · -- too far
                  have h1 := Hcnd.out
                  rw [hA, hB, hC, hD, hE] at h1
                  obtain rfl : false = cnd := h1
                  clear Hcnd Hlk2
                  refine Rest.region follows ?_
                  refine Rest.tame 42 (fun W => ∃ k, W = wc.drewN k) (by kernel_rfl) (by first | exact isd ⟨_, rfl⟩ | exact isd ⟨0, rfl⟩) ?_
                  simp only [Nat.reduceSub, List.drop_zero, List.take_succ_cons, List.take_zero]
                  iterate 42 first
                    | (refine TW.cons_n rfl _ (by intro wT hT R hR K hK; simp only [Act.put, lsA, lsB, lsC] at hK; obtain ⟨nt, rfl⟩ := hT; obtain ⟨ya0, ya1, -⟩ := (ca.out nt).2; obtain ⟨yb0, yb1, -⟩ := (cy.out nt).2; have yc := cl2.out _ (hwN.out nt); go_step; exact hK _ _ (hR _ ⟨_, rfl⟩)) ?_; try simp only [Act.put, lsA, lsB, lsC])
                    | (refine TW.skip_g _ _ _ rfl rfl rfl ?_; try simp only [Act.put, lsA, lsB, lsC])
                    | (refine TW.skip_u _ _ _ rfl rfl rfl ?_; try simp only [Act.put, lsA, lsB, lsC])
                    | (refine TW.cons_g _ _ _ rfl rfl rfl _ (by intro wT hT R hR K hK; simp only [Act.put, lsA, lsB, lsC] at hK; obtain ⟨nt, rfl⟩ := hT; obtain ⟨ya0, ya1, -⟩ := (ca.out nt).2; obtain ⟨yb0, yb1, -⟩ := (cy.out nt).2; have yc := cl2.out _ (hwN.out nt); go_step; exact hK _ _ (hR _ ⟨_, rfl⟩)) ?_; try simp only [Act.put, lsA, lsB, lsC])
                  refine TW.nil fun w9 h9 => ?_
                  obtain ⟨n9, rfl⟩ := h9
                  refine Rest.done ?_
                  go_wp2_with fail
                  go_meet
                  exact ⟨rfl, _, rfl⟩
                · -- nearer
                  have h1 := Hcnd.out
                  rw [hA, hB, hC, hD] at h1
                  obtain rfl : true = cnd := h1
                  clear Hcnd Hlk2
                  refine Rest.region follows ?_
                  refine Rest.tame 42 (fun W => ∃ k, W = wc.drewN k) (by kernel_rfl) (by first | exact isd ⟨_, rfl⟩ | exact isd ⟨0, rfl⟩) ?_
                  simp only [Nat.reduceSub, List.drop_zero, List.take_succ_cons, List.take_zero]
                  iterate 42 first
                    | (refine TW.cons_n rfl _ (by intro wT hT R hR K hK; simp only [Act.put, lsA, lsB, lsC] at hK; obtain ⟨nt, rfl⟩ := hT; obtain ⟨ya0, ya1, -⟩ := (ca.out nt).2; obtain ⟨yb0, yb1, -⟩ := (cy.out nt).2; have yc := cl2.out _ (hwN.out nt); go_step; exact hK _ _ (hR _ ⟨_, rfl⟩)) ?_; try simp only [Act.put, lsA, lsB, lsC])
                    | (refine TW.skip_g _ _ _ rfl rfl rfl ?_; try simp only [Act.put, lsA, lsB, lsC])
                    | (refine TW.skip_u _ _ _ rfl rfl rfl ?_; try simp only [Act.put, lsA, lsB, lsC])
                    | (refine TW.cons_g _ _ _ rfl rfl rfl _ (by intro wT hT R hR K hK; simp only [Act.put, lsA, lsB, lsC] at hK; obtain ⟨nt, rfl⟩ := hT; obtain ⟨ya0, ya1, -⟩ := (ca.out nt).2; obtain ⟨yb0, yb1, -⟩ := (cy.out nt).2; have yc := cl2.out _ (hwN.out nt); go_step; exact hK _ _ (hR _ ⟨_, rfl⟩)) ?_; try simp only [Act.put, lsA, lsB, lsC])
                  refine TW.nil fun w9 h9 => ?_
                  obtain ⟨n9, rfl⟩ := h9
                  refine Rest.done ?_
                  go_wp2_with fail
                  go_meet
                  exact ⟨rfl, _, rfl⟩
            case rest =>
              obtain ⟨rfl, n9, rfl⟩ := hcut
              clear Hcnd ca
              go_upto_if 102 with (fail)
              cases hcn : cnd
              · subst hcn
                have Hlk3 : Hid (looseW P.loose y (fl.drop (k + 1)) l0 = lo) := hid (by have := Hlk2.out; rwa [if_neg (by decide)] at this)
                clear Hlk2
                go_wp2_with fail
                go_roundg (nf + 1 - (k + 1))
                case measure => omega
                case rel => exact ⟨k + 1, n9, l0, rfl, by omega, rfl, by go_num, hl0, Hlk3.out, rfl⟩
              · subst hcn
                have Hlk3 : Hid (looseW P.loose y (fl.drop (k + 1)) d = lo) := hid (by have := Hlk2.out; rwa [if_pos rfl] at this)
                clear Hlk2
                go_wp2_with fail
                go_roundg (nf + 1 - (k + 1))
                case measure => omega
                case rel => exact ⟨k + 1, n9, d, rfl, by omega, rfl, by go_num, hdb, Hlk3.out, rfl⟩
          · have hlt2 : decide (k < nf) = false := decide_eq_false hlt
            have e1 : l0 = lo := by
              rw [List.drop_eq_nil_of_le (by rw [Hnf.out]; omega)] at hlk
              exact hlk
            subst e1
            clear hlk hlt
            -- the way that is chosen
            have hsp := looseW_spec P.loose y fl 0 (by omega) (by omega)
            rw [Hlo.out] at hsp
            obtain ⟨-, -, -, -, i5, -⟩ := hsp
            obtain ⟨z, hz⟩ : ∃ z, (if l0 = 0 then y else (pickW ((y.ats.length : Int) + l0) fl none).getD y) = z := ⟨_, rfl⟩
            have hzf : z ∈ fl ∧ (l0 ≠ 0 → pickW ((y.ats.length : Int) + l0) fl none = some z) ∧ (l0 = 0 → z = y) := by
              by_cases h9 : l0 = 0
              · rw [if_pos h9] at hz
                subst hz
                exact ⟨Hy.out.2, fun h => absurd h9 h, fun _ => rfl⟩
              · rw [if_neg h9] at hz
                obtain ⟨u, hu, u1, u2, u3⟩ : ∃ u ∈ fl, u.over = y.over ∧ u.bad = y.bad ∧ (u.ats.length : Int) - y.ats.length = l0 := by
                  rcases i5 with h | h
                  · exact absurd h h9
                  · exact h
                have h1 : (pickW ((y.ats.length : Int) + l0) fl none).isSome = true := pickW_some (.inr ⟨u, hu, .inr (by omega)⟩)
                obtain ⟨z', hz'⟩ := Option.isSome_iff_exists.1 h1
                rw [hz'] at hz
                have h2 : z' = z := hz
                subst h2
                refine ⟨?_, fun _ => hz', fun h => absurd h h9⟩
                rcases pickW_mem hz' with h | h
                · exact h.1
                · cases h
            have HC : Hid (chR P S L s tol ext last = ((lnsW one BL (natsI z.ats) none 1 2).getD [], l0, 0)) := hid (by
              rw [HR.out]
              unfold chooseW
              rw [Hff.out, Hr0.out]
              simp only
              rw [Hlo.out]
              by_cases h9 : l0 = 0
              · rw [if_pos h9]
                rw [if_pos h9] at hz
                rw [h9, hz]; rfl
              · rw [if_neg h9]
                rw [if_neg h9] at hz
                rw [hz]; rfl)
            have Hzf := hid hzf
            have hzl := HWy.out z hzf.1
            obtain ⟨lls, hlls⟩ := HLn.out z hzf.1
            have HCl : Hid (chR P S L s tol ext last = (lls, l0, 0)) := hid (by rw [HC.out, hlls]; rfl)
            have Hlls := hid hlls
            clear i5 hz hzf HC hlls HR
            go_upto_if 106 with (fail)
            go_cut [15, 106] from 107 to 114 (fun t15 _ wx => (∃ pz, t15 = .pointer (some ⟨pz, 0, none⟩) ∧ WayAt wx pz z) ∧ ∃ n, wx = wc.drewN n)
            case first =>
              by_cases h9 : l0 = 0
              · have hn9 : (l0 != 0) = false := by simpa using h9
                have hzy : z = y := Hzf.out.2.2 h9
                have HH : Hid ((∃ pz, Value.pointer (some ⟨p, 0, none⟩) = .pointer (some ⟨pz, 0, none⟩) ∧ WayAt (wc.drewN m) pz z) ∧ ∃ n, wc.drewN m = wc.drewN n) := hid ⟨⟨p, rfl, by rw [hzy]; exact Hy.out.1.keep (keep_drewN wc m)⟩, m, rfl⟩
                clear hzy h9
                go_wp2_with fail
                go_meet
                exact HH.out
              · have hn9 : (l0 != 0) = true := by simpa using h9
                have hpz := Hzf.out.2.1 h9
                obtain ⟨ly, hly⟩ : ∃ ly, y.ats.length = ly := ⟨_, rfl⟩
                have c5 : (wc.drewN m).cell? ⟨p, 5, none⟩ = some (.int .i64 (ly : Nat)) := by rw [← hly]; exact (cy.out m).1
                rw [hly] at hpz hy2
                have hw1 : IntKind.i64.wrap ((ly : Int) + l0) = (ly : Int) + l0 := Go.IntWalk.i64_in _ (by omega)
                have HP2 := hid (vpick p5 g5 q5 ps5 fl ((ly : Int) + l0) (by rw [Hnf.out]; omega) (wc.drewN m) (Hys.out.1.drewN m))
                rw [hpz, Hnf.out] at HP2
                clear hpz h9 hly
                go_wp2_with (go_at_call 29; refine HP2.out.mono ?_; clear HP2; rintro e w6 ⟨⟨po, rfl, hop⟩, m6, rfl⟩; obtain ⟨pz, rfl, hpz⟩ := hop.some_)
                go_meet
                exact ⟨⟨pz, rfl, by have := hpz.keep (keep_drewN (wc.drewN m) m6); rwa [World.drewN_drewN] at this⟩, _, rfl⟩
            case rest =>
              obtain ⟨⟨pz, rfl, hwz⟩, n8, rfl⟩ := hcut
              clear cy hy2
              have hb8 := hwN.out n8
              generalize wc.drewN n8 = w8 at hwz hb8 ⊢
              obtain ⟨C0, hC0⟩ : ∃ C0, w8.heap.size = C0 := ⟨_, rfl⟩
              have Hwz := hid (And.intro hwz.chain (And.intro hb8 hC0))
              clear hwz hb8 hC0
              obtain ⟨i0, hi0', hz0, hz1, hz2'⟩ := info_parts info_intb
              go_upto_region 21 with (fail)
              go_loopg [19, 20] (z.ats.length + 1) (fun gg t19 t20 wr => ∃ (r at_ : List Nat) (po : Option Nat), gg = r.length + 1 ∧ t20 = ptrO po ∧ ChainAt wr po r ∧ r.reverse ++ at_ = z.ats ∧ wr.ownsRow C0 3 1 t19 at_.length (ints (natsI at_)) ∧ (at_ = [] → t19 = .slice none 0 0) ∧ Below C0 w8 wr)
              case atStart => exact ⟨z.ats.reverse, [], some pz, by simp, rfl, Hwz.out.1, by simp, World.ownsRow_nil _ _ _ _, fun _ => rfl, .refl _ _⟩
              case round =>
                obtain ⟨r, at_, po, rfl, rfl, hch, hra, hrow, hnil, hb9⟩ := hrel
                rcases hch.inv with ⟨rfl, rfl⟩ | ⟨p1, x, r', pc, ov, bd, tt, rfl, rfl, hwb, hc'⟩
                · have hae : at_ = z.ats := by simpa using hra
                  subst hae
                  have hbw : Below w2.heap.size w2 wr := Hwz.out.2.1.trans (hb9.mono (by rw [← Hwz.out.2.2]; exact Hwz.out.2.1.size))
                  obtain ⟨pc, cc, e1, hcl⟩ := HL.out z wr C0 _ _ hbw hrow (by omega)
                  have Hcl := hid hcl
                  have Hbw := hid (Hb2.out.trans (hbw.mono Hb2.out.size))
                  subst e1
                  clear hcl hbw hra hrow hnil hb9 hch
                  simp only [ptrO]
                  go_wp2_with (go_at_call 30; refine Hcl.out.mono ?_; clear Hcl; rintro e w9 hl; obtain ⟨v, ok, rfl, -, hrow9⟩ := hl.out; have hb9 := hl.below; have Hrow9 := hid (hrow9 lls Hlls.out); clear hl hrow9)
                  go_ret3
                  rw [HCl.out]
                  exact ⟨⟨v, rfl, ownsRow_base Hrow9.out Hbw.out.size⟩, Hbw.out.trans (hb9.mono Hbw.out.size)⟩
                · have c4 : wr.cell? ⟨p1, 4, none⟩ = some (.int .i64 (x : Nat)) := hwb.cell 4 _ rfl
                  have hcx : wr.cell? ⟨p1, 3, none⟩ = some (ptrO pc) := hwb.cell 3 _ rfl
                  have hra2 : r'.reverse ++ (x :: at_) = z.ats := by rw [← hra]; simp
                  have hlen2 : at_.length ≤ 100000 := by
                    have := congrArg List.length hra
                    rw [List.length_append] at this
                    omega
                  have hba := (Below.refl wr.heap.size wr).alloc (Nat.le_refl _) (.cells #[.int .i64 (x : Nat)] 3)
                  have hCs : C0 ≤ wr.heap.size := by rw [← Hwz.out.2.2]; exact hb9.size
                  have hlit : (wr.alloc (.cells #[.int .i64 (x : Nat)] 3)).ownsRow C0 3 1 (.slice (some ⟨wr.heap.size, 0, none⟩) 1 1) 1 [.int .i64 (x : Nat)] := World.ownsRow_lit wr #[.int .i64 (x : Nat)] 1 hCs (by decide) rfl
                  have H := hid (And.intro hwb (And.intro hc' (And.intro hra2 (And.intro hb9 (And.intro hCs (And.intro hlit hba))))))
                  clear hwb hc' hra hra2 hb9 hch
                  by_cases hat : at_ = []
                  · subst hat
                    have ht := hnil rfl
                    subst ht
                    clear hnil hrow hlit hcx
                    simp only [ptrO]
                    go_upto_region 22 with (fail)
                    have hw11 : WKeep wr (wr.alloc (.cells #[.int .i64 (x : Nat)] 3)) := WKeep.of_below H.out.2.2.2.2.2.2
                    have c3 : (wr.alloc (.cells #[.int .i64 (x : Nat)] 3)).cell? ⟨p1, 3, none⟩ = some (ptrO pc) := (H.out.1.keep hw11).cell 3 _ rfl
                    have HF := hid (And.intro (H.out.2.1.keep hw11) (H.out.2.2.2.1.trans (H.out.2.2.2.2.2.2.mono H.out.2.2.2.2.1)))
                    clear hw11
                    go_wp2_with fail
                    go_roundg (r'.length + 1)
                    case measure => simp
                    case rel => exact ⟨r', [x], pc, rfl, rfl, HF.out.1, H.out.2.2.1, H.out.2.2.2.2.2.1, fun h => (by cases h), HF.out.2⟩
                  · obtain ⟨pq, gq, cq, e1, e2, hz⟩ := zin_of hrow
                    have hne : natsI at_ ≠ [] := by
                      intro e
                      apply hat
                      cases at_ with
                      | nil => rfl
                      | cons _ _ => simp [natsI] at e
                    obtain rfl := hz.hp hne
                    have e3 : (natsI at_).length = at_.length := by simp [natsI]
                    rw [e3] at e1
                    subst e1
                    have hpos : 0 < at_.length := List.length_pos_iff.2 hat
                    have Hnews : Hid (∀ j u, (ints (natsI at_))[j]? = some u → (wr.alloc (.cells #[.int .i64 (x : Nat)] 3)).cell? ((⟨gq, 0, none⟩ : Addr).add j) = some u) := hid fun j u hj => by
                      have hjl : j < (natsI at_).length := by
                        have := (List.getElem?_eq_some_iff.1 hj).1
                        rwa [ints_len] at this
                      rw [add_plain9, Nat.zero_add]
                      have h1 := (hz.below hba).at_ j hjl
                      rw [h1]
                      rw [← hj]
                      unfold ints
                      rw [List.getElem?_map, List.getElem?_eq_getElem hjl]; rfl
                    have Hone : Hid (∀ u ∈ ints (natsI at_), u.oneCell' = true) := hid fun u hu => by
                      unfold ints at hu
                      obtain ⟨q, _, rfl⟩ := List.mem_map.1 hu
                      rfl
                    have Hil : Hid ((ints (natsI at_)).length = at_.length * 1) := hid (by rw [ints_len, e3, Nat.mul_one])
                    have hcapq : at_.length ≤ cq := by have := hz.cap; omega
                    have hba := H.out.2.2.2.2.2.2
                    clear hnil hrow hz hne e2 e3 hcx hlit
                    simp only [ptrO]
                    go_upto_region 22 with (at_builtin; refine wpList_append_lies _ rfl (.tmp 126) (.tmp 127) 41 rfl C0 3 i0 (.int .i64 0) 1 8 Tryz.underlying41 hi0' hz0 hz1 hz2' rfl (by decide) (.slice (some ⟨wr.heap.size, 0, none⟩) 1 1) 1 [.int .i64 (x : Nat)] rfl H.out.2.2.2.2.2.1 ⟨gq, 0, none⟩ at_.length cq (ints (natsI at_)) rfl Hil.out Hnews.out Hone.out hpos (by unfold maxLen; omega) (by omega) (by rw [World.size_alloc]; omega) _ rfl ?_; intro g11 cap11 w11 hown11 hgrow11 hat11 hlt11)
                    have hb11 : Below C0 (wr.alloc (.cells #[.int .i64 (x : Nat)] 3)) w11 := grown_below hgrow11 (by rw [World.size_alloc]; omega) fun q hq => by cases hq; exact hCs
                    have hw11 : WKeep wr w11 := (WKeep.of_below hba).trans (fun q c hq => hgrow11.block q (Array.getElem?_eq_some_iff.1 hq).1 fun e => by
                      cases e
                      rw [heap_alloc_new] at hq
                      simp only [Option.some.injEq, Obj.cells.injEq] at hq
                      exact absurd hq.2.1 (by decide))
                    have c3 : w11.cell? ⟨p1, 3, none⟩ = some (ptrO pc) := (H.out.1.keep hw11).cell 3 _ rfl
                    have HF := hid (And.intro (H.out.2.1.keep hw11) ((H.out.2.2.2.1.trans (H.out.2.2.2.2.2.2.mono H.out.2.2.2.2.1)).trans hb11))
                    have Hr11 : Hid (w11.ownsRow C0 3 1 (.slice (some ⟨g11, 0, none⟩) (1 + at_.length) cap11) (x :: at_).length (ints (natsI (x :: at_)))) := hid (by
                      rw [List.length_cons, Nat.add_comm at_.length 1]
                      exact hown11)
                    clear hw11 hb11 hown11 hgrow11 hat11 hlt11 Hnews Hone Hil
                    go_wp2_with fail
                    go_roundg (r'.length + 1)
                    case measure => simp
                    case rel => exact ⟨r', x :: at_, pc, rfl, rfl, HF.out.1, H.out.2.2.1, Hr11.out, fun h => (by cases h), HF.out.2⟩
end Go.Proofs.YtiijpbfkchokaaaGreat
