/-
  The document's side of layer 9: Choose, walked.
-/
import Derived.Test.YtiijpbfkchokaaaGreatB33
import Derived.Test.YtiijpbfkchokaaaGreatF26
import Derived.Test.YtiijpbfkchokaaaGreatF28
import Derived.Test.YtiijpbfkchokaaaGreatF29
set_option maxRecDepth 100000
set_option maxHeartbeats 8000000
namespace Go.Proofs.YtiijpbfkchokaaaGreat
open Go.ChangeShapes Go.WideShapes Go.ChangeAt Go.RowKit Go.Lib
attribute [local go_sem ↓] Go.wp_at_zero Go.wp_at_succ
structure QChPost (w : World) (r : List Bk × Int × Int) (e : Ending) (w' : World) : Prop where
  out : ∃ v, e = .returned (.tuple #[v, .int .i64 r.2.1, .int .i64 r.2.2]) ∧ w'.ownsRow w.heap.size 92 6 v r.1.length (r.1.flatMap Bk.cells)
  below : Below w.heap.size w w'
theorem zon_zin {w : World} {p : Option Addr} {g c : Nat} {l : List Int} (h : ZIn w p g c l) : ZOn w p g 0 c l := ⟨h.hp, h.cap, fun i hi => by rw [Nat.zero_add]; exact h.at_ i hi⟩
theorem lines_of_lns {one : Option Nat → Nat × Int → Int → Int → Bk} {B : List (Nat × Int)} {c : List Int} {ls : List Bk} (hr : (B.map (·.1)).Pairwise (· < ·)) (h : lnsW one B c none 1 2 = some ls) : linesW one B c none 1 2 = ls := by
  rw [lns_eq one B [] c none 1 2 hr (fun _ h => by cases h)] at h
  split at h
  · simpa using h
  · cases h
theorem q9choose (P : Pm) (g off2 : Nat) (S : List Sh2) (L : List Nd) (b off cap : Nat) (p0 : Option Addr) (s : List Nat) (hs : checkC L = 0 → Items L 0 s) (tol ext : Int) (last : Bool) (w : World) (hS : ShIn w P g off2 S) (hN : NIn w p0 b off cap L) :
    Calls Tryz.prog 9 #[.slice p0 L.length cap, .agg P.arr, .int .i64 tol, .int .i64 ext, .bool last] w (QChPost w (chR P S L s tol ext last)) := by
  have hb0 : Below w.heap.size w (w.alloc (.cells P.arr 27)) := (Below.refl _ _).alloc (Nat.le_refl _) _
  have d0 : PAt (w.alloc (.cells P.arr 27)) w.heap.size P := heap_alloc_new w _
  have HSN : Hid (∀ W, Below (w.alloc (.cells P.arr 27)).heap.size (w.alloc (.cells P.arr 27)) W → ShIn W P g off2 S ∧ NIn W p0 b off cap L) := hid fun W hW => ⟨(hS.below hb0).below hW, (hN.below hb0).below hW⟩
  have Hs := hid hs
  clear hs hS hN
  go_enter Tryz.func9, Tryz.ntmps9
  go_upto_region 1 with (fail)
  obtain ⟨X0, hX0⟩ : ∃ X0, w.heap.size = X0 := ⟨_, rfl⟩
  rw [hX0] at d0 ⊢
  generalize w.alloc (.cells P.arr 27) = w1 at hb0 d0 HSN ⊢
  have HA : Hid (∀ W, Below w1.heap.size w1 W → agg? W X0 0 24 = some P.arr ∧ W.cell? ⟨X0, 8, none⟩ = some (.int .i64 P.loose)) := hid fun W hW => by
    have h1 : PAt W X0 P := (hW.block X0 (Array.getElem?_eq_some_iff.1 d0).1).trans d0
    exact ⟨by rw [agg?_blk' h1 0 24 (by rw [Pm.size_arr]; decide)]; simp [Pm.arr, Pm.cells], by rw [cell?_blk' h1]; rfl⟩
  have a0 := (HA.out w1 (Below.refl _ _)).1
  have HWr := hid (q9wrong P g off2 S p0 b off cap L s Hs.out tol ext w1 (HSN.out w1 (Below.refl _ _)).1 (HSN.out w1 (Below.refl _ _)).2)
  obtain ⟨E, hE⟩ : ∃ E, tryE P S L s tol ext = E := ⟨_, rfl⟩
  rw [hE] at HWr
  have HE := hid hE
  have Hb0 := hid hb0
  have HX0 := hid hX0
  clear hb0 d0 hX0 hE
  by_cases h0 : E = 0
  case neg =>
    have hne : (E != 0) = true := by simpa using h0
    have HR : Hid (chR P S L s tol ext last = ([], 0, E)) := hid (by unfold chR; rw [if_neg (by rw [HE.out]; exact h0), HE.out])
    clear h0
    go_wp2_with (go_at_call 31; refine HWr.out.mono ?_; clear HWr; rintro e w2 ⟨rfl, hb2⟩)
    go_ret3
    rw [HR.out]
    exact ⟨⟨.slice none 0 0, rfl, World.ownsRow_nil _ _ _ _⟩, Hb0.out.trans (hb2.mono Hb0.out.size)⟩
  subst h0
  have hok := tryE_zero Hs.out HE.out
  have Hok := hid hok
  clear hok
  have HW : Hid (∀ (al : Bool) W, Below w1.heap.size w1 W → Calls Tryz.prog 32 #[.slice p0 L.length cap, .agg P.arr, .int .i64 tol, .int .i64 ext, .bool al] W (QWaysPost W (waysW (oneP L P S s tol ext) al (brkP L P s)))) := hid fun al W hb => q9ways P g off2 S L b off cap p0 s tol ext Hok.out al W (HSN.out W hb).1 (HSN.out W hb).2
  have HL : Hid (∀ (z : Wy) (x : Qw) (C : Nat) W, Below w1.heap.size w1 W → QwIs W C x z → z.ats.length ≤ 100000 → Calls Tryz.prog 34 #[.slice p0 L.length cap, .agg P.arr, .int .i64 tol, .int .i64 ext, .slice x.atA z.ats.length x.atC] W (QLinesPost W (linesW (oneP L P S s tol ext) (brkP L P s) (natsI z.ats) none 1 2))) := hid fun z x C W hb hx hl => by
    obtain ⟨gz, hz, _⟩ := hx.zin
    have h1 := q9lines P g off2 S L b off cap p0 s ⟨Hok.out.pm, Hok.out.chk, Hok.out.items⟩ tol ext Hok.out.ext (natsI z.ats) x.atA gz 0 x.atC (by simp [natsI]; omega) W (HSN.out W hb).1 (HSN.out W hb).2 (zon_zin hz)
    rwa [show (natsI z.ats).length = z.ats.length by simp [natsI]] at h1
  have HB : Hid (BOk (brkP L P s)) := hid (brk_ok Hok.out.items)
  have HWy : Hid (∀ a ∈ fieldW (oneP L P S s tol ext) (brkP L P s) last, a.ats.length ≤ 2100) := hid fun a ha => by
    obtain ⟨ls, hp⟩ := fieldW_sound HB.out ha
    have h1 := hp.len_le
    have h2 : nextA (some ((brkP L P s).length - 1)) = (brkP L P s).length - 1 + 1 := rfl
    have := brkP_len (L := L) (P := P) (s := s)
    have := Hok.out.items.len
    have := (checkC_zero Hok.out.chk).1
    omega
  have HLn : Hid (∀ a ∈ fieldW (oneP L P S s tol ext) (brkP L P s) last, ∃ ls, lnsW (oneP L P S s tol ext) (brkP L P s) (natsI a.ats) none 1 2 = some ls ∧ linesW (oneP L P S s tol ext) (brkP L P s) (natsI a.ats) none 1 2 = ls) := hid fun a ha => by
    obtain ⟨ls, hp⟩ := fieldW_sound HB.out ha
    have h1 := hp.lines_end HB.out.rises HB.out.ne
    exact ⟨ls, h1, lines_of_lns (by have := brkP_pair (P := P) Hok.out.items; exact this) h1⟩
  have HR : Hid (chR P S L s tol ext last = chM (oneP L P S s tol ext) (brkP L P s) (chooseW (oneP L P S s tol ext) (brkP L P s) last P.loose)) := hid (by unfold chR; rw [if_pos HE.out])
  have hPl : -2147483647 ≤ P.loose ∧ P.loose ≤ 2147483647 := (pmC_zero Hok.out.pm).loose
  clear Hs HE Hok HSN
  obtain ⟨one, hone⟩ : ∃ one, oneP L P S s tol ext = one := ⟨_, rfl⟩
  obtain ⟨BL, hBL⟩ : ∃ BL, brkP L P s = BL := ⟨_, rfl⟩
  rw [hone, hBL] at HW HL HWy HLn HR
  rw [hBL] at HB
  clear hone hBL
  obtain ⟨fl, hfl⟩ : ∃ fl, fieldW one BL last = fl := ⟨_, rfl⟩
  obtain ⟨l1, hl1⟩ : ∃ l1, waysW one false BL = l1 := ⟨_, rfl⟩
  obtain ⟨c1, hc1⟩ : ∃ c1, (l1.isEmpty && last) = c1 := ⟨_, rfl⟩
  have Hfl : Hid (fl = if c1 = true then waysW one true BL else l1) := hid (by rw [← hfl, ← hc1, ← hl1]; rfl)
  have Hc1 := hid hc1
  have HW1 : Hid (∀ W, Below w1.heap.size w1 W → Calls Tryz.prog 32 #[.slice p0 L.length cap, .agg P.arr, .int .i64 tol, .int .i64 ext, .bool false] W (QWaysPost W l1)) := hid fun W hW => by rw [← hl1]; exact HW.out false W hW
  rw [hfl] at HWy HLn
  have Hff := hid hfl
  clear hfl hl1 hc1
  go_upto_region 4 with (go_at_call 31; refine HWr.out.mono ?_; clear HWr; rintro e w2 ⟨rfl, hb2⟩)
  have a2 := (HA.out w2 hb2).1
  have Hb2 := hid hb2
  clear a0 hb2
  go_upto_region 5 with (go_at_call 32; refine (HW1.out w2 Hb2.out).mono ?_; rintro e w3 hp; obtain ⟨v1, xs1, rfl, hys⟩ := hp.out; obtain ⟨p1, q1, rfl⟩ := owns_form hys.row; have hb3 := hp.below; have hl3 := hp.len; clear hp)
  have Hys := hid (And.intro (hys.base Hb2.out.size) (Hb2.out.trans (hb3.mono Hb2.out.size)))
  obtain ⟨n1, hn1⟩ : ∃ n1, l1.length = n1 := ⟨_, rfl⟩
  rw [hn1] at hl3 ⊢
  have Hn1 := hid hn1
  clear hys hb3 hn1 HW1 a2
  go_cut [40] from 35 to 40 (fun s40 wx => s40 = .bool c1 ∧ wx = w3)
  case first =>
    have h1 := Hc1.out
    cases hz : ((n1 : Int) == 0)
    · have e1 : c1 = false := by
        rw [← h1]
        have : l1 ≠ [] := by intro e; have := Hn1.out; rw [e] at this; simp at this; subst this; simp at hz
        cases l1 with
        | nil => exact absurd rfl this
        | cons _ _ => rfl
      subst e1
      clear h1
      go_wp2_with fail
      go_meet
      exact ⟨rfl, rfl⟩
    · have e1 : last = c1 := by
        rw [← h1]
        have h2 : n1 = 0 := by simpa using hz
        have : l1 = [] := List.length_eq_zero_iff.1 (by rw [Hn1.out, h2])
        rw [this]; rfl
      clear h1
      go_wp2_with fail
      go_meet
      exact ⟨rfl, rfl⟩
  case rest =>
    obtain ⟨rfl, rfl⟩ := hcut
    go_upto_if 40 with (fail)
    go_cut [14] from 41 to 45 (fun t14 wx => ∃ p5 q5 xs5, t14 = .slice p5 fl.length q5 ∧ QL wx w1.heap.size (.slice p5 fl.length q5) xs5 fl ∧ fl.length ≤ 100000 ∧ Below w1.heap.size w1 wx)
    case first =>
      cases hc : c1
      · subst hc
        have e1 : fl = l1 := by rw [Hfl.out]; rfl
        have HH : Hid (∃ p5 q5 xs5, Value.slice p1 n1 q1 = .slice p5 fl.length q5 ∧ QL wc w1.heap.size (.slice p5 fl.length q5) xs5 fl ∧ fl.length ≤ 100000 ∧ Below w1.heap.size w1 wc) := hid (by
          rw [e1]
          exact ⟨p1, q1, xs1, by rw [Hn1.out], Hys.out.1, by rw [Hn1.out]; exact hl3, Hys.out.2⟩)
        clear e1
        go_wp2_with fail
        go_meet
        exact HH.out
      · subst hc
        have e1 : fl = waysW one true BL := by rw [Hfl.out]; rfl
        have HW2 : Hid (Calls Tryz.prog 32 #[.slice p0 L.length cap, .agg P.arr, .int .i64 tol, .int .i64 ext, .bool true] wc (QWaysPost wc fl)) := hid (by rw [e1]; exact HW.out true wc Hys.out.2)
        have a3 := (HA.out wc Hys.out.2).1
        clear e1
        go_wp2_with (go_at_call 32; refine HW2.out.mono ?_; rintro e w4 hp; obtain ⟨v5, xs5, rfl, hys⟩ := hp.out; obtain ⟨p5, q5, rfl⟩ := owns_form hys.row; have hb4 := hp.below; have hl4 := hp.len; clear hp)
        go_meet
        exact ⟨p5, q5, xs5, rfl, hys.base Hys.out.2.size, hl4, Hys.out.2.trans (hb4.mono Hys.out.2.size)⟩
    case rest =>
      obtain ⟨p5, q5, xs5, rfl, hys, hl5, hb5⟩ := hcut
      clear Hc1 Hn1 Hys HW hl3
      obtain ⟨r0, hr0⟩ : ∃ r0, pickW 0 fl none = r0 := ⟨_, rfl⟩
      have HP := hid (q9best w1.heap.size _ xs5 fl 0 (by omega) (fun z hz => by have := HWy.out z hz; omega) wc hys)
      rw [hr0] at HP
      have Hr0 := hid hr0
      have Hys := hid (And.intro hys hb5)
      obtain ⟨nf, hnf⟩ : ∃ nf, fl.length = nf := ⟨_, rfl⟩
      rw [hnf] at HP Hys hl5 ⊢
      have Hnf := hid hnf
      clear hr0 hys hb5 hnf
      go_upto_region 8 with (go_at_call 33; refine HP.out.mono ?_; clear HP; rintro e w6 hp; obtain ⟨xb, rfl, hxb, hxn⟩ := hp.out; have hb6 := hp.below; clear hp)
      cases r0 with
      | none =>
        have HC : Hid (chR P S L s tol ext last = ([], 0, 90)) := hid (by
          rw [HR.out]
          unfold chooseW
          rw [Hff.out, Hr0.out]
          rfl)
        have Hb9 : Hid (∀ W, Below w6.heap.size w6 W → Below w.heap.size w W) := hid fun W hW => by
          have h1 := Hys.out.2.trans (hb6.mono Hys.out.2.size)
          exact Hb0.out.trans ((h1.trans (hW.mono h1.size)).mono Hb0.out.size)
        clear hxb hxn hb6
        go_wp2_with fail
        go_ret3
        rw [HC.out]
        exact ⟨⟨.slice none 0 0, rfl, World.ownsRow_nil _ _ _ _⟩, Hb9.out _ ((Below.refl _ _).alloc (Nat.le_refl _) _)⟩
      | some y =>
        simp only [Option.isSome_some]
        have hxy := hxb y rfl
        have hyf : y ∈ fl := by
          rcases pickW_mem Hr0.out with h | h
          · exact h.1
          · cases h
        obtain ⟨lo, hlo⟩ : ∃ lo, looseW P.loose y fl 0 = lo := ⟨_, rfl⟩
        have Hlo := hid hlo
        have hbA : Below w6.heap.size w6 (w6.alloc (.cells xb.arr 86)) := (Below.refl _ _).alloc (Nat.le_refl _) _
        have hzA : QwAt (w6.alloc (.cells xb.arr 86)) w6.heap.size xb := heap_alloc_new w6 _
        have hqA := (Hys.out.1.still hb6).still hbA
        have hxA := hxy.keep (KeepZ.of_below hbA)
        have hbB : Below w1.heap.size w1 (w6.alloc (.cells xb.arr 86)) := (Hys.out.2.trans (hb6.mono Hys.out.2.size)).trans (hbA.mono (Hys.out.2.trans (hb6.mono Hys.out.2.size)).size)
        obtain ⟨X7, hX7⟩ : ∃ X7, w6.heap.size = X7 := ⟨_, rfl⟩
        have hX7l : w1.heap.size ≤ X7 := by rw [← hX7]; exact (Hys.out.2.trans (hb6.mono Hys.out.2.size)).size
        rw [hX7] at hzA
        try rw [hX7]
        clear hxb hxn hxy hlo hbA hb6 hX7 Hys
        rename_i w6x w7x
        generalize w6.alloc (.cells xb.arr 86) = w8 at hzA hqA hxA hbB ⊢
        have H8 := hid (And.intro hzA (And.intro hqA (And.intro hxA hbB)))
        have c0 := hzA.cell 0 _ (Qw.get0 xb)
        rw [hxA.len] at c0
        obtain ⟨ly, hly⟩ : ∃ ly, y.ats.length = ly := ⟨_, rfl⟩
        rw [hly] at c0
        have Hly := hid hly
        clear hly
        clear hzA hqA hxA hbB
        have Hyf := hid hyf
        clear hyf
        go_upto_region 11 with (fail)
        clear c0
        go_wp2_with fail
        go_loopg [18, 19, 20] (nf + 1) (fun gg t18 t19 _ wr => ∃ (k m : Nat) (l0 : Int), gg = nf + 1 - k ∧ k ≤ nf ∧ t18 = .int .i64 l0 ∧ t19 = .int .i64 k ∧ (-10000 ≤ l0 ∧ l0 ≤ 10000) ∧ looseW P.loose y (fl.drop k) l0 = lo ∧ wr = w8.drewN m)
        case atStart => exact ⟨0, 0, 0, rfl, Nat.zero_le _, rfl, rfl, by omega, Hlo.out, rfl⟩
        case round =>
          obtain ⟨k, m, l0, rfl, hk, rfl, rfl, hl0, hlk, rfl⟩ := hrel
          have hk0 : (0 : Int) ≤ (k : Int) := by omega
          have hy2 := HWy.out y Hyf.out
          by_cases hlt : k < nf
          · have hk1 : (k : Int) < (nf : Int) := by omega
            have hlt2 : decide (k < nf) = true := decide_eq_true hlt
            have hkf : k < fl.length := by rw [Hnf.out]; exact hlt
            obtain ⟨g9, cap9, xa, e1, e2, -, e4, -, e6⟩ := H8.out.2.1.get hkf
            simp only [Value.slice.injEq] at e1
            obtain ⟨rfl, -, rfl⟩ := e1
            rw [Hnf.out] at e2
            have hwl := HWy.out fl[k] (List.getElem_mem hkf)
            rw [List.drop_eq_getElem_cons hkf, looseW_cons] at hlk
            generalize fl[k] = a at e6 hlk hwl
            obtain ⟨la, hla⟩ : ∃ la, a.ats.length = la := ⟨_, rfl⟩
            rw [hla] at hwl hlk
            rw [Hly.out] at hy2 hlk
            have ck := agg_cell e4 0 _ (Qw.get0 xa)
            rw [e6.len, hla] at ck
            have ck1 : (w8.drewN m).cell? ⟨g9, k * 5, none⟩ = some (.slice xa.atA la xa.atC) := cell_below9 ck (below_drewN_refl _ _ m)
            have HC : Hid (∀ n, (w8.drewN n).cell? ⟨g9, k * 5 + 2, none⟩ = some (.int .i64 a.over) ∧ (w8.drewN n).cell? ⟨g9, k * 5 + 3, none⟩ = some (.int .i64 a.bad) ∧ (w8.drewN n).cell? ⟨X7, 2, none⟩ = some (.int .i64 y.over) ∧ (w8.drewN n).cell? ⟨X7, 3, none⟩ = some (.int .i64 y.bad) ∧ (w8.drewN n).cell? ⟨X0, 8, none⟩ = some (.int .i64 P.loose)) := hid fun n => by
              have hb := below_drewN_refl w8.heap.size w8 n
              have h2 := agg_cell e4 2 _ (Qw.get2 xa)
              have h3 := agg_cell e4 3 _ (Qw.get3 xa)
              rw [e6.over] at h2
              rw [e6.bad] at h3
              have y2 := H8.out.1.cell 2 _ (Qw.get2 xb)
              have y3 := H8.out.1.cell 3 _ (Qw.get3 xb)
              rw [H8.out.2.2.1.over] at y2
              rw [H8.out.2.2.1.bad] at y3
              exact ⟨cell_below9 h2 hb, cell_below9 h3 hb, cell_below9 y2 hb, cell_below9 y3 hb, (HA.out _ (below_drewN H8.out.2.2.2 n)).2⟩
            obtain ⟨d, hd⟩ : ∃ d : Int, (la : Int) - (ly : Int) = d := ⟨_, rfl⟩
            rw [hd] at hlk
            have hdb : -10000 ≤ d ∧ d ≤ 10000 := by omega
            have hw1 : IntKind.i64.wrap ((la : Int) - (ly : Int)) = d := by rw [hd]; exact Go.IntWalk.i64_in _ (by omega)
            have Hlk := hid hlk
            clear hlk hkf hlt hla hwl hy2 hd e4 e6 ck
            go_upto_region 16 with (fail)
            obtain ⟨cnd, hcnd⟩ : ∃ cnd, (a.over == y.over && (a.bad == y.bad && ((decide (l0 < d) && decide (d ≤ P.loose)) || (decide (d < l0) && decide (P.loose ≤ d))))) = cnd := ⟨_, rfl⟩
            have Hcnd := hid hcnd
            have Hlk2 : Hid (looseW P.loose y (fl.drop (k + 1)) (if cnd = true then d else l0) = lo) := hid (by
              rw [← Hlk.out, ← hcnd]
              congr 1
              simp only [Bool.and_eq_true, Bool.or_eq_true, decide_eq_true_eq, beq_iff_eq])
            clear hcnd Hlk ck1
            go_cut [109] from 70 to 109 (fun s109 wx => s109 = .bool cnd ∧ ∃ n, wx = w8.drewN n)
            case first =>
              cases hA : (a.over == y.over)
              · clear hw1
                have h1 := Hcnd.out
                rw [hA] at h1
                obtain rfl : false = cnd := h1
                clear Hcnd Hlk2
                refine Rest.region follows ?_
                refine Rest.tame 40 (fun W => ∃ k, W = w8.drewN k) (by kernel_rfl) (by first | exact isd ⟨_, rfl⟩ | exact isd ⟨0, rfl⟩) ?_
                simp only [Nat.reduceSub, List.drop_zero, List.take_succ_cons, List.take_zero]
                iterate 40 first
                  | (refine TW.cons_n rfl _ (by intro wT hT R hR K hK; simp only [Act.put, lsA, lsB, lsC] at hK; obtain ⟨nt, rfl⟩ := hT; obtain ⟨ya0, ya1, yb0, yb1, yc⟩ := HC.out nt; go_step; exact hK _ _ (hR _ ⟨_, rfl⟩)) ?_; try simp only [Act.put, lsA, lsB, lsC])
                  | (refine TW.skip_g _ _ _ rfl rfl rfl ?_; try simp only [Act.put, lsA, lsB, lsC])
                  | (refine TW.skip_u _ _ _ rfl rfl rfl ?_; try simp only [Act.put, lsA, lsB, lsC])
                  | (refine TW.cons_g _ _ _ rfl rfl rfl _ (by intro wT hT R hR K hK; simp only [Act.put, lsA, lsB, lsC] at hK; obtain ⟨nt, rfl⟩ := hT; obtain ⟨ya0, ya1, yb0, yb1, yc⟩ := HC.out nt; go_step; exact hK _ _ (hR _ ⟨_, rfl⟩)) ?_; try simp only [Act.put, lsA, lsB, lsC])
                refine TW.nil fun w9 h9 => ?_
                obtain ⟨n9, rfl⟩ := h9
                refine Rest.done ?_
                go_wp2_with fail
                go_meet
                exact ⟨rfl, _, rfl⟩
              cases hB : (a.bad == y.bad)
              · clear hw1
                have h1 := Hcnd.out
                rw [hA, hB] at h1
                obtain rfl : false = cnd := h1
                clear Hcnd Hlk2
                refine Rest.region follows ?_
                refine Rest.tame 40 (fun W => ∃ k, W = w8.drewN k) (by kernel_rfl) (by first | exact isd ⟨_, rfl⟩ | exact isd ⟨0, rfl⟩) ?_
                simp only [Nat.reduceSub, List.drop_zero, List.take_succ_cons, List.take_zero]
                iterate 40 first
                  | (refine TW.cons_n rfl _ (by intro wT hT R hR K hK; simp only [Act.put, lsA, lsB, lsC] at hK; obtain ⟨nt, rfl⟩ := hT; obtain ⟨ya0, ya1, yb0, yb1, yc⟩ := HC.out nt; go_step; exact hK _ _ (hR _ ⟨_, rfl⟩)) ?_; try simp only [Act.put, lsA, lsB, lsC])
                  | (refine TW.skip_g _ _ _ rfl rfl rfl ?_; try simp only [Act.put, lsA, lsB, lsC])
                  | (refine TW.skip_u _ _ _ rfl rfl rfl ?_; try simp only [Act.put, lsA, lsB, lsC])
                  | (refine TW.cons_g _ _ _ rfl rfl rfl _ (by intro wT hT R hR K hK; simp only [Act.put, lsA, lsB, lsC] at hK; obtain ⟨nt, rfl⟩ := hT; obtain ⟨ya0, ya1, yb0, yb1, yc⟩ := HC.out nt; go_step; exact hK _ _ (hR _ ⟨_, rfl⟩)) ?_; try simp only [Act.put, lsA, lsB, lsC])
                refine TW.nil fun w9 h9 => ?_
                obtain ⟨n9, rfl⟩ := h9
                refine Rest.done ?_
                go_wp2_with fail
                go_meet
                exact ⟨rfl, _, rfl⟩
              cases hC : decide (l0 < d)
              · cases hE : decide (d < l0)
                · clear hw1
                  have h1 := Hcnd.out
                  rw [hA, hB, hC, hE] at h1
                  obtain rfl : false = cnd := h1
                  clear Hcnd Hlk2
                  refine Rest.region follows ?_
                  refine Rest.tame 40 (fun W => ∃ k, W = w8.drewN k) (by kernel_rfl) (by first | exact isd ⟨_, rfl⟩ | exact isd ⟨0, rfl⟩) ?_
                  simp only [Nat.reduceSub, List.drop_zero, List.take_succ_cons, List.take_zero]
                  iterate 40 first
                    | (refine TW.cons_n rfl _ (by intro wT hT R hR K hK; simp only [Act.put, lsA, lsB, lsC] at hK; obtain ⟨nt, rfl⟩ := hT; obtain ⟨ya0, ya1, yb0, yb1, yc⟩ := HC.out nt; go_step; exact hK _ _ (hR _ ⟨_, rfl⟩)) ?_; try simp only [Act.put, lsA, lsB, lsC])
                    | (refine TW.skip_g _ _ _ rfl rfl rfl ?_; try simp only [Act.put, lsA, lsB, lsC])
                    | (refine TW.skip_u _ _ _ rfl rfl rfl ?_; try simp only [Act.put, lsA, lsB, lsC])
                    | (refine TW.cons_g _ _ _ rfl rfl rfl _ (by intro wT hT R hR K hK; simp only [Act.put, lsA, lsB, lsC] at hK; obtain ⟨nt, rfl⟩ := hT; obtain ⟨ya0, ya1, yb0, yb1, yc⟩ := HC.out nt; go_step; exact hK _ _ (hR _ ⟨_, rfl⟩)) ?_; try simp only [Act.put, lsA, lsB, lsC])
                  refine TW.nil fun w9 h9 => ?_
                  obtain ⟨n9, rfl⟩ := h9
                  refine Rest.done ?_
                  go_wp2_with fail
                  go_meet
                  exact ⟨rfl, _, rfl⟩
                · cases hF : decide (P.loose ≤ d)
                  · clear hw1
                    have h1 := Hcnd.out
                    rw [hA, hB, hC, hE, hF] at h1
                    obtain rfl : false = cnd := h1
                    clear Hcnd Hlk2
                    refine Rest.region follows ?_
                    refine Rest.tame 40 (fun W => ∃ k, W = w8.drewN k) (by kernel_rfl) (by first | exact isd ⟨_, rfl⟩ | exact isd ⟨0, rfl⟩) ?_
                    simp only [Nat.reduceSub, List.drop_zero, List.take_succ_cons, List.take_zero]
                    iterate 40 first
                      | (refine TW.cons_n rfl _ (by intro wT hT R hR K hK; simp only [Act.put, lsA, lsB, lsC] at hK; obtain ⟨nt, rfl⟩ := hT; obtain ⟨ya0, ya1, yb0, yb1, yc⟩ := HC.out nt; go_step; exact hK _ _ (hR _ ⟨_, rfl⟩)) ?_; try simp only [Act.put, lsA, lsB, lsC])
                      | (refine TW.skip_g _ _ _ rfl rfl rfl ?_; try simp only [Act.put, lsA, lsB, lsC])
                      | (refine TW.skip_u _ _ _ rfl rfl rfl ?_; try simp only [Act.put, lsA, lsB, lsC])
                      | (refine TW.cons_g _ _ _ rfl rfl rfl _ (by intro wT hT R hR K hK; simp only [Act.put, lsA, lsB, lsC] at hK; obtain ⟨nt, rfl⟩ := hT; obtain ⟨ya0, ya1, yb0, yb1, yc⟩ := HC.out nt; go_step; exact hK _ _ (hR _ ⟨_, rfl⟩)) ?_; try simp only [Act.put, lsA, lsB, lsC])
                    refine TW.nil fun w9 h9 => ?_
                    obtain ⟨n9, rfl⟩ := h9
                    refine Rest.done ?_
                    go_wp2_with fail
                    go_meet
                    exact ⟨rfl, _, rfl⟩
                  · clear hw1
                    have h1 := Hcnd.out
                    rw [hA, hB, hC, hE, hF] at h1
                    obtain rfl : true = cnd := h1
                    clear Hcnd Hlk2
                    refine Rest.region follows ?_
                    refine Rest.tame 40 (fun W => ∃ k, W = w8.drewN k) (by kernel_rfl) (by first | exact isd ⟨_, rfl⟩ | exact isd ⟨0, rfl⟩) ?_
                    simp only [Nat.reduceSub, List.drop_zero, List.take_succ_cons, List.take_zero]
                    iterate 40 first
                      | (refine TW.cons_n rfl _ (by intro wT hT R hR K hK; simp only [Act.put, lsA, lsB, lsC] at hK; obtain ⟨nt, rfl⟩ := hT; obtain ⟨ya0, ya1, yb0, yb1, yc⟩ := HC.out nt; go_step; exact hK _ _ (hR _ ⟨_, rfl⟩)) ?_; try simp only [Act.put, lsA, lsB, lsC])
                      | (refine TW.skip_g _ _ _ rfl rfl rfl ?_; try simp only [Act.put, lsA, lsB, lsC])
                      | (refine TW.skip_u _ _ _ rfl rfl rfl ?_; try simp only [Act.put, lsA, lsB, lsC])
                      | (refine TW.cons_g _ _ _ rfl rfl rfl _ (by intro wT hT R hR K hK; simp only [Act.put, lsA, lsB, lsC] at hK; obtain ⟨nt, rfl⟩ := hT; obtain ⟨ya0, ya1, yb0, yb1, yc⟩ := HC.out nt; go_step; exact hK _ _ (hR _ ⟨_, rfl⟩)) ?_; try simp only [Act.put, lsA, lsB, lsC])
                    refine TW.nil fun w9 h9 => ?_
                    obtain ⟨n9, rfl⟩ := h9
                    refine Rest.done ?_
                    go_wp2_with fail
                    go_meet
                    exact ⟨rfl, _, rfl⟩
              · have hE : decide (d < l0) = false := by
                  have := of_decide_eq_true hC
                  exact decide_eq_false (by omega)
                cases hD : decide (d ≤ P.loose)
                · clear hw1
                  have h1 := Hcnd.out
                  rw [hA, hB, hC, hD, hE] at h1
                  obtain rfl : false = cnd := h1
                  clear Hcnd Hlk2
                  refine Rest.region follows ?_
                  refine Rest.tame 40 (fun W => ∃ k, W = w8.drewN k) (by kernel_rfl) (by first | exact isd ⟨_, rfl⟩ | exact isd ⟨0, rfl⟩) ?_
                  simp only [Nat.reduceSub, List.drop_zero, List.take_succ_cons, List.take_zero]
                  iterate 40 first
                    | (refine TW.cons_n rfl _ (by intro wT hT R hR K hK; simp only [Act.put, lsA, lsB, lsC] at hK; obtain ⟨nt, rfl⟩ := hT; obtain ⟨ya0, ya1, yb0, yb1, yc⟩ := HC.out nt; go_step; exact hK _ _ (hR _ ⟨_, rfl⟩)) ?_; try simp only [Act.put, lsA, lsB, lsC])
                    | (refine TW.skip_g _ _ _ rfl rfl rfl ?_; try simp only [Act.put, lsA, lsB, lsC])
                    | (refine TW.skip_u _ _ _ rfl rfl rfl ?_; try simp only [Act.put, lsA, lsB, lsC])
                    | (refine TW.cons_g _ _ _ rfl rfl rfl _ (by intro wT hT R hR K hK; simp only [Act.put, lsA, lsB, lsC] at hK; obtain ⟨nt, rfl⟩ := hT; obtain ⟨ya0, ya1, yb0, yb1, yc⟩ := HC.out nt; go_step; exact hK _ _ (hR _ ⟨_, rfl⟩)) ?_; try simp only [Act.put, lsA, lsB, lsC])
                  refine TW.nil fun w9 h9 => ?_
                  obtain ⟨n9, rfl⟩ := h9
                  refine Rest.done ?_
                  go_wp2_with fail
                  go_meet
                  exact ⟨rfl, _, rfl⟩
                · clear hw1
                  have h1 := Hcnd.out
                  rw [hA, hB, hC, hD] at h1
                  obtain rfl : true = cnd := h1
                  clear Hcnd Hlk2
                  refine Rest.region follows ?_
                  refine Rest.tame 40 (fun W => ∃ k, W = w8.drewN k) (by kernel_rfl) (by first | exact isd ⟨_, rfl⟩ | exact isd ⟨0, rfl⟩) ?_
                  simp only [Nat.reduceSub, List.drop_zero, List.take_succ_cons, List.take_zero]
                  iterate 40 first
                    | (refine TW.cons_n rfl _ (by intro wT hT R hR K hK; simp only [Act.put, lsA, lsB, lsC] at hK; obtain ⟨nt, rfl⟩ := hT; obtain ⟨ya0, ya1, yb0, yb1, yc⟩ := HC.out nt; go_step; exact hK _ _ (hR _ ⟨_, rfl⟩)) ?_; try simp only [Act.put, lsA, lsB, lsC])
                    | (refine TW.skip_g _ _ _ rfl rfl rfl ?_; try simp only [Act.put, lsA, lsB, lsC])
                    | (refine TW.skip_u _ _ _ rfl rfl rfl ?_; try simp only [Act.put, lsA, lsB, lsC])
                    | (refine TW.cons_g _ _ _ rfl rfl rfl _ (by intro wT hT R hR K hK; simp only [Act.put, lsA, lsB, lsC] at hK; obtain ⟨nt, rfl⟩ := hT; obtain ⟨ya0, ya1, yb0, yb1, yc⟩ := HC.out nt; go_step; exact hK _ _ (hR _ ⟨_, rfl⟩)) ?_; try simp only [Act.put, lsA, lsB, lsC])
                  refine TW.nil fun w9 h9 => ?_
                  obtain ⟨n9, rfl⟩ := h9
                  refine Rest.done ?_
                  go_wp2_with fail
                  go_meet
                  exact ⟨rfl, _, rfl⟩
            case rest =>
              obtain ⟨rfl, n9, rfl⟩ := hcut
              clear Hcnd HC hw1
              go_upto_if 109 with (fail)
              cases hcn : cnd
              · subst hcn
                have Hlk3 : Hid (looseW P.loose y (fl.drop (k + 1)) l0 = lo) := hid (by have := Hlk2.out; rwa [if_neg (by decide)] at this)
                clear Hlk2
                go_wp2_with fail
                go_roundg (nf + 1 - (k + 1))
                case measure => omega
                case rel => exact ⟨k + 1, n9, l0, rfl, by omega, rfl, by go_num, hl0, Hlk3.out, rfl⟩
              · subst hcn
                have Hlk3 : Hid (looseW P.loose y (fl.drop (k + 1)) d = lo) := hid (by have := Hlk2.out; rwa [if_pos rfl] at this)
                clear Hlk2
                go_wp2_with fail
                go_roundg (nf + 1 - (k + 1))
                case measure => omega
                case rel => exact ⟨k + 1, n9, d, rfl, by omega, rfl, by go_num, hdb, Hlk3.out, rfl⟩
          · have hlt2 : decide (k < nf) = false := decide_eq_false hlt
            have e1 : l0 = lo := by
              rw [List.drop_eq_nil_of_le (by rw [Hnf.out]; omega)] at hlk
              exact hlk
            subst e1
            clear hlk hlt
            -- the way that is chosen
            have hsp := looseW_spec P.loose y fl 0 (by omega) (by omega)
            rw [Hlo.out] at hsp
            obtain ⟨-, -, -, -, i5, -⟩ := hsp
            obtain ⟨z, hz⟩ : ∃ z, (if l0 = 0 then y else (pickW ((y.ats.length : Int) + l0) fl none).getD y) = z := ⟨_, rfl⟩
            have hzf : z ∈ fl ∧ (l0 ≠ 0 → pickW ((y.ats.length : Int) + l0) fl none = some z) ∧ (l0 = 0 → z = y) := by
              by_cases h9 : l0 = 0
              · rw [if_pos h9] at hz
                subst hz
                exact ⟨Hyf.out, fun h => absurd h9 h, fun _ => rfl⟩
              · rw [if_neg h9] at hz
                obtain ⟨u, hu, u1, u2, u3⟩ : ∃ u ∈ fl, u.over = y.over ∧ u.bad = y.bad ∧ (u.ats.length : Int) - y.ats.length = l0 := by
                  rcases i5 with h | h
                  · exact absurd h h9
                  · exact h
                have h1 : (pickW ((y.ats.length : Int) + l0) fl none).isSome = true := pickW_some (.inr ⟨u, hu, .inr (by omega)⟩)
                obtain ⟨z', hz'⟩ := Option.isSome_iff_exists.1 h1
                rw [hz'] at hz
                have h2 : z' = z := hz
                subst h2
                refine ⟨?_, fun _ => hz', fun h => absurd h h9⟩
                rcases pickW_mem hz' with h | h
                · exact h.1
                · cases h
            have HC : Hid (chR P S L s tol ext last = ((lnsW one BL (natsI z.ats) none 1 2).getD [], l0, 0)) := hid (by
              rw [HR.out]
              unfold chooseW
              rw [Hff.out, Hr0.out]
              simp only
              rw [Hlo.out]
              by_cases h9 : l0 = 0
              · rw [if_pos h9]
                rw [if_pos h9] at hz
                rw [h9, hz]; rfl
              · rw [if_neg h9]
                rw [if_neg h9] at hz
                rw [hz]; rfl)
            have Hzf := hid hzf
            have hzl := HWy.out z hzf.1
            obtain ⟨lls, hlls, hlls2⟩ := HLn.out z hzf.1
            have HCl : Hid (chR P S L s tol ext last = (lls, l0, 0)) := hid (by rw [HC.out, hlls]; rfl)
            have Hll2 := hid hlls2
            have H9 : Hid (QwAt (w8.drewN m) X7 xb ∧ QL (w8.drewN m) w1.heap.size (.slice p5 nf q5) xs5 fl ∧ QwIs (w8.drewN m) w1.heap.size xb y ∧ Below w1.heap.size w1 (w8.drewN m)) := hid (by
              have hb := below_drewN_refl w8.heap.size w8 m
              exact ⟨H8.out.1.still hb, H8.out.2.1.still hb, H8.out.2.2.1.keep (KeepZ.of_below hb), below_drewN H8.out.2.2.2 m⟩)
            clear i5 hz hzf HC hlls hlls2 HR H8
            generalize w8.drewN m = w9 at H9 ⊢
            have ag7 := H9.out.1.agg
            have hbA : Below w9.heap.size w9 (w9.alloc (.cells xb.arr 86)) := (Below.refl _ _).alloc (Nat.le_refl _) _
            have hzA : QwAt (w9.alloc (.cells xb.arr 86)) w9.heap.size xb := heap_alloc_new w9 _
            have hqA := H9.out.2.1.still hbA
            have hxA := H9.out.2.2.1.keep (KeepZ.of_below hbA)
            have hbB := H9.out.2.2.2.trans (hbA.mono H9.out.2.2.2.size)
            have hX21l : w1.heap.size ≤ w9.heap.size := H9.out.2.2.2.size
            go_upto_region 19 with (fail)
            obtain ⟨X21, hX21⟩ : ∃ X21, w9.heap.size = X21 := ⟨_, rfl⟩
            rw [hX21] at hzA hX21l
            try rw [hX21]
            clear hbA hX21 ag7 H9
            generalize w9.alloc (.cells xb.arr 86) = wD at hzA hqA hxA hbB ⊢
            have HD := hid (And.intro hzA (And.intro hqA (And.intro hxA hbB)))
            clear hzA hqA hxA hbB
            go_upto_if 113 with (fail)
            go_cut [113] from 114 to 121 (fun _ wx => ∃ xz, QwAt wx X21 xz ∧ QwIs wx w1.heap.size xz z ∧ Below w1.heap.size w1 wx)
            case first =>
              by_cases h9 : l0 = 0
              · have hn9 : (l0 != 0) = false := by simpa using h9
                have hzy : z = y := Hzf.out.2.2 h9
                have HH : Hid (∃ xz, QwAt wD X21 xz ∧ QwIs wD w1.heap.size xz z ∧ Below w1.heap.size w1 wD) := hid ⟨xb, HD.out.1, by rw [hzy]; exact HD.out.2.2.1, HD.out.2.2.2⟩
                clear hzy h9
                go_wp2_with fail
                go_meet
                exact HH.out
              · have hn9 : (l0 != 0) = true := by simpa using h9
                have hpz := Hzf.out.2.1 h9
                rw [Hly.out] at hpz hy2
                have hw1 : IntKind.i64.wrap ((ly : Int) + l0) = (ly : Int) + l0 := Go.IntWalk.i64_in _ (by omega)
                have HP2 := hid (q9best w1.heap.size _ xs5 fl ((ly : Int) + l0) (by rw [Hnf.out]; omega) (fun u hu => by have := HWy.out u hu; omega) wD HD.out.2.1)
                rw [hpz] at HP2
                clear hpz h9
                go_wp2_with (go_at_call 33; refine HP2.out.mono ?_; clear HP2; rintro e w6 hp; obtain ⟨xz, rfl, hxz, -⟩ := hp.out; have hb6 := hp.below; have hz6 := HD.out.1.still hb6; have t6 := hz6.there; clear hp)
                go_meet
                exact ⟨xz, hz6.store, (hxz z rfl).keep (KeepZ.setAgg hz6 way_ne_int), Below.setAgg (HD.out.2.2.2.trans (hb6.mono HD.out.2.2.2.size)) hX21l _ _⟩
            case rest =>
              obtain ⟨xz, hz1, hz2, hbz⟩ := hcut
              clear HD hy2
              have aP := (HA.out _ hbz).1
              have cz := hz1.cell 0 _ (Qw.get0 xz)
              rw [hz2.len] at cz
              have HLz := hid (HL.out z xz w1.heap.size _ hbz hz2 (by omega))
              rw [Hll2.out] at HLz
              have Hbz := hid (Hb0.out.trans (hbz.mono Hb0.out.size))
              clear hz1 hz2 hbz
              go_wp2_with (go_at_call 34; refine HLz.out.mono ?_; clear HLz; rintro e w9 hl; obtain ⟨v, rfl, hrow9⟩ := hl.out; have hb9 := hl.below; clear hl)
              go_ret3
              rw [HCl.out]
              exact ⟨⟨v, rfl, ownsRow_base hrow9 Hbz.out.size⟩, Hbz.out.trans (hb9.mono Hbz.out.size)⟩
end Go.Proofs.YtiijpbfkchokaaaGreat
namespace Go.Proofs.YtiijpbfkchokaaaGreat
open Go.ChangeShapes Go.WideShapes Go.ChangeAt Go.RowKit Go.Lib
attribute [local go_sem ↓] Go.wp_at_zero Go.wp_at_succ
theorem chR_len {P : Pm} {S : List Sh2} {L : List Nd} {s : List Nat} {tol ext : Int} (hs : checkC L = 0 → Items L 0 s) (last : Bool) : (chR P S L s tol ext last).1.length ≤ 100000 := by
  by_cases h : tryE P S L s tol ext = 0
  · have hk := tryE_zero hs h
    unfold chR
    rw [if_pos h]
    cases chooseW (oneP L P S s tol ext) (brkP L P s) last P.loose with
    | none => simp [chM]
    | some zl =>
      obtain ⟨z, l⟩ := zl
      show ((lnsW (oneP L P S s tol ext) (brkP L P s) (natsI z.ats) none 1 2).getD []).length ≤ 100000
      cases hl : lnsW (oneP L P S s tol ext) (brkP L P s) (natsI z.ats) none 1 2 with
      | none => simp
      | some ls =>
        have h0 := lines_of_lns (by have := brkP_pair (P := P) hk.items; exact this) hl
        have h1 := linesW_len (oneP L P S s tol ext) (brkP L P s) (natsI z.ats) none 1 2
        rw [h0] at h1
        have h2 := brkP_len (L := L) (P := P) (s := s)
        have h3 := hk.items.len
        have h4 := (checkC_zero hk.chk).1
        show ls.length ≤ 100000
        omega
  · unfold chR; rw [if_neg h]; simp
theorem chooses9_walk (P : Pm) (g off2 : Nat) (S : List Sh2) (L : List Nd) (b off cap : Nat) (p0 : Option Addr) (tol ext : Int) (last : Bool) (w : World) (hS : ShIn w P g off2 S) (hN : NIn w p0 b off cap L) :
    Calls Tryz.prog 3 #[.slice p0 L.length cap, .agg P.arr, .int .i64 tol, .int .i64 ext, .bool last] w fun e w' => e = .returned (.bool true) ∧ Below w.heap.size w w' := by
  obtain ⟨s, hs⟩ : ∃ s : List Nat, checkC L = 0 → Items L 0 s := ⟨itemsP L, fun h => itemsP_spec h⟩
  obtain ⟨X0, hX0⟩ : ∃ X0, w.heap.size = X0 := ⟨_, rfl⟩
  have hlen := hN.len
  have hb0 : Below w.heap.size w (w.alloc (.cells P.arr 27)) := (Below.refl _ _).alloc (Nat.le_refl _) _
  have d0 : PAt (w.alloc (.cells P.arr 27)) X0 P := by rw [← hX0]; exact heap_alloc_new w _
  have hrl := chR_len (P := P) (S := S) (tol := tol) (ext := ext) hs last
  go_enter Tryz.func3, Tryz.ntmps3
  go_upto_region 1 with (fail)
  generalize w.alloc (.cells P.arr 27) = w1 at hb0 d0 ⊢
  have hS1 := hS.below hb0
  have hN1 := hN.below hb0
  have HA : Hid (∀ W, Below w1.heap.size w1 W → agg? W X0 0 24 = some P.arr) := hid fun W hb => by
    have h1 : PAt W X0 P := (hb.block X0 (Array.getElem?_eq_some_iff.1 d0).1).trans d0
    rw [agg?_blk' h1 0 24 (by rw [Pm.size_arr]; decide)]; simp [Pm.arr, Pm.cells]
  have Hb0 := hid hb0
  have HL := hid (lent_any p0 b off cap L w1 hN1)
  have HSN := hid (And.intro hS1 hN1)
  have HX0 := hid hX0
  have Hs := hid hs
  obtain ⟨r, hr⟩ : ∃ r, chR P S L s tol ext last = r := ⟨_, rfl⟩
  rw [hr] at hrl
  have Hr := hid hr
  clear hs hS hN hS1 hN1 hb0 d0 hX0 hr
  go_upto_region 2 with (go_at_call 7; refine HL.out.mono ?_; clear HL; rintro e w2 ⟨⟨x, c9, rfl, hcx, hown⟩, hb2⟩)
  have HX := hid (lentIn_of hown hlen)
  have HP := hid (vChoose P g off2 S L x 0 c9 _ s Hs.out tol ext last w2 (HSN.out.1.below hb2) HX.out.nin)
  rw [Hr.out] at HP
  have a2 := HA.out w2 hb2
  have Hb2 := hid hb2
  obtain ⟨ls, lo, E⟩ := r
  clear hown hcx hb2
  go_upto_region 3 with (go_at_call 8; refine HP.out.mono ?_; clear HP; rintro e w3 hp; obtain ⟨v, rfl, hv⟩ := hp.out; have hb3 := hp.below; clear hp)
  have hb13 := Hb2.out.trans (hb3.mono Hb2.out.size)
  have a3 := HA.out w3 hb13
  have HX3 := hid (HX.out.below hb3)
  have HQ := hid (q9choose P g off2 S L b off cap p0 s Hs.out tol ext last w3 (HSN.out.1.below hb13) (HSN.out.2.below hb13))
  rw [Hr.out] at HQ
  have Hv := hid hv
  have Hb3 := hid hb13
  clear hv hb3 hb13 a2 HX
  go_upto_region 4 with (go_at_call 9; refine HQ.out.mono ?_; clear HQ; rintro e w4 hp; obtain ⟨u, rfl, hu⟩ := hp.out; have hb4 := hp.below; clear hp)
  have hb14 := Hb3.out.trans (hb4.mono Hb3.out.size)
  have HSm := hid (same9 _ _ v u ls hrl w4 (ownsRow_below Hv.out hb4) hu)
  have HSt : Hid (∀ W, Below w4.heap.size w4 W → Calls Tryz.prog 12 #[.slice (some ⟨x, 0, none⟩) L.length c9, .slice p0 L.length cap] W fun e w' => e = .returned (.bool true) ∧ Below W.heap.size W w') := hid fun W hb => ((HX3.out.below hb4).below hb).stays (HSN.out.2.below (hb14.trans (hb.mono hb14.size)))
  have Hbase := hid (Hb0.out.trans (hb14.mono Hb0.out.size))
  have e1 : (lo == lo) = true := by simp
  have e2 : (E == E) = true := by simp
  clear hu hb4 hb14 a3 Hr Hs HSN HX3 HA Hv Hb3 Hb2 Hb0
  go_wp2_with (first
    | (go_at_call 10; refine HSm.out.mono ?_; rintro e w5 ⟨rfl, hb5⟩)
    | (go_at_call 11; refine (num9_any _ _).mono ?_; rintro e w9 ⟨rfl, rfl⟩)
    | (go_at_call 12; refine (HSt.out _ hb5).mono ?_; rintro e w7 ⟨rfl, hb7⟩)
    | (go_at_call 13; refine (knows9_any _).mono ?_; rintro e w8 ⟨rfl, hb8⟩))
  go_ret
  exact ⟨rfl, Hbase.out.trans ((hb5.trans ((hb7.trans (hb8.mono hb7.size)).mono hb5.size)).mono Hbase.out.size)⟩
end Go.Proofs.YtiijpbfkchokaaaGreat
