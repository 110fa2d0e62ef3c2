/-
  Layer 9: the law BreaksLoose, walked.
-/
import Derived.Test.YtiijpbfkchokaaaTame4
import Derived.Test.YtiijpbfkchokaaaG8
namespace Go.Proofs.Ytiijpbfkchokaaa
open Go.ChangeShapes Go.WideShapes Go.ChangeAt Go.RowKit
attribute [local go_sem ↓] Go.wp_at_zero Go.wp_at_succ
theorem brkF_loose (L : List Nd) (P : Pm) (x : Int) : ∀ (l : List Nat) (pr : Option Nat), brkF L { P with loose := x } pr l = brkF L P pr l
  | [], _ => rfl
  | y :: r, pr => by
    have e : priceN L { P with loose := x } pr y r.head? = priceN L P pr y r.head? := rfl
    unfold brkF
    rw [e]
    split
    · rw [brkF_loose L P x r]
    · rw [brkF_loose L P x r]
theorem brkP_loose (L : List Nd) (P : Pm) (x : Int) (s : List Nat) : brkP L { P with loose := x } s = brkP L P s := by
  unfold brkP
  rw [brkF_loose]
theorem oneP_loose (L : List Nd) (P : Pm) (x : Int) (S : List Sh2) (s : List Nat) (tol ext : Int) : oneP L { P with loose := x } S s tol ext = oneP L P S s tol ext := rfl
theorem pmC_loose {P : Pm} {S : List Sh2} (h : pmC P S = 0) : pmC { P with loose := 0 } S = 0 := by
  unfold pmC at *
  split at h
  · rename_i h1
    split at h
    · rename_i h2
      rw [if_pos, if_pos h2]
      simp only [Bool.and_eq_true] at h1 ⊢
      obtain ⟨⟨⟨⟨⟨⟨⟨⟨⟨⟨⟨⟨⟨⟨q1, q2⟩, q3⟩, q4⟩, q5⟩, q6⟩, q7⟩, q8⟩, q9⟩, q10⟩, q11⟩, q12⟩, q13⟩, q14⟩, q15⟩ := h1
      exact ⟨⟨⟨⟨⟨⟨⟨⟨⟨⟨⟨⟨⟨⟨q1, q2⟩, q3⟩, q4⟩, q5⟩, q6⟩, q7⟩, q8⟩, (by decide)⟩, q10⟩, q11⟩, q12⟩, q13⟩, q14⟩, q15⟩
    · cases h
  · cases h
theorem tryE_loose {P : Pm} {S : List Sh2} (L : List Nd) (s : List Nat) (tol ext : Int) (h : pmC P S = 0) : tryE { P with loose := 0 } S L s tol ext = tryE P S L s tol ext := by
  unfold tryE opE
  rw [h, pmC_loose h]
/-- what is chosen at all -/
theorem choose_any {P : Pm} {S : List Sh2} {L : List Nd} {s : List Nat} {tol ext : Int} (hok : TryOk P S L s tol ext) (hE : tryE P S L s tol ext = 0) :
    ∃ y z l ls ms, chR P S L s tol ext true = (ls, l, 0) ∧ chR { P with loose := 0 } S L s tol ext true = (ms, 0, 0) ∧ WayD P S L s tol ext z ls ∧ WayD P S L s tol ext y ms ∧ Loosed (oneP L P S s tol ext) (brkP L P s) P.loose y z l ls := by
  obtain ⟨y, z, l, ls, ms, h1, h2, h3, h4⟩ := chooseW_spec (one_ok L P S s tol ext) (brk_ok (P := P) hok.items) P.loose
  have hz := way_of hok h4.path
  have hy := way_of hok h3.path
  refine ⟨y, z, l, ls, ms, ?_, ?_, hz, hy, h4⟩
  · unfold chR
    rw [if_pos hE, h1]
    show ((lnsW _ _ (natsI z.ats) none 1 2).getD [], l, (0 : Int)) = _
    rw [hz.lines]; rfl
  · unfold chR
    rw [tryE_loose L s tol ext hok.pm, if_pos hE, brkP_loose, oneP_loose, h2]
    show ((lnsW _ _ (natsI y.ats) none 1 2).getD [], (0 : Int), (0 : Int)) = _
    rw [hy.lines]; rfl
set_option maxRecDepth 100000 in
set_option maxHeartbeats 8000000 in
theorem loose9_walk (P : Pm) (g off2 : Nat) (S : List Sh2) (L : List Nd) (b off cap : Nat) (p0 : Option Addr) (tol ext : Int) (pt : Option Addr) (bt ot ct : Nat) (t : List Bool) (w : World) (hS : ShIn w P g off2 S) (hN : NIn w p0 b off cap L) (ht : BIn w pt bt ot ct t) :
    Calls Try.prog 5 #[.slice p0 L.length cap, .agg P.arr, .int .i64 tol, .int .i64 ext, .slice pt t.length ct] w fun e w' => e = .returned (.bool true) ∧ Below w.heap.size w w' := by
  obtain ⟨s, hs⟩ : ∃ s : List Nat, checkC L = 0 → Items L 0 s := ⟨itemsP L, fun h => itemsP_spec h⟩
  obtain ⟨X0, hX0⟩ : ∃ X0, w.heap.size = X0 := ⟨_, rfl⟩
  have hb2 : Below w.heap.size w (w.alloc (.cells P.arr 27)) := (Below.refl _ _).alloc (Nat.le_refl _) _
  have d2 : PAt (w.alloc (.cells P.arr 27)) X0 P := by rw [← hX0]; exact heap_alloc_new w _
  go_enter Try.func5, Try.ntmps5
  go_upto_region 1 with (fail)
  generalize w.alloc (.cells P.arr 27) = w2 at hb2 d2 ⊢
  have hS2 := hS.below hb2
  have hN2 := hN.below hb2
  have ht2 := ht.below hb2
  have Hb2 := Lib.hid (And.intro hb2 hX0)
  clear hS hN ht hb2 hX0
  have HP : Hid (∀ W, Below w2.heap.size w2 W → PAt W X0 P) := Lib.hid fun W hb => (hb.block X0 (Array.getElem?_eq_some_iff.1 d2).1).trans d2
  have Hd : Hid (∀ W, Below w2.heap.size w2 W → agg? W X0 0 24 = some P.arr ∧ W.cell? ⟨X0, 8, none⟩ = some (.int .i64 P.loose)) := Lib.hid fun W hb => by
    have h1 := HP.out W hb
    refine ⟨?_, by rw [cell?_blk' h1]; rfl⟩
    rw [agg?_blk' h1 0 24 (by rw [Pm.size_arr]; decide)]; simp [Pm.arr, Pm.cells]
  have HLg : Hid (∀ W, Below w2.heap.size w2 W → Calls Try.prog 10 #[.slice p0 L.length cap, .agg P.arr] W (LegalPost W P L s (opE P S L s))) := Lib.hid fun W hb => vLegal P g off2 S L b off cap p0 s hs W (hS2.below hb) (hN2.below hb)
  have HCk : Hid (∀ W, Below w2.heap.size w2 W → Calls Try.prog 14 #[.agg P.arr] W fun e w' => e = .returned (.int .i64 (pmC P S)) ∧ Below W.heap.size W w') := Lib.hid fun W hb => vcheckP P g off2 S W (hS2.below hb)
  have HCh : Hid (∀ W, Below w2.heap.size w2 W → Calls Try.prog 6 #[.slice p0 L.length cap, .agg P.arr, .int .i64 tol, .int .i64 ext, .bool true] W (ChPost W (chR P S L s tol ext true))) := Lib.hid fun W hb => vChoose P g off2 S L b off cap p0 s hs tol ext true W (hS2.below hb) (hN2.below hb)
  have HCq : Hid (∀ W, Below w2.heap.size w2 W → Calls Try.prog 6 #[.slice p0 L.length cap, .agg ({ P with loose := 0 } : Pm).arr, .int .i64 tol, .int .i64 ext, .bool true] W (ChPost W (chR { P with loose := 0 } S L s tol ext true))) := Lib.hid fun W hb => vChoose { P with loose := 0 } g off2 S L b off cap p0 s hs tol ext true W ((hS2.below hb).loose 0) (hN2.below hb)
  have HCo : Hid (∀ W, Below w2.heap.size w2 W → ∀ c pc gc cc, c.length ≤ 100000000 → ZIn W pc gc cc c → Calls Try.prog 12 #[.slice p0 L.length cap, .agg P.arr, .int .i64 tol, .int .i64 ext, .slice pc c.length cc] W (RowPost W (cstR P S L s tol ext c))) := Lib.hid fun W hb c pc gc cc hc hz => vCost P g off2 S L b off cap p0 s hs tol ext c pc gc cc hc W (hS2.below hb) (hN2.below hb) hz
  have HT : Hid (∀ W, Below w2.heap.size w2 W → BIn W pt bt ot ct t) := Lib.hid fun W hb => ht2.below hb
  have Hs := Lib.hid hs
  have a2 := (Hd.out w2 (Below.refl _ _)).1
  clear d2 hS2 hN2 ht2 hs
  obtain ⟨F, hF⟩ : ∃ F, tryE P S L s tol ext = F := ⟨_, rfl⟩
  have HE := Lib.hid hF
  clear hF
  go_upto_region 2 with (go_at_call 6; refine (HCh.out w2 (Below.refl _ _)).mono ?_; rintro e w3 hp; obtain ⟨v1, rfl, hrow1⟩ := hp.out; have hb3 := hp.below; clear hp)
  have a3 := (Hd.out w3 hb3).1
  have H3 := Lib.hid (And.intro hrow1 hb3)
  clear hrow1 a2
  go_upto_region 3 with (fail)
  obtain ⟨X1, hX1⟩ : ∃ X1, w3.heap.size = X1 := ⟨_, rfl⟩
  have hba := (Below.refl w3.heap.size w3).alloc (Nat.le_refl _) (.cells P.arr 27)
  have d4 : PAt (w3.alloc (.cells P.arr 27)) X1 P := by rw [← hX1]; exact heap_alloc_new w3 _
  have x8 : (w3.alloc (.cells P.arr 27)).cell? ⟨X1, 8, none⟩ = some (.int .i64 P.loose) := by rw [cell?_blk' d4]; rfl
  have f8 : (w3.alloc (.cells P.arr 27)).frozen? ⟨X1, 8, none⟩ = false := frozen_of_row _ X1 8 _ _ d4
  have hX13 : w3.heap.size ≤ X1 := by omega
  rw [hX1]
  have hb34 := hba.setCell (p := ⟨X1, 8, none⟩) hX13 (.int .i64 0)
  have d5 : PAt ((w3.alloc (.cells P.arr 27)).setCell ⟨X1, 8, none⟩ (.int .i64 0)) X1 { P with loose := 0 } := by
    unfold PAt at *
    rw [heap_setCell_same _ _ _ _ _ _ d4, Pm.set8]
  clear hX1 hba d4 hX13
  generalize hw4 : w3.alloc (.cells P.arr 27) = w4 at x8 f8 hb34 d5 ⊢
  clear hw4
  go_upto_region 4 with (fail)
  have H4 := Lib.hid (And.intro (hb3.trans (hb34.mono hb3.size)) (ownsRow_below H3.out.1 hb34))
  have a5 : agg? (w4.setCell ⟨X1, 8, none⟩ (.int .i64 0)) X1 0 24 = some ({ P with loose := 0 } : Pm).arr := by
    rw [agg?_blk' d5 0 24 (by rw [Pm.size_arr]; decide)]; simp [Pm.arr, Pm.cells]
  clear x8 f8 hb34 d5 a3 hb3 H3
  generalize w4.setCell ⟨X1, 8, none⟩ (.int .i64 0) = w5 at H4 a5 ⊢
  obtain ⟨Q, hQ⟩ : ∃ Q : Pm, { P with loose := 0 } = Q := ⟨_, rfl⟩
  rw [hQ] at a5 HCq
  have HQ := Lib.hid hQ
  clear hQ
  go_upto_region 5 with (go_at_call 6; refine (HCq.out w5 H4.out.1).mono ?_; rintro e w7 hp; obtain ⟨v2, rfl, hrow2⟩ := hp.out; have hb7 := hp.below; clear hp)
  have H7 := Lib.hid (And.intro (H4.out.1.trans (hb7.mono H4.out.1.size)) (And.intro (ownsRow_below H4.out.2 hb7) hrow2))
  clear hrow2 hb7 a5 H4
  obtain ⟨F2, hF2⟩ : ∃ F2, tryE Q S L s tol ext = F2 := ⟨_, rfl⟩
  have HE2 := Lib.hid hF2
  clear hF2
  by_cases hF0 : F = 0
  case neg =>
    have hr1 : chR P S L s tol ext true = ([], 0, F) := by
      unfold chR
      rw [if_neg (by rw [HE.out]; exact hF0), HE.out]
    have hrow1 := H7.out.2.1
    rw [hr1] at hrow1 ⊢
    try simp only at hrow1
    try simp only
    obtain ⟨po, co, rfl⟩ := owns_form hrow1
    obtain ⟨r2, hr2⟩ : ∃ r2, (chR Q S L s tol ext true).2.2 = r2 := ⟨_, rfl⟩
    rw [hr2]
    have hF9 : (F != 0) = true := by simpa using hF0
    have hbb := H7.out.1
    have a7 := (Hd.out w7 hbb).1
    have HC7 := Lib.hid (HCk.out w7 hbb)
    have hpm : (F == r2) = false → (pmC P S != 0) = true := fun h => by
      by_cases hz : pmC P S = 0
      · exfalso
        have e1 : tryE Q S L s tol ext = F := by rw [← HQ.out, tryE_loose L s tol ext hz, HE.out]
        have e2 : r2 = F := by
          rw [← hr2]
          unfold chR
          rw [if_neg (by rw [e1]; exact hF0), e1]
        rw [e2] at h
        simp at h
      · simpa using hz
    have Hpm := Lib.hid hpm
    clear hr1 hrow1 hr2 hF0 hpm
    simp only [List.length_nil]
    cases hc : (F == r2)
    · have hp9 := Hpm.out hc
      go_wp2_with (first | (go_at_call 7; refine (num9_any _ _).mono ?_; rintro e w' ⟨rfl, rfl⟩) | (go_at_call 8; refine (knows9_any _).mono ?_; rintro e w9 ⟨rfl, hb9⟩) | (go_at_call 14; refine HC7.out.mono ?_; rintro e w8 ⟨rfl, hb8⟩))
      go_ret
      have hb78 := hbb.trans (hb8.mono hbb.size)
      have hb79 := hb78.trans (hb9.mono hb78.size)
      exact ⟨rfl, Hb2.out.1.trans (hb79.mono Hb2.out.1.size)⟩
    · go_wp2_with (first | (go_at_call 7; refine (num9_any _ _).mono ?_; rintro e w' ⟨rfl, rfl⟩) | (go_at_call 8; refine (knows9_any _).mono ?_; rintro e w9 ⟨rfl, hb9⟩))
      go_ret
      have hb79 := hbb.trans (hb9.mono hbb.size)
      exact ⟨rfl, Hb2.out.1.trans (hb79.mono Hb2.out.1.size)⟩
  subst hF0
  have hok := tryE_zero Hs.out HE.out
  have hE0 : opE P S L s = 0 := by
    by_cases h : opE P S L s = 0
    · exact h
    · have h1 := tryE_op (tol := tol) (ext := ext) h
      rw [HE.out] at h1
      exact h1.symm
  obtain ⟨y, z, l, ls, ms, hr1, hr2, hz, hy, hlo⟩ := choose_any hok HE.out
  obtain ⟨a, os, ha, hat⟩ := way_some hok t
  rw [HQ.out] at hr2
  have hc1 := cost_of HE.out ha
  rw [hat] at hc1
  have hrow1 := H7.out.2.1
  have hrow2 := H7.out.2.2
  rw [hr1] at hrow1
  rw [hr2] at hrow2
  rw [hr1, hr2]
  try simp only at hrow1 hrow2
  try simp only
  obtain ⟨po1, co1, rfl⟩ := owns_form hrow1
  obtain ⟨po2, co2, rfl⟩ := owns_form hrow2
  obtain ⟨nz, hnz⟩ : ∃ nz, ls.length = nz := ⟨_, rfl⟩
  obtain ⟨ny, hny⟩ : ∃ ny, ms.length = ny := ⟨_, rfl⟩
  obtain ⟨no, hno⟩ : ∃ no, os.length = no := ⟨_, rfl⟩
  have hlz := hz.len
  have hly := hy.len
  have hla := ha.len
  have hsl : (someW (brkP L P s) t).length ≤ 3000 := by rw [← hat]; have := ha.alen; simp [natsI]; omega
  have hPl := (pmC_zero hok.pm).loose
  have hld : (nz : Int) - (ny : Int) = l := by
    have := hlo.len
    rw [hz.alen, hy.alen, hnz, hny] at this
    exact this
  have hlo1 := hlo.lo
  have hlo2 := hlo.hi
  obtain ⟨o1, o2, _, _⟩ := hz.path.sums
  obtain ⟨u1, u2, _, _⟩ := hy.path.sums
  obtain ⟨v1, v2, _, _⟩ := ha.path.sums
  have f1 : (i3W (weighW ls)).a = (i3W (weighW ms)).a := by
    show (ls.map Bk.over).sum = (ms.map Bk.over).sum
    rw [← o1, ← u1]; exact hlo.over
  have f2 : (i3W (weighW ls)).b = (i3W (weighW ms)).b := by
    show (ls.map fun b => if b.isBad then (1 : Int) else 0).sum = (ms.map fun b => if b.isBad then (1 : Int) else 0).sum
    rw [← o2, ← u2]; exact hlo.bad
  have f3 : (i3W (weighW os)).a = (i3W (weighW ls)).a → (i3W (weighW os)).b = (i3W (weighW ls)).b → (0 < P.loose → (no : Int) - ny ≤ P.loose → (no : Int) - ny ≤ l) ∧ (P.loose < 0 → P.loose ≤ (no : Int) - ny → l ≤ (no : Int) - ny) := fun h1 h2 => by
    have e1 : (os.map Bk.over).sum = (ls.map Bk.over).sum := h1
    have e2 : (os.map fun b => if b.isBad then (1 : Int) else 0).sum = (ls.map fun b => if b.isBad then (1 : Int) else 0).sum := h2
    have h3 := hlo.near a os ha.path (by rw [v1, e1, ← o1]; exact hlo.over) (by rw [v2, e2, ← o2]; exact hlo.bad)
    rw [ha.alen, hy.alen, hno, hny] at h3
    exact h3
  have f4 : no = nz → leastW (weighW ls) (weighW os) = true := fun h => leastW_of hz.path ha.path (hlo.best a os ha.path (by rw [ha.alen, hz.alen, hno, hnz, h]))
  have Hk := Lib.hid (And.intro hz.bk (And.intro hy.bk (And.intro ha.bk hc1)))
  have Hf := Lib.hid (And.intro f1 (And.intro f2 (And.intro f3 f4)))
  have Hn := Lib.hid (And.intro hnz (And.intro hny hno))
  have Hr := Lib.hid (And.intro hrow1 hrow2)
  have Hok := Lib.hid (And.intro hok hE0)
  have hb27 := H7.out.1
  rw [hnz] at hlz ⊢
  rw [hny] at hly ⊢
  rw [hno] at hla
  have Hsl := Lib.hid hsl
  have Hld := Lib.hid hld
  clear hok hE0 hr1 hr2 hz hy ha hlo hat hc1 hrow1 hrow2 f1 f2 f3 f4 o1 o2 u1 u2 v1 v2 hnz hny hno hsl H7
  rename_i q1 q2 q3 q4 q5 q6
  clear q1 q2 q3 q4 q5 q6
  go_upto_region 7 with (first | (go_at_call 7; refine (num9_any _ _).mono ?_; rintro e w' ⟨rfl, rfl⟩) | (go_at_call 8; refine (knows9_any _).mono ?_; rintro e w9 ⟨rfl, hb79⟩))
  have hb29 := hb27.trans (hb79.mono hb27.size)
  have x8 := (Hd.out w9 hb29).2
  have hw1 : IntKind.i64.wrap ((nz : Int) - (ny : Int)) = l := by rw [hld]; exact Go.IntWalk.i64_in _ (by omega)
  have k1 : (l != l) = false := by simp
  have k2 : decide (max 0 P.loose < l) = false := decide_eq_false (by omega)
  have k3 : decide (l < min 0 P.loose) = false := decide_eq_false (by omega)
  clear hld k2 k3
  go_cut [102] from 78 to 102 (fun s102 wx => s102 = .bool false ∧ wx = w9)
  case first =>
    rcases Int.lt_trichotomy P.loose 0 with hp | hp | hp
    · have p1 : ¬ 0 < P.loose := by omega
      have p2 : decide (0 < l) = false := decide_eq_false (by omega)
      have p3 : decide (l < P.loose) = false := decide_eq_false (by omega)
      have p4 : decide (P.loose < 0) = true := decide_eq_true hp
      have p5 : decide (0 < P.loose) = false := decide_eq_false p1
      clear hlo1 hlo2
      go_wp2_with fail
      all_goals go_meet
      all_goals exact ⟨rfl, rfl⟩
    · have p1 : ¬ 0 < P.loose := by omega
      have p0 : ¬ P.loose < 0 := by omega
      have p2 : decide (0 < l) = false := decide_eq_false (by omega)
      have p3 : decide (l < 0) = false := decide_eq_false (by omega)
      have p4 : decide (P.loose < 0) = false := decide_eq_false p0
      have p5 : decide (0 < P.loose) = false := decide_eq_false p1
      have p6 : decide (P.loose < l) = false := decide_eq_false (by omega)
      clear hlo1 hlo2 hp
      go_wp2_with fail
      all_goals go_meet
      all_goals exact ⟨rfl, rfl⟩
    · have p0 : ¬ P.loose < 0 := by omega
      have p2 : decide (P.loose < l) = false := decide_eq_false (by omega)
      have p3 : decide (l < 0) = false := decide_eq_false (by omega)
      have p4 : decide (P.loose < 0) = false := decide_eq_false p0
      have p5 : decide (0 < P.loose) = true := decide_eq_true hp
      clear hlo1 hlo2
      go_wp2_with fail
      all_goals go_meet
      all_goals exact ⟨rfl, rfl⟩
  case rest =>
    obtain ⟨rfl, rfl⟩ := hcut
    clear hw1 k1 x8
    have Hr9 := Lib.hid (And.intro (ownsRow_below Hr.out.1 hb79) (ownsRow_below Hr.out.2 hb79))
    have Hb29 := Lib.hid hb29
    have a9 := (Hd.out wc hb29).1
    clear hb79 hb27 hb29 Hr
    go_upto_region 10 with (go_at_call 10; refine (HLg.out _ Hb29.out).mono ?_; rintro e w3 hp; obtain ⟨v, u, rfl, hv, hu, -⟩ := hp.good; have hb3 := hp.below; clear hp)
    rw [if_pos Hok.out.2] at hv hu
    obtain ⟨BL, hBL⟩ : ∃ BL, brkP L P s = BL := ⟨_, rfl⟩
    have hBn : BL.length ≤ 3000 := by
      rw [← hBL]
      have := brkP_len (L := L) (P := P) (s := s)
      have := Hok.out.1.items.len
      have := (checkC_zero Hok.out.1.chk).1
      omega
    rw [hBL] at hv hu Hsl Hk
    obtain ⟨pa, ga, ca, rfl, -, -, hza⟩ := row_ints hv
    obtain ⟨pq, gq, cq, rfl, -, -, hzq⟩ := row_ints hu
    have hla2 : (atsI BL).length = BL.length := by simp [atsI]
    have hlq : (pensI BL).length = BL.length := by simp [pensI]
    rw [hla2, hlq]
    have hb23 := Hb29.out.trans (hb3.mono Hb29.out.size)
    have Hr3 := Lib.hid (And.intro (ownsRow_below Hr9.out.1 hb3) (ownsRow_below Hr9.out.2 hb3))
    have hbd := (Below.refl w3.heap.size w3).drew
    have hza5 : ZIn w3.drew pa ga ca (atsI BL) := zin_still hza hbd
    have hzq5 : ZIn w3.drew pq gq cq (pensI BL) := zin_still hzq hbd
    have hb25 := hb23.trans (hbd.mono hb23.size)
    have Hr5 := Lib.hid (And.intro (ownsRow_below Hr3.out.1 hbd) (ownsRow_below Hr3.out.2 hbd))
    have HSo := Lib.hid (vsome BL hBn pa ga ca pq gq cq pt bt ot ct t w3.drew hza5 hzq5 (HT.out w3.drew hb25))
    have Hb25 := Lib.hid hb25
    have a5 := (Hd.out w3.drew hb25).1
    clear hza hzq hv hu hb3 hb23 hbd hza5 hzq5 hb25 a9 Hr9 Hb29 hBL hla2 hlq Hr3
    refine Rest.region follows ?_
    refine Rest.mix 7 9 (fun W => agg? W X0 0 24 = some P.arr) (by kernel_rfl) a5 ?_
    simp only [Nat.reduceSub, List.drop_zero, List.take_succ_cons, List.take_zero]
    iterate 7 first
      | (refine TL.cons_n rfl _ (by intro wT hT K hK; simp only [Act.put, List.setIfInBounds_toArray, List.set_cons_zero, List.set_cons_succ] at hK; go_step; exact hK _ rfl) ?_; try simp only [Act.put, List.setIfInBounds_toArray, List.set_cons_zero, List.set_cons_succ])
    refine TL.nil ?_
    simp only [List.drop_succ_cons, List.drop_zero, List.take_succ_cons, List.take_zero]
    generalize w3.drew = w5 at HSo Hb25 Hr5 a5 ⊢
    refine BW.step rfl fun R hR => ?_
    simp only [Act.put, List.setIfInBounds_toArray, List.set_cons_zero, List.set_cons_succ] at hR
    go_step
    refine HSo.out.mono ?_
    rintro e w6 ⟨v6, rfl, hrow6, hb6⟩
    have hb26 := Hb25.out.trans (hb6.mono Hb25.out.size)
    obtain ⟨p6, g6, c6, rfl, -, -, hz6⟩ := row_ints hrow6
    have HC6 := Lib.hid (HCo.out w6 hb26 (someW BL t) p6 g6 c6 (by have := Hsl.out; omega) hz6)
    have Hr6 := Lib.hid (And.intro (ownsRow_below Hr5.out.1 hb6) (And.intro (ownsRow_below Hr5.out.2 hb6) hb26))
    refine hR _ w6 (Hd.out w6 hb26).1 ?_
    clear hR hrow6 hz6 hb26 hb6 a5 HSo R Hr5 Hb25
    refine BW.step rfl fun R hR => ?_
    simp only [Act.put, List.setIfInBounds_toArray, List.set_cons_zero, List.set_cons_succ] at hR
    go_step
    refine HC6.out.mono ?_
    rintro e w7 hp
    rw [Hk.out.2.2.2] at hp
    obtain ⟨v7, rfl, hrow7⟩ := hp.out
    have hb7 := hp.below
    clear hp HC6
    have hb27 := Hr6.out.2.2.trans (hb7.mono Hr6.out.2.2.size)
    try simp only at hrow7
    have Hr7 := Lib.hid (And.intro (ownsRow_below Hr6.out.1 hb7) (And.intro (ownsRow_below Hr6.out.2.1 hb7) (And.intro hrow7 hb27)))
    refine hR _ w7 (Hd.out w7 hb27).1 ?_
    clear hR hrow7 hb27 hb7 R Hr6
    refine BW.nil ?_
    obtain ⟨po7, co7, rfl⟩ := owns_form Hr7.out.2.2.1
    rw [Hn.out.2.2]
    refine Rest.tame 14 (fun W => w7 = W) (by kernel_rfl) rfl ?_
    simp only [Nat.reduceSub, List.drop_succ_cons, List.drop_zero, List.take_succ_cons, List.take_zero]
    iterate 5 first
      | (refine TW.cons_n rfl _ (by intro wT hT R hR K hK; simp only [Act.put, List.setIfInBounds_toArray, List.set_cons_zero, List.set_cons_succ] at hK; subst hT; go_step; exact hK _ _ (hR _ rfl)) ?_; try simp only [Act.put, List.setIfInBounds_toArray, List.set_cons_zero, List.set_cons_succ])
    refine TW.nil fun w8 h8 => ?_
    subst h8
    refine Rest.done ?_
    go_upto_region 13 with (first | (go_at_call 7; refine (num9_any _ _).mono ?_; rintro e w' ⟨rfl, rfl⟩))
    have Hw : Hid (∀ W, Below w7.heap.size w7 W → (Calls Try.prog 9 #[.slice po1 nz co1] W fun e w' => e = .returned (.agg (i3W (weighW ls)).arr) ∧ Below W.heap.size W w') ∧ (Calls Try.prog 9 #[.slice po2 ny co2] W fun e w' => e = .returned (.agg (i3W (weighW ms)).arr) ∧ Below W.heap.size W w') ∧ (Calls Try.prog 9 #[.slice po7 no co7] W fun e w' => e = .returned (.agg (i3W (weighW os)).arr) ∧ Below W.heap.size W w')) := Lib.hid fun W hb => by
      refine ⟨?_, ?_, ?_⟩
      · have h1 := vweigh _ _ ls Hk.out.1 (by rw [Hn.out.1]; omega) W (ownsRow_below Hr7.out.1 hb)
        rwa [Hn.out.1] at h1
      · have h1 := vweigh _ _ ms Hk.out.2.1 (by rw [Hn.out.2.1]; omega) W (ownsRow_below Hr7.out.2.1 hb)
        rwa [Hn.out.2.1] at h1
      · have h1 := vweigh _ _ os Hk.out.2.2.1 (by rw [Hn.out.2.2]; omega) W (ownsRow_below Hr7.out.2.2.1 hb)
        rwa [Hn.out.2.2] at h1
    have hl4 := Hf.out.2.2.2
    have hl5 : no = nz → leastW ((i3W (weighW ls)).a, (i3W (weighW ls)).b, (i3W (weighW ls)).c) ((i3W (weighW os)).a, (i3W (weighW os)).b, (i3W (weighW os)).c) = true := fun h => hl4 h
    have hf1 := Hf.out.1
    have hf2 := Hf.out.2.1
    have hf3 := Hf.out.2.2.1
    clear Hf hl4
    generalize i3W (weighW ls) = x at Hw hl5 hf1 hf2 hf3
    generalize i3W (weighW ms) = z at Hw hf1 hf2
    generalize i3W (weighW os) = q at Hw hl5 hf3
    have Hf := Lib.hid (And.intro hf1 (And.intro hf2 (And.intro hf3 hl5)))
    clear hf1 hf2 hf3 hl5
    have Hb7 := Lib.hid Hr7.out.2.2.2
    clear Hr7 Hk
    go_upto_region 14 with (go_at_call 9; refine (Hw.out w7 (Below.refl _ _)).1.mono ?_; rintro e w8 ⟨rfl, hb8⟩)
    obtain ⟨ZA, hZA⟩ : ∃ ZA, w8.heap.size = ZA := ⟨_, rfl⟩
    have hba := (Below.refl w8.heap.size w8).alloc (Nat.le_refl _) (.cells x.arr 34)
    have hx8 : I3At (w8.alloc (.cells x.arr 34)) ZA x := by rw [← hZA]; exact heap_alloc_new w8 _
    have hb9 := hb8.trans (hba.mono hb8.size)
    rw [hZA]
    clear hba hb8 hZA
    generalize w8.alloc (.cells x.arr 34) = w9 at hx8 hb9 ⊢
    have H9 := Lib.hid (And.intro hx8 hb9)
    clear hx8
    go_upto_region 15 with (go_at_call 9; refine (Hw.out w9 hb9).2.1.mono ?_; rintro e w10 ⟨rfl, hb10⟩)
    obtain ⟨ZB, hZB⟩ : ∃ ZB, w10.heap.size = ZB := ⟨_, rfl⟩
    have hba := (Below.refl w10.heap.size w10).alloc (Nat.le_refl _) (.cells z.arr 34)
    have hz11 : I3At (w10.alloc (.cells z.arr 34)) ZB z := by rw [← hZB]; exact heap_alloc_new w10 _
    have hb11 := hb10.trans (hba.mono hb10.size)
    have hx11 : I3At (w10.alloc (.cells z.arr 34)) ZA x := (hb11.block ZA (Array.getElem?_eq_some_iff.1 H9.out.1).1).trans H9.out.1
    have hb12 := H9.out.2.trans (hb11.mono H9.out.2.size)
    rw [hZB]
    clear hba hb10 hZB hb9 H9 hb11
    generalize w10.alloc (.cells z.arr 34) = w11 at hz11 hx11 hb12 ⊢
    have H11 := Lib.hid (And.intro hx11 (And.intro hz11 hb12))
    clear hx11 hz11
    go_upto_region 16 with (go_at_call 9; refine (Hw.out w11 hb12).2.2.mono ?_; rintro e w12 ⟨rfl, hb13⟩)
    obtain ⟨ZC, hZC⟩ : ∃ ZC, w12.heap.size = ZC := ⟨_, rfl⟩
    have hba := (Below.refl w12.heap.size w12).alloc (Nat.le_refl _) (.cells q.arr 34)
    have hq13 : I3At (w12.alloc (.cells q.arr 34)) ZC q := by rw [← hZC]; exact heap_alloc_new w12 _
    have hb14 := hb13.trans (hba.mono hb13.size)
    have hx13 : I3At (w12.alloc (.cells q.arr 34)) ZA x := (hb14.block ZA (Array.getElem?_eq_some_iff.1 H11.out.1).1).trans H11.out.1
    have hz13 : I3At (w12.alloc (.cells q.arr 34)) ZB z := (hb14.block ZB (Array.getElem?_eq_some_iff.1 H11.out.2.1).1).trans H11.out.2.1
    have hb15 := H11.out.2.2.trans (hb14.mono H11.out.2.2.size)
    rw [hZC]
    clear hba hb13 hZC hb12 H11 hb14 Hw
    generalize w12.alloc (.cells q.arr 34) = w13 at hq13 hx13 hz13 hb15 ⊢
    have hbz := Hb7.out.trans (hb15.mono Hb7.out.size)
    have x8 := (Hd.out w13 hbz).2
    have cx0 : w13.cell? ⟨ZA, 0, none⟩ = some (.int .i64 x.a) := hx13.cell 0 _ rfl
    have cx1 : w13.cell? ⟨ZA, 1, none⟩ = some (.int .i64 x.b) := hx13.cell 1 _ rfl
    have cz0 : w13.cell? ⟨ZB, 0, none⟩ = some (.int .i64 z.a) := hz13.cell 0 _ rfl
    have cz1 : w13.cell? ⟨ZB, 1, none⟩ = some (.int .i64 z.b) := hz13.cell 1 _ rfl
    have cq0 : w13.cell? ⟨ZC, 0, none⟩ = some (.int .i64 q.a) := hq13.cell 0 _ rfl
    have cq1 : w13.cell? ⟨ZC, 1, none⟩ = some (.int .i64 q.b) := hq13.cell 1 _ rfl
    have ax := hx13.agg
    have aq := hq13.agg
    have k1 : (x.a != z.a) = false := by simpa using Hf.out.1
    have k2 : (x.b != z.b) = false := by simpa using Hf.out.2.1
    have Hbz := Lib.hid hbz
    clear hq13 hx13 hz13 hb15 hbz
    go_upto_region 18 with (fail)
    clear k1 k2 cz0 cz1
    obtain ⟨d, hd⟩ : ∃ d : Int, (no : Int) - (ny : Int) = d := ⟨_, rfl⟩
    have hw1 : IntKind.i64.wrap ((no : Int) - (ny : Int)) = d := by rw [hd]; exact Go.IntWalk.i64_in _ (by omega)
    have hf3 := Hf.out.2.2.1
    rw [hd] at hf3
    have Hf3 := Lib.hid hf3
    clear hf3 hd
    go_upto_region 19 with (fail)
    clear hw1
    go_cut [191] from 148 to 191 (fun s191 wx => s191 = .bool false ∧ wx = w13)
    case first =>
      cases hA : (q.a == x.a)
      · clear Hf3 Hf
        go_wp2_with fail
        go_meet
        exact ⟨rfl, rfl⟩
      cases hB : (q.b == x.b)
      · clear Hf3 Hf
        go_wp2_with fail
        go_meet
        exact ⟨rfl, rfl⟩
      have h3 := Hf3.out (by simpa using hA) (by simpa using hB)
      clear Hf3 Hf
      cases hC : decide (0 < P.loose)
      · cases hD : decide (P.loose < 0)
        · clear h3
          go_wp2_with fail
          go_meet
          exact ⟨rfl, rfl⟩
        · have hD' := of_decide_eq_true hD
          cases hE : decide (d < l)
          · clear h3 hD'
            go_wp2_with fail
            go_meet
            exact ⟨rfl, rfl⟩
          · have hE' := of_decide_eq_true hE
            have hG : decide (P.loose ≤ d) = false := decide_eq_false (fun h => by have := h3.2 hD' h; omega)
            clear h3 hD' hE'
            go_wp2_with fail
            go_meet
            exact ⟨rfl, rfl⟩
      · have hC' := of_decide_eq_true hC
        have hD : decide (P.loose < 0) = false := decide_eq_false (by omega)
        cases hE : decide (l < d)
        · clear h3 hC'
          go_wp2_with fail
          go_meet
          exact ⟨rfl, rfl⟩
        · have hE' := of_decide_eq_true hE
          have hG : decide (d ≤ P.loose) = false := decide_eq_false (fun h => by have := h3.1 hC' h; omega)
          clear h3 hC' hE'
          go_wp2_with fail
          go_meet
          exact ⟨rfl, rfl⟩
    case rest =>
      obtain ⟨rfl, rfl⟩ := hcut
      clear cx0 cx1 cq0 cq1 x8 Hf3
      go_upto_region 21 with (fail)
      by_cases hno : no = nz
      · subst hno
        have hnn : ((no : Int) != (no : Int)) = false := by simp
        have hle := Hf.out.2.2.2 rfl
        have HL := Lib.hid (vleast x q wc)
        rw [hle] at HL
        have Hbb := Lib.hid (Hb2.out.1.trans (Hbz.out.mono Hb2.out.1.size))
        clear hle Hf
        go_wp2_with (go_at_call 13; refine HL.out.mono ?_; rintro e w14 ⟨rfl, hb14⟩)
        go_ret
        exact ⟨rfl, Hbb.out.trans (hb14.mono Hbb.out.size)⟩
      · have hnn : ((no : Int) != (nz : Int)) = true := by
          have : (no : Int) ≠ (nz : Int) := by omega
          simpa using this
        have Hbb := Lib.hid (Hb2.out.1.trans (Hbz.out.mono Hb2.out.1.size))
        clear hno Hf
        go_wp2_with fail
        go_ret
        exact ⟨rfl, Hbb.out⟩
end Go.Proofs.Ytiijpbfkchokaaa
