/-
  The document's side of layer 9: what stands in a line (Content).
-/
import Derived.Test.YtiijpbfkchokaaaGreatB17
import Derived.Test.YtiijpbfkchokaaaGreatB22
import Derived.Test.YtiijpbfkchokaaaGreatF11
import Derived.Test.YtiijpbfkchokaaaGreatF12
import Derived.Test.YtiijpbfkchokaaaGreatW11
import Derived.Laws.AppendOwnNone
set_option maxRecDepth 100000
set_option maxHeartbeats 16000000
namespace Go.Proofs.YtiijpbfkchokaaaGreat
open Go.ChangeShapes Go.WideShapes Go.ChangeAt Go.RowKit
attribute [local go_sem ↓] Go.wp_at_zero Go.wp_at_succ
attribute [local go_sem] run_three0 run_three1
def NRow9 (w : World) (v : Value) (R : List Nd) (w' : World) : Prop := w'.ownsRow w.heap.size 69 19 v R.length (R.flatMap Nd.cells)
theorem owns_none {W : World} {B n n' size c : Nat} {e : TypeId} {v : Value} {xs : List Value} {p : Option Addr} (h : W.ownsRow B e size v n xs) (hv : v = .slice p n' c) : p = none → c = 0 := by
  obtain ⟨_, h2⟩ := h
  rcases h2 with ⟨rfl, _⟩ | ⟨g, cap, cur, rfl, _⟩
  · cases hv; intro _; rfl
  · cases hv; intro h; cases h
theorem q3part (p0 : Option Addr) (b off cap : Nat) (L : List Nd) (x : Nat) (hd : ∃ m u, DiscAt L x m u) (hk : (nth L x).kind = 10) (hll : L.length ≤ 2000) (w : World) (hN : NIn w p0 b off cap L) :
    (Calls Tryz.prog 88 #[.slice p0 L.length cap, .int .i64 x] w fun e w' => ∃ p g c u1 u2, e = .returned (.agg #[.slice p (threeP L x).1.length c, u1, u2]) ∧ NIn w' p g 0 c (threeP L x).1 ∧ (p = none → c = 0) ∧ Below w.heap.size w w') ∧
    (Calls Tryz.prog 88 #[.slice p0 L.length cap, .int .i64 x] w fun e w' => ∃ p g c u0 u2, e = .returned (.agg #[u0, .slice p (threeP L x).2.1.length c, u2]) ∧ NIn w' p g 0 c (threeP L x).2.1 ∧ (p = none → c = 0) ∧ Below w.heap.size w w') := by
  obtain ⟨m, u, hd⟩ := hd
  have hl := (disc_ok hd).2
  have hlt := hd.lt
  constructor
  · refine (q3three p0 b off cap L x m u hd hk hll w hN).mono ?_
    rintro e w5 ⟨⟨vs, rfl, hv⟩, hb5⟩
    obtain ⟨_, p3, g3, c3, e3, hN3, _⟩ := row_nodes (hv.rows 0 (by decide)) (show (threeP L x).1.length * 160 ≤ _ by omega)
    have e3' : vs 0 = .slice p3 (threeP L x).1.length c3 := e3
    exact ⟨p3, g3, c3, vs 1, vs 2, by rw [e3'], hN3, owns_none (hv.rows 0 (by decide)) e3', hb5⟩
  · refine (q3three p0 b off cap L x m u hd hk hll w hN).mono ?_
    rintro e w5 ⟨⟨vs, rfl, hv⟩, hb5⟩
    obtain ⟨_, p3, g3, c3, e3, hN3, _⟩ := row_nodes (hv.rows 1 (by decide)) (show (threeP L x).2.1.length * 160 ≤ _ by omega)
    have e3' : vs 1 = .slice p3 (threeP L x).2.1.length c3 := e3
    exact ⟨p3, g3, c3, vs 0, vs 2, by rw [e3'], hN3, owns_none (hv.rows 1 (by decide)) e3', hb5⟩
theorem q9content (p0 : Option Addr) (b off cap : Nat) (L : List Nd) (hc : checkC L = 0) (s : List Nat) (hs : Items L 0 s) (f : Option Nat) (q : Nat) (hf : ∀ x, f = some x → x ∈ s ∧ x < q) (hq : q ∈ s ∨ q = L.length) (w : World) (hN : NIn w p0 b off cap L) :
    Calls Tryz.prog 76 #[.slice p0 L.length cap, .int .i64 (fI f), .int .i64 q] w fun e w' => (∃ v, e = .returned v ∧ NRow9 w v (contP L s f q) w') ∧ Below w.heap.size w w' := by
  have hll := (checkC_zero hc).1
  have hcap := hN.cap'
  have hql : q ≤ L.length := by
    rcases hq with h | h
    · exact Nat.le_of_lt (hs.lt q h).2
    · omega
  obtain ⟨F, hF⟩ : ∃ F, fromP L s f q = F := ⟨_, rfl⟩
  have H := Lib.hid hN
  have HS := Lib.hid hs
  have HC := Lib.hid hc
  have Hf := Lib.hid hf
  have Hq := Lib.hid hq
  have HF := Lib.hid hF
  have hq0 : (0 : Int) ≤ (q : Int) := by omega
  have HP : Hid (∀ x, x ∈ s → discB L x = true → ∀ W, Below w.heap.size w W → _) := Lib.hid fun x hx hd W hb => q3part p0 b off cap L x (disc_at hc hs hx (discB_kind hd)) (discB_kind hd) hll W (hN.below hb)
  have HE : Hid (∀ (i m : Nat) W, i ∈ s → Below w.heap.size w W → behC (L.drop i) 0 = some m → Calls Tryz.prog 86 #[.slice p0 L.length cap, .int .i64 i] W fun e w' => e = .returned (.int .i64 ((i + m : Nat) : Int)) ∧ Below W.heap.size W w') := Lib.hid fun i m W hi hb hm => qends p0 b off cap L i m W (hN.below hb) hm (items_kind0 hs hc i hi).1
  have HD : Hid (∀ (x : Nat) W, x ≤ L.length → Below w.heap.size w W → Calls Tryz.prog 79 #[.slice p0 L.length cap, .int .i64 x] W fun e w' => e = .returned (.bool (discB L x)) ∧ W = w') := Lib.hid fun x W hx hb => q9disc L b off cap p0 x (by omega) W (hN.below hb)
  obtain ⟨i0, hi0', hz0, hz1, hz2⟩ := info_parts info_node
  obtain ⟨ff, hff⟩ : ∃ ff, fI f = ff := ⟨_, rfl⟩
  rw [hff]
  have Hff := Lib.hid hff
  clear hN hs hc hf hq hF hff
  go_enter Tryz.func76, Tryz.ntmps76
  obtain ⟨R0, hR0⟩ : ∃ R0, headL L f = R0 := ⟨_, rfl⟩
  have HR0 := Lib.hid hR0
  clear hR0
  go_upto_if 12 with (fail)
  go_cut [7, 8, 9] from 13 to 28 (fun s7 s8 s9 wx => ∃ (i : Nat) (t : List Nat) (fb : Bool), s7 = .int .i64 i ∧ s9 = .bool fb ∧ wx.ownsRow w.heap.size 69 19 s8 R0.length (R0.flatMap Nd.cells) ∧ Items L i t ∧ i ≤ q ∧ (q ∈ t ∨ q = L.length) ∧ (∀ x ∈ t, x ∈ s) ∧ fallC L q (fb && f.isSome) t = F ∧ R0.length ≤ i ∧ Below w.heap.size w wx)
  case first =>
    cases f with
    | none =>
      obtain rfl : ff = -1 := Hff.out.symm
      obtain rfl : [] = R0 := HR0.out
      go_wp2_with fail
      go_meet
      exact ⟨0, s, true, rfl, rfl, World.ownsRow_nil _ _ _ _, HS.out, Nat.zero_le _, Hq.out, fun _ h => h, HF.out, Nat.le_refl _, Below.refl _ _⟩
    | some x =>
      obtain rfl : ff = (x : Int) := Hff.out.symm
      obtain ⟨hx, hxq⟩ := Hf.out x rfl
      have hx0 : (0 : Int) ≤ (x : Int) := by omega
      obtain ⟨m, t, h1, h2, h3, h4, h5, h6, h7⟩ := cut_at HS.out hx hxq Hq.out
      have HDx := Lib.hid (HD.out x w (Nat.le_of_lt h4) (Below.refl _ _))
      have hF2 := HF.out
      unfold fromP at hF2
      simp only at hF2
      rw [h1, List.tail_cons] at hF2
      cases hd : discB L x with
      | false =>
        rw [hd] at HDx hF2
        simp only [Bool.false_eq_true, if_false] at hF2
        have K := Lib.hid (And.intro (Items.step h4 h2 h3) hF2)
        have K2 := Lib.hid (And.intro (h5.imp (List.mem_cons_of_mem x) id : q ∈ x :: t ∨ q = L.length) (show ∀ y ∈ x :: t, y ∈ s from fun y hy => by rcases List.mem_cons.1 hy with h | h; rw [h]; exact hx; exact h6 y h))
        have hh : headL L (some x) = [] := by unfold headL; simp only; rw [hd]; rfl
        obtain rfl : [] = R0 := hh.symm.trans HR0.out
        clear h1 h2 h3 h5 h6 hF2 hd hx hh
        go_wp2_with (go_at_call 79; refine HDx.out.mono ?_; rintro e w5 ⟨rfl, rfl⟩)
        go_meet
        exact ⟨x, x :: t, true, rfl, rfl, World.ownsRow_nil _ _ _ _, K.out.1, by omega, K2.out.1, K2.out.2, K.out.2, Nat.zero_le _, Below.refl _ _⟩
      | true =>
        rw [hd] at HDx hF2
        simp only [if_true] at hF2
        have HEx := Lib.hid (HE.out x m w hx (Below.refl _ _) h2)
        have HPx := Lib.hid fun W hb => (HP.out x hx hd W hb).2
        obtain ⟨m', u', hdd⟩ := disc_at HC.out HS.out hx (discB_kind hd)
        have hm' : m' = m := by have := hdd.beh; rw [h2] at this; exact (Option.some.inj this).symm
        have hle := (disc_ok hdd).2
        have hh : headL L (some x) = (threeP L x).2.1 := by unfold headL; simp only; rw [hd]; rfl
        have hX := hh.symm.trans HR0.out
        rw [hX] at hF2 HPx hle
        obtain ⟨e, he⟩ : ∃ e, x + m = e := ⟨_, rfl⟩
        rw [he] at h3 h7 HEx
        have hXe : R0.length ≤ e := by omega
        have K := Lib.hid (And.intro h3 (And.intro h5 (And.intro h6 hF2)))
        clear h1 h2 h3 h5 h6 hF2 hd hx hh hdd hle hm' hX he
        by_cases hX0 : R0 = []
        · obtain rfl : R0 = [] := hX0
          have hF3 := K.out.2.2.2
          rw [if_pos rfl] at hF3
          have HF3 := Lib.hid hF3
          clear hF3
          go_wp2_with (first | (go_at_call 79; refine HDx.out.mono ?_; rintro e1 w5 ⟨rfl, rfl⟩) | (go_at_call 86; refine HEx.out.mono ?_; rintro e1 w5 ⟨rfl, hb5⟩) | (go_at_call 88; refine (HPx.out _ hb5).mono ?_; rintro e1 w6 ⟨p, g, c, u0, u2, rfl, hN6, hcn, hb6⟩; have Hcn := Lib.hid hcn; clear hcn; (simp only [List.length_nil]); rcases p with _ | p))
          all_goals try go_wp2_with fail
          all_goals go_meet
          all_goals exact ⟨e, t, true, rfl, rfl, World.ownsRow_nil _ _ _ _, K.out.1, h7, K.out.2.1, K.out.2.2.1, HF3.out, hXe, hb5.trans (hb6.mono hb5.size)⟩
        · have hF3 := K.out.2.2.2
          rw [if_neg hX0] at hF3
          have HF3 := Lib.hid hF3
          have hpos : 0 < R0.length := List.length_pos_iff.2 hX0
          have HX0 := Lib.hid hX0
          have Hfl := Lib.hid (flat_len R0)
          have hn0 : ((R0.length : Int) == 0) = false := by simp; omega
          clear hF3 hX0
          go_wp2_with (first | (go_at_call 79; refine HDx.out.mono ?_; rintro e1 w5 ⟨rfl, rfl⟩) | (go_at_call 86; refine HEx.out.mono ?_; rintro e1 w5 ⟨rfl, hb5⟩) | (go_at_call 88; refine (HPx.out _ hb5).mono ?_; rintro e1 w6 ⟨p, g, c, u0, u2, rfl, hN6, hcn, hb6⟩; obtain rfl := hN6.hp HX0.out; (have hcc := hN6.cap')) | (at_builtin; refine wpList_append_lies _ rfl _ _ _ rfl w.heap.size 69 i0 (.agg Nd.zero.arr) 19 160 Tryz.underlying22 hi0' hz0 hz1 hz2 rfl (by decide) (.slice none 0 0) 0 [] rfl (World.ownsRow_nil _ _ _ _) ⟨g, 0, none⟩ R0.length c (R0.flatMap Nd.cells) rfl Hfl.out hN6.news (nodes_one _) hpos (by unfold maxLen; omega) (by omega) (hb5.trans (hb6.mono hb5.size)).size _ rfl ?_; intro g1 cap1 w7 hown1 hgrow1 hat1 hlt1))
          go_meet
          refine ⟨e, t, false, rfl, ?_, ?_, K.out.1, h7, K.out.2.1, K.out.2.2.1, HF3.out, hXe, ?_⟩
          · rfl
          · rw [Nat.zero_add, List.nil_append] at hown1
            exact hown1
          · exact Below.grown (hb5.trans (hb6.mono hb5.size)) hgrow1 (hb5.trans (hb6.mono hb5.size)).size (fun q e => by cases e)
  case rest =>
    obtain ⟨j0, t0, fb, rfl, rfl, hown, hit, hjq, hqt, hts, hfl, hhj, hbw⟩ := hcut
    obtain ⟨pv, cv, rfl⟩ := owns_form hown
    have K0 := Lib.hid (And.intro hit (And.intro hqt (And.intro hts (And.intro hfl hbw))))
    have Hown := Lib.hid hown
    clear hit hqt hts hfl hbw hown
    go_upto_block 0 with (fail)
    go_cut [7] from 29 to 47 (fun s7 wx => ∃ i : Nat, s7 = .int .i64 i ∧ j0 ≤ i ∧ i ≤ q ∧ Items L i F ∧ (q ∈ F ∨ q = L.length) ∧ (∀ x ∈ F, x ∈ s) ∧ Below wc.heap.size wc wx)
    case first =>
      go_wp2_with fail
      go_loopg [7] (q + 1 - j0) (fun gg t7 wr => ∃ (i : Nat) (t : List Nat), gg = q + 1 - i ∧ t7 = .int .i64 i ∧ j0 ≤ i ∧ i ≤ q ∧ Items L i t ∧ (q ∈ t ∨ q = L.length) ∧ (∀ x ∈ t, x ∈ s) ∧ fallC L q (fb && f.isSome) t = F ∧ Below wc.heap.size wc wr)
      case atStart => exact ⟨j0, t0, rfl, rfl, Nat.le_refl _, hjq, K0.out.1, K0.out.2.1, K0.out.2.2.1, K0.out.2.2.2.1, Below.refl _ _⟩
      case round =>
        obtain ⟨i, t, rfl, rfl, hji, hiq, hit, hqt, hts, hfl, hb⟩ := hrel
        have hi1 : (0 : Int) ≤ (i : Int) := by omega
        have hbw := K0.out.2.2.2.2.trans (hb.mono K0.out.2.2.2.2.size)
        have stop : Hid (¬ ((fb && f.isSome) = true ∧ i < q ∧ fallsR (nth L i).kind = true) → ∀ W, Below wr.heap.size wr W → Items L i F ∧ (q ∈ F ∨ q = L.length) ∧ (∀ x ∈ F, x ∈ s) ∧ Below wc.heap.size wc W) := Lib.hid fun h W hW => by
          have htF : t = F := by rw [← hfl]; exact (fallC_stop hit h).symm
          rw [← htF]
          exact ⟨hit, hqt, hts, hb.trans (hW.mono hb.size)⟩
        have K := Lib.hid (And.intro hit (And.intro hqt (And.intro hts (And.intro hfl (And.intro hb hbw)))))
        clear hit hqt hts hfl hb hbw
        cases fb with
        | false =>
          have St := Lib.hid (stop.out (fun h => by simp at h) wr (Below.refl _ _))
          clear stop
          go_wp2_with fail
          go_meet
          exact ⟨i, rfl, hji, hiq, St.out⟩
        | true =>
          by_cases hlt : i < q
          · have hlt2 : (i : Int) < (q : Int) := by omega
            have hil : i < L.length := by omega
            have hN := H.out.below K.out.2.2.2.2.2
            have xa := hN.nth hil
            obtain rfl := hN.at_ hil
            have hi3 : (i : Int) < (L.length : Int) := by omega
            have HFa := Lib.hid (q9falls (nth L i) wr)
            obtain ⟨n, hn⟩ : ∃ n, nth L i = n := ⟨_, rfl⟩
            have Hn := Lib.hid hn
            rw [hn] at xa HFa stop
            clear hN hn
            cases hfr : fallsR n.kind with
            | false =>
              rw [hfr] at HFa
              have St := Lib.hid (stop.out (fun h => by rw [hfr] at h; exact absurd h.2.2 (by decide)))
              clear hfr stop
              go_wp2_with (go_at_call 87; refine HFa.out.mono ?_; rintro e w5 ⟨rfl, hb5⟩)
              go_meet
              exact ⟨i, rfl, hji, hiq, St.out _ hb5⟩
            | true =>
              rw [hfr] at HFa
              cases f with
              | none =>
                obtain rfl : ff = -1 := Hff.out.symm
                have St := Lib.hid (stop.out (fun h => by simp at h))
                clear hfr stop
                go_wp2_with (go_at_call 87; refine HFa.out.mono ?_; rintro e w5 ⟨rfl, hb5⟩)
                go_meet
                exact ⟨i, rfl, hji, hiq, St.out _ hb5⟩
              | some x =>
                obtain rfl : ff = (x : Int) := Hff.out.symm
                have hx0 : (0 : Int) ≤ (x : Int) := by omega
                obtain ⟨hit, hqt, hts, hfl, hb, hbw⟩ := K.out
                cases hit with
                | done => omega
                | step hl hm hs2 =>
                  rename_i m t
                  obtain ⟨rfl, hgo⟩ := fallC_go (t := t) (c := (true && (some x).isSome)) hm hl rfl hlt (by rw [Hn.out]; exact hfr)
                  have hqt2 : q ∈ t ∨ q = L.length := by
                    rcases hqt with h | h
                    · rcases List.mem_cons.1 h with h | h
                      · omega
                      · exact .inl h
                    · exact .inr h
                  have K9 := Lib.hid (And.intro hs2 (And.intro hqt2 (And.intro (show ∀ x ∈ t, x ∈ s from fun x hx => hts x (List.mem_cons_of_mem _ hx)) (And.intro (hgo.symm.trans hfl) hb))))
                  clear hs2 hqt2 hgo hfl hts hqt hm hb hbw stop hfr
                  go_wp2_with (go_at_call 87; refine HFa.out.mono ?_; rintro e w5 ⟨rfl, hb5⟩)
                  go_roundg (q + 1 - (i + 1))
                  case measure => omega
                  case rel => exact ⟨i + 1, t, rfl, by go_num, by omega, by omega, K9.out.1, K9.out.2.1, K9.out.2.2.1, K9.out.2.2.2.1, K9.out.2.2.2.2.trans (hb5.mono K9.out.2.2.2.2.size)⟩
          · have hlt2 : ¬ (i : Int) < (q : Int) := by omega
            have St := Lib.hid (stop.out (fun h => hlt h.2.1) wr (Below.refl _ _))
            clear stop
            go_wp2_with fail
            go_meet
            exact ⟨i, rfl, hji, hiq, St.out⟩
    case rest =>
      obtain ⟨i, rfl, hji, hiq, hit, hqt, hts, hb5⟩ := hcut
      have hbw5 := K0.out.2.2.2.2.trans (hb5.mono K0.out.2.2.2.2.size)
      have hst := start_eq HF.out hit hqt hiq
      have hcp : contP L s f q = R0 ++ (sl L i (q - i) ++ tailL L q) := by unfold contP; rw [HR0.out, hst]
      have Hcp := Lib.hid hcp
      have K5 := Lib.hid (And.intro hit (And.intro hqt (And.intro hts (And.intro (show wc.ownsRow w.heap.size 69 19 (.slice pv R0.length cv) R0.length (R0.flatMap Nd.cells) from ownsRow_below Hown.out hb5) hbw5))))
      have h0 : sl L i 0 = [] := by unfold sl; simp
      clear hit hqt hts hbw5 hb5 hst hcp Hown K0
      go_wp2_with fail
      go_loopg [7, 8] (q + 1 - i) (fun gg t7 t8 wr2 => ∃ (j : Nat) (u : List Nat), gg = q + 1 - j ∧ t7 = .int .i64 j ∧ i ≤ j ∧ j ≤ q ∧ Items L j u ∧ (q ∈ u ∨ q = L.length) ∧ (∀ x ∈ u, x ∈ s) ∧ wr2.ownsRow w.heap.size 69 19 t8 (R0 ++ sl L i (j - i)).length ((R0 ++ sl L i (j - i)).flatMap Nd.cells) ∧ Below w.heap.size w wr2)
      case atStart => exact ⟨i, F, rfl, rfl, Nat.le_refl _, hiq, K5.out.1, K5.out.2.1, K5.out.2.2.1, by rw [Nat.sub_self, h0, List.append_nil]; exact K5.out.2.2.2.1, K5.out.2.2.2.2⟩
      case round =>
        clear K5 h0 HF HP
        obtain ⟨j, u, rfl, rfl, hij, hjq2, hit, hqt, hts, hown, hb⟩ := hrel
        have hj1 : (0 : Int) ≤ (j : Int) := by omega
        have hsl := sl_len (L := L) (i := i) (m := j - i) (by omega)
        obtain ⟨O, hO⟩ : ∃ O, R0 ++ sl L i (j - i) = O := ⟨_, rfl⟩
        have hOl : O.length ≤ j := by rw [← hO, List.length_append, hsl]; omega
        rw [hO] at hown
        obtain ⟨po, co, rfl⟩ := owns_form hown
        have HO := Lib.hid hO
        have hN := H.out.below hb
        by_cases hlt : j < q
        · have hlt2 : (j : Int) < (q : Int) := by omega
          cases hit with
          | done => omega
          | step hl hm hs2 =>
            rename_i m u
            have hqt2 : q ∈ u ∨ q = L.length := by
              rcases hqt with h | h
              · rcases List.mem_cons.1 h with h | h
                · omega
                · exact .inl h
              · exact .inr h
            have hp := behC_pos _ _ _ hm
            rw [List.length_drop] at hp
            have hmq : j + m ≤ q := by
              rcases hqt2 with h | h
              · exact (hs2.lt q h).1
              · omega
            obtain rfl := hN.at_ hl
            have HEj := Lib.hid (HE.out j m wr (hts j List.mem_cons_self) hb hm)
            have hOe : O ++ sl L j m = R0 ++ sl L i (j + m - i) := by
              rw [← hO, List.append_assoc]
              congr 1
              unfold sl
              rw [show j + m - i = (j - i) + m by omega, List.take_add, List.drop_drop]
              congr 3
              omega
            have hslm := sl_len (L := L) (i := j) (m := m) (by omega)
            have Hfl : Hid (((sl L j m).flatMap Nd.cells).length = m * 19) := Lib.hid (by rw [flat_len, hslm])
            have Hnews : Hid (∀ W, Below wr.heap.size wr W → ∀ x v, ((sl L j m).flatMap Nd.cells)[x]? = some v → W.cell? ((⟨b, off + j * 19, none⟩ : Addr).add x) = some v) := Lib.hid fun W h => (((hN.below h).drop j (Nat.le_of_lt hl)).take _).news
            have K6 := Lib.hid (And.intro hs2 (And.intro hqt2 (And.intro (show ∀ x ∈ u, x ∈ s from fun x hx => hts x (List.mem_cons_of_mem _ hx)) (And.intro hown (And.intro hb (And.intro hOe hslm))))))
            obtain ⟨e, he⟩ : ∃ e, j + m = e := ⟨_, rfl⟩
            rw [he] at HEj hmq
            have hkm1 : (j : Int) ≤ (e : Int) := by omega
            have hkm2 : (e : Int) ≤ (cap : Int) := by omega
            have hkm3 : (0 : Int) ≤ (e : Int) := by omega
            have hkm4 : j ≤ e := by omega
            have hkm5 : ¬ cap = j := by omega
            have hmqe : (e - j : Nat) = m := by omega
            have hm0 := hp.1
            have He := Lib.hid he
            have hbz : w.heap.size ≤ wr.heap.size := hb.size
            clear hs2 hqt2 hts hown hb hOe hslm hqt hm hp he hO hsl hN
            go_wp2_with (first | (go_at_call 86; refine HEj.out.mono ?_; rintro e1 w5 ⟨rfl, hb5⟩; have hbz5 := Nat.le_trans hbz hb5.size) | (at_builtin; refine wpList_append_lies _ rfl _ _ _ rfl w.heap.size 69 i0 (.agg Nd.zero.arr) 19 160 Tryz.underlying22 hi0' hz0 hz1 hz2 rfl (by decide) (.slice po O.length co) O.length (O.flatMap Nd.cells) rfl (ownsRow_below K6.out.2.2.2.1 hb5) ⟨b, off + j * 19, none⟩ m (cap - j) ((sl L j m).flatMap Nd.cells) rfl Hfl.out (Hnews.out _ hb5) (nodes_one _) hm0 (by unfold maxLen; omega) (by omega) hbz5 _ rfl ?_; intro g1 cap1 w7 hown1 hgrow1 hat1 hlt1))
            go_roundg (q + 1 - e)
            case measure => omega
            case rel =>
              refine ⟨e, u, rfl, rfl, by omega, hmq, by rw [← He.out]; exact K6.out.1, K6.out.2.1, K6.out.2.2.1, ?_, ?_⟩
              · rw [← He.out, ← K6.out.2.2.2.2.2.1, List.length_append, K6.out.2.2.2.2.2.2, List.flatMap_append]
                exact hown1
              · have hb6 := K6.out.2.2.2.2.1.trans (hb5.mono hbz)
                exact Below.grown hb6 hgrow1 hb6.size (fun z hz => (K6.out.2.2.2.1.lt z hz).1)
        · obtain rfl : j = q := by omega
          have hlt2 : ¬ (j : Int) < (j : Int) := by omega
          have HDq := Lib.hid (HD.out j wr hql hb)
          cases hd : discB L j with
          | false =>
            rw [hd] at HDq
            have ht : tailL L j = [] := by unfold tailL; rw [hd]; rfl
            have hC : contP L s f j = O := by rw [Hcp.out, ht, List.append_nil, HO.out]
            have K7 := Lib.hid (And.intro hC (And.intro hown hb))
            clear hit hqt hts hown hb hN hd ht hC hO hsl
            go_wp2_with (go_at_call 79; refine HDq.out.mono ?_; rintro e1 w5 ⟨rfl, rfl⟩)
            go_ret
            exact ⟨⟨_, rfl, by rw [K7.out.1]; exact K7.out.2.1⟩, K7.out.2.2⟩
          | true =>
            rw [hd] at HDq
            have ht : tailL L j = (threeP L j).1 := by unfold tailL; rw [hd]; rfl
            have hjs : j ∈ s := by
              rcases Hq.out with h | h
              · exact h
              · rw [h] at hd; simp [discB] at hd
            have hdk := discB_kind hd
            have hda := disc_at HC.out HS.out hjs hdk
            have HPj := Lib.hid (q3part p0 b off cap L j hda hdk hll wr hN).1
            obtain ⟨m', u', hdd⟩ := hda
            have hle := (disc_ok hdd).2
            have hdl := hdd.lt
            rw [ht] at Hcp
            obtain ⟨X, hX⟩ : ∃ X, (threeP L j).1 = X := ⟨_, rfl⟩
            rw [hX] at HPj hle Hcp
            have hC : contP L s f j = O ++ X := by rw [Hcp.out, ← List.append_assoc, HO.out]
            have hXl : X.length ≤ 2000 := by omega
            have K7 := Lib.hid (And.intro hC (And.intro hown hb))
            have hbz : w.heap.size ≤ wr.heap.size := hb.size
            clear hit hqt hts hown hb hN hd ht hC hO hsl hdd hle hdl hX hdk
            by_cases hX0 : X = []
            · subst hX0
              go_wp2_with (first | (go_at_call 79; refine HDq.out.mono ?_; rintro e1 w5 ⟨rfl, rfl⟩) | (go_at_call 88; refine HPj.out.mono ?_; rintro e1 w6 ⟨p, g, c, u1, u2, rfl, hN6, hcn, hb6⟩; have Hcn := Lib.hid hcn; clear hcn; (simp only [List.length_nil]); rcases p with _ | p) | (obtain rfl := Hcn.out rfl; at_builtin; refine wpList_append_own_none rfl _ _ _ rfl w.heap.size 69 i0 19 Tryz.underlying22 hi0' (.slice po O.length co) O.length (O.flatMap Nd.cells) rfl (ownsRow_below K7.out.2.1 hb6) rfl ?_) | (at_builtin; refine wpList_append_own _ rfl _ _ _ rfl w.heap.size 69 i0 (.agg Nd.zero.arr) 19 160 Tryz.underlying22 hi0' hz0 hz1 hz2 rfl (by decide) (.slice po O.length co) O.length (O.flatMap Nd.cells) rfl (ownsRow_below K7.out.2.1 hb6) p 0 c [] rfl rfl (fun j u h => by simp at h) (fun u h => by cases h) (by unfold maxLen; omega) (by omega) (Nat.le_trans hbz hb6.size) ?_; intro v7 w7 hown7 hgrow7 _))
              · go_wp2_with (obtain rfl := Hcn.out rfl; at_builtin; refine wpList_append_own_none rfl _ _ _ rfl w.heap.size 69 i0 19 Tryz.underlying22 hi0' (.slice po O.length co) O.length (O.flatMap Nd.cells) rfl (ownsRow_below K7.out.2.1 hb6) rfl ?_)
                go_ret
                exact ⟨⟨_, rfl, by rw [K7.out.1, List.append_nil]; exact ownsRow_below K7.out.2.1 hb6⟩, K7.out.2.2.trans (hb6.mono hbz)⟩
              · go_wp2_with (at_builtin; refine wpList_append_own _ rfl _ _ _ rfl w.heap.size 69 i0 (.agg Nd.zero.arr) 19 160 Tryz.underlying22 hi0' hz0 hz1 hz2 rfl (by decide) (.slice po O.length co) O.length (O.flatMap Nd.cells) rfl (ownsRow_below K7.out.2.1 hb6) p 0 c [] rfl rfl (fun j u h => by simp at h) (fun u h => by cases h) (by unfold maxLen; omega) (by omega) (Nat.le_trans hbz hb6.size) ?_; intro v7 w7 hown7 hgrow7 _)
                go_ret
                refine ⟨⟨_, rfl, by rw [K7.out.1, List.append_nil]; rw [List.append_nil] at hown7; exact hown7⟩, ?_⟩
                have hb6' := K7.out.2.2.trans (hb6.mono hbz)
                exact Below.grown hb6' hgrow7 hb6'.size (fun z hz => (K7.out.2.1.lt z hz).1)
            · have hpos : 0 < X.length := List.length_pos_iff.2 hX0
              have HX0 := Lib.hid hX0
              have Hfl := Lib.hid (flat_len X)
              clear hX0
              go_wp2_with (first | (go_at_call 79; refine HDq.out.mono ?_; rintro e1 w5 ⟨rfl, rfl⟩) | (go_at_call 88; refine HPj.out.mono ?_; rintro e1 w6 ⟨p, g, c, u1, u2, rfl, hN6, hcn, hb6⟩; obtain rfl := hN6.hp HX0.out; have hcc := hN6.cap'; have hbz6 := Nat.le_trans hbz hb6.size) | (at_builtin; refine wpList_append_lies _ rfl _ _ _ rfl w.heap.size 69 i0 (.agg Nd.zero.arr) 19 160 Tryz.underlying22 hi0' hz0 hz1 hz2 rfl (by decide) (.slice po O.length co) O.length (O.flatMap Nd.cells) rfl (ownsRow_below K7.out.2.1 hb6) ⟨g, 0, none⟩ X.length c (X.flatMap Nd.cells) rfl Hfl.out hN6.news (nodes_one _) hpos (by unfold maxLen; omega) (by omega) hbz6 _ rfl ?_; intro g1 cap1 w7 hown1 hgrow1 hat1 hlt1))
              go_ret
              refine ⟨⟨_, rfl, ?_⟩, ?_⟩
              · rw [K7.out.1]
                unfold NRow9
                rw [List.length_append, List.flatMap_append]
                exact hown1
              · have hb6' := K7.out.2.2.trans (hb6.mono hbz)
                exact Below.grown hb6' hgrow1 hb6'.size (fun z hz => (K7.out.2.1.lt z hz).1)
end Go.Proofs.YtiijpbfkchokaaaGreat
namespace Go.Proofs.YtiijpbfkchokaaaGreat
open Go.ChangeShapes Go.WideShapes Go.ChangeAt Go.RowKit
attribute [local go_sem ↓] Go.wp_at_zero Go.wp_at_succ
structure GluI (w : World) (Z : Nat) (T : Tt) (g : Gl) (W : World) : Prop where
  at_ : TAt W Z T
  gl : W.heap[Z + 1]? = some (.cells g.arr 24 (0, 0))
  res : TAt W (Z + 2) .zero
  below : Below w.heap.size w W
  le : w.heap.size ≤ Z
theorem GluI.set {w : World} {Z : Nat} {T T' : Tt} {g : Gl} {W : World} (h : GluI w Z T g W) (k : Nat) (v : Value) (hm : T.arr.setIfInBounds k v = T'.arr) : GluI w Z T' g (W.setCell ⟨Z, k, none⟩ v) :=
  ⟨h.at_.set k v hm, (Below.heap_setCell _ _ _ _ (by simp only; omega)).trans h.gl, (Below.heap_setCell _ _ _ _ (by simp only; omega)).trans h.res, h.below.setCell (p := ⟨Z, k, none⟩) (by have := h.le; simp only; omega) _, h.le⟩
theorem GluI.drew {w : World} {Z : Nat} {T : Tt} {g : Gl} {W : World} (h : GluI w Z T g W) : GluI w Z T g W.drew :=
  ⟨h.at_, h.gl, h.res, h.below.trans ((Below.refl W.heap.size W).drew.mono h.below.size), h.le⟩
theorem q9glues (T : Tt) (g : Gl) (hg : g.good = true) (hT : TtB 8800000000000 T) (w : World) :
    Calls Tryz.prog 74 #[.agg T.arr, .agg g.arr] w fun e w' => e = .returned (.agg (T.plus (glueT g)).arr) ∧ Below w.heap.size w w' := by
  have hI : GluI w w.heap.size T g (((w.alloc (.cells T.arr 62)).alloc (.cells g.arr 24)).alloc (.cells (Tt.mk 0 0 0 0 0 0 0 0 0).arr 62)) := by
    refine ⟨?_, ?_, ?_, ((((Below.refl _ _).alloc (Nat.le_refl _) _).alloc (by simp) _).alloc (by simp; omega) _), Nat.le_refl _⟩
    · refine (Below.heap_alloc _ _ _ (by simp; omega)).trans ((Below.heap_alloc _ _ _ (by simp)).trans (heap_alloc_new w _))
    · refine (Below.heap_alloc _ _ _ (by simp)).trans ?_
      have := heap_alloc_new (w.alloc (.cells T.arr 62)) (.cells g.arr 24)
      rwa [World.size_alloc] at this
    · have := heap_alloc_new ((w.alloc (.cells T.arr 62)).alloc (.cells g.arr 24)) (.cells (Tt.mk 0 0 0 0 0 0 0 0 0).arr 62)
      rwa [World.size_alloc, World.size_alloc] at this
  simp [Gl.good, dimenB, withinB] at hg
  obtain ⟨j, hj⟩ : ∃ j : Nat, g.so = (j : Int) := ⟨g.so.toNat, by omega⟩
  obtain ⟨h, hh⟩ : ∃ h : Nat, g.ho = (h : Int) := ⟨g.ho.toNat, by omega⟩
  have hj3 : j ≤ 3 := by omega
  have hh3 : h ≤ 3 := by omega
  have hj4 : (0 : Int) ≤ (j : Int) := by omega
  have hj5 : (j : Int) < 4 := by omega
  have hh4 : (0 : Int) ≤ (h : Int) := by omega
  have hh5 : (h : Int) < 4 := by omega
  have hst : -8800000000000 ≤ T.st j ∧ T.st j ≤ 8800000000000 := by
    obtain ⟨a0, a1, a2, a3, a4, -, -, -, -⟩ := hT
    rcases j with _ | _ | _ | _ | j
    · exact a1
    · exact a2
    · exact a3
    · exact a4
    · omega
  have hsh : -8800000000000 ≤ T.sh h ∧ T.sh h ≤ 8800000000000 := by
    obtain ⟨-, -, -, -, -, a1, a2, a3, a4⟩ := hT
    rcases h with _ | _ | _ | _ | h
    · exact a1
    · exact a2
    · exact a3
    · exact a4
    · omega
  obtain ⟨bn1, bn2⟩ := hT.nat
  have Hj := Lib.hid hj
  have Hh := Lib.hid hh
  obtain ⟨U, hU⟩ : ∃ U, T.plus (glueT g) = U := ⟨_, rfl⟩
  rw [hU]
  have HU := Lib.hid hU
  clear hU
  obtain ⟨g1, g2, g3, g4, g5, g6⟩ : -1073741823 ≤ g.nat ∧ g.nat ≤ 1073741823 ∧ -1073741823 ≤ g.str ∧ g.str ≤ 1073741823 ∧ -1073741823 ≤ g.shr ∧ g.shr ≤ 1073741823 := by omega
  obtain ⟨bj1, bj2⟩ := hst
  obtain ⟨bi1, bi2⟩ := hsh
  clear hg hj hh hT
  go_enter Tryz.func74, Tryz.ntmps74
  go_upto_region 1 with (fail)
  generalize ((w.alloc (.cells T.arr 62)).alloc (.cells g.arr 24)).alloc (.cells (Tt.mk 0 0 0 0 0 0 0 0 0).arr 62) = w1 at hI ⊢
  obtain ⟨Z, hZ⟩ : ∃ Z, w.heap.size = Z := ⟨_, rfl⟩
  rw [hZ] at hI ⊢
  have HZ := Lib.hid hZ
  clear hZ
  have c0 : w1.cell? ⟨Z, 0, none⟩ = some (.int .i64 T.nat) := hI.at_.cell 0 _ (Tt.get0 T)
  have f0 := hI.at_.frozen 0
  have g0 : w1.cell? ⟨Z + 1, 0, none⟩ = some (.int .i64 g.nat) := by rw [cell?_blk' hI.gl]; rfl
  go_upto_region 2 with (fail)
  have hI2 := (hI.set 0 (.int .i64 (T.nat + g.nat)) (T' := { T with nat := T.nat + g.nat }) rfl)
  clear hI c0 f0 g0
  generalize w1.setCell ⟨Z, 0, none⟩ (.int .i64 (T.nat + g.nat)) = w2 at hI2 ⊢
  have x1 : w2.cell? ⟨Z + 1, 1, none⟩ = some (.int .i64 g.str) := by rw [cell?_blk' hI2.gl]; rfl
  have x3 : w2.cell? ⟨Z + 1, 3, none⟩ = some (.int .i64 (j : Nat)) := by rw [cell?_blk' hI2.gl, ← Hj.out]; rfl
  have cj : w2.cell? ⟨Z, 1 + j, none⟩ = some (.int .i64 (T.st j)) := hI2.at_.cell (1 + j) _ (tt_get_st _ j hj3)
  have fj := hI2.at_.frozen (1 + j)
  go_region
  have hI5 := (hI2.set (1 + j) (.int .i64 (T.st j + g.str)) (tt_set_st _ _ j hj3)).drew
  clear hI2 x1 x3 cj fj bj1 bj2
  generalize (w2.setCell ⟨Z, 1 + j, none⟩ (.int .i64 (T.st j + g.str))).drew = A5 at hI5 ⊢
  have x9 : A5.cell? ⟨Z + 1, 2, none⟩ = some (.int .i64 g.shr) := by rw [cell?_blk' hI5.gl]; rfl
  have x11 : A5.cell? ⟨Z + 1, 4, none⟩ = some (.int .i64 (h : Nat)) := by rw [cell?_blk' hI5.gl, ← Hh.out]; rfl
  have ci := hI5.at_.cell (5 + h) _ (tt_get_sh _ h hh3)
  have fi := hI5.at_.frozen (5 + h)
  have hsh2 : (({ T with nat := T.nat + g.nat } : Tt).setS j (T.st j + g.str)).sh h = T.sh h := sh_setS _ _ _ _
  rw [hsh2] at ci
  clear hsh2
  go_wp2_with fail
  go_region
  have hI6 := (hI5.set (5 + h) (.int .i64 (T.sh h + g.shr)) (tt_set_sh _ _ h hh3)).drew
  clear hI5 x9 x11 ci fi bi1 bi2
  generalize (A5.setCell ⟨Z, 5 + h, none⟩ (.int .i64 (T.sh h + g.shr))).drew = A6 at hI6 ⊢
  have hg : ({ T with nat := T.nat + g.nat } : Tt).glue g = (({ T with nat := T.nat + g.nat } : Tt).setS j (T.st j + g.str)).setH h (T.sh h + g.shr) := by
    unfold Tt.glue
    rw [Hj.out, Hh.out]
    simp only [Int.toNat_natCast]
    rw [show (({ T with nat := T.nat + g.nat } : Tt).setS j (({ T with nat := T.nat + g.nat } : Tt).st j + g.str)) = (({ T with nat := T.nat + g.nat } : Tt).setS j (T.st j + g.str)) from rfl, sh_setS]
    rfl
  rw [← hg, glue_plus, HU.out] at hI6
  clear hg
  have aT := hI6.at_.agg
  have tR := hI6.res.there
  have HI := Lib.hid hI6
  clear hI6
  go_wp2_with fail
  refine ret_tt rfl (Z + 2) 0 U rfl (HI.out.res.store (U := U)).agg rfl ⟨rfl, ?_⟩
  rw [← HZ.out]
  exact Below.setAgg HI.out.below (by omega) _ _
theorem q5sum_part {L X : List Nd} (hP : PartOK L X) (hr : ∀ n ∈ L, rightB n = true) (hl : X.length ≤ 2000) (p : Option Addr) (g o c : Nat) (w : World) (hN : NIn w p g o c X) :
    Calls Tryz.prog 75 #[.slice p X.length c, .bool false] w fun e w' => e = .returned (.agg (Tt.wide (rowN X)).arr) ∧ Below w.heap.size w w' := by
  have h := q5sum_of p g o c X (itsP X) (totY_part hP hr hl) (fun x hx => (small_not (hP.its.2 x hx)).2.1) w hN (fun x hx hk => by
    have := hP.its.2 x hx
    rw [hk] at this
    exact absurd this (by decide))
  rwa [sumA_small _ hP.its.2] at h
theorem q5sum_row {Y : List Nd} {s : List Nat} (h : RowOK Y s) (hl : Y.length ≤ 2000) (p : Option Addr) (g o c : Nat) (w : World) (hN : NIn w p g o c Y) :
    Calls Tryz.prog 75 #[.slice p Y.length c, .bool false] w fun e w' => e = .returned (.agg (sumA Y s).arr) ∧ Below w.heap.size w w' :=
  q5sum_of p g o c Y s (h.tot hl) h.six w hN fun x hx hk => by
    obtain ⟨m, u, hd⟩ := h.disc x hx hk
    obtain ⟨hok, hlen⟩ := disc_ok hd
    have hlt := hd.lt
    exact ⟨⟨m, u, hd⟩, fun W p g c hN => q5sum_part hok.c h.right (by omega) p g 0 c W hN⟩
theorem q9sum (P : Pm) (p0 : Option Addr) (b off cap : Nat) (L : List Nd) (hc : checkC L = 0) (s : List Nat) (hs : Items L 0 s) (hPl : P.left.good = true) (hPr : P.right.good = true) (f : Option Nat) (q : Nat) (hf : ∀ x, f = some x → x ∈ s ∧ x < q) (hq : q ∈ s ∨ q = L.length) (w : World) (hN : NIn w p0 b off cap L) :
    Calls Tryz.prog 53 #[.slice p0 L.length cap, .agg P.arr, .int .i64 (fI f), .int .i64 q] w fun e w' => e = .returned (.agg (lineT L P s f q).arr) ∧ Below w.heap.size w w' := by
  obtain ⟨⟨t, hrow, hsum⟩, hlen⟩ := cont_row hc hs hf hq
  have hll := (checkC_zero hc).1
  have hb1 : Below w.heap.size w ((w.alloc (.cells P.arr 27)).alloc (.cells (Tt.mk 0 0 0 0 0 0 0 0 0).arr 62)) := ((Below.refl _ _).alloc (Nat.le_refl _) _).alloc (by simp) _
  have d0 : PAt ((w.alloc (.cells P.arr 27)).alloc (.cells (Tt.mk 0 0 0 0 0 0 0 0 0).arr 62)) w.heap.size P := (Below.heap_alloc _ _ _ (by simp)).trans (heap_alloc_new w _)
  have d1 : TAt ((w.alloc (.cells P.arr 27)).alloc (.cells (Tt.mk 0 0 0 0 0 0 0 0 0).arr 62)) (w.heap.size + 1) .zero := by
    have := heap_alloc_new (w.alloc (.cells P.arr 27)) (.cells (Tt.mk 0 0 0 0 0 0 0 0 0).arr 62)
    rwa [World.size_alloc] at this
  have hlT : lineT L P s f q = ((((Tt.wide (preN L f)).plus (sumA L ((fromP L s f q).takeWhile (· < q)))).plus (.wide (sufN L q))).plus (glueT P.left)).plus (glueT P.right) := rfl
  rw [← hsum] at hlT
  have hB1 : TtB 4400000000000 (sumA (contP L s f q) t) := (hrow.tot (by omega)).bnd t [] (by simp)
  have HCt : Hid (∀ W, Below w.heap.size w W → Calls Tryz.prog 76 #[.slice p0 L.length cap, .int .i64 (fI f), .int .i64 q] W fun e w' => ∃ p g c, e = .returned (.slice p (contP L s f q).length c) ∧ NIn w' p g 0 c (contP L s f q) ∧ Below W.heap.size W w') := Lib.hid fun W hb => (q9content p0 b off cap L hc s hs f q hf hq W (hN.below hb)).mono fun e w' h => by
    obtain ⟨⟨v, rfl, hv⟩, hb'⟩ := h
    obtain ⟨_, p, g, c, rfl, hn, _⟩ := row_nodes hv (by omega)
    exact ⟨p, g, c, rfl, hn, hb'⟩
  have HSm : Hid (∀ W p g c, NIn W p g 0 c (contP L s f q) → Calls Tryz.prog 75 #[.slice p (contP L s f q).length c, .bool false] W fun e w' => e = .returned (.agg (sumA (contP L s f q) t).arr) ∧ Below W.heap.size W w') := Lib.hid fun W p g c hn => q5sum_row hrow (by omega) p g 0 c W hn
  rw [hlT]
  clear hlT hsum hrow hN hs hf hq hc
  obtain ⟨C, hC⟩ : ∃ C, contP L s f q = C := ⟨_, rfl⟩
  rw [hC] at HCt HSm hB1 ⊢
  obtain ⟨T1, hT1⟩ : ∃ T1, sumA C t = T1 := ⟨_, rfl⟩
  rw [hT1] at HSm hB1 ⊢
  have HG1 : Hid (∀ W, Calls Tryz.prog 74 #[.agg T1.arr, .agg P.left.arr] W fun e w' => e = .returned (.agg (T1.plus (glueT P.left)).arr) ∧ Below W.heap.size W w') := Lib.hid fun W => q9glues T1 P.left hPl (hB1.mono (by omega)) W
  have hB2 : TtB 8800000000000 (T1.plus (glueT P.left)) := (hB1.plus (glueT_good hPl)).mono (by omega)
  obtain ⟨T2, hT2⟩ : ∃ T2, T1.plus (glueT P.left) = T2 := ⟨_, rfl⟩
  rw [hT2] at HG1 hB2 ⊢
  have HG2 : Hid (∀ W, Calls Tryz.prog 74 #[.agg T2.arr, .agg P.right.arr] W fun e w' => e = .returned (.agg (T2.plus (glueT P.right)).arr) ∧ Below W.heap.size W w') := Lib.hid fun W => q9glues T2 P.right hPr hB2 W
  obtain ⟨T3, hT3⟩ : ∃ T3, T2.plus (glueT P.right) = T3 := ⟨_, rfl⟩
  rw [hT3] at HG2 ⊢
  obtain ⟨ff, hff⟩ : ∃ ff, fI f = ff := ⟨_, rfl⟩
  rw [hff] at HCt ⊢
  have HPg := Lib.hid (And.intro hPl hPr)
  clear hT1 hT2 hT3 hC hB1 hB2 hff hPl hPr hlen
  go_enter Tryz.func53, Tryz.ntmps53
  go_upto_region 1 with (fail)
  generalize (w.alloc (.cells P.arr 27)).alloc (.cells (Tt.mk 0 0 0 0 0 0 0 0 0).arr 62) = w1 at hb1 d0 d1 ⊢
  obtain ⟨X, hX⟩ : ∃ X, w.heap.size = X := ⟨_, rfl⟩
  have HK : Hid (∀ W, Below w1.heap.size w1 W → agg? W X 10 5 = some P.left.arr ∧ agg? W X 15 5 = some P.right.arr) := Lib.hid fun W hb => by
    have h1 : PAt W X P := by rw [← hX]; exact d0.still hb
    constructor
    · rw [agg?_blk' h1 10 5 (by rw [Pm.size_arr]; decide)]; simp [Pm.arr, Pm.cells, Gl.arr, Gl.cells]
    · rw [agg?_blk' h1 15 5 (by rw [Pm.size_arr]; decide)]; simp [Pm.arr, Pm.cells, Gl.arr, Gl.cells]
  have HKs : Hid (∀ W v, Below w1.heap.size w1 W → agg? (setAgg W (X + 1) 0 v) X 10 5 = some P.left.arr ∧ agg? (setAgg W (X + 1) 0 v) X 15 5 = some P.right.arr) := Lib.hid fun W v hb => by
    have h1 : PAt W X P := by rw [← hX]; exact d0.still hb
    have h2 : (setAgg W (X + 1) 0 v).heap[X]? = some (.cells P.arr 27 (0, 0)) := (heap_setCells_other _ _ (by omega) _ _ _).trans h1
    constructor
    · rw [agg?_blk' h2 10 5 (by rw [Pm.size_arr]; decide)]; simp [Pm.arr, Pm.cells, Gl.arr, Gl.cells]
    · rw [agg?_blk' h2 15 5 (by rw [Pm.size_arr]; decide)]; simp [Pm.arr, Pm.cells, Gl.arr, Gl.cells]
  have HR : Hid (∀ W, Below w1.heap.size w1 W → TAt W (X + 1) .zero) := Lib.hid fun W hb => by
    rw [← hX]
    exact (hb.block _ (Array.getElem?_eq_some_iff.1 d1).1).trans d1
  have HX := Lib.hid hX
  rw [hX]
  have Hb1 := Lib.hid hb1
  have hbd : Below w1.heap.size w1 w1.drew := (Below.refl _ _).drew
  have HKd := HK.out w1.drew hbd
  have hbdw := hb1.trans (hbd.mono hb1.size)
  clear hb1 d0 d1 hX
  go_region_held3 (fun W => agg? W X 10 5 = some P.left.arr ∧ agg? W X 15 5 = some P.right.arr)
    (first | (with_reducible exact HKd) | (with_reducible exact HKs.out _ _ hd8) | (with_reducible exact HK.out _ hd5) | (with_reducible exact HK.out _ hd6) | (with_reducible exact HK.out _ hd7) | (with_reducible exact HK.out _ hd8))
    ((first | (go_at_call 76; refine (HCt.out _ hbdw).mono ?_; rintro e w5 ⟨p5, g5, c5, rfl, hn5, hb5⟩; have hd5 := hbd.trans hb5)
            | (go_at_call 75; refine (HSm.out _ _ _ _ hn5).mono ?_; rintro e w6 ⟨rfl, hb6⟩; have hd6 := hd5.trans (hb6.mono hd5.size))
            | (go_at_call_has 74 (Value.agg T1.arr); refine (HG1.out _).mono ?_; rintro e w7 ⟨rfl, hb7⟩; have hd7 := hd6.trans (hb7.mono hd6.size))
            | (go_at_call_has 74 (Value.agg T2.arr); refine (HG2.out _).mono ?_; rintro e w8 ⟨rfl, hb8⟩; have hd8 := hd7.trans (hb8.mono hd7.size); have HR8 := Lib.hid (HR.out _ hd8); have tR := HR8.out.there)))
  go_wp2_with fail
  refine ret_tt rfl (X + 1) 0 T3 rfl (HR8.out.store (U := T3)).agg rfl ⟨rfl, ?_⟩
  rw [← HX.out]
  exact Below.setAgg (Hb1.out.trans (hd8.mono Hb1.out.size)) (by omega) _ _
end Go.Proofs.YtiijpbfkchokaaaGreat


