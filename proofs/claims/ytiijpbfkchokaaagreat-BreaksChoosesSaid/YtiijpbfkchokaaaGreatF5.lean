/-
  The document's side of layer 9: what falls away; a paragraph's error.
-/
import Derived.Test.YtiijpbfkchokaaaGreatL5
import Derived.Test.YtiijpbfkchokaaaGreatF2
import Derived.Test.YtiijpbfkchokaaaGreatB8
import Derived.Test.YtiijpbfkchokaaaGreatB16
import Derived.Test.YtiijpbfkchokaaaGreatB22
set_option maxRecDepth 100000
set_option maxHeartbeats 8000000
namespace Go.Proofs.YtiijpbfkchokaaaGreat
open Go.ChangeShapes Go.WideShapes Go.ChangeAt Go.RowKit
attribute [local go_sem ↓] Go.wp_at_zero Go.wp_at_succ
theorem q9falls (n : Nd) (w : World) : Calls Tryz.prog 87 #[.agg n.arr] w fun e w' => e = .returned (.bool (fallsR n.kind)) ∧ Below w.heap.size w w' := by
  cases h0 : (n.kind == 7)
  rotate_left
  · go_enter Tryz.func87, Tryz.ntmps87
    go_wp2_with fail
    go_ret
    exact ⟨ret_bool (by simp [fallsR, h0]), (Below.refl _ _).alloc (Nat.le_refl _) _⟩
  cases h1 : (n.kind == 8)
  rotate_left
  · go_enter Tryz.func87, Tryz.ntmps87
    go_wp2_with fail
    go_ret
    exact ⟨ret_bool (by simp [fallsR, h1]), (Below.refl _ _).alloc (Nat.le_refl _) _⟩
  cases h2 : (n.kind == 9)
  rotate_left
  · go_enter Tryz.func87, Tryz.ntmps87
    go_wp2_with fail
    go_ret
    exact ⟨ret_bool (by simp [fallsR, h2]), (Below.refl _ _).alloc (Nat.le_refl _) _⟩
  cases h3 : (n.kind == 15)
  rotate_left
  · go_enter Tryz.func87, Tryz.ntmps87
    go_wp2_with fail
    go_ret
    exact ⟨ret_bool (by simp [fallsR, h3]), (Below.refl _ _).alloc (Nat.le_refl _) _⟩
  cases h4 : (n.kind == 16)
  rotate_left
  · go_enter Tryz.func87, Tryz.ntmps87
    go_wp2_with fail
    go_ret
    exact ⟨ret_bool (by simp [fallsR, h4]), (Below.refl _ _).alloc (Nat.le_refl _) _⟩
  go_enter Tryz.func87, Tryz.ntmps87
  go_wp2_with fail
  go_ret
  exact ⟨ret_bool (by simp [fallsR, h0, h1, h2, h3, h4]), (Below.refl _ _).alloc (Nat.le_refl _) _⟩
theorem firm_skip {n : Nd} (h : rightB n = true) (hk : n.kind = 7) : firmN n = firmG n.glue := by
  have h1 := (right_skip h hk).1
  unfold firmN firmG
  rw [h1, hk]
  rfl
theorem irow_cap {w w' : World} {v : Value} {s : List Nat} (h : IRow w v s w') : ∃ p g c, v = .slice p s.length c ∧ s.length ≤ c ∧ IIn w' p g c s := by
  obtain ⟨p, g, c, e, hI⟩ := irow_seen h
  obtain ⟨p2, g2, c2, e2, _, hz⟩ := zin_of h
  have hl : (ofN s).length = s.length := by simp [ofN]
  rw [e] at e2
  simp only [Value.slice.injEq] at e2
  have h3 := hz.cap
  rw [hl] at h3
  exact ⟨p, g, c, e, by omega, hI⟩
theorem q9both (P : Pm) (g off2 : Nat) (S : List Sh2) (p0 : Option Addr) (cap : Nat) (L : List Nd) (s : List Nat) (w : World) (hS : ShIn w P g off2 S)
    (HPa : ∀ W, Below w.heap.size w W → Calls Tryz.prog 66 #[.slice p0 L.length cap] W fun e w' => e = .returned (.int .i64 (paC L s)) ∧ Below W.heap.size W w') :
    Calls Tryz.prog 40 #[.slice p0 L.length cap, .agg P.arr] w fun e w' => e = .returned (.int .i64 (opE P S L s)) ∧ Below w.heap.size w w' := by
  have hb0 : Below w.heap.size w (w.alloc (.cells P.arr 27)) := (Below.refl _ _).alloc (Nat.le_refl _) _
  have d0 : PAt (w.alloc (.cells P.arr 27)) w.heap.size P := heap_alloc_new w _
  have HC := Lib.hid (q9check P g off2 S _ (hS.below hb0))
  have HP := Lib.hid HPa
  obtain ⟨r, hr⟩ : ∃ r, opE P S L s = r := ⟨_, rfl⟩
  rw [hr]
  have Hr := Lib.hid hr
  clear hS HPa hr
  go_enter Tryz.func40, Tryz.ntmps40
  go_upto_region 1 with (fail)
  obtain ⟨X0, hX0⟩ : ∃ X0, w.heap.size = X0 := ⟨_, rfl⟩
  rw [hX0] at d0 ⊢
  generalize w.alloc (.cells P.arr 27) = w1 at hb0 d0 HC ⊢
  have a0 : agg? w1 X0 0 24 = some P.arr := by rw [agg?_blk' d0 0 24 (by rw [Pm.size_arr]; decide)]; simp [Pm.arr, Pm.cells]
  obtain ⟨E, hE⟩ : ∃ E, pmC P S = E := ⟨_, rfl⟩
  rw [hE] at HC
  have Hb0 := Lib.hid hb0
  clear hb0 d0 hX0
  by_cases h0 : E = 0
  · subst h0
    have HR : Hid (paC L s = r) := Lib.hid (by rw [← Hr.out]; unfold opE; rw [if_pos hE])
    rw [HR.out] at HP
    clear hE
    go_wp2_with (first | (go_at_call 21; refine HC.out.mono ?_; clear HC; rintro e w2 ⟨rfl, hb2⟩) | (go_at_call 66; refine (HP.out w2 (Hb0.out.trans (hb2.mono Hb0.out.size))).mono ?_; rintro e w3 ⟨rfl, hb3⟩))
    go_ret
    have hb12 := Hb0.out.trans (hb2.mono Hb0.out.size)
    exact ⟨rfl, hb12.trans (hb3.mono hb12.size)⟩
  · have hne : (E != 0) = true := by simpa using h0
    have HR : Hid (E = r) := Lib.hid (by rw [← Hr.out]; unfold opE; rw [if_neg (by rw [hE]; exact h0), hE])
    rw [HR.out] at HC hne
    clear hE h0
    go_wp2_with (go_at_call 21; refine HC.out.mono ?_; clear HC; rintro e w2 ⟨rfl, hb2⟩)
    go_ret
    exact ⟨rfl, Hb0.out.trans (hb2.mono Hb0.out.size)⟩
theorem q9paragraph (p0 : Option Addr) (b off cap : Nat) (L : List Nd) (s : List Nat) (hs : checkC L = 0 → Items L 0 s) (w : World) (hN : NIn w p0 b off cap L) :
    Calls Tryz.prog 66 #[.slice p0 L.length cap] w fun e w' => e = .returned (.int .i64 (paC L s)) ∧ Below w.heap.size w w' := by
  have HC := Lib.hid (qcheck p0 b off cap L w hN)
  obtain ⟨E, hE⟩ : ∃ E, checkC L = E := ⟨_, rfl⟩
  rw [hE] at HC
  by_cases h0 : E = 0
  case neg =>
    have hne : (E != 0) = true := by simpa using h0
    have HR : Hid (paC L s = E) := Lib.hid (by unfold paC; rw [if_neg (by rw [hE]; exact h0), hE])
    clear h0 hE hs hN
    rw [HR.out]
    go_enter Tryz.func66, Tryz.ntmps66
    go_wp2_with (go_at_call 85; refine HC.out.mono ?_; clear HC; rintro e w2 ⟨rfl, hb2⟩)
    go_ret
    exact ⟨rfl, hb2⟩
  subst h0
  have hit := hs hE
  obtain ⟨r, hr⟩ : ∃ r, paC L s = r := ⟨_, rfl⟩
  have HR : Hid ((if s.all (fun i => firmN (nth L i)) then (0 : Int) else 30) = r) := Lib.hid (by rw [← hr]; unfold paC; rw [if_pos hE])
  rw [hr]
  have Hst : Hid (∀ W, Below w.heap.size w W → Calls Tryz.prog 67 #[.slice p0 L.length cap] W fun e w' => (∃ v, e = .returned v ∧ IRow W v s w') ∧ Below W.heap.size W w') := Lib.hid fun W hb => qstarts p0 b off cap L s W (hN.below hb) hit fun x hx => (items_kind0 hit hE x hx).1
  have HI := Lib.hid hit
  have Hr9 := Lib.hid (check_right hE)
  have H := Lib.hid hN
  have hcapL := hN.cap'
  have hlen := hit.len
  have hL2 := (checkC_zero hE).1
  clear hr hE hs hN hit
  go_enter Tryz.func66, Tryz.ntmps66
  go_upto_region 5 with (first | (go_at_call 85; refine HC.out.mono ?_; clear HC; rintro e w2 ⟨rfl, hb2⟩) | (go_at_call 67; refine (Hst.out _ hb2).mono ?_; rintro e w3 ⟨⟨v, rfl, hrow⟩, hb3⟩))
  obtain ⟨p, gi, c, rfl, hsc, hII⟩ := irow_cap hrow
  have hb := hb2.trans (hb3.mono hb2.size)
  have H3 := Lib.hid (And.intro hII hb)
  clear hrow hb2 hb3 hII hb Hst
  go_wp2_with fail
  go_loopg [5] (s.length + 1) (fun gg t5 wr => ∃ k : Nat, gg = s.length + 1 - k ∧ k ≤ s.length ∧ t5 = .int .i64 k ∧ ((s.take k).all fun i => firmN (nth L i)) = true ∧ Below w3.heap.size w3 wr)
  case atStart => exact ⟨0, rfl, Nat.zero_le _, rfl, rfl, Below.refl _ _⟩
  case round =>
    obtain ⟨k, rfl, hk, rfl, hall, hb⟩ := hrel
    have hk0 : (0 : Int) ≤ (k : Int) := by omega
    by_cases hlt : k < s.length
    · have hk1 : (k : Int) < (s.length : Int) := by omega
      have hlt2 : decide (k < s.length) = true := decide_eq_true hlt
      have hI := H3.out.1.below hb
      have cI := hI.at_ k hlt
      obtain rfl := hI.hp (by intro e; rw [e] at hlt; simp at hlt)
      have hbw := H3.out.2.trans (hb.mono H3.out.2.size)
      have hx := (HI.out.lt s[k] (List.getElem_mem hlt)).2
      have hNw := H.out.below hbw
      have xa := hNw.nth hx
      obtain rfl := hNw.at_ hx
      have hrt : rightB (nth L s[k]) = true := by rw [nth_get hx]; exact Hr9.out _ (List.getElem_mem _)
      have htk : s.take (k + 1) = s.take k ++ [s[k]] := by
        rw [List.take_add_one, List.getElem?_eq_getElem hlt]; rfl
      have hmem : s[k] ∈ s := List.getElem_mem hlt
      generalize s[k] = x at cI hx xa hrt htk hmem
      have hx0 : (0 : Int) ≤ (x : Int) := by omega
      have hx1 : (x : Int) < (L.length : Int) := by omega
      obtain ⟨n, hn⟩ : ∃ n, nth L x = n := ⟨_, rfl⟩
      rw [hn] at xa hrt
      have ck : wr.cell? ⟨b, off + x * 19, none⟩ = some (.int .i64 n.kind) := by have h1 := agg_cell xa 0 (.int .i64 n.kind) rfl; rwa [Nat.add_zero] at h1
      have ag : agg? wr b (off + x * 19 + 7) 5 = some n.glue.arr := by rw [agg?_subN xa (by decide), Nd.getGlue]
      have Hall : Hid (firmN n = true → ((s.take (k + 1)).all fun i => firmN (nth L i)) = true) := Lib.hid fun h => by
        rw [htk, List.all_append, hall]
        simp [hn, h]
      have HR2 : Hid (firmN n = false → (30 : Int) = r) := Lib.hid fun h => by
        have h1 := HR.out
        rw [if_neg] at h1
        · exact h1
        · intro h2
          have h3 := List.all_eq_true.1 h2 x hmem
          simp only [hn] at h3
          rw [h] at h3; cases h3
      have HF : Hid (∀ W, Calls Tryz.prog 49 #[.agg n.glue.arr] W fun e w' => e = .returned (.bool (firmG n.glue)) ∧ Below W.heap.size W w') := Lib.hid fun W => q9finite n.glue W
      have Hbb := Lib.hid (And.intro hb hbw)
      have Hrt := Lib.hid hrt
      clear hall htk hmem hn xa hNw hI hx hlt hrt hb hbw
      cases h7 : (n.kind == 7)
      · have hf : firmN n = true := by simp [firmN, h7]
        have Hall2 := Lib.hid (Hall.out hf)
        clear hf Hall HR2
        go_wp2_with fail
        go_roundg (s.length + 1 - (k + 1))
        case measure => omega
        case rel => exact ⟨k + 1, rfl, by omega, by go_num, Hall2.out, Hbb.out.1⟩
      · have hfe := firm_skip Hrt.out (by simpa using h7)
        cases hf : firmG n.glue
        · rw [hf] at HF hfe
          have HR3 := Lib.hid (HR2.out hfe)
          clear hfe hf HR2 Hall
          go_wp2_with (go_at_call 49; refine (HF.out _).mono ?_; rintro e w4 ⟨rfl, hb4⟩)
          go_ret
          exact ⟨by rw [← HR3.out]; rfl, Hbb.out.2.trans (hb4.mono Hbb.out.2.size)⟩
        · rw [hf] at HF hfe
          have Hall2 := Lib.hid (Hall.out hfe)
          clear hfe hf HR2 Hall
          go_wp2_with (go_at_call 49; refine (HF.out _).mono ?_; rintro e w4 ⟨rfl, hb4⟩)
          go_roundg (s.length + 1 - (k + 1))
          case measure => omega
          case rel => exact ⟨k + 1, rfl, by omega, by go_num, Hall2.out, Hbb.out.1.trans (hb4.mono Hbb.out.1.size)⟩
    · have hkn : k = s.length := by omega
      have hlt2 : decide (k < s.length) = false := decide_eq_false hlt
      have hall2 : (s.all fun i => firmN (nth L i)) = true := by rwa [List.take_of_length_le (by omega)] at hall
      have HR2 : Hid ((0 : Int) = r) := Lib.hid ((if_pos hall2).symm.trans HR.out)
      have Hbb := Lib.hid (H3.out.2.trans (hb.mono H3.out.2.size))
      clear hall hall2 hb hlt hkn
      go_wp2_with fail
      go_ret
      exact ⟨by rw [← HR2.out]; rfl, Hbb.out⟩
end Go.Proofs.YtiijpbfkchokaaaGreat
namespace Go.Proofs.YtiijpbfkchokaaaGreat
open Go.ChangeShapes Go.WideShapes Go.ChangeAt Go.RowKit
attribute [local go_sem ↓] Go.wp_at_zero Go.wp_at_succ
theorem small_six {k : Int} (h : smallK k = true) : k ≠ 6 := by
  intro e
  rw [e] at h
  exact absurd h (by decide)
theorem q3three (p0 : Option Addr) (b off cap : Nat) (L : List Nd) (x m : Nat) (u : List (Nat × Nat)) (hd : DiscAt L x m u) (hk10 : (nth L x).kind = 10) (hll : L.length ≤ 2000) (w : World) (hN : NIn w p0 b off cap L) :
    Calls Tryz.prog 88 #[.slice p0 L.length cap, .int .i64 x] w fun e w' => (∃ vs : Nat → Value, e = .returned (.agg #[vs 0, vs 1, vs 2]) ∧ ThreeV w (threeP L x) vs w') ∧ Below w.heap.size w w' := by
  have H := Lib.hid hN
  have h2 := hd.two
  have hlt := hd.lt
  have hI := ThI.start w
  have HD := Lib.hid hd
  have HK10 := Lib.hid hk10
  have HE : Hid (∀ (i m' : Nat) W, Below w.heap.size w W → behC (L.drop i) 0 = some m' → (nth L i).kind ≠ 6 → Calls Tryz.prog 86 #[.slice p0 L.length cap, .int .i64 i] W fun e w' => e = .returned (.int .i64 ((i + m' : Nat) : Int)) ∧ Below W.heap.size W w') := Lib.hid fun i m' W hb hm hk => qends p0 b off cap L i m' W (H.out.below hb) hm hk
  obtain ⟨Z, hZ⟩ : ∃ Z, w.heap.size + 1 = Z := ⟨_, rfl⟩
  have hx1 : (0 : Int) ≤ (x : Int) := by omega
  have hcp := hN.cap'
  obtain rfl := hN.hp (by intro e; rw [e] at hlt; simp at hlt; omega)
  clear hN hd hk10
  go_enter Tryz.func88, Tryz.ntmps88
  go_upto_region 4 with (fail)
  generalize hwx : (w.alloc (.cells #[.slice none 0 0, .slice none 0 0, .slice none 0 0] 159)).alloc (.cells #[.slice none 0 0, .slice none 0 0, .slice none 0 0] 159) = w1 at hI ⊢
  clear hwx
  rw [hZ] at hI
  have HZ := Lib.hid hZ
  clear hZ
  have hbl1 := hI.below
  go_wp2_with (go_at_call 86; refine (HE.out x m _ hbl1 HD.out.beh (by rw [HK10.out]; decide)).mono ?_; rintro e w2 ⟨rfl, hb2⟩)
  have HI2 := Lib.hid (hI.still hb2)
  clear hI hb2 hbl1
  obtain ⟨e, he⟩ : ∃ e, x + m - 1 = e := ⟨_, rfl⟩
  have he2 : ((x + m : Nat) : Int) - 1 = (e : Int) := by omega
  have hex : (x : Int) + 1 ≤ 9223372036854775807 := by omega
  go_wp2_with fail
  have Hels : Hid (Els L e (x + 1) u) := Lib.hid (by rw [← he]; exact HD.out.els)
  have Hend : Hid ((nth L e).kind = 6 ∧ e < L.length) := Lib.hid ⟨by rw [← he]; exact HD.out.end_, by omega⟩
  have Hthr : Hid (thrF L u 0 ([], [], []) = threeP L x) := Lib.hid HD.out.eq.symm
  have Hsep : Hid (0 + sepsN L u = 2) := Lib.hid (by rw [HD.out.seps])
  have hel : e < L.length := Hend.out.2
  have hea : (e : Int) ≤ (x : Int) + (m : Int) - 1 := by omega
  have heb : (x : Int) + (m : Int) - 1 ≤ (e : Int) := by omega
  clear he he2 hex
  go_loopg [6, 7] (e + 1 - (x + 1)) (fun gg t6 t7 wr => ∃ (i k : Nat) (vs : Nat → Value) (t : Three) (s : List (Nat × Nat)), gg = e + 1 - i ∧ t6 = .int .i64 k ∧ t7 = .int .i64 i ∧ Els L e i s ∧ k + sepsN L s = 2 ∧ thrF L s k t = threeP L x ∧ (∀ j, j < 3 → (tP t j).length ≤ i) ∧ ThI w Z vs t wr)
  case atStart => exact ⟨x + 1, 0, _, _, u, rfl, rfl, rfl, Hels.out, Hsep.out, Hthr.out, fun j hj => by rcases j with _ | _ | _ | j <;> simp [tP], HI2.out⟩
  case round =>
    clear HI2 Hels Hthr Hsep HD
    obtain ⟨i, k, vs, t, s, rfl, rfl, rfl, hels, hsep, hthr, hlen, hI⟩ := hrel
    have hile := hels.le
    have hi1 : (0 : Int) ≤ (i : Int) := by omega
    cases hels with
    | done =>
      have Hthr := Lib.hid (show t = threeP L x from hthr)
      have hZc := hI.blk
      have hrc := hI.res
      have hbl := hI.below
      have hZlt := hI.lt
      obtain ⟨p1, c1, e1⟩ := owns_form (hI.rows 0 (by decide))
      obtain ⟨p2, c2, e2⟩ := owns_form (hI.rows 1 (by decide))
      obtain ⟨p3, c3, e3⟩ := owns_form (hI.rows 2 (by decide))
      have hT : (#[vs 0, vs 1, vs 2] : Array Value) = (T3.mk p1 (tP t 0).length c1 p2 (tP t 1).length c2 p3 (tP t 2).length c3).arr := by rw [e1, e2, e3]; rfl
      have HT := Lib.hid hT
      rw [hT] at hZc
      have aZ : agg? wr Z 0 3 = some (T3.mk p1 (tP t 0).length c1 p2 (tP t 1).length c2 p3 (tP t 2).length c3).arr := by rw [agg?_blk' hZc 0 3 (by simp [T3.size_arr])]; simp [T3.arr, T3.cells]
      have tR : there? wr w.heap.size 0 3 = true := there_blk hrc 0 3 (by simp)
      have HI := Lib.hid hI
      clear hI hthr hlen hsep e1 e2 e3 hT hZc
      generalize T3.mk p1 (tP t 0).length c1 p2 (tP t 1).length c2 p3 (tP t 2).length c3 = T at HT aZ
      go_wp2_with fail
      have hF := t3_store (T0 := T3.mk none 0 0 none 0 0 none 0 0) (T := T) hrc
      refine ret_t3 rfl w.heap.size 0 T rfl hF rfl ⟨⟨vs, by rw [HT.out], ?_⟩, Below.setAgg hbl (Nat.le_refl _) _ _⟩
      rw [← Hthr.out]
      refine ⟨fun j hj => ownsRow_base (ownsRow_same (HI.out.rows j hj) fun q hq _ => heap_setCells_other _ _ (fun e2 => by have := ((HI.out.rows j hj).lt q hq).1; omega) _ _ _) (by omega), HI.out.ne⟩
    | sep hi hk hs =>
      rename_i s
      have hlt2 : i < L.length := by omega
      have hN := H.out.below hI.below
      have c0 : wr.cell? ⟨b, off + i * 19, none⟩ = some (.int .i64 11) := by have := agg_cell (hN.nth hlt2) 0 _ (Nd.get0 (nth L i)); rw [hk] at this; exact this
      have hi2 : (i : Int) < (L.length : Int) := by omega
      have hi3 : (i : Int) < (x : Int) + (m : Int) - 1 := by omega
      have hk2 : (k : Int) + 1 ≤ 100 := by unfold sepsN at hsep; omega
      have HS := Lib.hid (show k + 1 + sepsN L s = 2 from by unfold sepsN at hsep ⊢; rw [List.filter_cons_of_pos (by simpa using hk), List.length_cons] at hsep; omega)
      have HT := Lib.hid (show thrF L s (k + 1) t = threeP L x from by rw [thrF, if_pos hk] at hthr; exact hthr)
      have HE2 := Lib.hid hs
      have Hlen := Lib.hid hlen
      have HI := Lib.hid hI
      clear hI hthr hlen hsep hk hs hN
      go_wp2_with fail
      go_roundg (e + 1 - (i + 1))
      case measure => omega
      case rel => exact ⟨i + 1, k + 1, vs, t, s, rfl, by go_num, by go_num, HE2.out, HS.out, HT.out, fun j hj => Nat.le_succ_of_le (Hlen.out j hj), HI.out⟩
    | item hi hk hm hs =>
      rename_i m' s
      have hlt2 : i < L.length := by omega
      have hN := H.out.below hI.below
      have c0 : wr.cell? ⟨b, off + i * 19, none⟩ = some (.int .i64 (nth L i).kind) := agg_cell (hN.nth hlt2) 0 _ (Nd.get0 (nth L i))
      have h11 : ((nth L i).kind == 11) = false := by simpa using (small_not hk).1
      have hle2 := hs.le
      have hmp := behC_pos _ _ _ hm
      have hi2 : (i : Int) < (L.length : Int) := by omega
      have hi3 : (i : Int) < (x : Int) + (m : Int) - 1 := by omega
      have hk3 : k < 3 := by omega
      have hk4 : (0 : Int) ≤ (k : Int) := by omega
      have hk5 : (k : Int) < 3 := by omega
      have HS := Lib.hid (show k + sepsN L s = 2 from by unfold sepsN at hsep ⊢; rw [List.filter_cons_of_neg (by simpa using (small_not hk).1)] at hsep; exact hsep)
      have HT := Lib.hid (show thrF L s k (addP t k (sl L i m')) = threeP L x from by rw [thrF, if_neg (small_not hk).1] at hthr; exact hthr)
      have HE2 := Lib.hid hs
      have hbl := hI.below
      have HEi := Lib.hid (HE.out i m' wr hbl hm (small_six hk))
      obtain ⟨pv, cv, hv⟩ := owns_form (hI.rows k hk3)
      have hsl := sl_len (L := L) (i := i) (m := m') (by omega)
      have hLk := hlen k hk3
      have Hlen := Lib.hid hlen
      have HI := Lib.hid hI
      have Hsl := Lib.hid hsl
      have Hv := Lib.hid hv
      have Hm := Lib.hid hmp
      clear hI hthr hlen hsep hk hs hN hm hsl hv
      obtain ⟨q, hq⟩ : ∃ q, i + m' = q := ⟨_, rfl⟩
      have hq1 : (i : Int) ≤ (q : Int) := by omega
      have hq2 : (q : Int) ≤ (cap : Int) := by have := Hm.out; omega
      have hq3 : (0 : Int) ≤ (q : Int) := by omega
      have hq4 : i ≤ q := by omega
      have hq5 : ¬ cap = i := by have := Hm.out; omega
      have hq6 : (q - i : Nat) = m' := by omega
      rw [hq] at HEi
      have Hq := Lib.hid hq
      clear hq
      generalize (nth L i).kind = kd at c0 h11
      go_wp2_with (go_at_call 86; refine HEi.out.mono ?_; rintro e' w3 ⟨rfl, hb3⟩)
      have HI3 := Lib.hid (HI.out.still hb3)
      have hcell : w3.drew.cell? ⟨Z, k, none⟩ = some (vs k) := HI3.out.cell hk3
      rw [Hv.out] at hcell
      clear c0 h11 HEi HI
      obtain ⟨i0, hi0', hz0, hz1, hz2⟩ := info_parts info_node
      have hrow := ownsRow_same (w' := w3.drew) (HI3.out.rows k hk3) fun _ _ _ => rfl
      rw [Hv.out] at hrow
      have hNd : NIn w3.drew (some ⟨b, off, none⟩) b off cap L := by have := H.out.below HI3.out.below; exact ⟨this.hp, this.hb, this.nd, this.cap', this.len⟩
      have hnews : ∀ j u, ((sl L i m').flatMap Nd.cells)[j]? = some u → w3.drew.cell? ((⟨b, off + i * 19, none⟩ : Addr).add j) = some u := ((hNd.drop i (Nat.le_of_lt hlt2)).take _).news
      have hflat : ((sl L i m').flatMap Nd.cells).length = m' * 19 := by rw [flat_len, Hsl.out]
      have Hnews := Lib.hid hnews
      have Hflat := Lib.hid hflat
      have Hrow := Lib.hid hrow
      have hZlt := HI3.out.lt
      have hZs : Z < w3.heap.size := (Array.getElem?_eq_some_iff.1 HI3.out.blk).1
      have hkne : some Z ≠ (vs k).ownBlock := fun e9 => by have := ((HI3.out.rows k hk3).lt Z e9.symm).1; omega
      rw [Hv.out] at hkne
      have Hkne := Lib.hid hkne
      have Hblk := Lib.hid HI3.out.blk
      have hpm : 0 < m' := Hm.out.1
      have Hvk : Hid ((#[vs 0, vs 1, vs 2] : Array Value)[k]? = some (vs k)) := Lib.hid (by rcases k with _ | _ | _ | k <;> first | rfl | omega)
      clear hNd hnews hflat hrow hkne
      go_region_law (refine step_append_lies rfl (.tmp 35) (.tmp 39) 22 rfl (Z + 1) 69 i0 (.agg Nd.zero.arr) 19 160 Tryz.underlying22 hi0' hz0 hz1 hz2 rfl (by decide) (.slice pv (tP t k).length cv) (tP t k).length ((tP t k).flatMap Nd.cells) rfl Hrow.out ⟨b, off + i * 19, none⟩ m' (cap - i) ((sl L i m').flatMap Nd.cells) rfl Hflat.out Hnews.out (nodes_one _) hpm (by unfold maxLen; omega) (by omega) (show Z + 1 ≤ w3.heap.size from hZs) _ rfl ?_; intro g1 cap1 w4 hown1 hgrow1 hat1 hlt1; (have hz4 := Lib.hid ((hgrow1.block Z hZs Hkne.out).trans Hblk.out)); (have cz : w4.cell? ⟨Z, k, none⟩ = some (vs k) := (cell?_blk' hz4.out _).trans Hvk.out); (have fz : w4.frozen? ⟨Z, k, none⟩ = false := frozen_of_row w4 Z k _ _ hz4.out))
      have el : (tP t k ++ sl L i m').length = (tP t k).length + m' := by rw [List.length_append, Hsl.out]
      have hI4 := ThI.grown (HI3.out.still ((Below.refl _ _).drew)) hk3 (x := sl L i m') (g := g1) (c := cap1) (by rw [el, List.flatMap_append]; exact hown1) (by rw [Hv.out]; exact hgrow1) (by rw [Hv.out]; exact hat1)
      rw [el] at hI4
      have HI4 := Lib.hid hI4
      have Hl4 : Hid (∀ j, j < 3 → (tP (addP t k (sl L i m')) j).length ≤ q) := Lib.hid fun j hj => by
        rw [tP_add _ _ _ hk3 hj]
        by_cases e9 : j = k
        · rw [if_pos e9, el]; have := Hq.out; omega
        · rw [if_neg e9]; have := Hlen.out j hj; omega
      have HE4 := Lib.hid (show Els L e q s from by rw [← Hq.out]; exact HE2.out)
      clear hI4 hown1 hgrow1 hat1 hlt1 hcell el
      go_wp2_with fail
      go_roundg (e + 1 - q)
      case measure => omega
      case rel => exact ⟨q, k, _, addP t k (sl L i m'), s, rfl, rfl, rfl, HE4.out, HS.out, HT.out, Hl4.out, HI4.out⟩
end Go.Proofs.YtiijpbfkchokaaaGreat
namespace Go.Proofs.YtiijpbfkchokaaaGreat
open Go.ChangeShapes Go.WideShapes Go.ChangeAt Go.RowKit
attribute [local go_sem ↓] Go.wp_at_zero Go.wp_at_succ
def nxSkip (L : List Nd) : Option Nat → Bool
  | none => false
  | some y => (nth L y).kind == 7
def priceQ (L : List Nd) (P : Pm) (s : List Nat) (k x : Nat) : Option Int := priceN L P (if k = 0 then none else some (s.getD (k - 1) 0)) x s[k + 1]?
theorem priceQ_eq (L : List Nd) (P : Pm) (s : List Nat) (k x : Nat) : priceQ L P s k x =
    if (nth L x).kind = 7 then (if k = 0 then none else if fallsR (nth L (s.getD (k - 1) 0)).kind then none else some 0)
    else if (nth L x).kind = 8 then (if (nth L x).sub = 1 ∧ nxSkip L s[k + 1]? = true then some 0 else none)
    else if (nth L x).kind = 16 then (if nxSkip L s[k + 1]? = true then some 0 else none)
    else if (nth L x).kind = 9 then some (nth L x).pen
    else if (nth L x).kind = 10 then some (if (threeP L x).1 = [] then P.exhyp else P.hyp)
    else none := by
  unfold priceQ priceN
  by_cases hk : k = 0
  · simp only [hk, if_true]
    cases s[0 + 1]? <;> rfl
  · simp only [if_neg hk]
    cases s[k + 1]? <;> rfl
theorem run_three0 (p : Option Addr) (n c : Nat) (u v : Value) (w : World) : (Instr.index 159 (.agg #[.slice p n c, u, v]) (.int .i64 0)).run Tryz.prog w = .ok (.slice p n c) w := by kernel_rfl
theorem run_three1 (p : Option Addr) (n c : Nat) (u v : Value) (w : World) : (Instr.index 159 (.agg #[u, .slice p n c, v]) (.int .i64 1)).run Tryz.prog w = .ok (.slice p n c) w := by kernel_rfl
theorem run_three2 (p : Option Addr) (n c : Nat) (u v : Value) (w : World) : (Instr.index 159 (.agg #[u, v, .slice p n c]) (.int .i64 2)).run Tryz.prog w = .ok (.slice p n c) w := by kernel_rfl
theorem q9at (P : Pm) (p0 : Option Addr) (b off cap : Nat) (L : List Nd) (hc : checkC L = 0) (s : List Nat) (hs : Items L 0 s) (ps : Option Addr) (gi cs : Nat) (k x : Nat) (hk : s[k]? = some x) (w : World) (hN : NIn w p0 b off cap L) (hI : IIn w ps gi cs s) :
    Calls Tryz.prog 68 #[.slice p0 L.length cap, .agg P.arr, .slice ps s.length cs, .int .i64 k] w fun e w' => e = .returned (.tuple #[.int .i64 (optV (priceQ L P s k x)).1, .bool (optV (priceQ L P s k x)).2]) ∧ Below w.heap.size w w' := by
  obtain ⟨hks, hkx⟩ := List.getElem?_eq_some_iff.1 hk
  have hxs : x ∈ s := List.mem_of_getElem? hk
  have hxl := (hs.lt x hxs).2
  have hsl := hs.len
  have hL2 := (checkC_zero hc).1
  have hrn : rightB (nth L x) = true := by rw [nth_get hxl]; exact check_right hc _ (List.getElem_mem _)
  obtain ⟨n, hn⟩ : ∃ n, nth L x = n := ⟨_, rfl⟩
  obtain ⟨sk, hsk⟩ : ∃ sk, nxSkip L s[k + 1]? = sk := ⟨_, rfl⟩
  obtain ⟨r, hr⟩ : ∃ r, priceQ L P s k x = r := ⟨_, rfl⟩
  have hpe := (priceQ_eq L P s k x).symm.trans hr
  rw [hn, hsk] at hpe
  rw [hr]
  have HP := Lib.hid hpe
  have HNn := Lib.hid (And.intro hn (And.intro hsk hrn))
  have HI : Hid (∀ W, Below w.heap.size w W → ∀ i y, s[i]? = some y → ps = some ⟨gi, 0, none⟩ ∧ p0 = some ⟨b, off, none⟩ ∧ W.cell? ⟨gi, i, none⟩ = some (.int .i64 (y : Nat)) ∧ agg? W b (off + y * 19) 19 = some (nth L y).arr ∧ (y : Int) < (L.length : Int)) := Lib.hid fun W hb i y hy => by
    obtain ⟨h1, h2⟩ := List.getElem?_eq_some_iff.1 hy
    have hyl := (hs.lt y (List.mem_of_getElem? hy)).2
    have h3 := (hI.below hb).at_ i h1
    rw [h2] at h3
    exact ⟨hI.hp (by intro e; rw [e] at h1; simp at h1), hN.at_ hyl, h3, (hN.below hb).nth hyl, by omega⟩
  have HT : Hid ((nth L x).kind = 10 → ∀ W, Below w.heap.size w W → Calls Tryz.prog 88 #[.slice p0 L.length cap, .int .i64 x] W fun e w' => (∃ vs : Nat → Value, e = .returned (.agg #[vs 0, vs 1, vs 2]) ∧ ThreeV W (threeP L x) vs w') ∧ Below W.heap.size W w') := Lib.hid fun h10 W hb => by
    obtain ⟨m, u, hd⟩ := disc_at hc hs hxs h10
    exact q3three p0 b off cap L x m u hd h10 hL2 W (hN.below hb)
  have hcapL := hN.cap'
  have hb0 : Below w.heap.size w (w.alloc (.cells P.arr 27)) := (Below.refl _ _).alloc (Nat.le_refl _) _
  have d0 : PAt (w.alloc (.cells P.arr 27)) w.heap.size P := heap_alloc_new w _
  have Hk := Lib.hid hk
  have hx0 : (0 : Int) ≤ (x : Int) := by omega
  have hx1 : (x : Int) < (L.length : Int) := by omega
  have hk0 : (0 : Int) ≤ (k : Int) := by omega
  have hk1 : (k : Int) < (s.length : Int) := by omega
  have hk2 : (k : Int) ≤ 100000 := by omega
  clear hN hI hs hk hkx hxs hn hsk hr hpe hrn hc
  go_enter Tryz.func68, Tryz.ntmps68
  go_upto_region 1 with (fail)
  obtain ⟨X0, hX0⟩ : ∃ X0, w.heap.size = X0 := ⟨_, rfl⟩
  rw [hX0] at d0 ⊢
  generalize w.alloc (.cells P.arr 27) = w1 at hb0 d0 ⊢
  clear hX0
  obtain ⟨e1, e2, c1, a1, -⟩ := HI.out w1 hb0 k x Hk.out
  subst e1
  subst e2
  rw [HNn.out.1] at a1
  go_upto_region 2 with (fail)
  obtain ⟨Z, hZ⟩ : ∃ Z, w1.heap.size = Z := ⟨_, rfl⟩
  have hba := (Below.refl w1.heap.size w1).alloc (Nat.le_refl _) (.cells n.arr 69)
  have dZ : (w1.alloc (.cells n.arr 69)).heap[Z]? = some (.cells n.arr 69 (0, 0)) := by rw [← hZ]; exact heap_alloc_new w1 _
  have d2 := d0.still hba
  have hb2 := hb0.trans (hba.mono hb0.size)
  rw [hZ]
  clear hba hZ d0 hb0 c1 a1
  generalize w1.alloc (.cells n.arr 69) = w2 at dZ d2 hb2 ⊢
  have H2 := Lib.hid (And.intro dZ (And.intro d2 hb2))
  clear dZ d2 hb2
  go_cut [11] from 19 to 35 (fun s11 wx => s11 = .bool sk ∧ wx = w2)
  case first =>
    have hw1 : IntKind.i64.wrap ((k : Int) + 1) = (k : Int) + 1 := Go.IntWalk.i64_in _ (by omega)
    by_cases hlt : k + 1 < s.length
    · have hlt2 : decide ((k : Int) + 1 < (s.length : Int)) = true := decide_eq_true (by omega)
      obtain ⟨y, hy⟩ : ∃ y, s[k + 1]? = some y := ⟨_, List.getElem?_eq_getElem hlt⟩
      obtain ⟨-, -, c1, a1, hyl⟩ := HI.out w2 H2.out.2.2 (k + 1) y hy
      have hsk : ((nth L y).kind == 7) = sk := by have := HNn.out.2.1; rw [hy] at this; exact this
      have ck : w2.cell? ⟨b, off + y * 19, none⟩ = some (.int .i64 (nth L y).kind) := by have h1 := agg_cell a1 0 (.int .i64 (nth L y).kind) rfl; rwa [Nat.add_zero] at h1
      have hk3 : (0 : Int) ≤ (k : Int) + 1 := by omega
      have hk4 : (k : Int) + 1 < (s.length : Int) := by omega
      have hy0 : (0 : Int) ≤ (y : Int) := by omega
      generalize (nth L y).kind = kd at hsk ck
      clear hlt hy a1
      go_wp2_with fail
      go_meet
      exact ⟨rfl, rfl⟩
    · have hlt2 : decide ((k : Int) + 1 < (s.length : Int)) = false := decide_eq_false (by omega)
      have hsk : sk = false := by
        have := HNn.out.2.1
        rw [List.getElem?_eq_none (by omega)] at this
        exact this.symm
      subst hsk
      clear hlt
      go_wp2_with fail
      go_meet
      exact ⟨rfl, rfl⟩
  case rest =>
    obtain ⟨rfl, rfl⟩ := hcut
    have z0 : wc.cell? ⟨Z, 0, none⟩ = some (.int .i64 n.kind) := by rw [cell?_blk' H2.out.1]; rfl
    have z16 : wc.cell? ⟨Z, 16, none⟩ = some (.int .i64 n.pen) := by rw [cell?_blk' H2.out.1]; rfl
    have z17 : wc.cell? ⟨Z, 17, none⟩ = some (.int .i64 n.sub) := by rw [cell?_blk' H2.out.1]; rfl
    cases k7 : (n.kind == 7)
    rotate_left
    · have hp := (if_pos (by simpa using k7)).symm.trans HP.out
      by_cases hk00 : k = 0
      · rw [if_pos hk00] at hp
        subst hp
        subst hk00
        go_wp2_with fail
        go_ret2
        exact ⟨rfl, H2.out.2.2⟩
      · rw [if_neg hk00] at hp
        obtain ⟨y, hy⟩ : ∃ y, s[k - 1]? = some y := ⟨_, List.getElem?_eq_getElem (by omega)⟩
        rw [show s.getD (k - 1) 0 = y by rw [List.getD_eq_getElem?_getD, hy]; rfl] at hp
        obtain ⟨-, -, c1, a1, hyl⟩ := HI.out wc H2.out.2.2 (k - 1) y hy
        have HF := Lib.hid (q9falls (nth L y) wc)
        have hy0 : (0 : Int) ≤ (y : Int) := by omega
        have hw1 : IntKind.i64.wrap ((k : Int) - 1) = ((k - 1 : Nat) : Int) := by rw [Go.IntWalk.i64_in _ (by omega)]; omega
        have hkp : decide (0 < k) = true := decide_eq_true (by omega)
        have hkp2 : (0 : Int) < (k : Int) := by omega
        have hk6 : ((k - 1 : Nat) : Int) < (s.length : Int) := by omega
        generalize nth L y = ny at hp a1 HF
        have Hb := Lib.hid H2.out.2.2
        cases hf : fallsR ny.kind
        · rw [hf] at hp HF
          have hp2 : r = some 0 := by simpa using hp.symm
          subst hp2
          clear hp hf hy hk00
          go_wp2_with (go_at_call 87; refine HF.out.mono ?_; clear HF; rintro e w4 ⟨rfl, hb4⟩)
          go_ret2
          exact ⟨rfl, Hb.out.trans (hb4.mono Hb.out.size)⟩
        · rw [hf] at hp HF
          have hp2 : r = none := by simpa using hp.symm
          subst hp2
          clear hp hf hy hk00
          go_wp2_with (go_at_call 87; refine HF.out.mono ?_; clear HF; rintro e w4 ⟨rfl, hb4⟩)
          go_ret2
          exact ⟨rfl, Hb.out.trans (hb4.mono Hb.out.size)⟩
    have hp := Lib.hid ((if_neg (by simpa using k7)).symm.trans HP.out)
    cases k8 : (n.kind == 8)
    rotate_left
    · have hq := (if_pos (by simpa using k8)).symm.trans hp.out
      have Hb := Lib.hid H2.out.2.2
      cases h1 : (n.sub == 1)
      · have hp2 : r = none := by rw [if_neg (by intro e; rw [e.1] at h1; simp at h1)] at hq; exact hq.symm
        subst hp2
        clear hq
        go_wp2_with fail
        go_ret2
        exact ⟨rfl, Hb.out⟩
      · cases h2 : sk
        · subst h2
          have hp2 : r = none := by rw [if_neg (by intro e; cases e.2)] at hq; exact hq.symm
          subst hp2
          clear hq
          go_wp2_with fail
          go_ret2
          exact ⟨rfl, Hb.out⟩
        · subst h2
          have hp2 : r = some 0 := by rw [if_pos ⟨by simpa using h1, rfl⟩] at hq; exact hq.symm
          subst hp2
          clear hq
          go_wp2_with fail
          go_ret2
          exact ⟨rfl, Hb.out⟩
    have hp8 := Lib.hid ((if_neg (by simpa using k8)).symm.trans hp.out)
    cases k16 : (n.kind == 16)
    rotate_left
    · have hq := (if_pos (by simpa using k16)).symm.trans hp8.out
      have Hb := Lib.hid H2.out.2.2
      cases h2 : sk
      · subst h2
        have hp2 : r = none := by rw [if_neg (by decide)] at hq; exact hq.symm
        subst hp2
        clear hq
        go_wp2_with fail
        go_ret2
        exact ⟨rfl, Hb.out⟩
      · subst h2
        have hp2 : r = some 0 := by rw [if_pos rfl] at hq; exact hq.symm
        subst hp2
        clear hq
        go_wp2_with fail
        go_ret2
        exact ⟨rfl, Hb.out⟩
    have hp16 := Lib.hid ((if_neg (by simpa using k16)).symm.trans hp8.out)
    cases k9 : (n.kind == 9)
    rotate_left
    · have hp2 : some n.pen = r := (if_pos (by simpa using k9)).symm.trans hp16.out
      have Hb := Lib.hid H2.out.2.2
      subst hp2
      go_wp2_with fail
      go_ret2
      exact ⟨rfl, Hb.out⟩
    have hp9 := Lib.hid ((if_neg (by simpa using k9)).symm.trans hp16.out)
    cases k10 : (n.kind == 10)
    rotate_left
    · have hq := (if_pos (by simpa using k10)).symm.trans hp9.out
      have hT := HT.out (by rw [HNn.out.1]; simpa using k10) wc H2.out.2.2
      have HT2 := Lib.hid hT
      obtain ⟨-, -, c1, -, -⟩ := HI.out wc H2.out.2.2 k x Hk.out
      have Hq := Lib.hid hq
      clear hq hT
      have hix := run_three0
      go_upto_if 79 with (go_at_call 88; refine HT2.out.mono ?_; clear HT2; rintro e w4 ⟨⟨vs, rfl, hV⟩, hb4⟩; (obtain ⟨po, co, ev⟩ := owns_form (hV.rows 0 (by decide))); (have ev2 : vs 0 = .slice po (threeP L x).1.length co := ev); rw [ev2])
      have hb5 := H2.out.2.2.trans (hb4.mono H2.out.2.2.size)
      have d4 := H2.out.2.1.still hb4
      have y3 : w4.cell? ⟨X0, 3, none⟩ = some (.int .i64 P.hyp) := by rw [cell?_blk' d4]; rfl
      have y4 : w4.cell? ⟨X0, 4, none⟩ = some (.int .i64 P.exhyp) := by rw [cell?_blk' d4]; rfl
      have Hb := Lib.hid hb5
      clear hV ev hb4 d4 hb5
      cases ht : (threeP L x).1 with
      | nil =>
        have hp2 : r = some P.exhyp := by have := Hq.out; rw [ht, if_pos rfl] at this; exact this.symm
        subst hp2
        have hpos : decide ((0 : Int) < (((threeP L x).1.length : Nat) : Int)) = false := by rw [ht]; rfl
        have hpos2 : decide (0 < (threeP L x).1.length) = false := by rw [ht]; rfl
        clear ht Hq
        go_wp2_with fail
        go_ret2
        exact ⟨rfl, Hb.out⟩
      | cons a0 r0 =>
        have hp2 : r = some P.hyp := by have := Hq.out; rw [ht, if_neg (by simp)] at this; exact this.symm
        subst hp2
        have hpos : decide ((0 : Int) < (((threeP L x).1.length : Nat) : Int)) = true := decide_eq_true (by rw [ht, List.length_cons]; omega)
        have hpos2 : decide (0 < (threeP L x).1.length) = true := decide_eq_true (by rw [ht, List.length_cons]; omega)
        have hpos3 : decide (0 < (a0 :: r0).length) = true := by simp
        have hpos4 : 0 < (a0 :: r0).length := by simp
        generalize (a0 :: r0).length = nl at hpos3 hpos4 ⊢
        clear ht Hq hpos hpos2
        go_wp2_with fail
        go_ret2
        exact ⟨rfl, Hb.out⟩
    have hp2 : (none : Option Int) = r := (if_neg (by simpa using k10)).symm.trans hp9.out
    have Hb := Lib.hid H2.out.2.2
    subst hp2
    go_wp2_with fail
    go_ret2
    exact ⟨rfl, Hb.out⟩
end Go.Proofs.YtiijpbfkchokaaaGreat
