/-
  The page builder: a Skip, a Kern, a Penalty comes.
-/
import Derived.Test.YtomehdepjenilaaGreatH19a
namespace Go.Proofs.YtomehdepjenilaaGreat
open Go.ChangeShapes Go.WideShapes Go.ChangeAt Go.RowKit
def looseQR (R : Rw) (n : Nd) (W : List Nd) : Int :=
  if (n.kind = 7 ∧ 0 < R.list.length ∧ fallsK R.last.kind = false) ∨ (n.kind = 8 ∧ 0 < W.length ∧ (W.headD Nd.zero).kind = 7) then 0 else if n.kind = 9 then n.pen else 10000
def addedR (R : Rw) (X : List Nd) : Rw :=
  if (X.headD Nd.zero).kind = 7 then flexR (growR (putR R X) (X.headD Nd.zero).glue.nat) (X.headD Nd.zero).glue
  else if (X.headD Nd.zero).kind = 8 then growR (putR R X) (X.headD Nd.zero).w else putR R X
def triedQ (R : Rw) (q : Int) : Rw := if q < 10000 then triedR R q else R
theorem triedQ_list (R : Rw) (q : Int) : (triedQ R q).list = R.list := by
  unfold triedQ triedR
  split
  · split <;> rfl
  · rfl
def looseO (g : Gr) (R : Rw) (X : List Nd) (W : List Nd) (bot : ByteArray) (P : PgP) (W' : List Nd) : Out :=
  if R.body then
    if looseQR R (X.headD Nd.zero) W < 10000 ∧ firesR R (looseQR R (X.headD Nd.zero) W) = true then ⟨some P, P.bot, W', freshR g.height⟩
    else ⟨none, bot, W, addedR (triedQ R (looseQR R (X.headD Nd.zero) W)) X⟩
  else ⟨none, bot, W, R⟩
set_option maxRecDepth 100000 in
set_option maxHeartbeats 16000000 in
theorem bloose (w : World) (base B : Nat) (r : Nat → Option Nat) (b : Bc) (c : Sc) (g : Gr) (bot : ByteArray) (W : List Nd) (R : Rw) (p : Option Addr) (q o cap : Nat) (X : List Nd) (h : BdR w base B r b c g bot W R) (hX : ItIn w r p q o cap X) (hlen : R.list.length + X.length ≤ 700000000000)
    (hso : 0 ≤ (X.headD Nd.zero).glue.so ∧ (X.headD Nd.zero).glue.so ≤ 3) (hho : 0 ≤ (X.headD Nd.zero).glue.ho ∧ (X.headD Nd.zero).glue.ho ≤ 3) (PP : PgP) (W' : List Nd)
    (hF : R.body = true → looseQR R (X.headD Nd.zero) W < 10000 → firesR R (looseQR R (X.headD Nd.zero) W) = true → ∀ w1 c1 r1, BdR w1 base B r1 b c1 g bot W (triedR R (looseQR R (X.headD Nd.zero) W)) → Calls Tryz.prog 107 #[.pointer (some ⟨B, 0, none⟩), .agg (X.headD Nd.zero).arr] w1 fun e w2 => ∃ T : Pc, e = .returned (.agg T.arr) ∧ Fired w1 base B r1 g PP W' T w2) :
    Calls Tryz.prog 90 #[.pointer (some ⟨B, 0, none⟩), .slice p X.length cap] w (Went w base B r g (looseO g R X W bot PP W')) := by
  obtain rfl := hX.at_.hp hX.ne
  obtain ⟨O, hO⟩ : ∃ O, looseO g R X W bot PP W' = O := ⟨_, rfl⟩
  have HOut := Lib.hid hO
  rw [hO]
  clear hO
  unfold looseO at HOut
  obtain ⟨n0, hn0⟩ : ∃ n0, X.headD Nd.zero = n0 := ⟨_, rfl⟩
  have Hn0 := Lib.hid hn0
  rw [hn0] at hF hso hho HOut
  have hXp : 0 < X.length := by have := hX.ne; cases X with | nil => exact absurd rfl this | cons => simp
  have hs := BdS.refl h
  have HO := Lib.hid h.sht.own
  have HF := Lib.hid hF
  have HG := Lib.hid (And.intro hso hho)
  clear h hn0 hF hso hho
  go_enter Tryz.func90, Tryz.ntmps90
  go_upto_region 1 with (fail)
  have hb1 : Below w.heap.size w (w.alloc (.cells (Pc.mk none 0 0 none 0 0 none 0 0 0 0 ⟨#[]⟩ ⟨#[]⟩ ⟨#[]⟩).arr 46)) := (Below.refl _ _).alloc (Nat.le_refl _) _
  have hP : Lc (w.alloc (.cells (Pc.mk none 0 0 none 0 0 none 0 0 0 0 ⟨#[]⟩ ⟨#[]⟩ ⟨#[]⟩).arr 46)) r w.heap.size Pc.zero.arr 46 := Lc.new HO.out _ _
  have hs1 := hs.below hb1
  have hX1 := hX.below hb1
  clear hs hX hb1
  generalize w.alloc (.cells (Pc.mk none 0 0 none 0 0 none 0 0 0 0 ⟨#[]⟩ ⟨#[]⟩ ⟨#[]⟩).arr 46) = w1 at hP hs1 hX1 ⊢
  obtain ⟨P, hPz⟩ : ∃ P, w.heap.size = P := ⟨_, rfl⟩
  rw [hPz] at hP ⊢
  have hPle : w.heap.size ≤ P := by omega
  clear hPz
  have cs := hs1.bd.at_.cell 8 _ (Bc.get8 b)
  have ax := head_agg hX1.at_ hX1.ne
  rw [Hn0.out] at ax
  have hql : q < w1.heap.size := hX1.at_.hb hX1.ne
  have hBl : B < w1.heap.size := hs1.bd.at_.lt
  have HS := Lib.hid hs1
  have HP := Lib.hid hP
  have HX := Lib.hid hX1
  clear hs1 hP hX1
  go_region
  have HM := Lib.hid (show LMid w base B r b g bot W w1.heap.size P n0 (some ⟨q, o, none⟩) q o cap X R (w1.alloc (.cells n0.arr 49)).drew c r from
    ⟨HS.out.below ((Below.refl _ _).alloc (Nat.le_refl _) _).drew, ⟨Cb.new _ _ _, new_owns HS.out.bd.sht.own (Nat.le_refl _)⟩, HP.out.below ((Below.refl _ _).alloc (Nat.le_refl _) _).drew, HX.out.below ((Below.refl _ _).alloc (Nat.le_refl _) _).drew⟩)
  clear cs ax hql hBl HS HP HX
  generalize (w1.alloc (.cells n0.arr 49)).drew = w2 at HM ⊢
  generalize w1.heap.size = N at HM ⊢
  have c1 : w2.cell? ⟨b.sheet, 1, none⟩ = some (.bool R.body) := by rw [← HM.out.bd.bd.sht.of.body]; exact HM.out.bd.bd.sht.at_.cell 1 _ (Sc.get1 c)
  cases hbx : R.body
  · rw [hbx] at c1
    have HE := Lib.hid (HM.out.bd.none_end HM.out.qb hPle)
    have th := HM.out.qb.at_.there 0 8 (by rw [Pc.size_arr]; decide)
    have HV : Hid (O = ⟨none, bot, W, R⟩) := Lib.hid (by rw [← HOut.out, hbx]; rfl)
    clear hbx
    go_wp2_with fail
    refine ⟨rfl, _, results_pc2 rfl _ _ P _ rfl HE.out.1, ?_⟩
    rw [HV.out]
    exact HE.out.2
  · rw [hbx] at c1
    obtain ⟨V, hV⟩ : ∃ V, looseQR R n0 W = V := ⟨_, rfl⟩
    have HVd : Hid (V = if (n0.kind = 7 ∧ 0 < R.list.length ∧ fallsK R.last.kind = false) ∨ (n0.kind = 8 ∧ 0 < W.length ∧ (W.headD Nd.zero).kind = 7) then 0 else if n0.kind = 9 then n0.pen else 10000) := Lib.hid hV.symm
    rw [hV, hbx] at HOut
    have HF := Lib.hid (HF.out hbx)
    rw [hV] at HF
    clear hV hbx
    go_upto_block 0 with (fail)
    clear c1
    obtain ⟨wq, wo, hWN, hWa⟩ := HM.out.bd.bd.of.waits
    have hwn : b.waitsN = W.length := HM.out.bd.bd.of.wn
    have c0 : w2.cell? ⟨b.sheet, 0, none⟩ = some (.slice c.listA R.list.length c.listC) := by rw [← owns_len HM.out.bd.bd.sht.of.list]; exact HM.out.bd.bd.sht.at_.cell 0 _ (Sc.get0 c)
    have cl : agg? w2 b.sheet 21 19 = some R.last.arr := by
      rw [← HM.out.bd.bd.sht.of.last, ← Sc.sub_last]
      exact HM.out.bd.bd.sht.at_.agg 21 19 (by rw [Sc.size_arr]; decide)
    have cw : w2.cell? ⟨B, 9, none⟩ = some (.slice b.waitsA W.length b.waitsC) := by rw [← hwn]; exact HM.out.bd.bd.at_.cell 9 _ (Bc.get9 b)
    have xn0 := HM.out.nb.at_.cell 0 _ (Nd.get0 n0)
    have xn12 := HM.out.nb.at_.cell 16 _ (Nd.get16 n0)
    have HWN := Lib.hid hWN
    obtain ⟨wk, hwk⟩ : ∃ x, (W.headD Nd.zero).kind = x := ⟨_, rfl⟩
    rw [hwk] at HVd
    have Hwk := Lib.hid hwk
    clear hWN hWa hwn hwk
    have HM0 := HM
    clear HM
    go_cut [8] from 23 to 68 (fun s8 wx => s8 = .int .i64 V ∧ Below w2.heap.size w2 wx)
    case first =>
      cases e7 : (n0.kind == 7)
      · have k7 : ¬ n0.kind = 7 := by simpa using e7
        cases e8 : (n0.kind == 8)
        · have k8 : ¬ n0.kind = 8 := by simpa using e8
          cases e9 : (n0.kind == 9)
          · have k9 : ¬ n0.kind = 9 := by simpa using e9
            have hv := Lib.hid (HVd.out.trans (show _ = (10000 : Int) by simp [k7, k8, k9]))
            clear k7 k8 k9
            go_wp2_with fail
            go_meet
            exact ⟨by rw [hv.out], Below.refl _ _⟩
          · have k9 : n0.kind = 9 := by simpa using e9
            have hv := Lib.hid (HVd.out.trans (show _ = n0.pen by simp [k9]))
            clear k7 k8 k9
            go_wp2_with fail
            go_meet
            exact ⟨by rw [hv.out], Below.refl _ _⟩
        · have k8 : n0.kind = 8 := by simpa using e8
          have e9 : (n0.kind == 9) = false := by rw [k8]; rfl
          by_cases hw : 0 < W.length
          · have hwne : W ≠ [] := by intro e; rw [e] at hw; simp at hw
            have ew : decide ((W.length : Int) > 0) = true := by simpa using hw
            have xw := agg_cell (head_agg HWN.out hwne) 0 _ (Nd.get0 _)
            rw [Nat.add_zero, Hwk.out] at xw
            rw [HWN.out.hp hwne] at cw
            cases ek : (wk == 7)
            · have kk : ¬ wk = 7 := by simpa using ek
              have hv := Lib.hid (HVd.out.trans (show _ = (10000 : Int) by rw [if_neg (by rintro (h | h); exact k7 h.1; exact kk h.2.2), if_neg (by rw [k8]; decide)]))
              clear k7 k8 kk
              go_wp2_with fail
              go_meet
              exact ⟨by rw [hv.out], Below.refl _ _⟩
            · have kk : wk = 7 := by simpa using ek
              have hv := Lib.hid (HVd.out.trans (show _ = (0 : Int) by rw [if_pos (.inr ⟨k8, hw, kk⟩)]))
              clear k7 k8 kk
              go_wp2_with fail
              go_meet
              exact ⟨by rw [hv.out], Below.refl _ _⟩
          · have ew : decide ((W.length : Int) > 0) = false := by simpa using hw
            have hv := Lib.hid (HVd.out.trans (show _ = (10000 : Int) by rw [if_neg (by rintro (h | h); exact k7 h.1; exact hw h.2.1), if_neg (by rw [k8]; decide)]))
            clear k7 k8
            go_wp2_with fail
            go_meet
            exact ⟨by rw [hv.out], Below.refl _ _⟩
      · have k7 : n0.kind = 7 := by simpa using e7
        have e8 : (n0.kind == 8) = false := by rw [k7]; rfl
        have e9 : (n0.kind == 9) = false := by rw [k7]; rfl
        by_cases hl : 0 < R.list.length
        · have el : decide ((R.list.length : Int) > 0) = true := by simpa using hl
          cases ef : fallsK R.last.kind
          · have hv := Lib.hid (HVd.out.trans (show _ = (0 : Int) by rw [if_pos (.inl ⟨k7, hl, ef⟩)]))
            clear k7
            go_wp2_with (go_at_call 105; refine (pfalls R.last _).mono ?_; rintro e w3 ⟨rfl, hb3⟩; have y0 := (HM0.out.below hb3).nb.at_.cell 0 _ (Nd.get0 n0))
            go_meet
            exact ⟨by rw [hv.out], hb3⟩
          · have hv := Lib.hid (HVd.out.trans (show _ = (10000 : Int) by rw [if_neg (by rintro (h | h); (rw [ef] at h; cases h.2.2); (rw [k7] at h; cases h.1)), if_neg (by rw [k7]; decide)]))
            clear k7
            go_wp2_with (go_at_call 105; refine (pfalls R.last _).mono ?_; rintro e w3 ⟨rfl, hb3⟩; have y0 := (HM0.out.below hb3).nb.at_.cell 0 _ (Nd.get0 n0))
            go_meet
            exact ⟨by rw [hv.out], hb3⟩
        · have el : decide ((R.list.length : Int) > 0) = false := by simpa using hl
          have hv := Lib.hid (HVd.out.trans (show _ = (10000 : Int) by rw [if_neg (by rintro (h | h); exact hl h.2.1; (rw [k7] at h; cases h.1)), if_neg (by rw [k7]; decide)]))
          clear k7
          go_wp2_with fail
          go_meet
          exact ⟨by rw [hv.out], Below.refl _ _⟩
    case rest =>
      obtain ⟨rfl, hb⟩ := hcut
      have HM := Lib.hid (HM0.out.below hb)
      clear hb c0 cl cw xn0 xn12 HWN HM0 HVd
      have HT := Lib.hid (btry wc base B r b c g bot W R V HM.out.bd.bd)
      go_upto_region 10 with (fail)
      go_cut [75] from 69 to 75 (fun s75 wx => s75 = .bool (decide (V < 10000) && firesR R V) ∧ ∃ c3 r3, LMid w base B r b g bot W N P n0 (some ⟨q, o, none⟩) q o cap X (triedQ R V) wx c3 r3)
      case first =>
        by_cases hv : V < 10000
        · have ev : decide (V < 10000) = true := decide_eq_true hv
          have hq := Lib.hid (show triedQ R V = triedR R V from if_pos hv)
          go_wp2_with (go_at_call 106; refine HT.out.mono ?_; rintro e w4 ⟨rfl, hgo⟩)
          go_meet
          refine ⟨by simp [ev], ?_⟩
          rw [hq.out]
          exact HM.out.go hgo
        · have ev : decide (V < 10000) = false := decide_eq_false hv
          have hq := Lib.hid (show triedQ R V = R from if_neg hv)
          go_wp2_with fail
          go_meet
          refine ⟨by simp [ev], ?_⟩
          rw [hq.out]
          exact ⟨_, _, HM.out⟩
      case rest =>
        clear HT HM
        obtain ⟨rfl, c3, r3, hM3⟩ := hcut
        have HM3 := Lib.hid hM3
        clear hM3
        cases hf : (decide (V < 10000) && firesR R V)
        · have HV : Hid (O = ⟨none, bot, W, addedR (triedQ R V) X⟩) := Lib.hid (by
            rw [← HOut.out, if_pos rfl, if_neg]
            rintro ⟨h1, h2⟩
            rw [decide_eq_true h1, h2] at hf
            cases hf)
          clear hf
          have HPut := Lib.hid (put_bd HM3.out.bd HM3.out.x (by rw [triedQ_list]; omega))
          go_upto_region 13 with (go_at_call 101; refine HPut.out.mono ?_; clear HPut; rintro e w5 hgo; obtain rfl := hgo.ret)
          obtain ⟨c5, r5, hM5⟩ := HM3.out.step hgo
          clear hgo HM3
          have HM5 := Lib.hid hM5
          clear hM5
          have y0 := HM5.out.nb.at_.cell 0 _ (Nd.get0 n0)
          cases e7 : (n0.kind == 7)
          · have k7 : ¬ n0.kind = 7 := by simpa using e7
            cases e8 : (n0.kind == 8)
            · have k8 : ¬ n0.kind = 8 := by simpa using e8
              have HA : Hid (addedR (triedQ R V) X = putR (triedQ R V) X) := Lib.hid (by unfold addedR; rw [Hn0.out, if_neg k7, if_neg k8])
              clear k7 k8
              have HE := Lib.hid (HM5.out.bd.none_end HM5.out.qb hPle)
              have th := HM5.out.qb.at_.there 0 8 (by rw [Pc.size_arr]; decide)
              go_wp2_with fail
              refine ⟨rfl, _, results_pc2 rfl _ _ P _ rfl HE.out.1, ?_⟩
              rw [HV.out, HA.out]
              exact HE.out.2
            · have k8 : n0.kind = 8 := by simpa using e8
              have HA : Hid (addedR (triedQ R V) X = growR (putR (triedQ R V) X) n0.w) := Lib.hid (by unfold addedR; rw [Hn0.out, if_neg k7, if_pos k8])
              clear k7 k8
              have y3 := HM5.out.nb.at_.cell 3 _ (Nd.get3 n0)
              have HG1 := Lib.hid (grow_any w5 base r5 b.sheet c5 _ n0.w HM5.out.bd.bd.sht)
              go_upto_region 19 with (go_at_call 102; refine HG1.out.mono ?_; clear HG1; rintro e w6 hgo; obtain rfl := hgo.ret)
              obtain ⟨c6, r6, hM6⟩ := HM5.out.step hgo
              have HE := Lib.hid (hM6.bd.none_end hM6.qb hPle)
              have th := hM6.qb.at_.there 0 8 (by rw [Pc.size_arr]; decide)
              clear hM6 hgo HM5 y3 y0
              go_wp2_with fail
              refine ⟨rfl, _, results_pc2 rfl _ _ P _ rfl HE.out.1, ?_⟩
              rw [HV.out, HA.out]
              exact HE.out.2
          · have k7 : n0.kind = 7 := by simpa using e7
            have HA : Hid (addedR (triedQ R V) X = flexR (growR (putR (triedQ R V) X) n0.glue.nat) n0.glue) := Lib.hid (by unfold addedR; rw [Hn0.out, if_pos k7])
            clear k7
            have y7 := HM5.out.nb.at_.cell 7 _ (Nd.get7 n0)
            have HG1 := Lib.hid (grow_any w5 base r5 b.sheet c5 _ n0.glue.nat HM5.out.bd.bd.sht)
            go_upto_region 16 with (go_at_call 102; refine HG1.out.mono ?_; clear HG1; rintro e w6 hgo; obtain rfl := hgo.ret)
            obtain ⟨c6, r6, hM6⟩ := HM5.out.step hgo
            have HM6 := Lib.hid hM6
            clear hM6 hgo HM5 y7 y0
            have yg : agg? w6 N 7 5 = some n0.glue.arr := HM6.out.nb.at_.agg 7 5 (by rw [Nd.size_arr]; decide)
            have HG2 := Lib.hid (flex_any w6 base r6 b.sheet c6 _ n0.glue HM6.out.bd.bd.sht HG.out.1 HG.out.2)
            go_upto_region 19 with (go_at_call 103; refine HG2.out.mono ?_; clear HG2; rintro e w7 hgo; obtain rfl := hgo.ret)
            obtain ⟨c7, r7, hM7⟩ := HM6.out.step hgo
            have HE := Lib.hid (hM7.bd.none_end hM7.qb hPle)
            have th := hM7.qb.at_.there 0 8 (by rw [Pc.size_arr]; decide)
            clear hM7 hgo HM6 yg
            go_wp2_with fail
            refine ⟨rfl, _, results_pc2 rfl _ _ P _ rfl HE.out.1, ?_⟩
            rw [HV.out, HA.out]
            exact HE.out.2
        · have h1 : V < 10000 := by cases h : decide (V < 10000) with
            | true => exact of_decide_eq_true h
            | false => rw [h] at hf; cases hf
          have h2 : firesR R V = true := by cases h : firesR R V with
            | true => rfl
            | false => rw [h, Bool.and_false] at hf; cases hf
          have HV : Hid (O = ⟨some PP, PP.bot, W', freshR g.height⟩) := Lib.hid (by rw [← HOut.out, if_pos rfl, if_pos ⟨h1, h2⟩])
          have HFC := Lib.hid (HF.out h1 h2 _ _ _ ((show triedQ R V = triedR R V from if_pos h1) ▸ HM3.out.bd.bd))
          clear h1 h2 hf
          have yn : agg? wc N 0 19 = some n0.arr := HM3.out.nb.at_.agg 0 19 (by rw [Nd.size_arr]; decide)
          go_wp2_with (go_at_call 107; refine HFC.out.mono ?_; clear HFC; rintro e w6 ⟨T, rfl, hFd⟩; have hE := HM3.out.bd.page_end HM3.out.qb hPle hFd; have th := hE.1)
          refine ⟨rfl, _, results_pc2 rfl _ _ P _ rfl hE.2.1, ?_⟩
          rw [HV.out]
          exact hE.2.2
end Go.Proofs.YtomehdepjenilaaGreat
