/-
  Inserts, plain: what a deal keeps: the page, its boxes and the rest have all that stood there (the law InsertsKept). No statement of the seat stands here.
-/
import Derived.Test.YtaehkbbdmamfpaaGreatDoorK6
import Derived.Test.YtaehkbbdmamfpaaGreatDoorQ13
import Derived.Test.YtaehkbbdmamfpaaGreatDoorI5
import Derived.Test.YtaehkbbdmamfpaaGreatDoorI26
import Derived.Test.YtaehkbbdmamfpaaGreatDoorI25
set_option maxRecDepth 100000
set_option maxHeartbeats 8000000
namespace Go.Proofs.YtaehkbbdmamfpaaGreatDoor
open Go.ChangeShapes Go.WideShapes Go.ChangeAt Go.RowKit
section
attribute [local go_sem ↓] Go.wp_at_zero Go.wp_at_succ
theorem qinside (b off cap : Nat) (L : List Nd) (x m : Nat) (hm : behC (L.drop x) 0 = some m) (h2 : 2 <= m) (hk : (nth L x).kind ≠ 6) (hlen : L.length <= 2000) (w : World) (hN : NIn w (some ⟨b, off, none⟩) b off cap L) :
 Calls Tryz.prog 37 #[.slice (some ⟨b, off, none⟩) L.length cap, .int .i64 x] w fun e w' => e = .returned (.slice (some ⟨b, off + (x + 1) * 19, none⟩) (insP L x).length (cap - (x + 1))) /\ Below w.heap.size w w' := by
 have HE := zzh (qends (some ⟨b, off, none⟩) b off cap L x m w hN hm hk)
 have hil := insP_len hm h2
 have hp := zaw _ _ _ hm
 rw [List.length_drop] at hp
 have hcp := hN.cap'
 obtain ⟨q, hq⟩ : ∃ q, x + m = q := ⟨_, rfl⟩
 rw [hq] at HE
 have h1 : (0 : Int) <= (x : Int) + 1 := by omega
 have h3 : (x : Int) + 1 <= (q : Int) - 1 := by omega
 have h4 : (q : Int) - 1 <= (cap : Int) := by omega
 have hl2 : (insP L x).length = q - 1 - (x + 1) := by omega
 have Hl2 := zzh hl2
 clear hm hk hN hil hl2
 go_enter Tryz.func37, Tryz.ntmps37
 go_wp2_with fail
 refine HE.out.mono ?_
 clear HE
 rintro e w2 ⟨rfl, hb2⟩
 go_wp2_with fail
 go_ret
 rw [Hl2.out]
 exact ⟨rfl, hb2⟩
end
section
section
variable {w0 W W' : World} {xs : Nat -> List Nd} {m : Nat -> Bool} {us : Nat -> Value}
end
/-! ### Plain: the page -/
theorem ahead_split {L : List Nd} {t : Nat} (hs : Items L 0 (itsP L)) (ht : t ∈ itsP L \/ t = L.length) : (itsP L).takeWhile (fun x : Nat => decide ((x : Int) < (t : Int))) = itsP (L.take t) := by
 have hi := zbL hs ht
 rw [itsP_eq hi]
 refine wh_below (r := (itsP L).dropWhile (· != t)) ?_ (fun x hx => ?_) (fun x hx => ?_)
 · unfold zaF; exact (List.takeWhile_append_dropWhile).symm
 ·
  have := (hi.lt x hx).2
  rw [List.length_take] at this
  omega
 ·
  have hne : x = t := by
   cases hd : (itsP L).dropWhile (· != t) with
   | nil => rw [hd] at hx; cases hx
   | cons y r =>
    rw [hd] at hx
    cases hx
    have := List.head_dropWhile_not (p := (· != t)) (l := itsP L) (by rw [hd]; simp)
    simp only [hd, List.head_cons, bne_eq_false_iff_eq] at this
    exact this
  omega
attribute [local go_sem ↓] Go.wp_at_zero Go.wp_at_succ
theorem qdimen_any (x : Int) (w : World) : Calls Tryz.prog 35 #[.int .i64 x] w fun e w' => e = .returned (.bool (zac x)) /\ w = w' := by
 go_enter Tryz.func35, Tryz.ntmps35
 go_wp2
 all_goals go_ret
 all_goals exact ⟨by simp [zac]; omega, rfl⟩
theorem qheld_any (x : Int) (w : World) : Calls Tryz.prog 136 #[.int .i64 x] w fun e w' => e = .returned (.int .i64 (max (-1073741823) (min x 1073741823))) /\ w = w' := by
 go_enter Tryz.func136, Tryz.ntmps136
 go_wp2
 all_goals go_ret
 all_goals exact ⟨zan (by omega), rfl⟩
theorem qscaled (x k : Int) (h1 : -8910000000000 <= x) (h2 : x <= 8910000000000) (k1 : 0 <= k) (k2 : k <= 100000) (w : World) :
 Calls Tryz.prog 118 #[.int .i64 x, .int .i64 k] w fun e w' => e = .returned (.int .i64 (zaT x k)) /\ w = w' := by
 by_cases hk : k = 1000
 ·
  subst hk
  have hv := zzh (show zaT x 1000 = holdI x by unfold zaT; rw [if_pos rfl])
  go_enter Tryz.func118, Tryz.ntmps118
  go_wp2
  all_goals go_ret
  all_goals exact ⟨zan (by rw [hv.out]; unfold holdI; omega), rfl⟩
 have hk' : (k == 1000) = false := by simpa using hk
 have hq := zcx x 1000 8910000000000 h1 h2 (by omega)
 have hv : zaT x k = (if x.tdiv 1000 = 0 \/ k = 0 then 0 else
  if 70368744177664 < x.tdiv 1000 \/ x.tdiv 1000 < -70368744177664 \/ 70368744177664 < k \/ k < -70368744177664 then hugeI (x.tdiv 1000) k else
  if (70368744177664 : Int).tdiv (max k (-k)) < max (x.tdiv 1000) (-(x.tdiv 1000)) then hugeI (x.tdiv 1000) k else holdI (x.tdiv 1000 * k)) := by
  unfold zaT; rw [if_neg hk]
 obtain ⟨q, hqq⟩ : ∃ q, x.tdiv 1000 = q := ⟨_, rfl⟩
 rw [hqq] at hq hv
 obtain ⟨q1, q2⟩ := hq
 have hw : wrap64 q = q := by unfold wrap64; omega
 have hqx : wrap64 (x.tdiv 1000) = q := by rw [hqq, hw]
 have Hv := zzh hv
 clear hv
 go_enter Tryz.func118, Tryz.ntmps118
 go_upto_region 4 with (fail)
 by_cases e1 : q = 0
 ·
  have hv1 := zzh (show zaT x k = 0 by rw [Hv.out, if_pos (.inl e1)])
  have e1' : (q == 0) = true := by simpa using e1
  clear hqq hqx hw
  go_wp2_with fail
  go_ret
  exact ⟨zan hv1.out.symm, rfl⟩
 have e1' : (q == 0) = false := by simpa using e1
 by_cases e2 : k = 0
 ·
  have hv1 := zzh (show zaT x k = 0 by rw [Hv.out, if_pos (.inr e2)])
  have e2' : (k == 0) = true := by simpa using e2
  clear hqq hqx hw e2
  go_wp2_with fail
  all_goals
   go_ret
   exact ⟨zan hv1.out.symm, rfl⟩
 have e2' : (k == 0) = false := by simpa using e2
 rw [if_neg (by omega), if_neg (by omega)] at Hv
 have hmk : max k (-k) = k := by omega
 rw [hmk] at Hv
 have ht := zcx 70368744177664 k 70368744177664 (by omega) (by omega) (by omega)
 have htv : wrap64 ((70368744177664 : Int).tdiv k) = (70368744177664 : Int).tdiv k := by unfold wrap64; omega
 have ht0 : 0 <= (70368744177664 : Int).tdiv k := Int.tdiv_nonneg (by omega) (by omega)
 obtain ⟨t, htt⟩ : ∃ t, (70368744177664 : Int).tdiv k = t := ⟨_, rfl⟩
 have Htt := zzh htt
 rw [htt] at Hv htv ht ht0
 have hkn : decide (k < 0) = false := decide_eq_false (by omega)
 have hkm : decide (70368744177664 < k) = false := decide_eq_false (by omega)
 have htw : wrap64 ((70368744177664 : Int).tdiv k) = t := by rw [Htt.out, htv]
 have hte : (70368744177664 : Int) / k = t := by rw [<- Htt.out, Int.tdiv_eq_ediv_of_nonneg (by omega)]
 clear hqq hqx hw htt htv hmk
 by_cases b1 : t < q
 ·
  have hvv := zzh (show zaT x k = 70368744177664 by
   rw [Hv.out, if_pos (by omega)]
   unfold hugeI
   rw [hkn, decide_eq_false (by omega), if_pos rfl])
  have hd : decide (t < q) = true := decide_eq_true b1
  clear Hv
  go_wp2_with fail
  go_ret
  exact ⟨zan hvv.out.symm, rfl⟩
 have hd1 : decide (t < q) = false := decide_eq_false b1
 by_cases b2 : q < -t
 ·
  have hvv := zzh (show zaT x k = -70368744177664 by
   rw [Hv.out, if_pos (by omega)]
   unfold hugeI
   rw [hkn, decide_eq_true (by omega), if_neg (by decide)])
  have hd : decide (q < -t) = true := decide_eq_true b2
  clear Hv
  go_wp2_with fail
  go_ret
  exact ⟨zan hvv.out.symm, rfl⟩
 ·
  have hd2 : decide (q < -t) = false := decide_eq_false b2
  have hqk : -70368744177664 <= q * k /\ q * k <= 70368744177664 := by
   have h3 : t * k <= 70368744177664 := by rw [<- Htt.out]; exact Int.tdiv_mul_le _ (by omega)
   have h4 : q * k <= t * k := Int.mul_le_mul_of_nonneg_right (by omega) (by omega)
   have h5 : -t * k <= q * k := Int.mul_le_mul_of_nonneg_right (by omega) (by omega)
   have h6 : -t * k = -(t * k) := Int.neg_mul _ _
   omega
  have hvv := zzh (show zaT x k = q * k by
   rw [Hv.out, if_neg (by omega)]
   unfold holdI
   omega)
  obtain ⟨m, hm⟩ : ∃ m, q * k = m := ⟨_, rfl⟩
  have Hm := zzh hm
  rw [hm] at hqk
  have hmw : wrap64 (q * k) = m := by rw [hm]; unfold wrap64; omega
  clear Hv hm
  go_wp2_with fail
  go_ret
  exact ⟨zan (by rw [hvv.out, Hm.out]), rfl⟩
def bdQCl (parts : Array (Nat × Value)) : Sem Value := Instr.build 88 parts
@[go_sem ↓] theorem execOp_buildQCl (ρ : Operand -> Value) (dst : Option Tmp) (x : Array (Nat × Operand)) (ty : TypeId) (pos : String) (after : Array Edge) (guard : Option (Nat × Bool)) :
 execOp ρ { dst, op := .build 88 x, type := ty, pos, after, guard } = (do pure (.value (<- bdQCl (x.map fun (i, y) => (i, ρ y))))) := rfl
@[go_sem] theorem run_bdQCl (w : World) : (bdQCl #[(0, .int .i64 1000), (1, .int .i64 1073741823)]).run Tryz.prog w = .ok (.agg Cl.plain.arr) w := by kernel_rfl
@[go_sem] theorem run_bdQCl4 (a b c : Int) (g : Gl) (w : World) : (bdQCl #[(0, .int .i64 a), (1, .int .i64 b), (2, .int .i64 c), (3, .agg g.arr)]).run Tryz.prog w = .ok (.agg (Cl.mk a b c g).arr) w := by kernel_rfl
theorem qclass (p0 : Option Addr) (b off cap : Nat) (C : List Cl) (k : Nat) (hk : k <= 1000000) (w : World) (hC : CIn w p0 b off cap C) :
 Calls Tryz.prog 115 #[.slice p0 C.length cap, .int .i64 k] w fun e w' => e = .returned (.agg (zcv C k).arr) /\ Below w.heap.size w w' := by
 have hk0 : (0 : Int) <= (k : Int) := by omega
 by_cases hlt : k < C.length
 ·
  have hv := zzh (show zcv C k = C[k] by unfold zcv; rw [Int.toNat_natCast, List.getElem?_eq_getElem hlt]; rfl)
  have ha : ∀ W, Below w.heap.size w W -> agg? W b (off + k * 8) 8 = some C[k].arr := fun W hb => (hC.below hb).cl k hlt
  have hlt1 : (k : Int) < (C.length : Int) := by omega
  have hlt2 : decide (k < C.length) = true := decide_eq_true hlt
  obtain rfl := hC.at_ hlt
  have a1 := ha _ ((Below.refl _ _).alloc (Nat.le_refl _) (.cells (Cl.mk 0 0 0 ⟨0, 0, 0, 0, 0⟩).arr 88))
  generalize C[k] = y at hv a1
  clear hC ha hlt
  go_enter Tryz.func115, Tryz.ntmps115
  go_wp2_with fail
  refine ret_qcl rfl w.heap.size 0 y rfl (agg?_Cl _ _ _ _ _ rfl) rfl ⟨by rw [hv.out], (Below.refl _ _).alloc (Nat.le_refl _) _⟩
 ·
  have hv := zzh (show zcv C k = Cl.plain by unfold zcv; rw [Int.toNat_natCast, List.getElem?_eq_none (by omega)]; rfl)
  have hlt1 : ¬ ((k : Int) < (C.length : Int)) := by omega
  have hlt2 : decide (k < C.length) = false := decide_eq_false hlt
  clear hC hlt
  go_enter Tryz.func115, Tryz.ntmps115
  go_wp2_with fail
  refine ret_qcl rfl w.heap.size 0 Cl.plain rfl (agg?_Cl _ _ _ _ _ rfl) rfl ⟨by rw [hv.out], (Below.refl _ _).alloc (Nat.le_refl _) _⟩
end
section
attribute [local go_sem ↓] Go.wp_at_zero Go.wp_at_succ
theorem qright (y : Cl) (w : World) : Calls Tryz.prog 114 #[.agg y.arr] w fun e w' => e = .returned (.bool (zaR y)) /\ Below w.heap.size w w' := by
 have hb0 : Below w.heap.size w (w.alloc (.cells y.arr 88)) := (Below.refl _ _).alloc (Nat.le_refl _) _
 have d0 := heap_alloc_new w (.cells y.arr 88)
 go_enter Tryz.func114, Tryz.ntmps114
 go_upto_region 1 with (fail)
 obtain ⟨Q, hQ⟩ : ∃ Q, w.heap.size = Q := ⟨_, rfl⟩
 rw [hQ] at d0 ⊢
 have Hb0 := zzh hb0
 clear hb0 hQ
 generalize w.alloc (.cells y.arr 88) = w2 at d0 Hb0 ⊢
 have hQl : Q < w2.heap.size := (Array.getElem?_eq_some_iff.1 d0).1
 have D0 : Hid (∀ W, Below w2.heap.size w2 W -> W.heap[Q]? = some (.cells y.arr 88 (0, 0))) := zzh fun W hb => (hb.block Q hQl).trans d0
 have x0 : w2.cell? ⟨Q, 0, none⟩ = some (.int .i64 y.scale) := by rw [cell?_blk' d0]; rfl
 have x1 : w2.cell? ⟨Q, 1, none⟩ = some (.int .i64 y.most) := by rw [cell?_blk' d0]; rfl
 have x2 : w2.cell? ⟨Q, 2, none⟩ = some (.int .i64 y.have_) := by rw [cell?_blk' d0]; rfl
 have x3 : agg? w2 Q 3 5 = some y.skip.arr := by rw [agg?_blk' d0 3 5 (by rw [Cl.size_arr]; decide)]; rfl
 clear d0
 by_cases h0 : 0 <= y.scale
 case neg =>
  have hv := zzh (show zaR y = false by simp [zaR]; omega)
  have hd : decide (0 <= y.scale) = false := decide_eq_false h0
  clear h0
  go_wp2_with fail
  go_ret
  exact ⟨zaa hv.out.symm, Hb0.out⟩
 have hd0 : decide (0 <= y.scale) = true := decide_eq_true h0
 by_cases h1 : y.scale <= 100000
 case neg =>
  have hv := zzh (show zaR y = false by simp [zaR]; omega)
  have hd : decide (y.scale <= 100000) = false := decide_eq_false h1
  clear h0 h1
  go_wp2_with fail
  go_ret
  exact ⟨zaa hv.out.symm, Hb0.out⟩
 have hd1 : decide (y.scale <= 100000) = true := decide_eq_true h1
 by_cases h2 : 0 <= y.most
 case neg =>
  have hv := zzh (show zaR y = false by simp [zaR]; omega)
  have hd : decide (0 <= y.most) = false := decide_eq_false h2
  clear h0 h1 h2
  go_wp2_with fail
  go_ret
  exact ⟨zaa hv.out.symm, Hb0.out⟩
 have hd2 : decide (0 <= y.most) = true := decide_eq_true h2
 by_cases h3 : y.most <= 1073741823
 case neg =>
  have hv := zzh (show zaR y = false by simp [zaR]; omega)
  have hd : decide (y.most <= 1073741823) = false := decide_eq_false h3
  clear h0 h1 h2 h3
  go_wp2_with fail
  go_ret
  exact ⟨zaa hv.out.symm, Hb0.out⟩
 have hd3 : decide (y.most <= 1073741823) = true := decide_eq_true h3
 by_cases h4 : 0 <= y.have_
 case neg =>
  have hv := zzh (show zaR y = false by simp [zaR]; omega)
  have hd : decide (0 <= y.have_) = false := decide_eq_false h4
  clear h0 h1 h2 h3 h4
  go_wp2_with fail
  go_ret
  exact ⟨zaa hv.out.symm, Hb0.out⟩
 have hd4 : decide (0 <= y.have_) = true := decide_eq_true h4
 by_cases h5 : y.have_ <= 1073741823
 case neg =>
  have hv := zzh (show zaR y = false by simp [zaR]; omega)
  have hd : decide (y.have_ <= 1073741823) = false := decide_eq_false h5
  clear h0 h1 h2 h3 h4 h5
  go_wp2_with fail
  go_ret
  exact ⟨zaa hv.out.symm, Hb0.out⟩
 have hd5 : decide (y.have_ <= 1073741823) = true := decide_eq_true h5
 have hgood : zaR y = (y.skip.good && (y.skip.ho == 0 || y.skip.shr == 0)) := by
  unfold zaR
  rw [decide_eq_true ⟨h0, h1⟩, decide_eq_true ⟨h2, h3⟩, decide_eq_true ⟨h4, h5⟩]
  rfl
 have Hgood := zzh hgood
 clear h0 h1 h2 h3 h4 h5 hgood
 cases hg : y.skip.good
 ·
  have HC := zzh (zcp y.skip 30 (by rw [hg]; rfl) w2)
  have hv := zzh (show zaR y = false by rw [Hgood.out, hg]; rfl)
  clear hg
  go_wp2_with (go_at_call 129; refine HC.out.mono ?_; clear HC; rintro e w3 ⟨rfl, hb3⟩)
  go_ret
  exact ⟨zaa hv.out.symm, Hb0.out.trans (hb3.mono Hb0.out.size)⟩
 have HC := zzh (zcp y.skip 0 (by rw [hg]; rfl) w2)
 have Hg := zzh hg
 clear hg
 cases hs : (y.skip.shr == 0) <;> cases ho : (y.skip.ho == 0)
 all_goals
  have hv := zzh (show zaR y = _ by rw [Hgood.out, Hg.out, hs, ho])
  go_wp2_with (go_at_call 129; refine HC.out.mono ?_; clear HC; rintro e w3 ⟨rfl, hb3⟩; (have d3 := D0.out _ hb3); (have x5 : w3.cell? ⟨Q, 5, none⟩ = some (.int .i64 y.skip.shr) := by rw [cell?_blk' d3]; rfl); (have x7 : w3.cell? ⟨Q, 7, none⟩ = some (.int .i64 y.skip.ho) := by rw [cell?_blk' d3]; rfl); clear d3)
  go_ret
  exact ⟨zaa (by rw [hv.out]; rfl), Hb0.out.trans (hb3.mono Hb0.out.size)⟩
theorem qcheckC12 (p0 : Option Addr) (b off cap : Nat) (C : List Cl) (w : World) (hC : CIn w p0 b off cap C) :
 Calls Tryz.prog 65 #[.slice p0 C.length cap] w fun e w' => e = .returned (.int .i64 (clsC C)) /\ Below w.heap.size w w' := by
 have H := zzh hC
 clear hC
 by_cases hn : 255 < C.length
 ·
  have hv := zzh (show clsC C = 1 by unfold clsC; rw [if_pos hn])
  have hn1 : (255 : Int) < (C.length : Int) := by omega
  clear hn
  go_enter Tryz.func65, Tryz.ntmps65
  go_wp2_with fail
  go_ret
  exact ⟨zan hv.out.symm, Below.refl _ _⟩
 have hn1 : ¬ ((255 : Int) < (C.length : Int)) := by omega
 have HV : Hid (clsC C = if C.all zaR then 0 else 1) := zzh (by unfold clsC; rw [if_neg hn])
 go_enter Tryz.func65, Tryz.ntmps65
 go_wp2_with fail
 go_loopg [3] (C.length + 1) (fun gg t3 wr => ∃ k : Nat, gg = C.length + 1 - k /\ k <= C.length /\ t3 = .int .i64 k /\ (∀ j (h : j < C.length), j < k -> zaR C[j] = true) /\ Below w.heap.size w wr)
 case atStart => exact ⟨0, rfl, Nat.zero_le _, rfl, fun j _ hj => by omega, Below.refl _ _⟩
 case round =>
  obtain ⟨k, rfl, hk, rfl, hok, hb⟩ := hrel
  have hk0 : (0 : Int) <= (k : Int) := by omega
  by_cases hlt : k < C.length
  ·
   have hlt1 : (k : Int) < (C.length : Int) := by omega
   have ha := (H.out.below hb).cl k hlt
   obtain rfl := H.out.at_ hlt
   have hgood : zaR C[k] = true -> ∀ j (h : j < C.length), j < k + 1 -> zaR C[j] = true := fun h j hj hj2 => by
    by_cases e : j = k
    · subst e; exact h
    · exact hok j hj (by omega)
   have hbad : zaR C[k] = false -> clsC C = 1 := fun h => by
    rw [HV.out, if_neg]
    intro h2
    rw [List.all_eq_true.1 h2 _ (List.getElem_mem hlt)] at h
    cases h
   have Hg := zzh hgood
   have Hbd := zzh hbad
   have Hlt := zzh hlt
   generalize C[k] = y at ha Hg Hbd
   have Hb := zzh hb
   have HQ := zzh (qright y wr)
   clear hgood hbad hok hb hlt HV
   cases hc : zaR y
   ·
    rw [hc] at HQ
    have hv := zzh (Hbd.out hc)
    clear hc
    go_wp2_with (go_at_call 114; refine HQ.out.mono ?_; clear HQ; rintro e w3 ⟨rfl, hb3⟩)
    go_ret
    exact ⟨zan hv.out.symm, Hb.out.trans (hb3.mono Hb.out.size)⟩
   ·
    rw [hc] at HQ
    have hg := zzh (Hg.out hc)
    clear hc
    go_wp2_with (go_at_call 114; refine HQ.out.mono ?_; clear HQ; rintro e w3 ⟨rfl, hb3⟩)
    go_roundg (C.length + 1 - (k + 1))
    case measure => have := Hlt.out; omega
    case rel => exact ⟨k + 1, rfl, Hlt.out, by go_num, hg.out, Hb.out.trans (hb3.mono Hb.out.size)⟩
  ·
   obtain rfl : k = C.length := by omega
   have hall : C.all zaR = true := List.all_eq_true.2 fun x hx => by
    obtain ⟨j, hj, rfl⟩ := List.getElem_of_mem hx
    exact hok j hj hj
   have hv := zzh (show clsC C = 0 by rw [HV.out, if_pos hall])
   clear hall hok HV
   go_wp2_with fail
   go_ret
   exact ⟨zan hv.out.symm, hb⟩
/-! ### The errors of a list -/
theorem qcolumns (p0 : Option Addr) (b off cap : Nat) (L : List Nd) (w : World) (hN : NIn w p0 b off cap L) :
 Calls Tryz.prog 66 #[.slice p0 L.length cap] w fun e w' => e = .returned (.int .i64 (if colQ L = 0 then insE L (itsP L) else colQ L)) /\ Below w.heap.size w w' := by
 have HC := zzh (qcolumn p0 b off cap L (itsP L) (fun h => zaO h) w hN)
 rw [show colP L (itsP L) = colQ L from rfl] at HC
 have H := zzh hN
 clear hN
 obtain ⟨E0, hE0⟩ : ∃ E0, colQ L = E0 := ⟨_, rfl⟩
 rw [hE0] at HC ⊢
 obtain ⟨RES, hRES⟩ : ∃ RES, (if E0 = 0 then insE L (itsP L) else E0) = RES := ⟨_, rfl⟩
 rw [hRES]
 have HRES := zzh hRES
 clear hRES
 go_enter Tryz.func66, Tryz.ntmps66
 go_upto_region 2 with (go_at_call 23; refine HC.out.mono ?_; clear HC; rintro e w2 ⟨rfl, hb2⟩)
 by_cases h0 : E0 = 0
 case neg =>
  have h0' : (E0 != 0) = true := by simpa using h0
  have hv := zzh (show RES = E0 by rw [<- HRES.out, if_neg h0])
  clear h0 hE0
  go_wp2_with fail
  go_ret
  exact ⟨zan hv.out.symm, hb2⟩
 subst h0
 have hck := zam hE0
 have hrun := (check_run.1 hck).2
 have hll := (check_run.1 hck).1
 obtain ⟨s, hs⟩ : ∃ s, itsP L = s := ⟨_, rfl⟩
 have hit := hrun.its
 have hk6 : ∀ x ∈ itsP L, (nth L x).kind ≠ 6 := fun x hx => zcF hrun hx
 rw [hs] at hit hk6
 have hE : insE L s = RES := by rw [<- HRES.out, if_pos rfl, hs]
 clear HRES
 have HSt := zzh (zdb p0 b off cap L s w2 (H.out.below hb2) hit hk6)
 have HS := zzh (And.intro hit (And.intro hk6 hE))
 have Hb2 := zzh hb2
 have hsl := hit.len
 clear hit hk6 hE hs hE0 hck hb2
 go_upto_region 5 with (go_at_call 21; refine HSt.out.mono ?_; clear HSt; rintro e w3 ⟨⟨v, rfl, hrow⟩, hb3⟩)
 obtain ⟨p, gi, c, rfl, hII⟩ := zcG hrow
 have Hb3 := zzh (Hb2.out.trans (hb3.mono Hb2.out.size))
 clear hrow hb3
 go_wp2_with fail
 go_loopg [3, 5] (s.length + 1) (fun gg t3 t5 wr => ∃ (i k : Nat), gg = s.length + 1 - i /\ i <= s.length /\ t3 = .int .i64 0 /\ t5 = .int .i64 i /\ insE L (s.drop i) = RES /\ Items L k (s.drop i) /\ Below w3.heap.size w3 wr)
 case atStart => exact ⟨0, 0, rfl, Nat.zero_le _, rfl, rfl, by rw [List.drop_zero]; exact HS.out.2.2, by rw [List.drop_zero]; exact HS.out.1, .refl _ _⟩
 case round =>
  obtain ⟨i, k, rfl, hi, rfl, rfl, hE, hit, hbl⟩ := hrel
  have hi1 : (0 : Int) <= (i : Int) := by omega
  by_cases hin : i < s.length
  ·
   have hi2 : (i : Int) < (s.length : Int) := by omega
   have cI := (hII.below hbl).at_ i hin
   have hne : s ≠ [] := by intro e; rw [e] at hin; simp at hin
   obtain rfl := hII.hp hne
   have hdr := List.drop_eq_getElem_cons hin
   rw [hdr] at hE hit
   have hmem : s[i] ∈ s := List.getElem_mem hin
   obtain ⟨x, hx⟩ : ∃ x, s[i] = x := ⟨_, rfl⟩
   rw [hx] at cI hE hit hmem
   clear hx hdr
   cases hit with
   | step hxl hm hs2 =>
    rename_i m
    have hN2 := H.out.below (Hb3.out.trans (hbl.mono Hb3.out.size))
    have xa := hN2.nth hxl
    obtain rfl := hN2.at_ hxl
    have hx1 : (0 : Int) <= (k : Int) := by omega
    have hx2 : (k : Int) < (L.length : Int) := by omega
    obtain ⟨n, hn⟩ : ∃ n, nth L k = n := ⟨_, rfl⟩
    unfold insE at hE
    rw [hn] at xa hE
    have cK : wr.cell? ⟨b, off + k * 19, none⟩ = some (.int .i64 n.kind) := zau xa 0 _ (Nd.get0 n)
    have hk6 := HS.out.2.1 k hmem
    have hm2 := zaw _ _ _ hm
    rw [List.length_drop] at hm2
    have hcapL := hN2.cap'
    have Hin := zzh hin
    have HS2 := zzh hs2
    have Hbl := zzh hbl
    by_cases h13 : n.kind = 13
    ·
     rw [if_pos h13] at hE
     have h2m := opens_two hxl (by rw [hn, h13]; rfl) hm
     have HIn := zzh (qinside b off cap L k m hm h2m hk6 hll wr hN2)
     have hNi : ∀ W, Below wr.heap.size wr W -> NIn W (some ⟨b, off + (k + 1) * 19, none⟩) b (off + (k + 1) * 19) (cap - (k + 1)) (insP L k) := fun W hW => by
      have h1 := ((hN2.below hW).drop (k + 1) (by omega)).take (m - 2)
      rw [zcc hm]
      exact h1
     have HCo : Hid (∀ W, Below wr.heap.size wr W -> Calls Tryz.prog 23 #[.slice (some ⟨b, off + (k + 1) * 19, none⟩) (insP L k).length (cap - (k + 1))] W fun e w' => e = .returned (.int .i64 (colQ (insP L k))) /\ Below W.heap.size W w') := zzh fun W hW => qcolumn _ b _ _ (insP L k) (itsP (insP L k)) (fun h => zaO h) W (hNi W hW)
     rw [h13] at cK
     obtain ⟨Q, hQ⟩ : ∃ Q, colQ (insP L k) = Q := ⟨_, rfl⟩
     rw [hQ] at HCo hE
     have HE := zzh hE
     clear h13 hE hn xa hm hs2 hbl hin hN2 hNi hk6 h2m hm2 hQ hmem
     go_upto_region 10 with (first | (go_at_call 37; refine HIn.out.mono ?_; clear HIn; rintro e w4 ⟨rfl, hb4⟩) | (go_at_call 23; refine (HCo.out _ hb4).mono ?_; clear HCo; rintro e w5 ⟨rfl, hb5⟩))
     have Hb5 := zzh (Hbl.out.trans ((hb4.trans (hb5.mono hb4.size)).mono Hbl.out.size))
     clear hb4 hb5
     by_cases hq : Q = 0
     ·
      have hE2 := HE.out
      rw [if_pos hq] at hE2
      have HE2 := zzh hE2
      clear hE2 HE
      subst hq
      go_wp2_with fail
      go_roundg (s.length + 1 - (i + 1))
      case measure => have := Hin.out; omega
      case rel => exact ⟨i + 1, k + m, rfl, Hin.out, rfl, by go_num, HE2.out, HS2.out, Hb5.out⟩
     ·
      have hE2 := HE.out
      rw [if_neg hq] at hE2
      have hq' : (Q != 0) = true := by simpa using hq
      have HE2 := zzh hE2
      clear hE2 HE hq
      go_wp2_with fail
      go_ret
      exact ⟨zan HE2.out, Hb3.out.trans (Hb5.out.mono Hb3.out.size)⟩
    ·
     rw [if_neg h13] at hE
     have h13' : (n.kind == 13) = false := by simpa using h13
     have HE := zzh hE
     clear h13 hE hn xa hm hs2 hbl hin hN2 hk6 hm2 hmem
     generalize n.kind = kk at cK h13'
     go_wp2_with fail
     go_roundg (s.length + 1 - (i + 1))
     case measure => have := Hin.out; omega
     case rel => exact ⟨i + 1, k + m, rfl, Hin.out, rfl, by go_num, HE.out, HS2.out, Hbl.out⟩
  ·
   obtain rfl : i = s.length := by omega
   rw [List.drop_length] at hE
   have hE2 : RES = 0 := hE.symm
   subst hE2
   clear hE
   go_wp2_with fail
   go_ret
   exact ⟨rfl, Hb3.out.trans (hbl.mono Hb3.out.size)⟩
theorem qwrong (p0 : Option Addr) (b off cap : Nat) (L : List Nd) (pc : Option Addr) (bc oc cc : Nat) (C : List Cl) (w : World) (hN : NIn w p0 b off cap L) (hC : CIn w pc bc oc cc C) :
 Calls Tryz.prog 33 #[.slice p0 L.length cap, .slice pc C.length cc] w fun e w' => e = .returned (.int .i64 (accE L C)) /\ Below w.heap.size w w' := by
 have HC := zzh (qcheckC12 pc bc oc cc C w hC)
 have HL : Hid (∀ W, Below w.heap.size w W -> Calls Tryz.prog 66 #[.slice p0 L.length cap] W fun e w' => e = .returned (.int .i64 (if colQ L = 0 then insE L (itsP L) else colQ L)) /\ Below W.heap.size W w') := zzh fun W h => qcolumns p0 b off cap L W (hN.below h)
 have hv : accE L C = if clsC C = 0 then (if colQ L = 0 then insE L (itsP L) else colQ L) else clsC C := rfl
 rw [hv]
 generalize (if colQ L = 0 then insE L (itsP L) else colQ L) = E at HL ⊢
 obtain ⟨Q, hQ⟩ : ∃ Q, clsC C = Q := ⟨_, rfl⟩
 rw [hQ] at HC ⊢
 clear hN hC hv hQ
 by_cases hq : Q = 0
 ·
  rw [if_pos hq]
  subst hq
  go_enter Tryz.func33, Tryz.ntmps33
  go_wp2_with (first | (go_at_call 65; refine HC.out.mono ?_; clear HC; rintro e w2 ⟨rfl, hb2⟩) | (go_at_call 66; refine (HL.out _ hb2).mono ?_; clear HL; rintro e w3 ⟨rfl, hb3⟩))
  go_ret
  exact ⟨rfl, hb2.trans (hb3.mono hb2.size)⟩
 ·
  rw [if_neg hq]
  have hq' : (Q != 0) = true := by simpa using hq
  clear hq
  go_enter Tryz.func33, Tryz.ntmps33
  go_wp2_with (go_at_call 65; refine HC.out.mono ?_; clear HC; rintro e w2 ⟨rfl, hb2⟩)
  go_ret
  exact ⟨rfl, hb2⟩
end
end Go.Proofs.YtaehkbbdmamfpaaGreatDoor
