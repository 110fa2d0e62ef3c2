/-
  Inserts: what is left of a split; does an item begin there: the program's.
-/
import Derived.Test.YtaehkbbdmamfpaaGreatDoorI12
import Derived.Test.YtaehkbbdmamfpaaGreatDoorI11
import Derived.Test.YtaehkbbdmamfpaaGreatDoorV11
set_option maxRecDepth 100000
set_option maxHeartbeats 8000000
namespace Go.Proofs.YtaehkbbdmamfpaaGreatDoor
open Go.ChangeShapes Go.WideShapes Go.ChangeAt Go.RowKit
attribute [local go_sem ↓] Go.wp_at_zero Go.wp_at_succ
def totR (L : List Nd) : Tt × Int := if zao L = 0 then (if zac (sumP L (itsP L)).nat then (sumP L (itsP L), 0) else (.zero, 20)) else (.zero, zao L)
theorem zbZ {fn : Func} {p t : Tmp} (h : fn.results = #[.cell p 43, .tmp t]) (tmps : Array Value) (w : World) (b : Nat) (T : Tt) (hp : tmps.getD p undef = .pointer (some ⟨b, 0, none⟩)) (hc : agg? w b 0 9 = some T.arr) :
 (results fn tmps).run Tryz.prog w = .ok (.tuple #[.agg T.arr, tmps.getD t undef]) w := by
 have hl : (loadVar 43 ⟨b, 0, none⟩).run Tryz.prog w = .ok (.agg T.arr) w := by
  have := zat (P := Tryz.prog) 43 9 _ u_tt rfl i_tt b 0 w
  rw [hc, zcz] at this
  simpa [Instr.loadAt, Instr.sureAddr] using this
 have hp' : tmps[p]?.getD undef = .pointer (some ⟨b, 0, none⟩) := by simpa using hp
 simp [results, h, hp', asAddr, hl]
theorem totals9 (p0 : Option Addr) (b off cap : Nat) (L : List Nd) (w : World) (hN : NIn w p0 b off cap L) :
 Calls Tryz.prog 60 #[.slice p0 L.length cap, .bool true] w fun e w' => e = .returned (.tuple #[.agg (totR L).1.arr, .int .i64 (totR L).2]) /\ Below w.heap.size w w' := by
 have hb0 : Below w.heap.size w (w.alloc (.cells (Tt.mk 0 0 0 0 0 0 0 0 0).arr 43)) := (Below.refl _ _).alloc (Nat.le_refl _) _
 have dR : TAt (w.alloc (.cells (Tt.mk 0 0 0 0 0 0 0 0 0).arr 43)) w.heap.size ⟨0, 0, 0, 0, 0, 0, 0, 0, 0⟩ := heap_alloc_new w _
 have HC := zzh (check_any p0 b off cap L _ (hN.below hb0))
 have H := zzh hN
 have HB0 := zzh hb0
 have HdR := zzh dR
 clear hN hb0 dR
 obtain ⟨E, hE⟩ : ∃ E, zao L = E := ⟨_, rfl⟩
 rw [hE] at HC
 have HE := zzh hE
 clear hE
 go_enter Tryz.func60, Tryz.ntmps60
 go_upto_region 1 with (fail)
 generalize w.alloc (.cells (Tt.mk 0 0 0 0 0 0 0 0 0).arr 43) = w1 at HC HB0 HdR ⊢
 obtain ⟨R, hR⟩ : ∃ R, w.heap.size = R := ⟨_, rfl⟩
 have HR := zzh hR
 rw [hR] at HdR ⊢
 have hRle : w.heap.size <= R := by omega
 clear hR
 go_upto_region 2 with (go_at_call 20; refine HC.out.mono ?_; clear HC; rintro e w2 ⟨rfl, hb2⟩)
 have hT2 := HdR.out.bel hb2
 have th := hT2.there
 have HT2 := zzh hT2
 have HB2 := zzh (HB0.out.trans (hb2.mono HB0.out.size))
 clear hT2 hb2 HB0 HdR
 by_cases h0 : E = 0
 case neg =>
  have h0' : (E != 0) = true := by simpa using h0
  have hv := zzh (show totR L = (.zero, E) by unfold totR; rw [if_neg (by rw [HE.out]; exact h0), HE.out])
  clear h0
  go_wp2_with fail
  refine ⟨rfl, _, zbZ rfl _ _ R _ rfl (HT2.out.store (U := .zero)).agg, ?_⟩
  rw [hv.out]
  exact ⟨rfl, Below.setAgg HB2.out hRle _ _⟩
 subst h0
 have hs := zaO HE.out
 have hll := (zaj HE.out).1
 have hr := zaQ HE.out
 have HS := zzh (sum9 p0 b off cap L (itsP L) hll hs (fun x hx => by have := (hs.lt x hx).2; rw [zaV this]; exact nb_of (hr _ (List.getElem_mem this))) w2 (H.out.below HB2.out))
 have hv : totR L = if zac (sumP L (itsP L)).nat then (sumP L (itsP L), 0) else (.zero, 20) := by unfold totR; rw [if_pos HE.out]
 obtain ⟨T, hT⟩ : ∃ T, sumP L (itsP L) = T := ⟨_, rfl⟩
 rw [hT] at HS hv
 have Hv := zzh hv
 clear hv hT hs hll hr th
 go_upto_region 5 with (go_at_call 110; refine HS.out.mono ?_; clear HS; rintro e w3 ⟨rfl, hb3⟩)
 have hT3 := HT2.out.bel hb3
 have dT := heap_alloc_new w3 (.cells T.arr 43)
 have hba : Below w3.heap.size w3 (w3.alloc (.cells T.arr 43)) := (Below.refl _ _).alloc (Nat.le_refl _) _
 have hT4 := hT3.bel hba
 have HB4 := zzh (HB2.out.trans ((hb3.trans (hba.mono hb3.size)).mono HB2.out.size))
 have hne : w3.heap.size ≠ R := by have := hT3.lt; omega
 clear hT3 hba hb3 HB2 HT2
 generalize w3.alloc (.cells T.arr 43) = w4 at dT hT4 HB4 ⊢
 obtain ⟨X, hX⟩ : ∃ X, w3.heap.size = X := ⟨_, rfl⟩
 rw [hX] at dT hne ⊢
 clear hX
 have c0 : w4.cell? ⟨X, 0, none⟩ = some (.int .i64 T.nat) := by rw [cell?_blk' dT]; rfl
 have hba := (Below.refl w4.heap.size w4).alloc (Nat.le_refl _) (.cells #[.int .i64 T.nat] 3)
 have HD := zzh (dimen_1 w4.heap.size 1 T.nat (w4.alloc (.cells #[.int .i64 T.nat] 3)) (by rw [cell?_blk' (heap_alloc_new _ _)]; rfl))
 have hT5 := hT4.bel hba
 have dT5 := (hba.block X (Array.getElem?_eq_some_iff.1 dT).1).trans dT
 have HB5 := zzh (HB4.out.trans (hba.mono HB4.out.size))
 have HT5 := zzh (And.intro hT5 dT5)
 obtain ⟨dm, hdm⟩ : ∃ dm, dims1 T.nat = dm := ⟨_, rfl⟩
 rw [hdm] at HD
 have Hdm := zzh (show zac T.nat = dm from hdm)
 clear hba hT5 dT5 hT4 HB4 hdm dT
 go_upto_region 5 with (fail)
 go_upto_if 21 with (go_at_call 81; refine HD.out.mono ?_; clear HD; rintro e w6 ⟨rfl, rfl⟩)
 generalize w4.alloc (.cells #[.int .i64 T.nat] 3) = w5 at HT5 HB5 ⊢
 have th := HT5.out.1.there
 cases dm
 ·
  have hv := zzh (Hv.out.trans (by rw [Hdm.out]; rfl : _ = ((.zero : Tt), (20 : Int))))
  go_wp2_with fail
  refine ⟨rfl, _, zbZ rfl _ _ R _ rfl (HT5.out.1.store (U := .zero)).agg, ?_⟩
  rw [hv.out]
  exact ⟨rfl, Below.setAgg HB5.out hRle _ _⟩
 ·
  have hv := zzh (Hv.out.trans (by rw [Hdm.out]; rfl : _ = (T, (0 : Int))))
  have aT : agg? w5 X 0 9 = some T.arr := (show TAt w5 X T from HT5.out.2).agg
  go_wp2_with fail
  refine ⟨rfl, _, zbZ rfl _ _ R _ rfl (HT5.out.1.store (U := T)).agg, ?_⟩
  rw [hv.out]
  exact ⟨rfl, Below.setAgg HB5.out hRle _ _⟩
theorem place_end {L : List Nd} {tk : Int} (h : ∀ x ∈ itsP L, (x : Int) < tk) : zbm L tk = (tk == (L.length : Int)) := by
 unfold zbm
 rw [show ((itsP L).any fun x => (x : Int) == tk) = false from ?_, Bool.or_false]
 rw [List.any_eq_false]
 intro x hx
 have := h x hx
 simp; omega
theorem place_mid {L : List Nd} {tk : Int} {d r : List Nat} {pos : Nat} (hs : itsP L = d ++ pos :: r) (hd : ∀ x ∈ d, (x : Int) < tk) (hr : ∀ x ∈ r, pos < x) (hp : tk <= (pos : Int)) (hl : pos < L.length) : zbm L tk = ((pos : Int) == tk) := by
 unfold zbm
 rw [hs, List.any_append, List.any_cons]
 have h1 : (d.any fun x => (x : Int) == tk) = false := by
  rw [List.any_eq_false]
  intro x hx
  have := hd x hx
  simp; omega
 have h2 : (r.any fun x => (x : Int) == tk) = false := by
  rw [List.any_eq_false]
  intro x hx
  have := hr x hx
  simp; omega
 rw [h1, h2, show (tk == (L.length : Int)) = false by simp; omega]
 simp
theorem iplace (p0 : Option Addr) (b off cap : Nat) (L : List Nd) (hc : zao L = 0) (tk : Int) (w : World) (hN : NIn w p0 b off cap L) :
 Calls Tryz.prog 29 #[.slice p0 L.length cap, .int .i64 tk] w fun e w' => (0 <= tk -> e = .returned (.bool (zbm L tk))) /\ (∃ q : Bool, e = .returned (.bool q)) /\ Below w.heap.size w w' := by
 have H := zzh hN
 have hs := zaO hc
 have Hs := zzh (And.intro hc hs)
 have hll := (zaj hc).1
 clear hN hs
 go_enter Tryz.func29, Tryz.ntmps29
 go_wp2_with fail
 go_loopg [5] ((itsP L).length + 1) (fun gg t5 wr => ∃ (pos : Nat) (d r : List Nat), gg = r.length + 1 /\ t5 = .int .i64 pos /\ itsP L = d ++ r /\ Items L pos r /\ (∀ x ∈ d, (x : Int) < tk) /\ Below w.heap.size w wr)
 case atStart => exact ⟨0, [], _, rfl, rfl, rfl, Hs.out.2, (fun x hx => by cases hx), Below.refl _ _⟩
 case round =>
  obtain ⟨pos, d, r, rfl, rfl, hsd, hit, hd, hb⟩ := hrel
  have hp1 : (0 : Int) <= (pos : Int) := by omega
  cases hit with
  | done =>
   have hv := zzh (place_end (L := L) (tk := tk) (by rw [hsd, List.append_nil]; exact hd))
   have hlf : decide (L.length < L.length) = false := by simp
   have hcomm : ((L.length : Int) == tk) = (tk == (L.length : Int)) := by rw [Bool.eq_iff_iff]; simp; omega
   have Hc := zzh hcomm
   clear hsd hd hcomm
   by_cases hlt : (L.length : Int) < tk
   ·
    have h1 : decide ((L.length : Int) < tk) = true := decide_eq_true hlt
    clear hlt
    go_wp2_with fail
    go_ret
    exact ⟨fun _ => zaa (by rw [hv.out, <- Hc.out]), ⟨_, rfl⟩, hb⟩
   ·
    have h1 : decide ((L.length : Int) < tk) = false := decide_eq_false hlt
    clear hlt
    go_wp2_with fail
    go_ret
    exact ⟨fun _ => zaa (by rw [hv.out, <- Hc.out]), ⟨_, rfl⟩, hb⟩
  | @step _ m r hi hm hit2 =>
   have hp2 : (pos : Int) < (L.length : Int) := by omega
   have hlf : decide (pos < L.length) = true := decide_eq_true hi
   have hmem : pos ∈ itsP L := by rw [hsd]; simp
   by_cases hlt : (pos : Int) < tk
   ·
    have h1 : decide ((pos : Int) < tk) = true := decide_eq_true hlt
    have HI := zzh (item9 p0 b off cap L _ Hs.out.1 Hs.out.2 pos m hmem hm wr (H.out.below hb))
    have hd2 : ∀ x ∈ d ++ [pos], (x : Int) < tk := fun x hx => by
     rcases List.mem_append.1 hx with h | h
     · exact hd x h
     · simp only [List.mem_singleton] at h; rw [h]; exact hlt
    have HX := zzh (And.intro hd2 (And.intro hsd (And.intro hit2 hb)))
    clear hd hd2 hsd hit2 hb hm hmem hlt
    go_wp2_with (go_at_call 30; refine HI.out.mono ?_; clear HI; rintro e w4 ⟨rfl, hb4⟩)
    go_roundg (r.length + 1)
    case measure => simp only [List.length_cons]; omega
    case rel => exact ⟨pos + m, d ++ [pos], r, rfl, by go_num, by rw [HX.out.2.1]; simp, HX.out.2.2.1, HX.out.1, HX.out.2.2.2.trans (hb4.mono HX.out.2.2.2.size)⟩
   ·
    have h1 : decide ((pos : Int) < tk) = false := decide_eq_false hlt
    have hpm := zaw _ _ _ hm
    have hv := zzh (place_mid hsd hd (fun x hx => by have := (hit2.lt x hx).1; omega) (by omega) hi)
    clear hsd hit2 hm hmem hlt hd
    go_wp2_with fail
    go_ret
    exact ⟨fun _ => zaa hv.out.symm, ⟨_, rfl⟩, hb⟩
/-! ### What is left -/
theorem NIn.other {w w' : World} {p : Option Addr} {b off cap : Nat} {L : List Nd} (h : NIn w p b off cap L) (hs : L ≠ [] -> w'.heap[b]? = w.heap[b]?) (hz : w.heap.size <= w'.heap.size) : NIn w' p b off cap L :=
 ⟨h.hp, fun e => Nat.lt_of_lt_of_le (h.hb e) hz, fun j hj => (agg?_block (hs (h.ne hj))).trans (h.nd j hj), h.cap', h.len⟩
theorem own_lit (w : World) (n : Nd) : (w.alloc (.cells n.arr 53)).ownsRow w.heap.size 53 19 (.slice (some ⟨w.heap.size, 0, none⟩) 1 1) 1 n.cells :=
 ⟨rfl, .inr ⟨w.heap.size, 1, n.arr, rfl, Nat.le_refl _, heap_alloc_new w _, Nat.le_refl _, by decide, rfl, rfl⟩⟩
theorem left_tot {n : Nd} {Q q : List Nd} (h1 : zca Q (itsP Q) n.glue = 0) (h2 : zbU Q n.glue (itsP Q) [] = q) (h3 : q.length ≠ 0) : zdc n Q = if (totR q).2 = 0 then (({ n with h := (totR q).1.nat } :: q) ++ [endN], 0) else ([], (totR q).2) := by
 unfold zdc
 rw [if_pos h1]
 simp only [h2]
 rw [if_neg h3]
 unfold totR natV
 by_cases hc : zao q = 0
 ·
  rw [if_pos hc, if_pos hc]
  cases hd : zac (sumP q (itsP q)).nat
  · rfl
  · rfl
 ·
  rw [if_neg hc, if_neg hc]
  simp [hc]
theorem left_nil {n : Nd} {Q : List Nd} (h1 : zca Q (itsP Q) n.glue = 0) (h2 : (zbU Q n.glue (itsP Q) []).length = 0) : zdc n Q = ([], 0) := by
 unfold zdc
 rw [if_pos h1]
 simp only
 rw [if_pos h2]
theorem prun_len {Q : List Nd} {s : List Nat} {g : Gl} (h : zca Q s g = 0) : (zbU Q g s []).length <= 2000 := by
 unfold zca at h
 split at h
 ·
  split at h
  ·
   split at h
   · cases h
   · omega
  · cases h
 · rename_i hn; exact absurd h hn
structure LeftPost (w : World) (r : List Nd × Int) (e : Ending) (w' : World) : Prop where
 good : r.2 = 0 -> ∃ v, e = .returned (.tuple #[v, .nilIface]) /\ NRow w v r.1 w'
 bad : r.2 ≠ 0 -> ∃ X, e = .returned (.tuple #[.slice none 0 0, .iface 75 (.pointer (some ⟨X, 0, none⟩))]) /\ w.heap.size <= X /\ w'.heap[X]? = some (.cells #[.int .i64 r.2] 79 (0, 0))
 below : Below w.heap.size w w'
theorem ileft (n : Nd) (p0 : Option Addr) (b off cap : Nat) (Q : List Nd) (w : World) (hN : NIn w p0 b off cap Q) :
 Calls Tryz.prog 31 #[.agg n.arr, .slice p0 Q.length cap] w (LeftPost w (zdc n Q)) := by
 have hb0 : Below w.heap.size w (w.alloc (.cells n.arr 53)) := (Below.refl _ _).alloc (Nat.le_refl _) _
 have d0 : Blk (w.alloc (.cells n.arr 53)) w.heap.size n.arr 53 := heap_alloc_new w _
 have HP := zzh (vprune p0 b off cap Q (itsP Q) n.glue zaO _ (hN.below hb0))
 have Hb0 := zzh hb0
 have Hd0 := zzh d0
 clear hN hb0 d0
 obtain ⟨E, hE⟩ : ∃ E, zca Q (itsP Q) n.glue = E := ⟨_, rfl⟩
 have HE := zzh hE
 go_enter Tryz.func31, Tryz.ntmps31
 go_upto_region 1 with (fail)
 generalize w.alloc (.cells n.arr 53) = w1 at HP Hb0 Hd0 ⊢
 obtain ⟨N, hNN⟩ : ∃ N, w.heap.size = N := ⟨_, rfl⟩
 have HN := zzh hNN
 rw [hNN] at Hd0 ⊢
 have hNle : w.heap.size <= N := by omega
 have hN0 : N < w1.heap.size := Hd0.out.lt
 clear hNN
 have a7 : agg? w1 N 7 5 = some n.glue.arr := by rw [agg?_blk' Hd0.out 7 5 (by rw [Nd.size_arr]; decide)]; rfl
 by_cases h0 : E = 0
 case neg =>
  have h0' : (E != 0) = true := by simpa using h0
  have hv := zzh (show zdc n Q = ([], E) by unfold zdc; rw [if_neg (by rw [hE]; exact h0), hE])
  clear hE
  go_upto_region 2 with (go_at_call 59; refine HP.out.mono ?_; clear HP; rintro e w2 hp; obtain ⟨v, rfl, _, hbad⟩ := hp.ex; (have hv9 := hbad (by rw [HE.out]; exact h0)); (have hb2 := hp.below); rw [HE.out]; subst hv9; clear hp hbad)
  have HB2 := zzh (Hb0.out.trans (hb2.mono Hb0.out.size))
  clear hb2 a7
  go_wp2_with fail
  go_ret2
  rw [hv.out]
  exact ⟨fun h => absurd h h0, fun _ => ⟨w2.heap.size, rfl, HB2.out.size, heap_alloc_new w2 _⟩, HB2.out.alloc HB2.out.size _⟩
 subst h0
 obtain ⟨q, hq⟩ : ∃ q, zbU Q n.glue (itsP Q) [] = q := ⟨_, rfl⟩
 have hql := prun_len hE
 rw [hq] at hql
 have HQ := zzh (And.intro hE hq)
 clear hE hq
 go_upto_region 2 with (go_at_call 59; refine HP.out.mono ?_; clear HP; rintro e w2 hp; obtain ⟨v, rfl, hgd, _⟩ := hp.ex; (have hr2 := hgd HE.out); (have hb2 := hp.below); rw [HE.out]; rw [HQ.out.2] at hr2; clear hp hgd; obtain ⟨_, p4, g4, c4, rfl, hN4, hg4⟩ := zbS hr2 (by omega))
 have HN4 := zzh (And.intro hN4 hg4)
 have HB2 := zzh (Hb0.out.trans (hb2.mono Hb0.out.size))
 have Hd2 := zzh (Hd0.out.below hb2)
 clear hr2 hb2 hN4 hg4 a7 Hd0 Hb0
 by_cases hz : q.length = 0
 ·
  have hv := zzh (left_nil HQ.out.1 (by rw [HQ.out.2]; exact hz))
  have hz1 : ((q.length : Int) == 0) = true := by simp; exact List.length_eq_zero_iff.1 hz
  have hz2 : (q.length == 0) = true := by simp; exact List.length_eq_zero_iff.1 hz
  go_wp2_with fail
  all_goals
   first
    | (go_ret2
       rw [hv.out]
       exact ⟨fun _ => ⟨.slice none 0 0, rfl, World.ownsRow_nil _ _ _ _⟩, fun h => absurd rfl h, HB2.out⟩)
    | (exfalso; omega)
 have hz2 : (q.length == 0) = false := by simp; intro e; rw [e] at hz; simp at hz
 have hvt := zzh (left_tot HQ.out.1 HQ.out.2 hz)
 have HT := zzh (totals9 p4 g4 0 c4 q w2 HN4.out.1)
 obtain ⟨T, code, hT⟩ : ∃ T code, totR q = (T, code) := ⟨_, _, rfl⟩
 rw [hT] at HT
 have hvt2 := hvt.out
 rw [hT] at hvt2
 have Hvt := zzh hvt2
 clear hvt hvt2 hT
 go_upto_region 6 with (fail)
 go_upto_region 7 with (go_at_call 60; refine HT.out.mono ?_; clear HT; rintro e w3 ⟨rfl, hb3⟩)
 have dT := heap_alloc_new w3 (.cells T.arr 43)
 have hba := hb3.trans (((Below.refl w3.heap.size w3).alloc (Nat.le_refl _) (.cells T.arr 43)).mono hb3.size)
 have hNlt : N < w3.heap.size := Nat.lt_of_lt_of_le Hd2.out.lt hb3.size
 have H4 := zzh (And.intro (HN4.out.1.below hba) (And.intro (Hd2.out.below hba) (HB2.out.trans (hba.mono HB2.out.size))))
 clear hb3 hba HB2 Hd2
 generalize w3.alloc (.cells T.arr 43) = w4 at dT H4 ⊢
 obtain ⟨X, hX⟩ : ∃ X, w3.heap.size = X := ⟨_, rfl⟩
 rw [hX] at dT hNlt ⊢
 clear hX
 by_cases hcd : code = 0
 case neg =>
  have hcd' : (code != 0) = true := by simpa using hcd
  go_wp2_with fail
  go_ret2
  rw [Hvt.out]
  simp only [if_neg hcd]
  exact ⟨fun h => absurd h hcd, fun _ => ⟨w4.heap.size, rfl, H4.out.2.2.size, heap_alloc_new w4 _⟩, H4.out.2.2.alloc H4.out.2.2.size _⟩
 subst hcd
 have hvt := zzh (Hvt.out.trans (if_pos rfl))
 clear Hvt
 have c0 : w4.cell? ⟨X, 0, none⟩ = some (.int .i64 T.nat) := by rw [cell?_blk' dT]; rfl
 have c4 := H4.out.2.1.cell 4 _ (Nd.get4 n)
 have f4 := H4.out.2.1.frozen 4
 obtain ⟨m, hm⟩ : ∃ m : Nd, { n with h := T.nat } = m := ⟨_, rfl⟩
 have hd5 : Blk (w4.setCell ⟨N, 4, none⟩ (.int .i64 T.nat)) N m.arr 53 := by rw [<- hm]; exact H4.out.2.1.set 4 _ _ (Nd.set4 n T.nat)
 have hbN : Below N w4 (w4.setCell ⟨N, 4, none⟩ (.int .i64 T.nat)) := Below.setCell (p := ⟨N, 4, none⟩) (Below.refl N w4) (Nat.le_refl _) _
 have hqne : q ≠ [] := by intro e; rw [e] at hz; exact hz rfl
 obtain rfl := HN4.out.1.hp hqne
 have hg4 : N < g4 := Nat.lt_of_lt_of_le hN0 (HN4.out.2 hqne)
 have hN5 := H4.out.1.other (w' := w4.setCell ⟨N, 4, none⟩ (.int .i64 T.nat)) (fun _ => Below.heap_setCell _ _ _ _ (by simp only; omega)) hbN.size
 have Hm := zzh hm
 have H5 := zzh (And.intro hd5 (And.intro hN5 (H4.out.2.2.trans ⟨hbN.os, hbN.tape, hbN.output, hbN.size, fun k hk => hbN.block k (by omega)⟩)))
 clear hd5 hN5 hbN hm H4 dT hN0
 go_upto_region 10 with (fail)
 generalize w4.setCell ⟨N, 4, none⟩ (.int .i64 T.nat) = w5 at H5 ⊢
 clear c0 c4 f4
 have aN : agg? w5 N 0 19 = some m.arr := by rw [agg?_blk' H5.out.1 0 19 (by rw [Nd.size_arr]; decide)]; simp [Nd.arr, Nd.cells]
 obtain ⟨i0, hi0', hz0, hz1, hz2'⟩ := info_parts zbq
 have hb6 := (Below.refl w5.heap.size w5).alloc (Nat.le_refl _) (.cells m.arr 53)
 have hN6 := H5.out.2.1.below hb6
 have Hnews := zzh (And.intro hN6.news (zax q))
 have Hrow := zzh (own_lit w5 m)
 have Hlt6 : Hid (q ≠ [] -> g4 < w5.heap.size) := zzh fun e => H5.out.2.1.hb e
 have hqp : 0 < q.length := by omega
 have HB6 := zzh (H5.out.2.2.trans (hb6.mono H5.out.2.2.size))
 have HB5z : w.heap.size <= w5.heap.size := H5.out.2.2.size
 clear hN6 hb6 H5
 have hen : ({ Nd.zero with kind := 6 } : Nd) = endN := rfl
 go_upto_region 10 with (fail)
 go_wp2_with (at_builtin; first | (refine wpList_append_lies _ rfl _ _ _ rfl w5.heap.size 53 i0 (.agg Nd.zero.arr) 19 160 Tryz.underlying22 hi0' hz0 hz1 hz2' rfl (by decide) (.slice (some ⟨w5.heap.size, 0, none⟩) 1 1) 1 m.cells rfl Hrow.out ⟨g4, 0, none⟩ q.length _ (q.flatMap Nd.cells) rfl (zaA q) Hnews.out.1 Hnews.out.2 hqp (by unfold maxLen; omega) (by omega) (by simp) _ rfl ?_; intro g7 cap7 w7 hown7 hgrow7 hat7 hlt7; have Hown7 := zzh (hown7.alloc (.cells endN.arr 53)); have Hgrow7 := zzh hgrow7; have hz7 := hgrow7.size; have hat7' := zzh (hown7.lt g7 rfl); clear hown7 hgrow7 hat7 hlt7) | (refine wpList_append_lies _ rfl _ _ _ rfl w5.heap.size 53 i0 (.agg Nd.zero.arr) 19 160 Tryz.underlying22 hi0' hz0 hz1 hz2' rfl (by decide) (.slice (some ⟨g7, 0, none⟩) (1 + q.length) cap7) (1 + q.length) _ rfl Hown7.out ⟨w7.heap.size, 0, none⟩ 1 1 endN.cells rfl rfl (World.news_of_block (cs := endN.arr) (heap_alloc_new _ _)) (by intro u hu; have := zax [endN]; simp at this; exact this u hu) (by decide) (by unfold maxLen; omega) (by omega) (by simp at hz7 ⊢; omega) _ rfl ?_; intro g9 cap9 w9 hown9 hgrow9 hat9 hlt9))
 have hb7 : Below w.heap.size w w7 := HB6.out.trans (grown_low Hgrow7.out HB6.out.size fun k hk => by simp only [Value.ownBlock, Option.some.injEq] at hk; omega)
 have hb9 : Below w.heap.size w w9 := (hb7.alloc hb7.size (.cells endN.arr 53)).trans (grown_low hgrow9 (by rw [World.size_alloc]; have := hb7.size; omega) fun k hk => by simp only [Value.ownBlock, Option.some.injEq] at hk; have := hat7'.out.1; omega)
 have hrl : ((m :: q) ++ [endN]).length = 1 + q.length + 1 := by simp; omega
 have hrow : NRow w (.slice (some ⟨g9, 0, none⟩) (1 + q.length + 1) cap9) ((m :: q) ++ [endN]) w9 := by
  unfold NRow
  rw [hrl, List.flatMap_append, List.flatMap_cons, List.flatMap_singleton]
  exact zas hown9 HB5z
 go_ret2
 rw [hvt.out, Hm.out]
 exact ⟨fun _ => ⟨_, rfl, hrow⟩, fun h => absurd rfl h, hb9⟩
end Go.Proofs.YtaehkbbdmamfpaaGreatDoor
