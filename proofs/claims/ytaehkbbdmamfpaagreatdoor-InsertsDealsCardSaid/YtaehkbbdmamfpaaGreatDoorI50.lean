/-
  Inserts, the document's side: what goes where (Deal) is the program's (arms printed by gen_i50.py after XI30). No statement of the seat stands here.
-/
import Derived.Test.YtaehkbbdmamfpaaGreatDoorI41
import Derived.Test.YtaehkbbdmamfpaaGreatDoorI49
import Derived.Test.YtaehkbbdmamfpaaGreatDoorI25
import Derived.Test.YtaehkbbdmamfpaaGreatDoorI30
namespace Go.Proofs.YtaehkbbdmamfpaaGreatDoor
open Go.ChangeShapes Go.WideShapes Go.ChangeAt Go.RowKit
attribute [local go_sem ↓] Go.wp_at_zero Go.wp_at_succ
theorem run_append_void {w : World} {P : Program} (base : Nat) (t ty e : TypeId) (i : TypeInfo) (size c : Nat) (ht : P.underlying t = some (.slice e)) (hi : P.info? e = some i)
 (v : Value) (n : Nat) (xs : List Value) (hown : w.ownsRow base e size v n xs) :
 (Builtin.append_ #[t, t] ty #[v, .slice none 0 c]).run P w = .ok v w := by
 rcases hown.2 with ⟨rfl, rfl⟩ | ⟨g, cap, cur, rfl, _, _, hnc, _⟩
 · simp [Builtin.append_, run_underlying ht, sizeOf, typeInfo, hi, Builtin.lenOf, Builtin.firstCells]
 · simp [Builtin.append_, run_underlying ht, sizeOf, typeInfo, hi, Builtin.lenOf, Builtin.firstCells, hnc, storeCells]
theorem wpList_append_void {P : Program} {w : World} {ops : Array Oper} {rest : List Oper} {o : Oper} {a : Act} {Q : Exit -> Act -> World -> Prop} (hgd : o.guard = none) (s x : Operand) (t : TypeId)
 (ho : o.op = .call { callee := .builtin .append, args := #[s, x], argTypes := #[t, t] })
 (base : Nat) (e : TypeId) (i : TypeInfo) (size c : Nat) (ht : P.underlying t = some (.slice e)) (hi : P.info? e = some i)
 (v : Value) (n : Nat) (xs : List Value) (hs : a.eval s = v) (hown : w.ownsRow base e size v n xs) (hx : a.eval x = .slice none 0 c)
 (h : wpList P ops Q rest (a.put o.dst v) w) : wpList P ops Q (o :: rest) a w := by
 refine wpList_plain hgd fun K hK => ?_
 have hrun := run_append_void (P := P) (w := w) base t o.type e i size c ht hi v n xs hown
 unfold Oper.wp
 simp [execOp, ho, resolve, invoke, builtin, hs, hx, hrun, Result.andThen]
 exact hK _ _ h
set_option maxRecDepth 100000 in
set_option maxHeartbeats 16000000 in
theorem qdeal (p0 : Option Addr) (b off cap : Nat) (L : List Nd) (tk : Int) (pc : Option Addr) (bc oc cc : Nat) (C : List Cl) (goal depth : Int) (w : World) (hN : NIn w p0 b off cap L) (hC : CIn w pc bc oc cc C) :
 Calls Tryz.prog 9 #[.slice p0 L.length cap, .int .i64 tk, .slice pc C.length cc, .int .i64 goal, .int .i64 depth] w (zcw w (zbt L tk C goal depth)) := by
 have hcp := hN.cap'
 have HW := zzh (qwrong p0 b off cap L pc bc oc cc C w hN hC)
 have H := zzh (And.intro hN hC)
 clear hN hC
 obtain ⟨E, hE⟩ : ∃ E, accE L C = E := ⟨_, rfl⟩
 rw [hE] at HW
 have HE := zzh hE
 clear hE
 have HBad : Hid (∀ (q : Int) W, Below w.heap.size w W -> zbt L tk C goal depth = .bad q -> zcw w (zbt L tk C goal depth) (.returned (.tuple #[.slice none 0 0, .slice none 0 0, .slice none 0 0, .int .i64 q])) W) := zzh fun q W hb h => by
  rw [h]
  exact ⟨⟨fun _ => .slice none 0 0, .slice none 0 0, rfl, dlIn_nil _ _⟩, hb⟩
 obtain ⟨E2, hE2⟩ : ∃ E2, errD L tk C goal depth = E2 := ⟨_, rfl⟩
 have HE2 := zzh hE2
 go_enter Tryz.func9, Tryz.ntmps9
 go_upto_region 2 with (go_at_call 33; refine HW.out.mono ?_; clear HW; rintro e w2 ⟨rfl, hb2⟩)
 have Hb2 := zzh hb2
 clear hb2
 unfold errD at hE2
 rw [HE.out] at hE2
 by_cases h0 : E = 0
 case neg =>
  rw [if_neg h0] at hE2
  have h0' : (E != 0) = true := by simpa using h0
  have h0'' : (E == 0) = false := by simpa using h0
  have hv := zzh (show zbt L tk C goal depth = .bad E by rw [errD_bad (by rw [HE2.out, <- hE2]; exact h0), HE2.out, hE2])
  clear h0 hE2
  go_wp2_with fail
  refine bodyPost_ret (zai rfl _ _ _) rfl ?_
  exact HBad.out E _ Hb2.out hv.out
 subst h0
 rw [if_pos rfl] at hE2
 have hok := accE_ok HE.out
 have hck := zam hok.col
 have HPl := zzh (qplace p0 b off cap L hck tk w2 (H.out.1.below Hb2.out))
 cases hp : zbm L tk
 ·
  rw [hp] at hE2 HPl
  have hv := zzh (show zbt L tk C goal depth = .bad 3 by
   have h3 : errD L tk C goal depth = 3 := by rw [HE2.out, <- hE2]; rfl
   rw [errD_bad (by rw [h3]; decide), h3])
  clear hE2 hp hok hck
  go_wp2_with (go_at_call 34; refine HPl.out.mono ?_; clear HPl; rintro e w3 ⟨rfl, hb3⟩)
  refine bodyPost_ret (zai rfl _ _ _) rfl ?_
  exact HBad.out 3 _ (Hb2.out.trans (hb3.mono Hb2.out.size)) hv.out
 rw [hp] at hE2 HPl
 rw [if_pos rfl] at hE2
 have HG : Hid (∀ W, Calls Tryz.prog 35 #[.int .i64 goal] W fun e w' => e = .returned (.bool (zac goal)) /\ W = w') := zzh fun W => qdimen_any goal W
 have HD : Hid (∀ W, Calls Tryz.prog 35 #[.int .i64 depth] W fun e w' => e = .returned (.bool (zac depth)) /\ W = w') := zzh fun W => qdimen_any depth W
 obtain ⟨dg, hdg⟩ : ∃ dg, zac goal = dg := ⟨_, rfl⟩
 obtain ⟨dd, hdd⟩ : ∃ dd, zac depth = dd := ⟨_, rfl⟩
 rw [hdg] at HG hE2
 rw [hdd] at HD hE2
 have Hdg := zzh (And.intro hdg hdd)
 clear hdg hdd
 cases dg
 ·
  have hv := zzh (show zbt L tk C goal depth = .bad 11 by
   have h3 : errD L tk C goal depth = 11 := by rw [HE2.out, <- hE2]; rfl
   rw [errD_bad (by rw [h3]; decide), h3])
  clear hE2 hp hok hck
  go_wp2_with (first | (go_at_call 34; refine HPl.out.mono ?_; clear HPl; rintro e w3 ⟨rfl, hb3⟩) | (go_at_call 35; refine (HG.out _).mono ?_; rintro e w4 ⟨rfl, rfl⟩))
  refine bodyPost_ret (zai rfl _ _ _) rfl ?_
  exact HBad.out 11 _ (Hb2.out.trans (hb3.mono Hb2.out.size)) hv.out
 cases dd
 ·
  have hv := zzh (show zbt L tk C goal depth = .bad 11 by
   have h3 : errD L tk C goal depth = 11 := by rw [HE2.out, <- hE2]; rfl
   rw [errD_bad (by rw [h3]; decide), h3])
  clear hE2 hp hok hck
  go_wp2_with (first | (go_at_call 34; refine HPl.out.mono ?_; clear HPl; rintro e w3 ⟨rfl, hb3⟩) | (go_at_call_has 35 goal; refine (HG.out _).mono ?_; rintro e w4 ⟨rfl, rfl⟩) | (go_at_call_has 35 depth; refine (HD.out _).mono ?_; rintro e w4 ⟨rfl, rfl⟩))
  refine bodyPost_ret (zai rfl _ _ _) rfl ?_
  exact HBad.out 11 _ (Hb2.out.trans (hb3.mono Hb2.out.size)) hv.out
 obtain ⟨t, rfl, ht⟩ := zcV hp
 have hs := zaO hck
 have hll := (zaj hck).1
 have htl : t <= L.length := by
  rcases ht with h | h
  · exact Nat.le_of_lt (hs.lt _ h).2
  · omega
 have htlen : (L.take t).length = t := by rw [List.length_take]; omega
 have hdp : zbt L t C goal depth = match zdf L (accR (L.take t) C goal depth).1 ⟨[], []⟩ with | .error e => .bad e | .ok d => if 2000 < (d.rest ++ L.drop t).length then .bad 6 else ⟨zaU L ((itsP L).takeWhile (fun x => decide ((x : Int) < t))), d.boxes, d.rest ++ L.drop t, 0⟩ := by
  have h4 := (begin_acc hok ht).1
  have h5 : (accR (L.take t) C goal depth).2.2 = 0 := by rw [accR_fine h4 (by rw [Hdg.out.1, Hdg.out.2]; rfl)]
  unfold zbt
  rw [if_pos HE.out, hp, if_pos rfl]
  simp only [Int.toNat_natCast]
  rw [if_pos h5]
  rfl
 rw [ahead_split hs ht] at hdp
 have h4 := (begin_acc hok ht).1
 have hokT := accE_ok h4
 have hfT := accR_fine h4 (by rw [Hdg.out.1, Hdg.out.2]; rfl : (zac goal && zac depth) = true)
 have HAc : Hid (∀ W, Below w.heap.size w W -> Calls Tryz.prog 36 #[.slice p0 t cap, .slice pc C.length cc, .int .i64 goal, .int .i64 depth] W (QAccPost W (accR (L.take t) C goal depth))) := zzh fun W hb => by
  have := qaccount p0 b off cap (L.take t) pc bc oc cc C goal depth W ((H.out.1.below hb).take t) (H.out.2.below hb)
  rwa [htlen] at this
 have hso := steps_ok (L := L) (C := C) (goal := goal) (depth := depth) hck ht (by rw [hfT])
 obtain ⟨A, hA⟩ : ∃ A, L.take t = A := ⟨_, rfl⟩
 obtain ⟨S, hS⟩ : ∃ S, itsP A = S := ⟨_, rfl⟩
 rw [hA, hS] at hdp
 rw [hA] at hfT hso HAc hokT htlen
 rw [hS] at hfT
 have hrunA := (check_run.1 (zam hokT.col)).2
 have hit := hrunA.its
 have hk6 : ∀ x ∈ itsP A, (nth A x).kind ≠ 6 := fun x hx => zcF hrunA hx
 rw [hS] at hit hk6
 obtain ⟨sps, hsps⟩ : ∃ sps, (accF A C goal depth S).2 = sps := ⟨_, rfl⟩
 rw [hsps] at hfT
 rw [hfT] at hdp hso HAc
 have HSt : Hid (∀ W, Below w.heap.size w W -> Calls Tryz.prog 21 #[.slice p0 t cap] W fun e w' => (∃ v, e = .returned v /\ IRow W v S w') /\ Below W.heap.size W w') := zzh fun W hb => by
  have := zdb p0 b off cap A S W (by rw [<- hA]; exact (H.out.1.below hb).take t) hit hk6
  rwa [htlen] at this
 have hsl := hit.len
 have hspl : sps.length <= 2000 := by
  have h1 := accF_len A C goal depth S
  rw [hsps] at h1
  omega
 obtain ⟨RES, hD⟩ : ∃ RES, zdf L sps ⟨[], []⟩ = RES := ⟨_, rfl⟩
 have hdq : ∀ D, RES = .ok D -> zbt L t C goal depth = if 2000 < (D.rest ++ L.drop t).length then .bad 6 else ⟨zaU L S, D.boxes, D.rest ++ L.drop t, 0⟩ := fun D h => by
  rw [hdp, hD, h]
 have hdr : ∀ e, RES = .error e -> zbt L t C goal depth = .bad e := fun e h => by
  rw [hdp, hD, h]
 have HD9 := zzh (And.intro hD (And.intro hdq (And.intro hso hdr)))
 have HA := zzh (And.intro hA (And.intro hS (And.intro hit (And.intro hk6 hsps))))
 have Hok := zzh (And.intro hok (And.intro hck hs))
 have ht1 : (t : Int) <= (L.length : Int) := by omega
 have ht2 : (0 : Int) <= (t : Int) := by omega
 have ht3 : (t : Int) <= (cap : Int) := by omega
 clear hE2 hp hok hck hs hdp h4 hokT hfT hso hA hS hrunA hit hk6 hsps hD hdq hdr
 go_upto_region 8 with (first | (go_at_call 34; refine HPl.out.mono ?_; clear HPl; rintro e w3 ⟨rfl, hb3⟩) | (go_at_call_has 35 goal; refine (HG.out _).mono ?_; rintro e w4 ⟨rfl, rfl⟩) | (go_at_call_has 35 depth; refine (HD.out _).mono ?_; rintro e w4 ⟨rfl, rfl⟩))
 have Hb3 := zzh (Hb2.out.trans (hb3.mono Hb2.out.size))
 clear hb3 Hb2 HG HD
 go_upto_region 9 with (go_at_call 36; refine (HAc.out _ Hb3.out).mono ?_; clear HAc; rintro e w5 hp; obtain ⟨v, rfl, hrow5⟩ := hp.out; have hb5 := hp.below; clear hp; obtain ⟨pv, cv, rfl⟩ := zaf hrow5)
 generalize (accF A C goal depth S).1.t = T at *
 have hba : Below w5.heap.size w5 (w5.alloc (.cells T.arr 43)) := (Below.refl _ _).alloc (Nat.le_refl _) _
 have hb6 := Hb3.out.trans ((hb5.trans (hba.mono hb5.size)).mono Hb3.out.size)
 have hrow6 := zad hrow5 hba
 have H6 := zzh (And.intro hb6 hrow6)
 clear hb5 hrow5 hba hb6 hrow6 Hb3
 generalize w5.alloc (.cells T.arr 43) = w6 at H6 ⊢
 go_upto_region 13 with (go_at_call 21; refine (HSt.out _ H6.out.1).mono ?_; clear HSt; rintro e w7 ⟨⟨v, rfl, hrow⟩, hb7⟩)
 obtain ⟨p, gi, c9, rfl, hII⟩ := zcG hrow
 have hb7w := H6.out.1.trans (hb7.mono H6.out.1.size)
 have hrow7 := zad H6.out.2 hb7
 obtain ⟨B, hB⟩ : ∃ B, w7.heap.size = B := ⟨_, rfl⟩
 have HB := zzh hB
 have H7 := zzh (And.intro hb7w (And.intro hrow7 hII))
 obtain ⟨i0, hi0', hz0, hz1, hz2'⟩ := info_parts zbq
 clear hrow hb7 hb7w hrow7 hII hB H6
 go_wp2_with fail
 go_loopg [18, 19, 20, 22, 23] (S.length + 1) (fun gg t18 t19 t20 t22 t23 wr => ∃ (i k : Nat) (e r : List Sp) (st : As) (vs : Nat -> Value) (d9 : Dl), gg = S.length + 1 - i /\ i <= S.length /\ t23 = .int .i64 i /\ Items A k (S.drop i) /\ accF A C goal depth (S.take i) = (st, e) /\ sps = e ++ r /\ t22 = .int .i64 (e.length : Int) /\ t18 = vs 0 /\ t19 = vs 1 /\ zdf L r d9 = RES /\ DlOk e.length d9 /\ (zaU L (S.take i)).length <= k /\ DlIn wr B vs t20 (zaU L (S.take i)) d9 /\ Below B w7 wr)
 case atStart => exact ⟨0, 0, [], sps, _, fun _ => .slice none 0 0, ⟨[], []⟩, rfl, Nat.zero_le _, rfl, by rw [List.drop_zero]; exact HA.out.2.2.1, rfl, rfl, rfl, rfl, rfl, HD9.out.1, ⟨by decide, (fun x hx => by cases hx), Nat.zero_le _⟩, Nat.le_refl _, dlIn_nil _ _, Below.refl _ _⟩
 case round =>
  obtain ⟨i, k, e, r, st, vs, d9, rfl, hi, rfl, hit, hacc, hsp, rfl, rfl, rfl, hdl, hdo, hpl, hin, hb⟩ := hrel
  have hi1 : (0 : Int) <= (i : Int) := by omega
  have hbw : Below w.heap.size w wr := H7.out.1.trans ⟨hb.os, hb.tape, hb.output, hb.size, fun q hq => hb.block q (by have := H7.out.1.size; have := HB.out; omega)⟩
  have hbz : Below w7.heap.size w7 wr := by rw [HB.out]; exact hb
  by_cases hin2 : i < S.length
  ·
   have hi2 : (i : Int) < (S.length : Int) := by omega
   have hII := H7.out.2.2.below hbz
   have cI := hII.at_ i hin2
   have hne : S ≠ [] := by intro e; rw [e] at hin2; simp at hin2
   obtain rfl := hII.hp hne
   have hgi := H7.out.2.2.hg hne
   have hdr := List.drop_eq_getElem_cons hin2
   rw [hdr] at hit
   have hmem : S[i] ∈ S := List.getElem_mem hin2
   have htk : S.take (i + 1) = S.take i ++ [S[i]] := List.take_succ_eq_append_getElem hin2
   obtain ⟨x, hx⟩ : ∃ x, S[i] = x := ⟨_, rfl⟩
   rw [hx] at cI hit hmem htk
   clear hx hdr
   cases hit with
   | step hxl hmA hs2 =>
    rename_i m
    have hm := hmA
    rw [<- HA.out.1] at hm
    have hxt : k < (L.take t).length := by rw [HA.out.1]; exact hxl
    obtain ⟨hmL, hkt⟩ := take_beh hxt hm
    have hxL : k < L.length := by omega
    have hnA : nth A k = nth L k := by rw [<- HA.out.1]; unfold nth; rw [List.getElem?_take_of_lt (by omega)]
    have hN2 := H.out.1.below hbw
    obtain rfl := hN2.at_ hxL
    have hx1 : (0 : Int) <= (k : Int) := by omega
    have hx2 : (k : Int) < (L.length : Int) := by omega
    have hmL2 : k ∈ itsP L := by
     have h1 : k ∈ itsP (L.take t) := by rw [HA.out.1, HA.out.2.1]; exact hmem
     rw [itsP_eq (zbL Hok.out.2.2 ht)] at h1
     exact (List.takeWhile_sublist _).subset h1
    have hk6 := HA.out.2.2.2.1 k hmem
    rw [hnA] at hk6
    have HEn : Hid (∀ W, Below wr.heap.size wr W -> Calls Tryz.prog 22 #[.slice (some ⟨b, off, none⟩) L.length cap, .int .i64 k] W fun e w' => e = .returned (.int .i64 ((k + m : Nat) : Int)) /\ Below W.heap.size W w') := zzh fun W hW => qends (some ⟨b, off, none⟩) b off cap L k m W (hN2.below hW) hmL hk6
    have hpm := zaw _ _ _ hmL
    rw [List.length_drop] at hpm
    have cK : ∀ W, Below wr.heap.size wr W -> W.cell? ⟨b, off + k * 19, none⟩ = some (.int .i64 (nth L k).kind) := fun W hW => zau ((hN2.below hW).nth hxL) 0 _ (Nd.get0 _)
    have HcK := zzh cK
    have hsn := accF_snoc A C goal depth (S.take i) k
    rw [hacc, <- htk] at hsn
    have hpg : zaU L (S.take (i + 1)) = zaU L (S.take i) ++ (if (nth L k).kind = 13 then [] else zby L k) := by rw [htk]; exact pageP_snoc L (S.take i) k
    have Hin2 := zzh hin2
    have HS2 := zzh hs2
    have HmL := zzh (And.intro hmL hmL2)
    by_cases hk13 : (nth L k).kind = 13
    case neg =>
     have hk' : ((nth L k).kind != 13) = true := by simpa using hk13
     have hsn2 : accF A C goal depth (S.take (i + 1)) = (st, e) := by rw [hsn]; unfold addI; rw [hnA, if_neg hk13]
     rw [if_neg hk13, item_sl hmL] at hpg
     have hslen := sl_len (L := L) (i := k) (m := m) (by omega)
     have hBr : B <= wr.heap.size := by have := hb.size; have := HB.out; omega
     obtain ⟨PG, hPG⟩ : ∃ P, zaU L (S.take i) = P := ⟨_, rfl⟩
     rw [hPG] at hin hpl hpg
     have HNw : Hid (∀ W, Below wr.heap.size wr W -> (∀ j u, ((sl L k m).flatMap Nd.cells)[j]? = some u -> W.cell? ((⟨b, off + k * 19, none⟩ : Addr).add j) = some u) /\ (∀ u ∈ (sl L k m).flatMap Nd.cells, u.oneCell' = true) /\ W.ownsRow B 53 19 (vs 0) PG.length (PG.flatMap Nd.cells) /\ B <= W.heap.size /\ DlIn W B vs u20 PG d9) := zzh fun W hW =>
      ⟨(((hN2.below hW).drop k (by omega)).take m).news, zax _, zad (hin.rws.row 0 (by omega)) hW, Nat.le_trans hBr hW.size, hin.still hW⟩
     have hflat : ((sl L k m).flatMap Nd.cells).length = m * 19 := by rw [zaA, hslen]
     have Hfl := zzh hflat
     have Hslen := zzh hslen
     have Hsn := zzh (And.intro hsn2 (And.intro hpg (And.intro hs2 (And.intro hdl (And.intro hdo hsp)))))
     have HR := zzh (And.intro hb hBr)
     obtain ⟨q, hq⟩ : ∃ q, k + m = q := ⟨_, rfl⟩
     rw [hq] at HEn
     have hq1 : (k : Int) <= (q : Int) := by omega
     have hq2 : (q : Int) <= (cap : Int) := by omega
     have hq3 : (0 : Int) <= (q : Int) := by omega
     have hq4 : k <= q := by omega
     have hq5 : ¬ cap = k := by omega
     have hq6 : q - k = m := by omega
     have Hq := zzh hq
     clear hq
     have hpl2 : PG.length <= 2000 := by omega
     have hm2 : m <= 2000 := by omega
     generalize (nth L k).kind = kk at HcK hk'
     clear hk13 hk6 hnA hsn hsn2 hpg hflat hslen hin hdl hdo hsp hb hPG hacc hs2 cK hm hmA hmL hmL2
     go_wp2_with (first | (go_at_call 22; refine (HEn.out _ (Below.refl _ _)).mono ?_; clear HEn; rintro e6 w6 ⟨rfl, hb6⟩; have y0 := HcK.out _ hb6; have HNw6 := zzh (HNw.out _ hb6)) | (at_builtin; refine zah _ rfl _ _ _ rfl B 53 i0 (.agg Nd.zero.arr) 19 160 Tryz.underlying22 hi0' hz0 hz1 hz2' rfl (by decide) (vs 0) PG.length (PG.flatMap Nd.cells) rfl HNw6.out.2.2.1 ⟨b, off + k * 19, none⟩ _ _ ((sl L k m).flatMap Nd.cells) rfl (Hfl.out.trans (by congr 1 <;> omega)) HNw6.out.1 HNw6.out.2.1 (by unfold maxLen; omega) (by omega) HNw6.out.2.2.2.1 ?_; intro v7 w8 hown7 hgrow7 hat7))
     have hb8 : Below B w7 w8 := (HR.out.1.trans (hb6.mono HR.out.2)).grown hgrow7 HNw6.out.2.2.2.1 (fun g hg => (HNw6.out.2.2.1.lt g hg).1)
     have hin8 : DlIn w8 B (upd vs 0 v7) u20 (PG ++ sl L k m) d9 := HNw6.out.2.2.2.2.page (by rw [Hslen.out]; exact hown7) hgrow7 hat7
     go_roundg (S.length + 1 - (i + 1))
     case measure => have := Hin2.out; omega
     case rel => exact ⟨i + 1, q, e, r, st, upd vs 0 v7, d9, rfl, by have := Hin2.out; omega, by go_num, by rw [<- Hq.out]; exact Hsn.out.2.2.1, Hsn.out.1, Hsn.out.2.2.2.2.2, rfl, by rw [zbg], by rw [zaN _ _ (by decide)], Hsn.out.2.2.2.1, Hsn.out.2.2.2.2.1, by rw [Hsn.out.2.1, List.length_append, Hslen.out]; have := Hq.out; omega, by rw [Hsn.out.2.1]; exact hin8, hb8⟩
    ·
     have hsn2 : accF A C goal depth (S.take (i + 1)) = ((zbp A C depth st k).1, e ++ [(zbp A C depth st k).2]) := by rw [hsn]; unfold addI; rw [hnA, if_pos hk13]
     rw [if_pos hk13, List.append_nil] at hpg
     have hx1 := (step_what A C depth st k).1
     obtain ⟨st2, hst2⟩ : ∃ a, (zbp A C depth st k).1 = a := ⟨_, rfl⟩
     obtain ⟨s, hs0⟩ : ∃ a, (zbp A C depth st k).2 = a := ⟨_, rfl⟩
     rw [hst2, hs0] at hsn2
     rw [hs0] at hx1
     have hpre : e ++ [s] <+: sps := by
      have h := fold_pref (L := A) (C := C) (depth := depth) (S.drop (i + 1)) (accF A C goal depth (S.take (i + 1)))
      have h2 : (S.drop (i + 1)).foldl (addI A C depth) (accF A C goal depth (S.take (i + 1))) = accF A C goal depth S := by
       unfold accF; rw [<- List.foldl_append, List.take_append_drop]
      rw [h2, hsn2, HA.out.2.2.2.2] at h
      exact h
     obtain ⟨z, hz⟩ := hpre
     have hrz : r = s :: z := by
      have h : e ++ r = e ++ s :: z := by rw [<- hsp, <- hz]; simp
      exact List.append_cancel_left h
     subst hrz
     have hso1 := HD9.out.2.2.1 s (by rw [hsp]; simp)
     have hall : ∀ D1, dealS L d9 s = .ok D1 -> zdf L z D1 = RES /\ DlOk (e.length + 1) D1 := fun D1 h => ⟨by rw [<- hdl, dealF_ok h], dealS_ok hll hso1 hdo h⟩
     have herr : ∀ ec, dealS L d9 s = .error ec -> zbt L t C goal depth = .bad ec := fun ec h => HD9.out.2.2.2 ec (by rw [<- hdl]; unfold zdf; rw [h])
     obtain ⟨c, hc1, hc2⟩ := hso1.cls
     obtain ⟨q0, hq01, hq02⟩ := hso1.split
     have hwh := hso1.what
     have hlt : e.length < sps.length := by rw [hsp]; simp
     have hlt1 : (e.length : Int) < (sps.length : Int) := by omega
     have hlt0 : (0 : Int) <= (e.length : Int) := by omega
     have hel : e.length + 1 <= 2000 := by omega
     have hse : sps[e.length] = s := by simp [hsp]
     have hm2 := opens_two hxL (by rw [hk13]; decide) hmL
     have hil := insP_len hmL hm2
     have hB9 : B <= wr.heap.size := by have := hb.size; have := HB.out; omega
     obtain ⟨PG, hPG⟩ : ∃ P, zaU L (S.take i) = P := ⟨_, rfl⟩
     rw [hPG] at hin hpl hpg
     have HP := zzh (And.intro hsn2 (And.intro hpg (And.intro hs2 hpl)))
     have HX := zzh (And.intro hmL2 (And.intro hk13 (And.intro hmL (And.intro hall (And.intro herr (And.intro True.intro (And.intro hdo hsp)))))))
     have HIn : Hid (∀ W, Below B w7 W -> Calls Tryz.prog 37 #[.slice (some ⟨b, off, none⟩) L.length cap, .int .i64 k] W fun e w' => e = .returned (.slice (some ⟨b, off + (k + 1) * 19, none⟩) (insP L k).length (cap - (k + 1))) /\ Below W.heap.size W w') := zzh fun W hW => qinside b off cap L k m hmL hm2 hk6 hll W (H.out.1.below (H7.out.1.trans ⟨hW.os, hW.tape, hW.output, hW.size, fun q hq => hW.block q (by have := H7.out.1.size; have := HB.out; omega)⟩))
     obtain ⟨q, hq⟩ : ∃ q, k + m = q := ⟨_, rfl⟩
     rw [hq] at HEn
     have Hq := zzh hq
     have HR := zzh (And.intro hb (And.intro hin hbw))
     have hk' : ((nth L k).kind != 13) = false := by simp [hk13]
     have hrs := zad H7.out.2.1 hbz
     obtain ⟨g, cg, hvg, hcg, _, hag⟩ := row_agg Sp.cells (fun _ => rfl) hrs (by decide) hlt
     rw [hse] at hag
     cases hvg
     have HAg : Hid (∀ W, Below wr.heap.size wr W -> agg? W g (e.length * 7) 7 = some s.arr) := zzh fun W hW => by
      have hrs2 := zad hrs hW
      obtain ⟨g2, cg2, hvg2, _, _, hag2⟩ := row_agg Sp.cells (fun _ => rfl) hrs2 (by decide) hlt
      rw [hse] at hag2
      cases hvg2
      exact hag2
     generalize (nth L k).kind = kk at HcK hk'
     clear hk13 hk6 hnA hsn hsn2 hpg hin hdl hdo hsp hb hPG hacc hs2 cK hm hmA hmL hmL2 hall herr hso1 hse hrs hag hq hs0 hst2 hz hbw
     go_upto_region 21 with (go_at_call 22; refine (HEn.out _ (Below.refl _ _)).mono ?_; clear HEn; rintro e6 w6 ⟨rfl, hb6⟩; have y0 := HcK.out _ hb6)
     have hag' := HAg.out _ hb6
     have hB6 : B <= w6.heap.size := Nat.le_trans hB9 hb6.size
     have hba := (Below.refl w6.heap.size w6).alloc (Nat.le_refl _) (.cells s.arr 85)
     have hin1 := (HR.out.2.1.still hb6).still hba
     have hbk1 := heap_alloc_new w6 (.cells s.arr 85)
     have hb1 := (HR.out.1.trans (hb6.mono hB9)).trans (hba.mono hB6)
     have hb61 := hb6.trans (hba.mono hb6.size)
     clear y0 HcK HAg
     go_upto_region 23 with fail
     have hz1' : (w6.alloc (.cells s.arr 85)).heap.size = w6.heap.size + 1 := by simp
     generalize w6.alloc (.cells s.arr 85) = w1 at hba hin1 hbk1 hb1 hb61 hz1' ⊢
     obtain ⟨Sb, hSb⟩ : ∃ Sb, w6.heap.size = Sb := ⟨_, rfl⟩
     rw [hSb] at hbk1 hz1' ⊢
     have HS := zzh (And.intro hbk1 (And.intro hin1 hb1))
     have Hil := zzh hil
     clear hil hin1 hbk1 hb1 hb61 hba hag' hz1'
     go_loopg [20] (c + 1 - d9.boxes.length + 1) (fun gg t20 wp => ∃ (j : Nat) (vj : Nat -> Value), gg = c + 1 - d9.boxes.length - j + 1 /\ j <= c + 1 - d9.boxes.length /\ vj 0 = vs 0 /\ vj 1 = vs 1 /\ DlIn wp B vj t20 PG ⟨d9.boxes ++ List.replicate j [], d9.rest⟩ /\ Below B w7 wp /\ Blk wp Sb s.arr 85)
     case atStart => exact ⟨0, vs, rfl, Nat.zero_le _, rfl, rfl, by simpa using HS.out.2.1, HS.out.2.2, HS.out.1⟩
     case round =>
      obtain ⟨j, vj, rfl, hj, e0, e1, hin, hb, hblk⟩ := hrel
      have hlen : (d9.boxes ++ List.replicate j ([] : List Nd)).length = d9.boxes.length + j := by simp
      have hfew := HX.out.2.2.2.2.2.2.1.few
      obtain ⟨n, hn⟩ : ∃ n, (d9.boxes ++ List.replicate j ([] : List Nd)).length = n := ⟨_, rfl⟩
      have hout := hin.out
      simp only [hn] at hout
      have hBr : B <= wr.heap.size := by have := hb.size; have := HB.out; omega
      by_cases hcj : n <= c
      ·
       obtain ⟨pb, cb, rfl⟩ := zaf hout
       have hcj1 : (n : Int) <= (c : Int) := by omega
       have y3 : wr.cell? ⟨Sb, 1, none⟩ = some (.int .i64 (c : Int)) := by rw [cell?_blk' hblk, Sp.get1, hc1]
       have hba : Below wr.heap.size wr (wr.alloc (.cells #[.slice none 0 0] 22)) := (Below.refl _ _).alloc (Nat.le_refl _) _
       have HH := zzh (And.intro (zad hout hba) (And.intro (hin.still hba) (And.intro (hb.trans (hba.mono hBr)) (And.intro hn (And.intro e0 (And.intro e1 (hblk.below hba)))))))
       have H1 : Hid (∀ u ∈ [Value.slice none 0 0], u.oneCell' = true) := zzh fun u hu => by rw [List.mem_singleton.1 hu]; rfl
       have hn254 : n <= 254 := by omega
       have hnj : n = d9.boxes.length + j := by omega
       clear hout hin hb hba hlen hn hfew e0 e1 hblk
       obtain ⟨i1, hi1', hy0, hy1, hy2⟩ := info_parts info_rowb
       go_wp2_with (at_builtin; refine zah _ rfl _ _ _ rfl B 22 i1 (.slice none 0 0) 1 24 Tryz.underlying25 hi1' hy0 hy1 hy2 rfl (by decide) (.slice pb n cb) n (boxV (n + 2) vj) rfl HH.out.1 ⟨wr.heap.size, 0, none⟩ 1 1 [.slice none 0 0] rfl rfl (World.news_of_block (cs := #[.slice none 0 0]) (heap_alloc_new _ _)) H1.out (by unfold maxLen; omega) (by omega) (by simp; omega) ?_; intro v7 w17 hown7 hgrow7 hat7)
       have hin7 : DlIn w17 B (upd vj (n + 2) (.slice none 0 0)) v7 PG ⟨d9.boxes ++ List.replicate (j + 1) [], d9.rest⟩ := by
        have h1 := HH.out.2.1.push (bv' := v7) (W' := w17) (by simp only [HH.out.2.2.2.1]; exact hown7) hgrow7
        simp only [HH.out.2.2.2.1, List.append_assoc] at h1
        rw [List.replicate_succ']
        exact h1
       have hb7 : Below B w7 w17 := HH.out.2.2.1.grown hgrow7 (by simp; omega) (fun g hg => (HH.out.1.lt g hg).1)
       have hbk7 : Blk w17 Sb s.arr 85 := (hgrow7.block Sb HH.out.2.2.2.2.2.2.lt (fun e => row_not HH.out.1 HH.out.2.2.2.2.2.2 qstep_ne_row e.symm)).trans HH.out.2.2.2.2.2.2
       go_roundg (c + 1 - d9.boxes.length - (j + 1) + 1)
       case measure => omega
       case rel => exact ⟨j + 1, _, rfl, by omega, by rw [zaN _ _ (by omega)]; exact HH.out.2.2.2.2.1, by rw [zaN _ _ (by omega)]; exact HH.out.2.2.2.2.2.1, hin7, hb7, hbk7⟩
      ·
       have hpad : d9.boxes ++ List.replicate j ([] : List Nd) = padI d9.boxes c := by
        unfold padI
        rw [show j = c + 1 - d9.boxes.length by omega]
       obtain ⟨BX, hBX⟩ : ∃ BX, padI d9.boxes c = BX := ⟨_, rfl⟩
       have hcB : c < BX.length := by rw [<- hBX]; exact padI_at _ _
       have hfB : BX.length <= 255 := by rw [<- hBX]; exact padI_few hfew hc2
       have hoB : ∀ z ∈ BX, z.length <= e.length * 2002 := by rw [<- hBX]; exact padI_ok HX.out.2.2.2.2.2.2.1.box
       rw [hpad, hBX] at hin
       have hn2 : n = BX.length := by rw [<- hn, hpad, hBX]
       subst hn2
       clear hn hpad hlen hfew hj hc2
       obtain ⟨gB, cb, rfl, hnl, hcb, hgB, hcell, hfrz⟩ := zbv hout (k := c) (by omega)
       clear hnl
       have hcB1 : (c : Int) < (BX.length : Int) := by omega
       have hcB0 : (0 : Int) <= (c : Int) := by omega
       have hcj1 : ¬ (BX.length : Int) <= (c : Int) := by omega
       have y3 : wr.cell? ⟨Sb, 1, none⟩ = some (.int .i64 (c : Int)) := by rw [cell?_blk' hblk, Sp.get1, hc1]
       have hds := dealS_at (L := L) (d := d9) hx1 hc1 hq01
       rw [hBX] at hds
       have Hds := zzh hds
       have HD8 := zzh (And.intro hin (And.intro hb (And.intro hblk (And.intro hBX (And.intro hoB (And.intro e0 e1))))))
       have HI := zzh (HIn.out wr hb)
       have HCl : Hid (∀ W, Blk W Sb s.arr 85 -> W.cell? ⟨Sb, 0, none⟩ = some (.int .i64 (k : Int)) /\ W.cell? ⟨Sb, 1, none⟩ = some (.int .i64 (c : Int)) /\ W.cell? ⟨Sb, 2, none⟩ = some (.int .i64 s.what) /\ W.cell? ⟨Sb, 4, none⟩ = some (.int .i64 (q0 : Int))) := zzh fun W h =>
        ⟨by rw [cell?_blk' h, Sp.get0, hx1], by rw [cell?_blk' h, Sp.get1, hc1], by rw [cell?_blk' h, Sp.get2], by rw [cell?_blk' h, Sp.get4, hq01]⟩
       clear hin hb hblk hoB e0 e1 hBX hout hcell hfrz hds HIn
       go_upto_region 26 with (go_at_call 37; refine HI.out.mono ?_; clear HI; rintro e2 w2 ⟨rfl, hb2⟩)
       have HD9 := zzh (And.intro (HD8.out.1.still hb2) (And.intro (HD8.out.2.1.trans (hb2.mono hBr)) (And.intro (HD8.out.2.2.1.below hb2) HD8.out.2.2.2)))
       have hBr := Nat.le_trans hBr hb2.size
       obtain ⟨z0, z1, z2, z4⟩ := HCl.out _ HD9.out.2.2.1
       clear y3 hb2 HD8
       rcases hwh with hw | hw | hw
       ·
        have hds := Hds.out
        rw [if_pos hw] at hds
        have Hst := zzh (HX.out.2.2.2.1 _ hds)
        clear hds
        rw [hw] at z2
        have Hw := zzh hw
        clear hw
        go_upto_region 29 with fail
        have HY : Hid (∀ W, Below B w2 W -> ∀ i u, ((insP L k).flatMap Nd.cells)[i]? = some u -> W.cell? ((⟨b, off + (k + 1) * 19, none⟩ : Addr).add i) = some u) := zzh fun W hW => by
         have hbW := HD9.out.2.1.trans hW
         have hbw2 : Below w.heap.size w W := H7.out.1.trans ⟨hbW.os, hbW.tape, hbW.output, hbW.size, fun q hq => hbW.block q (by have := H7.out.1.size; have := HB.out; omega)⟩
         have h1 := ((H.out.1.below hbw2).drop (k + 1) (by omega)).take (m - 2)
         rw [zcc HX.out.2.2.1]
         exact h1.news
        have hlx : (insP L k).length <= 2000 := by rw [Hil.out]; omega
        refine zaK [7, 9, 11] (fun W => Blk W Sb s.arr 85) (JBQ w2 B vj (.slice (some ⟨gB, 0, none⟩) BX.length cb) PG ⟨BX, d9.rest⟩ c (insP L k) Sb s 7 9 11) follows (by kernel_rfl) (fun m us W h => h.blk) (fun us => JBQ.init HD9.out.1 hBr HD9.out.2.2.1 (by decide)) ?_
        iterate 12 first
         | (refine TK.pass rfl ?_)
         | (refine TK.read rfl _ (by intro wT hT K hK; simp only [Act.put, lsA, lsB, lsC] at hK; obtain ⟨y1, y2, y3, y4⟩ := HCl.out _ hT; go_step; exact hK _ rfl) ?_; try simp only [Act.put, lsA, lsB, lsC])
        refine TK.nil fun us => ?_
        refine KW.step _ rfl (fun mm W1 hJ h7 hD R hR => ?_) ?_
        ·
         have hA : mm 9 = false := by
          cases e : mm 9
          · rfl
          · have := hJ.dep2 e; rw [h7] at this; cases this
         obtain ⟨g9, c9, e9, _, _, _, f9, _⟩ := zbv (hJ.pre hA).out (k := c) (by show c < BX.length + 2 - 2; omega)
         cases e9
         simp only [Act.put] at hR
         go_step
         exact hR _ _ (hJ.load h7 rfl)
        try simp only [Act.put, lsA, lsB, lsC]
        refine KW.step _ rfl (fun mm W1 hJ h9 hD R hR => ?_) ?_
        ·
         have hL := hD 7 rfl (by kernel_rfl)
         have hl7 := hJ.ld hL
         have hrow := (hJ.pre h9).rws.row (c + 2) (by show c + 2 < BX.length + 2; omega)
         have hlen9 : (rowX PG ⟨BX, d9.rest⟩ (c + 2)).length <= 4004000 := by
          show ((BX[c]?).getD []).length <= _
          rw [List.getElem?_eq_getElem hcB]
          have h1 := HD9.out.2.2.2.2.1 _ (List.getElem_mem hcB)
          have h2 : e.length * 2002 <= 2000 * 2002 := Nat.mul_le_mul_right _ (by omega)
          simp only [Option.getD_some]
          omega
         refine zbI (.tmp 130) (.tmp 131) 22 rfl B 53 i0 (.agg Nd.zero.arr) 19 160 Tryz.underlying22 hi0' hz0 hz1 hz2' rfl (by decide) (vj (c + 2)) (rowX PG ⟨BX, d9.rest⟩ (c + 2)).length ((rowX PG ⟨BX, d9.rest⟩ (c + 2)).flatMap Nd.cells) hl7 hrow ⟨b, off + (k + 1) * 19, none⟩ _ _ ((insP L k).flatMap Nd.cells) rfl (zaA _) (HY.out _ hJ.below) (zax _) (by unfold maxLen; omega) (by omega) hJ.size ?_
         intro v8 w18 hown8 hgrow8 hat8
         exact hR _ _ (hJ.app hcB hL h9 hown8 hgrow8 hat8)
        try simp only [Act.put, lsA, lsB, lsC]
        refine KW.step _ rfl (fun mm W1 hJ h11 hD R hR => ?_) ?_
        ·
         have hA := hD 9 rfl (by kernel_rfl)
         obtain ⟨_, h2⟩ := hJ.mid hA h11
         obtain ⟨g9, c9, e9, _, _, _, f9, f8⟩ := zbv h2 (k := c) (by show c < BX.length + 2 - 2; omega)
         cases e9
         have hrow := (hJ.mid hA h11).1.row (c + 2) (by show c + 2 < BX.length + 2; omega)
         rw [zbg] at hrow
         obtain ⟨p9, c9, e9⟩ := zaf hrow
         have hst := hJ.store hcB hA h11 rfl undef
         rw [e9] at hst
         simp only [Act.put] at hR
         simp only [e9] at hR ⊢
         go_step
         exact hR undef _ hst
        simp only [Act.put]
        refine KW.nil fun w3 hJ3 => ?_
        have hin3 := hJ3.post rfl
        have hb3 := HD9.out.2.1.trans hJ3.below
        obtain ⟨us9, hus9⟩ : ∃ v, us 9 = v := ⟨_, rfl⟩
        rw [hus9] at hin3
        clear hJ3 hus9 HY
        go_wp2_with fail
        go_roundg (S.length + 1 - (i + 1))
        case measure => have := Hin2.out; omega
        case rel => exact ⟨i + 1, q, e ++ [s], z, st2, upd vj (c + 2) us9, _, rfl, by have := Hin2.out; omega, by go_num, by rw [<- Hq.out]; exact HP.out.2.2.1, HP.out.1, by rw [HX.out.2.2.2.2.2.2.2]; simp, by rw [List.length_append]; go_num, by rw [zaN _ _ (by omega)]; exact HD9.out.2.2.2.2.2.1.symm, by rw [zaN _ _ (by omega)]; exact HD9.out.2.2.2.2.2.2.symm, Hst.out.1, by rw [List.length_append]; exact Hst.out.2, by rw [HP.out.2.1]; have := HP.out.2.2.2; have := Hq.out; omega, by rw [HP.out.2.1]; exact hin3, hb3⟩
       ·
        have hds := Hds.out
        rw [if_neg (by rw [hw]; decide), if_neg (by rw [hw]; decide)] at hds
        rw [hw] at z2
        have Hw := zzh hw
        clear hw
        obtain ⟨R, hR⟩ : ∃ R, zdc (nth L k) ((insP L k).drop q0) = R := ⟨_, rfl⟩
        rw [hR] at hds
        have HdR := zzh hds
        clear hds
        have hq3 : q0 <= (insP L k).length := by rw [hx1, Int.toNat_natCast] at hq02; exact hq02
        have htk : ((insP L k).take q0).length = q0 := by rw [List.length_take]; omega
        have hq4 : (0 : Int) <= (q0 : Int) := by omega
        have hq5 : q0 < cap - (k + 1) := by rw [Hil.out] at hq3; omega
        have hq6 : (q0 : Int) <= ((cap - (k + 1) : Nat) : Int) := by omega
        have hq7 : ¬ cap - (k + 1) = q0 := by omega
        have hq8 : (q0 : Int) <= ((insP L k).length : Int) := by omega
        have hq9 : q0 <= 2000 := by rw [Hil.out] at hq3; omega
        have Htk := zzh htk
        have HRR := zzh hR
        clear htk hR hq02
        go_upto_region 31 with fail
        have HY : Hid (∀ W, Below B w2 W -> ∀ i u, (((insP L k).take q0).flatMap Nd.cells)[i]? = some u -> W.cell? ((⟨b, off + (k + 1) * 19, none⟩ : Addr).add i) = some u) := zzh fun W hW => by
         have hbW := HD9.out.2.1.trans hW
         have hbw2 : Below w.heap.size w W := H7.out.1.trans ⟨hbW.os, hbW.tape, hbW.output, hbW.size, fun q hq => hbW.block q (by have := H7.out.1.size; have := HB.out; omega)⟩
         have h1 := ((H.out.1.below hbw2).drop (k + 1) (by omega)).take (m - 2)
         rw [zcc HX.out.2.2.1]
         exact (h1.take q0).news
        have hlx : (insP L k).length <= 2000 := by rw [Hil.out]; omega
        refine zaK [7, 12, 14] (fun W => Blk W Sb s.arr 85) (JBQ w2 B vj (.slice (some ⟨gB, 0, none⟩) BX.length cb) PG ⟨BX, d9.rest⟩ c ((insP L k).take q0) Sb s 7 12 14) follows (by kernel_rfl) (fun m us W h => h.blk) (fun us => JBQ.init HD9.out.1 hBr HD9.out.2.2.1 (by decide)) ?_
        iterate 15 first
         | (refine TK.pass rfl ?_)
         | (refine TK.read rfl _ (by intro wT hT K hK; simp only [Act.put, lsA, lsB, lsC] at hK; obtain ⟨y1, y2, y3, y4⟩ := HCl.out _ hT; go_step; exact hK _ rfl) ?_; try simp only [Act.put, lsA, lsB, lsC])
        refine TK.nil fun us => ?_
        refine KW.step _ rfl (fun mm W1 hJ h7 hD R hR => ?_) ?_
        ·
         have hA : mm 12 = false := by
          cases e : mm 12
          · rfl
          · have := hJ.dep2 e; rw [h7] at this; cases this
         obtain ⟨g9, c9, e9, _, _, _, f9, _⟩ := zbv (hJ.pre hA).out (k := c) (by show c < BX.length + 2 - 2; omega)
         cases e9
         simp only [Act.put] at hR
         go_step
         exact hR _ _ (hJ.load h7 rfl)
        try simp only [Act.put, lsA, lsB, lsC]
        refine KW.step _ rfl (fun mm W1 hJ h9 hD R hR => ?_) ?_
        ·
         have hL := hD 7 rfl (by kernel_rfl)
         have hl7 := hJ.ld hL
         have hrow := (hJ.pre h9).rws.row (c + 2) (by show c + 2 < BX.length + 2; omega)
         have hlen9 : (rowX PG ⟨BX, d9.rest⟩ (c + 2)).length <= 4004000 := by
          show ((BX[c]?).getD []).length <= _
          rw [List.getElem?_eq_getElem hcB]
          have h1 := HD9.out.2.2.2.2.1 _ (List.getElem_mem hcB)
          have h2 : e.length * 2002 <= 2000 * 2002 := Nat.mul_le_mul_right _ (by omega)
          simp only [Option.getD_some]
          omega
         refine zbI (.tmp 143) (.tmp 147) 22 rfl B 53 i0 (.agg Nd.zero.arr) 19 160 Tryz.underlying22 hi0' hz0 hz1 hz2' rfl (by decide) (vj (c + 2)) (rowX PG ⟨BX, d9.rest⟩ (c + 2)).length ((rowX PG ⟨BX, d9.rest⟩ (c + 2)).flatMap Nd.cells) hl7 hrow ⟨b, off + (k + 1) * 19, none⟩ _ _ (((insP L k).take q0).flatMap Nd.cells) rfl ((zaA _).trans (by rw [Htk.out])) (HY.out _ hJ.below) (zax _) (by unfold maxLen; omega) (by omega) hJ.size ?_
         intro v8 w18 hown8 hgrow8 hat8
         exact hR _ _ (hJ.app hcB hL h9 (by rw [Htk.out]; exact hown8) hgrow8 hat8)
        try simp only [Act.put, lsA, lsB, lsC]
        refine KW.step _ rfl (fun mm W1 hJ h11 hD R hR => ?_) ?_
        ·
         have hA := hD 12 rfl (by kernel_rfl)
         obtain ⟨_, h2⟩ := hJ.mid hA h11
         obtain ⟨g9, c9, e9, _, _, _, f9, f8⟩ := zbv h2 (k := c) (by show c < BX.length + 2 - 2; omega)
         cases e9
         have hrow := (hJ.mid hA h11).1.row (c + 2) (by show c + 2 < BX.length + 2; omega)
         rw [zbg] at hrow
         obtain ⟨p9, c9, e9⟩ := zaf hrow
         have hst := hJ.store hcB hA h11 rfl undef
         rw [e9] at hst
         simp only [Act.put] at hR
         simp only [e9] at hR ⊢
         go_step
         exact hR undef _ hst
        simp only [Act.put]
        refine KW.nil fun w3 hJ3 => ?_
        have hin3 := hJ3.post rfl
        have hb3 := HD9.out.2.1.trans hJ3.below
        obtain ⟨us9, hus9⟩ : ∃ v, us 12 = v := ⟨_, rfl⟩
        rw [hus9] at hin3
        clear hus9 HY
        have hb3b := hJ3.blk
        have HJ3 := zzh (And.intro hin3 (And.intro hb3 hb3b))
        obtain ⟨z30, z31, z32, z34⟩ := HCl.out _ hb3b
        clear hJ3 hin3 hb3 hb3b z0 z1 z2 z4
        go_upto_region 32 with fail
        have HN : Hid (∀ W, Below w3.heap.size w3 W -> W.cell? ⟨Sb, 4, none⟩ = some (.int .i64 (q0 : Int)) /\ agg? W b (off + k * 19) 19 = some (nth L k).arr /\ NIn W (some ⟨b, off + (k + 1) * 19, none⟩) b (off + (k + 1) * 19) (cap - (k + 1)) (insP L k)) := zzh fun W hW => by
         obtain ⟨k0, _, _, k4⟩ := HCl.out W (HJ3.out.2.2.below hW)
         have hbW := HJ3.out.2.1.trans (hW.mono (by have := HJ3.out.2.1.size; have := HB.out; omega))
         have hbw2 : Below w.heap.size w W := H7.out.1.trans ⟨hbW.os, hbW.tape, hbW.output, hbW.size, fun q hq => hbW.block q (by have := H7.out.1.size; have := HB.out; omega)⟩
         have hNW := H.out.1.below hbw2
         refine ⟨k4, hNW.nth hxL, ?_⟩
         have h1 := (hNW.drop (k + 1) (by omega)).take (m - 2)
         rw [zcc HX.out.2.2.1]
         exact h1
        refine zaK [7, 8, 9, 10, 11, 12] (fun W => Below w3.heap.size w3 W) (JQ w3 R 7) follows (by kernel_rfl) (fun m us W h => h.below) (fun us => JQ.init) ?_
        iterate 13 first
         | (refine TK.pass rfl ?_)
         | (refine TK.read rfl _ (by intro wT hT K hK; simp only [Act.put, lsA, lsB, lsC] at hK; obtain ⟨y1, y2, _⟩ := HN.out _ hT; go_step; exact hK _ rfl) ?_; try simp only [Act.put, lsA, lsB, lsC])
        refine TK.nil fun us => ?_
        refine KW.step _ rfl (fun mm W1 hJ h9 hD RR hRR => ?_) ?_
        ·
         have hcall := qleft12 (nth L k) b _ _ (insP L k) q0 hq3 hq5 hlx W1 (HN.out W1 hJ.below).2.2
         rw [HRR.out] at hcall
         go_step
         refine hcall.mono ?_
         rintro ev W2 hp
         obtain ⟨u, rfl, hJ2⟩ := hJ.call h9 hp
         exact hRR _ _ hJ2
        try simp only [Act.put, lsA, lsB, lsC]
        refine KW.step _ rfl (fun mm W1 hJ h10 hD RR hRR => ?_) ?_
        ·
         have h9 := hD 7 rfl (by kernel_rfl)
         simp only [Act.put] at hRR
         go_step
         exact hRR _ _ (hJ.pure h9 (by decide) (fun v e h _ => h))
        try simp only [Act.put, lsA, lsB, lsC]
        refine KW.step _ rfl (fun mm W1 hJ h11 hD RR hRR => ?_) ?_
        ·
         have h10 := hD 8 rfl (by kernel_rfl)
         have h9 := hJ.dep 8 h10
         obtain ⟨v, e, _, h2⟩ := hJ.vals
         have e10 : us 8 = .tuple #[v, e] := h2 8 h10
         have e9 : us 7 = .tuple #[v, e] := h2 7 h9
         simp only [Act.put] at hRR
         simp only [e10] at hRR ⊢
         go_step
         refine hRR _ _ (hJ.pure h9 (by decide) (fun v' e' h _ => ?_))
         rw [e9] at h
         simp at h
         exact h.1
        try simp only [Act.put, lsA, lsB, lsC]
        refine KW.step _ rfl (fun mm W1 hJ h12 hD RR hRR => ?_) ?_
        ·
         have h10 := hD 8 rfl (by kernel_rfl)
         have h9 := hJ.dep 8 h10
         obtain ⟨v, e, _, h2⟩ := hJ.vals
         have e10 : us 8 = .tuple #[v, e] := h2 8 h10
         have e9 : us 7 = .tuple #[v, e] := h2 7 h9
         simp only [Act.put] at hRR
         simp only [e10] at hRR ⊢
         go_step
         refine hRR _ _ (hJ.pure h9 (by decide) (fun v' e' h _ => ?_))
         rw [e9] at h
         simp at h
         exact h.2
        try simp only [Act.put, lsA, lsB, lsC]
        refine KW.step _ rfl (fun mm W1 hJ h13 hD RR hRR => ?_) ?_
        ·
         have h11 := hD 9 rfl (by kernel_rfl)
         have h9 := hJ.dep 9 h11
         simp only [Act.put] at hRR
         go_step
         exact hRR _ _ (hJ.pure h9 (by decide) (fun v e h h' => h' 9 h11))
        try simp only [Act.put, lsA, lsB, lsC]
        refine KW.step _ rfl (fun mm W1 hJ h14 hD RR hRR => ?_) ?_
        ·
         have h12 := hD 10 rfl (by kernel_rfl)
         have h9 := hJ.dep 10 h12
         simp only [Act.put] at hRR
         go_step
         exact hRR _ _ (hJ.pure h9 (by decide) (fun v e h h' => h' 10 h12))
        simp only [Act.put]
        refine KW.nil fun w4 hJ4 => ?_
        obtain ⟨v, ev, h1, h2⟩ := hJ4.vals
        obtain ⟨hq1, hq2, hev⟩ := h1 rfl
        have e13 : us 11 = v := h2 11 rfl
        have e14 : us 12 = ev := h2 12 rfl
        subst hev
        have hB3 : B <= w3.heap.size := by have := HJ3.out.2.1.size; have := HB.out; omega
        have hb4 := HJ3.out.2.1.trans (hJ4.below.mono hB3)
        by_cases hR0 : R.2 = 0
        case neg =>
         obtain rfl := hq2 hR0
         have hbad := HdR.out
         rw [if_neg hR0] at hbad
         have Hbad := zzh (HX.out.2.2.2.2.1 _ hbad)
         simp only [e13, e14]
         have hbw4 : Below w.heap.size w w4 := H7.out.1.trans ⟨hb4.os, hb4.tape, hb4.output, hb4.size, fun q hq => hb4.block q (by have := H7.out.1.size; have := HB.out; omega)⟩
         have hRn : (R.2 != 0) = true := by simpa using hR0
         have HF := zzh hbw4
         clear hJ4 h1 h2 e13 e14 hbad hb4 hR0 hbw4 hq1 hq2
         go_wp2_with fail
         refine bodyPost_ret (zai rfl _ _ _) rfl ?_
         exact HBad.out R.2 _ HF.out Hbad.out
        have hds := HdR.out
        rw [if_pos hR0] at hds
        have Hst := zzh (HX.out.2.2.2.1 _ hds)
        clear hds
        have hv := hq1 hR0
        rw [hR0] at e14
        simp only [e13, e14]
        have hin4 := HJ3.out.1.still hJ4.below
        have hv4 : w4.ownsRow B 53 19 v R.1.length (R.1.flatMap Nd.cells) := zas hv hB3
        have hB4 : B <= w4.heap.size := by have := hb4.size; have := HB.out; omega
        clear hJ4 h1 h2 e13 e14 hq1 hq2 hv
        have hu1 : upd vj (c + 2) us9 1 = vs 1 := by rw [zaN _ _ (by omega)]; exact HD9.out.2.2.2.2.2.2
        have hu0 : upd vj (c + 2) us9 0 = vs 0 := by rw [zaN _ _ (by omega)]; exact HD9.out.2.2.2.2.2.1
        have hrow := hin4.rws.row 1 (by omega)
        rw [hu1] at hrow
        have hrr : d9.rest.length <= 4004000 := by
         have h1 := HX.out.2.2.2.2.2.2.1.rest
         have h2 : e.length * 2002 <= 2000 * 2002 := Nat.mul_le_mul_right _ (by omega)
         omega
        have hRl : R.1.length <= 2002 := by rw [<- HRR.out]; exact leftP_len (by rw [HRR.out]; exact hR0)
        have HK := zzh (And.intro hin4 (And.intro hb4 (And.intro hv4 (And.intro hrow (And.intro hu1 hu0)))))
        clear hin4 hb4 hrow hu1 hu0
        obtain ⟨_, ⟨rfl, hn0⟩ | ⟨g6, c6, cur, rfl, _, _, _, _, _, _⟩⟩ := id hv4
        ·
         have hRn : R.1 = [] := List.length_eq_zero_iff.1 hn0
         have HRn := zzh hRn
         clear hRn hn0 hv4
         go_wp2_with (at_builtin; refine wpList_append_own_none rfl _ _ _ rfl B 53 i0 19 Tryz.underlying22 hi0' (vs 1) d9.rest.length (d9.rest.flatMap Nd.cells) rfl HK.out.2.2.2.1 rfl ?_)
         go_roundg (S.length + 1 - (i + 1))
         case measure => have := Hin2.out; omega
         case rel => exact ⟨i + 1, q, e ++ [s], z, st2, upd vj (c + 2) us9, _, rfl, by have := Hin2.out; omega, by go_num, by rw [<- Hq.out]; exact HP.out.2.2.1, HP.out.1, by rw [HX.out.2.2.2.2.2.2.2]; simp, by rw [List.length_append]; go_num, HK.out.2.2.2.2.2.symm, HK.out.2.2.2.2.1.symm, Hst.out.1, by rw [List.length_append]; exact Hst.out.2, by rw [HP.out.2.1]; have := HP.out.2.2.2; have := Hq.out; omega, by rw [HP.out.2.1, HRn.out, List.append_nil]; exact HK.out.1, HK.out.2.1⟩
        ·
         have HCs := zzh (hv4.cells (g := g6) rfl)
         clear hv4
         go_wp2_with (at_builtin; refine zah _ rfl _ _ _ rfl B 53 i0 (.agg Nd.zero.arr) 19 160 Tryz.underlying22 hi0' hz0 hz1 hz2' rfl (by decide) (vs 1) d9.rest.length (d9.rest.flatMap Nd.cells) rfl HK.out.2.2.2.1 ⟨g6, 0, none⟩ _ _ (R.1.flatMap Nd.cells) rfl (zaA _) HCs.out (zax _) (by unfold maxLen; omega) (by omega) hB4 ?_; intro v7 w17 hown7 hgrow7 hat7)
         have hin7 := HK.out.1.rest (y := R.1) hown7 (by rw [HK.out.2.2.2.2.1]; exact hgrow7) (by rw [HK.out.2.2.2.2.1]; exact hat7)
         have hb7 : Below B w7 w17 := HK.out.2.1.grown hgrow7 hB4 (fun g hg => (HK.out.2.2.2.1.lt g hg).1)
         go_roundg (S.length + 1 - (i + 1))
         case measure => have := Hin2.out; omega
         case rel => exact ⟨i + 1, q, e ++ [s], z, st2, upd (upd vj (c + 2) us9) 1 v7, _, rfl, by have := Hin2.out; omega, by go_num, by rw [<- Hq.out]; exact HP.out.2.2.1, HP.out.1, by rw [HX.out.2.2.2.2.2.2.2]; simp, by rw [List.length_append]; go_num, by rw [zaN _ _ (by decide)]; exact HK.out.2.2.2.2.2.symm, by rw [zbg], Hst.out.1, by rw [List.length_append]; exact Hst.out.2, by rw [HP.out.2.1]; have := HP.out.2.2.2; have := Hq.out; omega, by rw [HP.out.2.1]; exact hin7, hb7⟩
       ·
        have hds := Hds.out
        rw [if_neg (by rw [hw]; decide), if_pos hw] at hds
        have Hst := zzh (HX.out.2.2.2.1 _ hds)
        clear hds
        rw [hw] at z2
        have Hw := zzh hw
        clear hw
        have hq1 : (k : Int) <= (q : Int) := by have := Hq.out; omega
        have hq2 : (q : Int) <= (cap : Int) := by have := Hq.out; omega
        have hq3 : (0 : Int) <= (q : Int) := by have := Hq.out; omega
        have hq5 : ¬ cap = k := by omega
        have hq6 : q - k = m := by have := Hq.out; omega
        have hm9 : m <= 2000 := by omega
        have hslen := sl_len (L := L) (i := k) (m := m) (by omega)
        have hrow := HD9.out.1.rws.row 1 (by omega)
        rw [HD9.out.2.2.2.2.2.2] at hrow
        have hrr : d9.rest.length <= 4004000 := by
         have h1 := HX.out.2.2.2.2.2.2.1.rest
         have h2 : e.length * 2002 <= 2000 * 2002 := Nat.mul_le_mul_right _ (by omega)
         omega
        have HF : Hid ((∀ i u, ((sl L k m).flatMap Nd.cells)[i]? = some u -> w2.cell? ((⟨b, off + k * 19, none⟩ : Addr).add i) = some u) /\ ((sl L k m).flatMap Nd.cells).length = m * 19) := zzh (by
         have hbW := HD9.out.2.1
         have hbw2 : Below w.heap.size w w2 := H7.out.1.trans ⟨hbW.os, hbW.tape, hbW.output, hbW.size, fun q hq => hbW.block q (by have := H7.out.1.size; have := HB.out; omega)⟩
         exact ⟨(((H.out.1.below hbw2).drop k (by omega)).take m).news, by rw [zaA, hslen]⟩)
        have Hrow := zzh hrow
        have Hslen := zzh hslen
        clear hrow hslen
        go_wp2_with (at_builtin; refine zah _ rfl _ _ _ rfl B 53 i0 (.agg Nd.zero.arr) 19 160 Tryz.underlying22 hi0' hz0 hz1 hz2' rfl (by decide) (vs 1) d9.rest.length (d9.rest.flatMap Nd.cells) rfl Hrow.out ⟨b, off + k * 19, none⟩ _ _ ((sl L k m).flatMap Nd.cells) rfl (HF.out.2.trans (by congr 1 <;> omega)) HF.out.1 (zax _) (by unfold maxLen; omega) (by omega) hBr ?_; intro v7 w17 hown7 hgrow7 hat7)
        have hin7 : DlIn w17 B (upd vj 1 v7) (.slice (some ⟨gB, 0, none⟩) BX.length cb) PG ⟨BX, d9.rest ++ zby L k⟩ := by
         refine HD9.out.1.rest (y := zby L k) ?_ (by rw [HD9.out.2.2.2.2.2.2]; exact hgrow7) (by rw [HD9.out.2.2.2.2.2.2]; exact hat7)
         rw [item_sl HX.out.2.2.1, Hslen.out]
         exact hown7
        have hb7 : Below B w7 w17 := HD9.out.2.1.grown hgrow7 hBr (fun g hg => (Hrow.out.lt g hg).1)
        go_roundg (S.length + 1 - (i + 1))
        case measure => have := Hin2.out; omega
        case rel => exact ⟨i + 1, q, e ++ [s], z, st2, upd vj 1 v7, _, rfl, by have := Hin2.out; omega, by go_num, by rw [<- Hq.out]; exact HP.out.2.2.1, HP.out.1, by rw [HX.out.2.2.2.2.2.2.2]; simp, by rw [List.length_append]; go_num, by rw [zaN _ _ (by decide)]; exact HD9.out.2.2.2.2.2.1.symm, by rw [zbg], Hst.out.1, by rw [List.length_append]; exact Hst.out.2, by rw [HP.out.2.1]; have := HP.out.2.2.2; have := Hq.out; omega, by rw [HP.out.2.1]; exact hin7, hb7⟩
  ·
   have hi3 : i = S.length := by omega
   have hST : S.take i = S := List.take_of_length_le (by omega)
   rw [hST] at hacc hin
   have he : sps = e := by
    have h := HA.out.2.2.2.2
    rw [hacc] at h
    exact h.symm
   have hr : r = [] := by
    rw [<- he] at hsp
    simpa using hsp
   subst hr
   have hi2 : ¬ (i : Int) < (S.length : Int) := by omega
   have hres : RES = .ok d9 := hdl.symm
   have Hres := zzh hres
   clear hdl hres hST hi3 hin2 hacc hit hpl
   rw [List.append_nil] at hsp
   have hlt2 : ¬ e.length < sps.length := by rw [hsp]; omega
   have hdl2 : (L.drop t).length = L.length - t := List.length_drop
   have hfl2 : ((L.drop t).flatMap Nd.cells).length = (L.length - t) * 19 := by rw [zaA, hdl2]
   have hrb := hdo.rest
   have hel : e.length <= 2000 := by rw [<- hsp]; exact hspl
   have hrb2 : d9.rest.length <= 4004000 := by
    have : e.length * 2002 <= 2000 * 2002 := Nat.mul_le_mul_right _ hel
    omega
   have hB9 : B <= wr.heap.size := by have := hb.size; have := HB.out; omega
   have hrow1 := hin.rws.row 1 (by omega)
   have hbw : Below w.heap.size w wr := H7.out.1.trans ⟨hb.os, hb.tape, hb.output, hb.size, fun q hq => hb.block q (by have := H7.out.1.size; have := HB.out; omega)⟩
   have hnw := ((H.out.1.below hbw).drop t htl).news
   have HH := zzh (And.intro hrow1 (And.intro hnw (And.intro (zax (L.drop t)) (And.intro hfl2 hB9))))
   have HFin : Hid (∀ v7 w17, w17.ownsRow B 53 19 v7 (d9.rest.length + (L.length - t)) (d9.rest.flatMap Nd.cells ++ (L.drop t).flatMap Nd.cells) -> wr.grownBy w17 (vs 1).ownBlock -> (v7.ownBlock = (vs 1).ownBlock \/ v7.ownBlock = some wr.heap.size) ->
    Below w.heap.size w w17 /\ (2000 < d9.rest.length + (L.length - t) -> zbt L t C goal depth = .bad 6) /\ (¬ 2000 < d9.rest.length + (L.length - t) -> zcw w (zbt L t C goal depth) (.returned (.tuple #[vs 0, u20, v7, .int .i64 0])) w17)) := zzh fun v7 w17 h1 h2 h3 => by
    have hl9 : (d9.rest ++ L.drop t).length = d9.rest.length + (L.length - t) := by rw [List.length_append, hdl2]
    have hwB : w.heap.size <= B := by have := H7.out.1.size; have := HB.out; omega
    have hb7 : Below w.heap.size w w17 := hbw.grown h2 hbw.size (fun g hg => Nat.le_trans hwB (hrow1.lt g hg).1)
    refine ⟨hb7, fun hbig => by rw [HD9.out.2.1 d9 Hres.out, hl9, if_pos hbig], fun hbig => ?_⟩
    rw [HD9.out.2.1 d9 Hres.out, hl9, if_neg hbig]
    have hfin := hin.rest (y := L.drop t) (by rw [hdl2]; exact h1) h2 h3
    refine ⟨⟨upd vs 1 v7, u20, ?_, hfin.base hwB⟩, hb7⟩
    rw [zbg, zaN _ _ (by decide)]
   clear hrow1 hnw hfl2 hB9 hin hb hbw hdo hrb
   obtain ⟨nn, hnn⟩ : ∃ nn, d9.rest.length + (L.length - t) = nn := ⟨_, rfl⟩
   rw [hnn] at HFin
   have hl4 : L.length - t <= 2000 := by omega
   by_cases hL0 : L = []
   ·
    have ht0 : t = 0 := by rw [hL0] at htl; simpa using htl
    subst ht0
    have hLl : L.length = 0 := by rw [hL0]; rfl
    have HE0 : Hid ((L.drop 0).flatMap Nd.cells = [] /\ nn = d9.rest.length) := zzh ⟨by rw [hL0]; rfl, by rw [<- hnn, hLl]; rfl⟩
    clear hL0
    cases p0 with
    | none =>
     go_upto_region 37 with (at_builtin; refine wpList_append_void rfl _ _ _ rfl B 53 i0 19 cap Tryz.underlying22 hi0' (vs 1) d9.rest.length (d9.rest.flatMap Nd.cells) rfl HH.out.1 rfl ?_)
     have HF := zzh (HFin.out (vs 1) wr (by rw [HE0.out.1, HE0.out.2, List.append_nil]; exact HH.out.1) (grownBy_refl _ _) (.inl rfl))
     obtain ⟨p7, c7, e7⟩ := zaf HH.out.1
     have e8 : vs 1 = .slice p7 d9.rest.length c7 := e7
     rw [e8] at HF ⊢
     have hnl : d9.rest.length = nn := HE0.out.2.symm
     rw [hnl] at HF ⊢
     clear HFin
     by_cases hbig : 2000 < nn
     ·
      go_wp2_with fail
      refine bodyPost_ret (zai rfl _ _ _) rfl ?_
      exact HBad.out 6 _ HF.out.1 (HF.out.2.1 hbig)
     ·
      go_wp2_with fail
      refine bodyPost_ret (zai rfl _ _ _) rfl ?_
      exact HF.out.2.2 hbig
    | some a =>
     by_cases hcap : cap = 0
     all_goals
      go_upto_region 37 with (at_builtin; refine zah _ rfl _ _ _ rfl B 53 i0 (.agg Nd.zero.arr) 19 160 Tryz.underlying22 hi0' hz0 hz1 hz2' rfl (by decide) (vs 1) d9.rest.length (d9.rest.flatMap Nd.cells) rfl HH.out.1 _ _ _ ([] : List Value) rfl (by simp) (fun j u hu => by cases hu) (fun u hu => by cases hu) (by unfold maxLen; omega) (by omega) HH.out.2.2.2.2 ?_; intro v7 w17 hown7 hgrow7 hat7)
      have hown8 : w17.ownsRow B 53 19 v7 nn (d9.rest.flatMap Nd.cells ++ (L.drop 0).flatMap Nd.cells) := by
       rw [HE0.out.1, HE0.out.2]
       exact hown7
      have HF := zzh (HFin.out v7 w17 hown8 hgrow7 hat7)
      obtain ⟨p7, c7, rfl⟩ := zaf hown8
      clear HFin hown7 hown8 hgrow7 hat7 hnn HE0
      by_cases hbig : 2000 < nn
      ·
       go_wp2_with fail
       refine bodyPost_ret (zai rfl _ _ _) rfl ?_
       exact HBad.out 6 _ HF.out.1 (HF.out.2.1 hbig)
      ·
       go_wp2_with fail
       refine bodyPost_ret (zai rfl _ _ _) rfl ?_
       exact HF.out.2.2 hbig
   obtain rfl := H.out.1.hp hL0
   by_cases hcap : cap = t
   ·
    have hLt : L.length = t := by omega
    have HNo : Hid (∀ j u, ((L.drop t).flatMap Nd.cells)[j]? = some u -> wr.cell? ((⟨b, off, none⟩ : Addr).add j) = some u) := zzh fun j u hu => by
     rw [List.drop_of_length_le (by omega)] at hu
     cases hu
    have H0 : Hid (L.length - cap = 0) := zzh (by omega)
    clear hLt
    subst hcap
    go_upto_region 37 with (at_builtin; refine zah _ rfl _ _ _ rfl B 53 i0 (.agg Nd.zero.arr) 19 160 Tryz.underlying22 hi0' hz0 hz1 hz2' rfl (by decide) (vs 1) d9.rest.length (d9.rest.flatMap Nd.cells) rfl HH.out.1 ⟨b, off, none⟩ _ _ ((L.drop cap).flatMap Nd.cells) rfl (HH.out.2.2.2.1.trans (by rw [H0.out])) HNo.out HH.out.2.2.1 (by unfold maxLen; omega) (by omega) HH.out.2.2.2.2 ?_; intro v7 w17 hown7 hgrow7 hat7)
    have hown8 : w17.ownsRow B 53 19 v7 nn (d9.rest.flatMap Nd.cells ++ (L.drop cap).flatMap Nd.cells) := by
     rw [<- hnn, H0.out]
     exact hown7
    have HF := zzh (HFin.out v7 w17 hown8 hgrow7 hat7)
    obtain ⟨p7, c7, rfl⟩ := zaf hown8
    clear HFin hown7 hown8 hgrow7 hat7 hnn H0
    by_cases hbig : 2000 < nn
    ·
     go_wp2_with fail
     refine bodyPost_ret (zai rfl _ _ _) rfl ?_
     exact HBad.out 6 _ HF.out.1 (HF.out.2.1 hbig)
    ·
     go_wp2_with fail
     refine bodyPost_ret (zai rfl _ _ _) rfl ?_
     exact HF.out.2.2 hbig
   ·
    go_upto_region 37 with (at_builtin; refine zah _ rfl _ _ _ rfl B 53 i0 (.agg Nd.zero.arr) 19 160 Tryz.underlying22 hi0' hz0 hz1 hz2' rfl (by decide) (vs 1) d9.rest.length (d9.rest.flatMap Nd.cells) rfl HH.out.1 ⟨b, off + t * 19, none⟩ _ _ ((L.drop t).flatMap Nd.cells) rfl HH.out.2.2.2.1 HH.out.2.1 HH.out.2.2.1 (by unfold maxLen; omega) (by omega) HH.out.2.2.2.2 ?_; intro v7 w17 hown7 hgrow7 hat7)
    rw [hnn] at hown7
    have HF := zzh (HFin.out v7 w17 hown7 hgrow7 hat7)
    obtain ⟨p7, c7, rfl⟩ := zaf hown7
    clear HFin hown7 hgrow7 hat7 hnn
    by_cases hbig : 2000 < nn
    ·
     go_wp2_with fail
     refine bodyPost_ret (zai rfl _ _ _) rfl ?_
     exact HBad.out 6 _ HF.out.1 (HF.out.2.1 hbig)
    ·
     go_wp2_with fail
     refine bodyPost_ret (zai rfl _ _ _) rfl ?_
     exact HF.out.2.2 hbig
end Go.Proofs.YtaehkbbdmamfpaaGreatDoor
