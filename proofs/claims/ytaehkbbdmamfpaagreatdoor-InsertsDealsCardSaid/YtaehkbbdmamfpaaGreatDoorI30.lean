/-
  Inserts: what goes where, when a page is broken: the program's Deal, of any list, its errors too (printed by gen_i30.py from XI16).
-/
import Derived.Test.YtaehkbbdmamfpaaGreatDoorI25
import Derived.BigQuiet
import Derived.Deep.QuietTactic
namespace Go.Proofs.YtaehkbbdmamfpaaGreatDoor
open Go.ChangeShapes Go.WideShapes Go.ChangeAt Go.RowKit
attribute [local go_sem ↓] Go.wp_at_zero Go.wp_at_succ
theorem dealF_ok {L : List Nd} {s : Sp} {r : List Sp} {d d' : Dl} (h : dealS L d s = .ok d') : zdf L (s :: r) d = zdf L r d' := by
 conv => lhs; unfold zdf
 rw [h]
set_option maxRecDepth 100000 in
set_option maxHeartbeats 16000000 in
theorem ideal_all (b off cap : Nat) (L : List Nd) (tk : Int) (pc : Option Addr) (bc oc cc : Nat) (C : List Cl) (goal depth : Int) (w : World) (hN : NIn w (some ⟨b, off, none⟩) b off cap L) (hC : CIn w pc bc oc cc C)
 (hg : w.cell? ⟨0, 0, none⟩ = some (.iface 159 (.agg #[.pointer (some ⟨1, 72, none⟩)]))) :
 Calls Tryz.prog 8 #[.slice (some ⟨b, off, none⟩) L.length cap, .int .i64 tk, .slice pc C.length cc, .int .i64 goal, .int .i64 depth] w (zcw w (zbt L tk C goal depth)) := by
 have hl := hN.len
 have hcp := hN.cap'
 have HCk := zzh (icheck (some ⟨b, off, none⟩) b off cap L pc bc oc cc C w hN hC)
 have H := zzh (And.intro hN hC)
 have hw0 : 0 < w.heap.size := by
  rcases Nat.eq_zero_or_pos w.heap.size with h0 | h
  · simp [World.cell?, h0] at hg
  · exact h
 have HGl : Hid (∀ W, Below w.heap.size w W -> W.cell? ⟨0, 0, none⟩ = some (.iface 159 (.agg #[.pointer (some ⟨1, 72, none⟩)]))) := zzh fun W h => (h.cell (p := ⟨0, 0, none⟩) hw0).trans hg
 clear hN hC hg
 obtain ⟨E, hEe⟩ : ∃ E, accE L C = E := ⟨_, rfl⟩
 rw [hEe] at HCk
 have HE := zzh hEe
 clear hEe
 have HBad : Hid (∀ (q : Int) W, Below w.heap.size w W -> zbt L tk C goal depth = .bad q -> zcw w (zbt L tk C goal depth) (.returned (.tuple #[.slice none 0 0, .slice none 0 0, .slice none 0 0, .int .i64 q])) W) := zzh fun q W hb h => by
  rw [h]
  exact ⟨⟨fun _ => .slice none 0 0, .slice none 0 0, rfl, dlIn_nil _ _⟩, hb⟩
 go_enter Tryz.func8, Tryz.ntmps8
 go_upto_region 2 with (go_at_call 28; refine HCk.out.mono ?_; clear HCk; rintro e w2 ⟨rfl, hb2⟩)
 have Hb2 := zzh hb2
 clear hb2
 by_cases h0 : E = 0
 case neg =>
  have h0' : (E != 0) = true := by simpa using h0
  have hv := zzh (show zbt L tk C goal depth = .bad E by unfold zbt; rw [if_neg (by rw [HE.out]; exact h0), HE.out])
  clear h0
  go_wp2_with fail
  refine bodyPost_ret (zai rfl _ _ _) rfl ?_
  exact HBad.out E _ Hb2.out hv.out
 subst h0
 have hok := accE_ok HE.out
 have hck := zam hok.col
 have hs := zaO hck
 have hll := (zaj hck).1
 have Hok := zzh (And.intro hok (And.intro hck hs))
 clear hok hck hs
 by_cases hn : tk < 0
 ·
  have hn' : decide (tk < 0) = true := decide_eq_true hn
  have hv := zzh (show zbt L tk C goal depth = .bad 3 by unfold zbt; rw [if_pos HE.out, place_neg hn]; rfl)
  clear hn
  go_wp2_with fail
  refine bodyPost_ret (zai rfl _ _ _) rfl ?_
  exact HBad.out 3 _ Hb2.out hv.out
 have hn' : decide (tk < 0) = false := decide_eq_false hn
 have HPl := zzh (iplace (some ⟨b, off, none⟩) b off cap L Hok.out.2.1 tk w2 (H.out.1.below Hb2.out))
 cases hp : zbm L tk
 ·
  have hv := zzh (show zbt L tk C goal depth = .bad 3 by unfold zbt; rw [if_pos HE.out, hp]; rfl)
  have Hp := zzh hp
  clear hp
  go_wp2_with (go_at_call 29; refine HPl.out.mono ?_; clear HPl; rintro e w3 ⟨he, -, hb3⟩; obtain rfl := he (by omega); rw [Hp.out])
  refine bodyPost_ret (zai rfl _ _ _) rfl ?_
  exact HBad.out 3 _ (Hb2.out.trans (hb3.mono Hb2.out.size)) hv.out
 obtain ⟨t, rfl, ht⟩ := zcV hp
 have htl : t <= L.length := by
  rcases ht with h | h
  · exact Nat.le_of_lt (Hok.out.2.2.lt _ h).2
  · omega
 have hdp : zbt L t C goal depth = if (accR (L.take t) C goal depth).2.2 = 0 then (match zdf L (accR (L.take t) C goal depth).1 ⟨[], []⟩ with | .error e => .bad e | .ok d => if 2000 < (d.rest ++ L.drop t).length then .bad 6 else ⟨zaU L ((itsP L).takeWhile (fun x => decide ((x : Int) < t))), d.boxes, d.rest ++ L.drop t, 0⟩) else .bad (accR (L.take t) C goal depth).2.2 := by
  unfold zbt
  rw [if_pos HE.out, hp, if_pos rfl]
  simp only [Int.toNat_natCast]
  rfl
 have Hp := zzh hp
 have Ht := zzh ht
 have ht1 : (t : Int) <= (L.length : Int) := by omega
 have ht2 : (0 : Int) <= (t : Int) := by omega
 have htlen : (L.take t).length = t := by rw [List.length_take]; omega
 have HAc : Hid (∀ W, Below w.heap.size w W -> Calls Tryz.prog 18 #[.slice (some ⟨b, off, none⟩) t cap, .slice pc C.length cc, .int .i64 goal, .int .i64 depth] W (AccPost W (accR (L.take t) C goal depth))) := zzh fun W hb => by
  have := iaccount (some ⟨b, off, none⟩) b off cap (L.take t) pc bc oc cc C goal depth W ((H.out.1.below hb).take t) (H.out.2.below hb)
  rwa [htlen] at this
 obtain ⟨sps, T, code, hA⟩ : ∃ sps T code, accR (L.take t) C goal depth = (sps, T, code) := ⟨_, _, _, rfl⟩
 have hsf := steps_few (L := L.take t) (C := C) (goal := goal) (depth := depth)
 have hsi : (itsP (L.take t)).length <= 2000 := its_few (zbL Hok.out.2.2 ht) (by omega)
 have hso := steps_ok (L := L) (C := C) (goal := goal) (depth := depth) Hok.out.2.1 ht
 rw [hA] at hdp hso HAc hsf
 have hsl : sps.length <= 2000 := Nat.le_trans hsf hsi
 clear hsf hsi
 have Hdp := zzh hdp
 have Hso := zzh hso
 clear hdp hso hA ht hp
 go_upto_region 6 with (go_at_call 29; refine HPl.out.mono ?_; clear HPl; rintro e w3 ⟨he, -, hb3⟩; obtain rfl := he (by omega); rw [Hp.out])
 have Hb3 := zzh (Hb2.out.trans (hb3.mono Hb2.out.size))
 clear hb3 Hb2 he
 go_upto_region 7 with (go_at_call 18; refine (HAc.out _ Hb3.out).mono ?_; clear HAc; rintro e w4 hp; obtain ⟨v, rfl, hrow4⟩ := hp.out; have hb4 := hp.below; clear hp; obtain ⟨pv, cv, rfl⟩ := zaf hrow4)
 have hb5 := Hb3.out.trans ((hb4.trans (((Below.refl w4.heap.size w4).alloc (Nat.le_refl _) (.cells T.arr 43)).mono hb4.size)).mono Hb3.out.size)
 have hrow5 := hrow4.alloc (.cells T.arr 43)
 have Hb5 := zzh hb5
 have Hrow5 := zzh hrow5
 clear hb4 hrow4 hb5 hrow5 Hb3
 generalize w4.alloc (.cells T.arr 43) = w5 at Hb5 Hrow5 ⊢
 by_cases hc0 : code = 0
 case neg =>
  have hc0' : (code != 0) = true := by simpa using hc0
  have hv := zzh (show zbt L t C goal depth = .bad code by rw [Hdp.out, if_neg hc0])
  clear hc0
  go_wp2_with fail
  refine bodyPost_ret (zai rfl _ _ _) rfl ?_
  exact HBad.out code _ Hb5.out hv.out
 subst hc0
 have hso := Hso.out rfl
 obtain ⟨RES, hD⟩ : ∃ RES, zdf L sps ⟨[], []⟩ = RES := ⟨_, rfl⟩
 have hdq : ∀ D, RES = .ok D -> zbt L t C goal depth = if 2000 < (D.rest ++ L.drop t).length then .bad 6 else ⟨zaU L ((itsP L).takeWhile (fun x => decide ((x : Int) < t))), D.boxes, D.rest ++ L.drop t, 0⟩ := fun D h => by
  rw [Hdp.out, if_pos rfl, hD, h]
 have hdr : ∀ e, RES = .error e -> zbt L t C goal depth = .bad e := fun e h => by
  rw [Hdp.out, if_pos rfl, hD, h]
 have HD := zzh (And.intro hD (And.intro hdq (And.intro hso hdr)))
 clear hD hdq hdr hso Hso Hdp
 obtain ⟨B, hB⟩ : ∃ B, w5.heap.size = B := ⟨_, rfl⟩
 have HB := zzh hB
 clear hB
 obtain ⟨i0, hi0', hz0, hz1, hz2'⟩ := info_parts zbq
 go_wp2_with fail
 go_loopg [10, 17] ((itsP L).length + 1) (fun gg t10 t17 wr => ∃ (pos : Nat) (d r : List Nat), gg = r.length + 1 /\ t17 = .int .i64 pos /\ itsP L = d ++ r /\ Items L pos r /\ (∀ x ∈ d, (x : Int) < (t : Int)) /\ (zaU L d).length <= pos /\ wr.ownsRow B 53 19 t10 (zaU L d).length ((zaU L d).flatMap Nd.cells) /\ Below B w5 wr)
 case atStart => exact ⟨0, [], _, rfl, rfl, rfl, Hok.out.2.2, (fun x hx => by cases hx), Nat.le_refl _, World.ownsRow_nil _ _ _ _, Below.refl _ _⟩
 case round =>
  obtain ⟨pos, d, r, rfl, rfl, hsd, hit, hd, hpl, hrow, hb⟩ := hrel
  have hp1 : (0 : Int) <= (pos : Int) := by omega
  obtain ⟨pp, cp, rfl⟩ := zaf hrow
  by_cases hlt : pos < t
  ·
   have hlt1 : (pos : Int) < (t : Int) := by omega
   have hlt2 : decide ((pos : Int) < (t : Int)) = true := decide_eq_true hlt1
   cases hit with
   | done => omega
   | @step _ m r hi hm hit2 =>
    have hp2 : (pos : Int) < (L.length : Int) := by omega
    have hmem : pos ∈ itsP L := by rw [hsd]; simp
    have hbw : Below w.heap.size w wr := Hb5.out.trans ⟨hb.os, hb.tape, hb.output, hb.size, fun q hq => hb.block q (by have := Hb5.out.size; have := HB.out; omega)⟩
    have HI := zzh (item9 (some ⟨b, off, none⟩) b off cap L _ Hok.out.2.1 Hok.out.2.2 pos m hmem hm wr (H.out.1.below hbw))
    have hpm := zaw _ _ _ hm
    rw [List.length_drop] at hpm
    have hsn := pageP_snoc L d pos
    have xk : ∀ W, Below wr.heap.size wr W -> W.cell? ⟨b, off + pos * 19, none⟩ = some (.int .i64 (nth L pos).kind) := fun W h => zau (((H.out.1.below hbw).below h).nth hi) 0 _ rfl
    have HXk := zzh xk
    have hd2 : ∀ x ∈ d ++ [pos], (x : Int) < (t : Int) := fun x hx => by
     rcases List.mem_append.1 hx with h | h
     · exact hd x h
     · simp only [List.mem_singleton] at h; rw [h]; exact hlt1
    have HR := zzh (And.intro hrow (And.intro hb hbw))
    have HL := zzh (And.intro hd2 (And.intro hsd (And.intro hit2 hm)))
    clear hd hd2 hsd hit2 hmem xk hrow hb hbw hm
    by_cases hk : (nth L pos).kind = 13
    ·
     have hk' : ((nth L pos).kind != 13) = false := by simp [hk]
     rw [if_pos hk, List.append_nil] at hsn
     have Hsn := zzh hsn
     generalize (nth L pos).kind = kk at HXk hk'
     clear hk hsn
     go_wp2_with (go_at_call 30; refine HI.out.mono ?_; clear HI; rintro e w6 ⟨rfl, hb6⟩; have y0 := HXk.out _ hb6)
     go_roundg (r.length + 1)
     case measure => simp only [List.length_cons]; omega
     case rel => exact ⟨pos + m, d ++ [pos], r, rfl, by go_num, by rw [HL.out.2.1]; simp, HL.out.2.2.1, HL.out.1, by rw [Hsn.out]; omega, by rw [Hsn.out]; exact zad HR.out.1 hb6, HR.out.2.1.trans (hb6.mono HR.out.2.1.size |> fun k => by have := HR.out.2.1.size; have := HB.out; exact ⟨hb6.os, hb6.tape, hb6.output, hb6.size, fun q hq => hb6.block q (by omega)⟩)⟩
    ·
     have hk' : ((nth L pos).kind != 13) = true := by simpa using hk
     rw [if_neg hk, item_sl HL.out.2.2.2] at hsn
     have Hsn := zzh hsn
     have hslen := sl_len (L := L) (i := pos) (m := m) (by omega)
     have HNw : Hid (∀ W, Below wr.heap.size wr W -> (∀ j u, ((sl L pos m).flatMap Nd.cells)[j]? = some u -> W.cell? ((⟨b, off + pos * 19, none⟩ : Addr).add j) = some u) /\ (∀ u ∈ (sl L pos m).flatMap Nd.cells, u.oneCell' = true) /\ W.ownsRow B 53 19 (.slice pp (zaU L d).length cp) (zaU L d).length ((zaU L d).flatMap Nd.cells) /\ B <= W.heap.size) := zzh fun W hW =>
      ⟨(((H.out.1.below (HR.out.2.2.trans (hW.mono HR.out.2.2.size))).drop pos (by omega)).take m).news, zax _, zad HR.out.1 hW, by have := HR.out.2.1.size; have := HB.out; have := hW.size; omega⟩
     have hflat : ((sl L pos m).flatMap Nd.cells).length = m * 19 := by rw [zaA, hslen]
     have Hfl := zzh hflat
     have Hslen := zzh hslen
     obtain ⟨q, hq⟩ : ∃ q, pos + m = q := ⟨_, rfl⟩
     rw [hq] at HI
     have hq1 : (pos : Int) <= (q : Int) := by omega
     have hq2 : (q : Int) <= (cap : Int) := by omega
     have hq3 : (0 : Int) <= (q : Int) := by omega
     have hq4 : pos <= q := by omega
     have hq5 : ¬ cap = pos := by omega
     have hq6 : q - pos = m := by omega
     have Hq := zzh hq
     clear hq
     have hpl2 : (zaU L d).length <= 2000 := by omega
     have hm2 : m <= 2000 := by omega
     generalize (nth L pos).kind = kk at HXk hk'
     clear hk hsn hflat hslen
     go_wp2_with (first | (go_at_call 30; refine HI.out.mono ?_; clear HI; rintro e w6 ⟨rfl, hb6⟩; have y0 := HXk.out _ hb6; have HNw6 := zzh (HNw.out _ hb6)) | (at_builtin; refine zah _ rfl _ _ _ rfl B 53 i0 (.agg Nd.zero.arr) 19 160 Tryz.underlying22 hi0' hz0 hz1 hz2' rfl (by decide) (.slice pp (zaU L d).length cp) (zaU L d).length ((zaU L d).flatMap Nd.cells) rfl HNw6.out.2.2.1 ⟨b, off + pos * 19, none⟩ _ _ ((sl L pos m).flatMap Nd.cells) rfl (Hfl.out.trans (by congr 1 <;> omega)) HNw6.out.1 HNw6.out.2.1 (by unfold maxLen; omega) (by omega) HNw6.out.2.2.2 ?_; intro v7 w7 hown7 hgrow7 hat7))
     have hBr : B <= wr.heap.size := by have := HR.out.2.1.size; have := HB.out; omega
     have hb7 : Below B w5 w7 := (HR.out.2.1.trans (hb6.mono hBr)).grown hgrow7 HNw6.out.2.2.2 (fun g hg => (HNw6.out.2.2.1.lt g hg).1)
     have hown9 : w7.ownsRow B 53 19 v7 (zaU L (d ++ [pos])).length ((zaU L (d ++ [pos])).flatMap Nd.cells) := by
      rw [Hsn.out, List.length_append, List.flatMap_append, Hslen.out]
      exact hown7
     go_roundg (r.length + 1)
     case measure => simp only [List.length_cons]; omega
     case rel => exact ⟨q, d ++ [pos], r, rfl, rfl, by rw [HL.out.2.1]; simp, by have := HL.out.2.2.1; rwa [Hq.out] at this, HL.out.1, by rw [Hsn.out, List.length_append, Hslen.out]; omega, hown9, hb7⟩
  ·
   have hlt2 : decide ((pos : Int) < (t : Int)) = false := decide_eq_false (by omega)
   have hw : (itsP L).takeWhile (fun x : Nat => decide ((x : Int) < (t : Int))) = d := wh_below hsd hd (fun x hx => by
    cases hit with
    | done => cases hx
    | step _ _ _ => simp only [List.head?_cons, Option.some.injEq] at hx; omega)
   have HPg := zzh (And.intro hw (And.intro hrow hb))
   clear hw hrow hb hsd hd hit hpl
   go_upto_region 16 with fail
   go_loopg [10, 11, 12, 80] (sps.length + 1) (fun gg t10 t11 t12 t80 w9 => ∃ (e r : List Sp) (vs : Nat -> Value) (d9 : Dl), gg = r.length + 1 /\ sps = e ++ r /\ t80 = .int .i64 (e.length : Int) /\ t12 = vs 1 /\ t10 = vs 0 /\ zdf L r d9 = RES /\ DlOk e.length d9 /\ DlIn w9 B vs t11 (zaU L d) d9 /\ Below B w5 w9)
   case atStart => exact ⟨[], sps, _, ⟨[], []⟩, rfl, rfl, rfl, rfl, rfl, HD.out.1, ⟨by decide, (fun x hx => by cases hx), Nat.zero_le _⟩, dlIn_start HPg.out.2.1, HPg.out.2.2⟩
   case round =>
    obtain ⟨e, r, vs, d9, rfl, hsp, rfl, rfl, rfl, hdl, hdo, hin, hb⟩ := hrel
    cases r with
    | nil =>
     have hres : RES = .ok d9 := hdl.symm
     have Hres := zzh hres
     clear hdl hres
     rw [List.append_nil] at hsp
     have hlt2 : ¬ e.length < sps.length := by rw [hsp]; omega
     have hdl2 : (L.drop t).length = L.length - t := List.length_drop
     have hfl2 : ((L.drop t).flatMap Nd.cells).length = (L.length - t) * 19 := by rw [zaA, hdl2]
     have hrb := hdo.rest
     have hel : e.length <= 2000 := by rw [<- hsp]; exact hsl
     have hrb2 : d9.rest.length <= 4004000 := by
      have : e.length * 2002 <= 2000 * 2002 := Nat.mul_le_mul_right _ hel
      omega
     have hB9 : B <= wr.heap.size := by have := hb.size; have := HB.out; omega
     have hrow1 := hin.rws.row 1 (by omega)
     have hbw : Below w.heap.size w wr := Hb5.out.trans ⟨hb.os, hb.tape, hb.output, hb.size, fun q hq => hb.block q (by have := Hb5.out.size; have := HB.out; omega)⟩
     have hnw := ((H.out.1.below hbw).drop t htl).news
     have HH := zzh (And.intro hrow1 (And.intro hnw (And.intro (zax (L.drop t)) (And.intro hfl2 hB9))))
     have HFin : Hid (∀ v7 w7, w7.ownsRow B 53 19 v7 (d9.rest.length + (L.length - t)) (d9.rest.flatMap Nd.cells ++ (L.drop t).flatMap Nd.cells) -> wr.grownBy w7 (vs 1).ownBlock -> (v7.ownBlock = (vs 1).ownBlock \/ v7.ownBlock = some wr.heap.size) ->
      Below w.heap.size w w7 /\ (2000 < d9.rest.length + (L.length - t) -> zbt L t C goal depth = .bad 6) /\ (¬ 2000 < d9.rest.length + (L.length - t) -> zcw w (zbt L t C goal depth) (.returned (.tuple #[vs 0, u11, v7, .int .i64 0])) w7)) := zzh fun v7 w7 h1 h2 h3 => by
      have hl9 : (d9.rest ++ L.drop t).length = d9.rest.length + (L.length - t) := by rw [List.length_append, hdl2]
      have hwB : w.heap.size <= B := by have := Hb5.out.size; have := HB.out; omega
      have hb7 : Below w.heap.size w w7 := hbw.grown h2 hbw.size (fun g hg => Nat.le_trans hwB (hrow1.lt g hg).1)
      refine ⟨hb7, fun hbig => by rw [HD.out.2.1 d9 Hres.out, hl9, if_pos hbig], fun hbig => ?_⟩
      rw [HD.out.2.1 d9 Hres.out, hl9, if_neg hbig, HPg.out.1]
      have hfin := hin.rest (y := L.drop t) (by rw [hdl2]; exact h1) h2 h3
      refine ⟨⟨upd vs 1 v7, u11, ?_, hfin.base hwB⟩, hb7⟩
      rw [zbg, zaN _ _ (by decide)]
     clear hrow1 hnw hfl2 hB9 hin hb hbw hdo hrb
     obtain ⟨nn, hnn⟩ : ∃ nn, d9.rest.length + (L.length - t) = nn := ⟨_, rfl⟩
     rw [hnn] at HFin
     have hl4 : L.length - t <= 2000 := by omega
     by_cases hcap : cap = t
     ·
      have hLt : L.length = t := by omega
      have HNo : Hid (∀ j u, ((L.drop t).flatMap Nd.cells)[j]? = some u -> wr.cell? ((⟨b, off, none⟩ : Addr).add j) = some u) := zzh fun j u hu => by
       rw [List.drop_of_length_le (by omega)] at hu
       cases hu
      have H0 : Hid (L.length - cap = 0) := zzh (by omega)
      clear hLt
      subst hcap
      go_upto_region 35 with (at_builtin; refine zah _ rfl _ _ _ rfl B 53 i0 (.agg Nd.zero.arr) 19 160 Tryz.underlying22 hi0' hz0 hz1 hz2' rfl (by decide) (vs 1) d9.rest.length (d9.rest.flatMap Nd.cells) rfl HH.out.1 ⟨b, off, none⟩ _ _ ((L.drop cap).flatMap Nd.cells) rfl (HH.out.2.2.2.1.trans (by rw [H0.out])) HNo.out HH.out.2.2.1 (by unfold maxLen; omega) (by omega) HH.out.2.2.2.2 ?_; intro v7 w7 hown7 hgrow7 hat7)
      have hown8 : w7.ownsRow B 53 19 v7 nn (d9.rest.flatMap Nd.cells ++ (L.drop cap).flatMap Nd.cells) := by
       rw [<- hnn, H0.out]
       exact hown7
      have HF := zzh (HFin.out v7 w7 hown8 hgrow7 hat7)
      obtain ⟨p7, c7, rfl⟩ := zaf hown8
      clear HFin hown7 hown8 hgrow7 hat7 hnn H0
      by_cases hbig : 2000 < nn
      ·
       go_wp2_with fail
       refine bodyPost_ret (zai rfl _ _ _) rfl ?_
       exact HBad.out 6 _ HF.out.1 (HF.out.2.1 hbig)
      ·
       go_wp2_with fail
       refine bodyPost_ret (zai rfl _ _ _) rfl ?_
       exact HF.out.2.2 hbig
     ·
      go_upto_region 35 with (at_builtin; refine zah _ rfl _ _ _ rfl B 53 i0 (.agg Nd.zero.arr) 19 160 Tryz.underlying22 hi0' hz0 hz1 hz2' rfl (by decide) (vs 1) d9.rest.length (d9.rest.flatMap Nd.cells) rfl HH.out.1 ⟨b, off + t * 19, none⟩ _ _ ((L.drop t).flatMap Nd.cells) rfl HH.out.2.2.2.1 HH.out.2.1 HH.out.2.2.1 (by unfold maxLen; omega) (by omega) HH.out.2.2.2.2 ?_; intro v7 w7 hown7 hgrow7 hat7)
      rw [hnn] at hown7
      have HF := zzh (HFin.out v7 w7 hown7 hgrow7 hat7)
      obtain ⟨p7, c7, rfl⟩ := zaf hown7
      clear HFin hown7 hgrow7 hat7 hnn
      by_cases hbig : 2000 < nn
      ·
       go_wp2_with fail
       refine bodyPost_ret (zai rfl _ _ _) rfl ?_
       exact HBad.out 6 _ HF.out.1 (HF.out.2.1 hbig)
      ·
       go_wp2_with fail
       refine bodyPost_ret (zai rfl _ _ _) rfl ?_
       exact HF.out.2.2 hbig
    | cons s r =>
     have hso1 := HD.out.2.2.1 s (by rw [hsp]; simp)
     have hall : ∀ D1, dealS L d9 s = .ok D1 -> zdf L r D1 = RES /\ DlOk (e.length + 1) D1 := fun D1 h => ⟨by rw [<- hdl, dealF_ok h], dealS_ok hll hso1 hdo h⟩
     have herr : ∀ ec, dealS L d9 s = .error ec -> zbt L t C goal depth = .bad ec := fun ec h => HD.out.2.2.2 ec (by rw [<- hdl]; unfold zdf; rw [h])
     obtain ⟨x, hx1, hx2, hx3, hx4⟩ := hso1.ex
     obtain ⟨c, hc1, hc2⟩ := hso1.cls
     obtain ⟨q0, hq01, hq02⟩ := hso1.split
     have hwh := hso1.what
     have hlt : e.length < sps.length := by rw [hsp]; simp
     have hlt1 : (e.length : Int) < (sps.length : Int) := by omega
     have hse : sps[e.length] = s := by simp [hsp]
     obtain ⟨m, hm⟩ := Hok.out.2.2.at_ x hx2
     have hxl := (Hok.out.2.2.lt x hx2).2
     have hm2 := opens_two hxl (by rw [hx4]; decide) hm
     have hpm := zaw _ _ _ hm
     rw [List.length_drop] at hpm
     have hil := insP_len hm hm2
     have hB9 : B <= wr.heap.size := by have := hb.size; have := HB.out; omega
     have hbw : Below w.heap.size w wr := Hb5.out.trans ⟨hb.os, hb.tape, hb.output, hb.size, fun q hq => hb.block q (by have := Hb5.out.size; have := HB.out; omega)⟩
     have hrs := zad Hrow5.out (by rw [HB.out]; exact hb)
     obtain ⟨g, cg, hvg, hcg, _, hag⟩ := row_agg Sp.cells (fun _ => rfl) hrs (by decide) hlt
     rw [hse] at hag
     cases hvg
     have hba := (Below.refl wr.heap.size wr).alloc (Nat.le_refl _) (.cells s.arr 49)
     have hin1 := hin.still hba
     have hbk1 := heap_alloc_new wr (.cells s.arr 49)
     have hb1 := hb.trans (hba.mono hB9)
     have hbw1 := hbw.trans (hba.mono hbw.size)
     have hz1' : (wr.alloc (.cells s.arr 49)).heap.size = wr.heap.size + 1 := by simp
     have hag' : agg? wr g (e.length * 7) 7 = some s.arr := hag
     clear hag hrs hin hb hbw hdl
     have HX := zzh (And.intro hx2 (And.intro hx4 (And.intro hm (And.intro hall (And.intro herr (And.intro True.intro (And.intro hdo hsp)))))))
     clear hx2 hx4 hm hall herr hdo hsp hso1 hse
     go_upto_region 18 with fail
     generalize wr.alloc (.cells s.arr 49) = w1 at hba hin1 hbk1 hb1 hbw1 hz1' ⊢
     obtain ⟨Sb, hSb⟩ : ∃ Sb, wr.heap.size = Sb := ⟨_, rfl⟩
     rw [hSb] at hbk1 hz1' ⊢
     have HI := zzh (item9 (some ⟨b, off, none⟩) b off cap L _ Hok.out.2.1 Hok.out.2.2 x m HX.out.1 HX.out.2.2.1 w1 (H.out.1.below hbw1))
     have hxs : s.arr[0]? = some (.int .i64 (x : Int)) := by rw [Sp.get0, hx1]
     have y0 : w1.cell? ⟨Sb, 0, none⟩ = some (.int .i64 (x : Int)) := by rw [cell?_blk' hbk1, hxs]
     go_upto_region 20 with (go_at_call 30; refine HI.out.mono ?_; clear HI; rintro e2 w2 ⟨rfl, hb2⟩; have y2 := cell_bel y0 hb2)
     have hz9 : x + m - 1 - (x + 1) = (insP L x).length := by rw [hil]; omega
     rw [hz9]
     have Hil := zzh hil
     clear hil
     have hB1 : B <= w1.heap.size := by omega
     have hbk2 : Blk w2 Sb s.arr 49 := (hb2.block Sb (by omega)).trans hbk1
     have hin2 := hin1.still hb2
     have hb22 := hb1.trans (hb2.mono hB1)
     have HS := zzh (And.intro hbk2 (And.intro hin2 (And.intro hb22 (hbw1.trans (hb2.mono hbw1.size)))))
     have hB2 : B <= w2.heap.size := by have := hb2.size; omega
     have y1 : w2.cell? ⟨Sb, 1, none⟩ = some (.int .i64 (c : Int)) := by rw [cell?_blk' hbk2, Sp.get1, hc1]
     have HB2 := zzh (And.intro hB2 hB9)
     clear hbk2 hin2 hb22 hb2 hbk1 hin1 hb1 hbw1 hba y0 y2 hB1 hB2 hB9 hz1' hxs hz9
     go_loopg [11] (c + 1 - d9.boxes.length + 1) (fun gg t11 wp => ∃ (j : Nat) (vj : Nat -> Value), gg = c + 1 - d9.boxes.length - j + 1 /\ j <= c + 1 - d9.boxes.length /\ vj 0 = vs 0 /\ vj 1 = vs 1 /\ DlIn wp B vj t11 (zaU L d) ⟨d9.boxes ++ List.replicate j [], d9.rest⟩ /\ Below B w5 wp /\ Blk wp Sb s.arr 49)
     case atStart => exact ⟨0, vs, rfl, Nat.zero_le _, rfl, rfl, by simpa using HS.out.2.1, HS.out.2.2.1, HS.out.1⟩
     case round =>
      obtain ⟨j, vj, rfl, hj, e0, e1, hin, hb, hblk⟩ := hrel
      have hlen : (d9.boxes ++ List.replicate j ([] : List Nd)).length = d9.boxes.length + j := by simp
      have hfew := HX.out.2.2.2.2.2.2.1.few
      obtain ⟨n, hn⟩ : ∃ n, (d9.boxes ++ List.replicate j ([] : List Nd)).length = n := ⟨_, rfl⟩
      have hout := hin.out
      simp only [hn] at hout
      have hBr : B <= wr.heap.size := by have := hb.size; have := HB.out; omega
      by_cases hcj : n <= c
      ·
       obtain ⟨pb, cb, rfl⟩ := zaf hout
       have hcj1 : (n : Int) <= (c : Int) := by omega
       have y3 : wr.cell? ⟨Sb, 1, none⟩ = some (.int .i64 (c : Int)) := by rw [cell?_blk' hblk, Sp.get1, hc1]
       have hba : Below wr.heap.size wr (wr.alloc (.cells #[.slice none 0 0] 22)) := (Below.refl _ _).alloc (Nat.le_refl _) _
       have HH := zzh (And.intro (zad hout hba) (And.intro (hin.still hba) (And.intro (hb.trans (hba.mono hBr)) (And.intro hn (And.intro e0 (And.intro e1 (hblk.below hba)))))))
       have H1 : Hid (∀ u ∈ [Value.slice none 0 0], u.oneCell' = true) := zzh fun u hu => by rw [List.mem_singleton.1 hu]; rfl
       have hn254 : n <= 254 := by omega
       have hnj : n = d9.boxes.length + j := by omega
       clear hout hin hb hba hlen hn hfew e0 e1 hblk
       obtain ⟨i1, hi1', hy0, hy1, hy2⟩ := info_parts info_rowb
       go_wp2_with (at_builtin; refine zah _ rfl _ _ _ rfl B 22 i1 (.slice none 0 0) 1 24 Tryz.underlying25 hi1' hy0 hy1 hy2 rfl (by decide) (.slice pb n cb) n (boxV (n + 2) vj) rfl HH.out.1 ⟨wr.heap.size, 0, none⟩ 1 1 [.slice none 0 0] rfl rfl (World.news_of_block (cs := #[.slice none 0 0]) (heap_alloc_new _ _)) H1.out (by unfold maxLen; omega) (by omega) (by simp; omega) ?_; intro v7 w7 hown7 hgrow7 hat7)
       have hin7 : DlIn w7 B (upd vj (n + 2) (.slice none 0 0)) v7 (zaU L d) ⟨d9.boxes ++ List.replicate (j + 1) [], d9.rest⟩ := by
        have h1 := HH.out.2.1.push (bv' := v7) (W' := w7) (by simp only [HH.out.2.2.2.1]; exact hown7) hgrow7
        simp only [HH.out.2.2.2.1, List.append_assoc] at h1
        rw [List.replicate_succ']
        exact h1
       have hb7 : Below B w5 w7 := HH.out.2.2.1.grown hgrow7 (by simp; omega) (fun g hg => (HH.out.1.lt g hg).1)
       have hbk7 : Blk w7 Sb s.arr 49 := (hgrow7.block Sb HH.out.2.2.2.2.2.2.lt (fun e => row_not HH.out.1 HH.out.2.2.2.2.2.2 step_ne_row e.symm)).trans HH.out.2.2.2.2.2.2
       go_roundg (c + 1 - d9.boxes.length - (j + 1) + 1)
       case measure => omega
       case rel => exact ⟨j + 1, _, rfl, by omega, by rw [zaN _ _ (by omega)]; exact HH.out.2.2.2.2.1, by rw [zaN _ _ (by omega)]; exact HH.out.2.2.2.2.2.1, hin7, hb7, hbk7⟩
      ·
       have hpad : d9.boxes ++ List.replicate j ([] : List Nd) = padI d9.boxes c := by
        unfold padI
        rw [show j = c + 1 - d9.boxes.length by omega]
       obtain ⟨BX, hBX⟩ : ∃ BX, padI d9.boxes c = BX := ⟨_, rfl⟩
       have hcB : c < BX.length := by rw [<- hBX]; exact padI_at _ _
       have hfB : BX.length <= 255 := by rw [<- hBX]; exact padI_few hfew hc2
       have hoB : ∀ z ∈ BX, z.length <= e.length * 2002 := by rw [<- hBX]; exact padI_ok HX.out.2.2.2.2.2.2.1.box
       rw [hpad, hBX] at hin
       have hn2 : n = BX.length := by rw [<- hn, hpad, hBX]
       subst hn2
       clear hn hpad hlen hfew hj hc2
       obtain ⟨gB, cb, rfl, hnl, hcb, hgB, hcell, hfrz⟩ := zbv hout (k := c) (by omega)
       clear hnl
       have hcB1 : (c : Int) < (BX.length : Int) := by omega
       have hcB0 : (0 : Int) <= (c : Int) := by omega
       have HD9 := zzh (And.intro hin (And.intro hb (And.intro hblk (And.intro hBX (And.intro hoB (And.intro e0 e1))))))
       have HCl : Hid (∀ W, Blk W Sb s.arr 49 -> W.cell? ⟨Sb, 0, none⟩ = some (.int .i64 (x : Int)) /\ W.cell? ⟨Sb, 1, none⟩ = some (.int .i64 (c : Int)) /\ W.cell? ⟨Sb, 2, none⟩ = some (.int .i64 s.what) /\ W.cell? ⟨Sb, 4, none⟩ = some (.int .i64 (q0 : Int))) := zzh fun W h =>
        ⟨by rw [cell?_blk' h, Sp.get0, hx1], by rw [cell?_blk' h, Sp.get1, hc1], by rw [cell?_blk' h, Sp.get2], by rw [cell?_blk' h, Sp.get4, hq01]⟩
       obtain ⟨z0, z1, z2, z4⟩ := HCl.out _ hblk
       have hds := dealS_at (L := L) (d := d9) hx1 hc1 hq01
       rw [hBX] at hds
       have Hds := zzh hds
       clear hin hb hblk hoB e0 e1 hBX hout hcell hfrz y1 hds
       rcases hwh with hw | hw | hw
       ·
        have hds := Hds.out
        rw [if_pos hw] at hds
        have Hst := zzh (HX.out.2.2.2.1 _ hds)
        clear hds
        rw [hw] at z2
        have Hw := zzh hw
        clear hw
        go_upto_region 30 with fail
        have HY : Hid (∀ W, Below B wr W -> ∀ i u, ((insP L x).flatMap Nd.cells)[i]? = some u -> W.cell? ((⟨b, off + (x + 1) * 19, none⟩ : Addr).add i) = some u) := zzh fun W hW => by
         have hbW := HD9.out.2.1.trans hW
         have hbw2 : Below w.heap.size w W := Hb5.out.trans ⟨hbW.os, hbW.tape, hbW.output, hbW.size, fun q hq => hbW.block q (by have := Hb5.out.size; have := HB.out; omega)⟩
         have h1 := ((H.out.1.below hbw2).drop (x + 1) (by omega)).take (m - 2)
         rw [zcc HX.out.2.2.1]
         exact h1.news
        have hlx : (insP L x).length <= 2000 := by rw [Hil.out]; omega
        refine zaK [7, 9, 11] (fun W => Blk W Sb s.arr 49) (JB wr B vj (.slice (some ⟨gB, 0, none⟩) BX.length cb) (zaU L d) ⟨BX, d9.rest⟩ c (insP L x) Sb s 7 9 11) follows (by kernel_rfl) (fun m us W h => h.blk) (fun us => JB.init HD9.out.1 hBr HD9.out.2.2.1 (by decide)) ?_
        iterate 12 first
         | (refine TK.pass rfl ?_)
         | (refine TK.read rfl _ (by intro wT hT K hK; simp only [Act.put, lsA, lsB, lsC] at hK; obtain ⟨y1, y2, y3, y4⟩ := HCl.out _ hT; go_step; exact hK _ rfl) ?_; try simp only [Act.put, lsA, lsB, lsC])
        refine TK.nil fun us => ?_
        refine KW.step _ rfl (fun mm W1 hJ h7 hD R hR => ?_) ?_
        ·
         have hA : mm 9 = false := by
          cases e : mm 9
          · rfl
          · have := hJ.dep2 e; rw [h7] at this; cases this
         obtain ⟨g9, c9, e9, _, _, _, f9, _⟩ := zbv (hJ.pre hA).out (k := c) (by show c < BX.length + 2 - 2; omega)
         cases e9
         simp only [Act.put] at hR
         go_step
         exact hR _ _ (hJ.load h7 rfl)
        try simp only [Act.put, lsA, lsB, lsC]
        refine KW.step _ rfl (fun mm W1 hJ h9 hD R hR => ?_) ?_
        ·
         have hL := hD 7 rfl (by kernel_rfl)
         have hl7 := hJ.ld hL
         have hrow := (hJ.pre h9).rws.row (c + 2) (by show c + 2 < BX.length + 2; omega)
         have hlen9 : (rowX (zaU L d) ⟨BX, d9.rest⟩ (c + 2)).length <= 4004000 := by
          show ((BX[c]?).getD []).length <= _
          rw [List.getElem?_eq_getElem hcB]
          have h1 := HD9.out.2.2.2.2.1 _ (List.getElem_mem hcB)
          have h2 : e.length * 2002 <= 2000 * 2002 := Nat.mul_le_mul_right _ (by omega)
          simp only [Option.getD_some]
          omega
         refine zbI (.tmp 154) (.tmp 155) 22 rfl B 53 i0 (.agg Nd.zero.arr) 19 160 Tryz.underlying22 hi0' hz0 hz1 hz2' rfl (by decide) (vj (c + 2)) (rowX (zaU L d) ⟨BX, d9.rest⟩ (c + 2)).length ((rowX (zaU L d) ⟨BX, d9.rest⟩ (c + 2)).flatMap Nd.cells) hl7 hrow ⟨b, off + (x + 1) * 19, none⟩ _ _ ((insP L x).flatMap Nd.cells) rfl (zaA _) (HY.out _ hJ.below) (zax _) (by unfold maxLen; omega) (by omega) hJ.size ?_
         intro v8 w8 hown8 hgrow8 hat8
         exact hR _ _ (hJ.app hcB hL h9 hown8 hgrow8 hat8)
        try simp only [Act.put, lsA, lsB, lsC]
        refine KW.step _ rfl (fun mm W1 hJ h11 hD R hR => ?_) ?_
        ·
         have hA := hD 9 rfl (by kernel_rfl)
         obtain ⟨_, h2⟩ := hJ.mid hA h11
         obtain ⟨g9, c9, e9, _, _, _, f9, f8⟩ := zbv h2 (k := c) (by show c < BX.length + 2 - 2; omega)
         cases e9
         have hrow := (hJ.mid hA h11).1.row (c + 2) (by show c + 2 < BX.length + 2; omega)
         rw [zbg] at hrow
         obtain ⟨p9, c9, e9⟩ := zaf hrow
         have hst := hJ.store hcB hA h11 rfl undef
         rw [e9] at hst
         simp only [Act.put] at hR
         simp only [e9] at hR ⊢
         go_step
         exact hR undef _ hst
        simp only [Act.put]
        refine KW.nil fun w3 hJ3 => ?_
        have hin3 := hJ3.post rfl
        have hb3 := HD9.out.2.1.trans hJ3.below
        obtain ⟨us9, hus9⟩ : ∃ v, us 9 = v := ⟨_, rfl⟩
        rw [hus9] at hin3
        clear hJ3 hus9 HY
        go_wp2_with fail
        go_roundg (r.length + 1)
        case measure => first | omega | (trace_state; simp; done) | (simp; omega)
        case rel => exact ⟨e ++ [s], r, _, _, rfl, by rw [HX.out.2.2.2.2.2.2.2]; simp, by rw [List.length_append]; rfl, by rw [zaN _ _ (by omega)]; exact HD9.out.2.2.2.2.2.2.symm, by rw [zaN _ _ (by omega)]; exact HD9.out.2.2.2.2.2.1.symm, Hst.out.1, by rw [List.length_append]; exact Hst.out.2, hin3, hb3⟩
       ·
        have hds := Hds.out
        rw [if_neg (by rw [hw]; decide), if_neg (by rw [hw]; decide)] at hds
        rw [hw] at z2
        have Hw := zzh hw
        clear hw
        obtain ⟨R, hR⟩ : ∃ R, zdc (nth L x) ((insP L x).drop q0) = R := ⟨_, rfl⟩
        rw [hR] at hds
        have HdR := zzh hds
        clear hds
        have hq3 : q0 <= (insP L x).length := by rw [hx1, Int.toNat_natCast] at hq02; exact hq02
        have htk : ((insP L x).take q0).length = q0 := by rw [List.length_take]; omega
        have hq4 : (0 : Int) <= (q0 : Int) := by omega
        have hq5 : q0 < cap - (x + 1) := by rw [Hil.out] at hq3; omega
        have hq6 : (q0 : Int) <= ((cap - (x + 1) : Nat) : Int) := by omega
        have hq7 : ¬ cap - (x + 1) = q0 := by omega
        have hq8 : (q0 : Int) <= ((insP L x).length : Int) := by omega
        have hq9 : q0 <= 2000 := by rw [Hil.out] at hq3; omega
        have Htk := zzh htk
        have HRR := zzh hR
        clear htk hR hq02
        go_upto_region 23 with fail
        have HY : Hid (∀ W, Below B wr W -> ∀ i u, (((insP L x).take q0).flatMap Nd.cells)[i]? = some u -> W.cell? ((⟨b, off + (x + 1) * 19, none⟩ : Addr).add i) = some u) := zzh fun W hW => by
         have hbW := HD9.out.2.1.trans hW
         have hbw2 : Below w.heap.size w W := Hb5.out.trans ⟨hbW.os, hbW.tape, hbW.output, hbW.size, fun q hq => hbW.block q (by have := Hb5.out.size; have := HB.out; omega)⟩
         have h1 := ((H.out.1.below hbw2).drop (x + 1) (by omega)).take (m - 2)
         rw [zcc HX.out.2.2.1]
         exact (h1.take q0).news
        have hlx : (insP L x).length <= 2000 := by rw [Hil.out]; omega
        refine zaK [7, 12, 14] (fun W => Blk W Sb s.arr 49) (JB wr B vj (.slice (some ⟨gB, 0, none⟩) BX.length cb) (zaU L d) ⟨BX, d9.rest⟩ c ((insP L x).take q0) Sb s 7 12 14) follows (by kernel_rfl) (fun m us W h => h.blk) (fun us => JB.init HD9.out.1 hBr HD9.out.2.2.1 (by decide)) ?_
        iterate 15 first
         | (refine TK.pass rfl ?_)
         | (refine TK.read rfl _ (by intro wT hT K hK; simp only [Act.put, lsA, lsB, lsC] at hK; obtain ⟨y1, y2, y3, y4⟩ := HCl.out _ hT; go_step; exact hK _ rfl) ?_; try simp only [Act.put, lsA, lsB, lsC])
        refine TK.nil fun us => ?_
        refine KW.step _ rfl (fun mm W1 hJ h7 hD R hR => ?_) ?_
        ·
         have hA : mm 12 = false := by
          cases e : mm 12
          · rfl
          · have := hJ.dep2 e; rw [h7] at this; cases this
         obtain ⟨g9, c9, e9, _, _, _, f9, _⟩ := zbv (hJ.pre hA).out (k := c) (by show c < BX.length + 2 - 2; omega)
         cases e9
         simp only [Act.put] at hR
         go_step
         exact hR _ _ (hJ.load h7 rfl)
        try simp only [Act.put, lsA, lsB, lsC]
        refine KW.step _ rfl (fun mm W1 hJ h9 hD R hR => ?_) ?_
        ·
         have hL := hD 7 rfl (by kernel_rfl)
         have hl7 := hJ.ld hL
         have hrow := (hJ.pre h9).rws.row (c + 2) (by show c + 2 < BX.length + 2; omega)
         have hlen9 : (rowX (zaU L d) ⟨BX, d9.rest⟩ (c + 2)).length <= 4004000 := by
          show ((BX[c]?).getD []).length <= _
          rw [List.getElem?_eq_getElem hcB]
          have h1 := HD9.out.2.2.2.2.1 _ (List.getElem_mem hcB)
          have h2 : e.length * 2002 <= 2000 * 2002 := Nat.mul_le_mul_right _ (by omega)
          simp only [Option.getD_some]
          omega
         refine zbI (.tmp 115) (.tmp 119) 22 rfl B 53 i0 (.agg Nd.zero.arr) 19 160 Tryz.underlying22 hi0' hz0 hz1 hz2' rfl (by decide) (vj (c + 2)) (rowX (zaU L d) ⟨BX, d9.rest⟩ (c + 2)).length ((rowX (zaU L d) ⟨BX, d9.rest⟩ (c + 2)).flatMap Nd.cells) hl7 hrow ⟨b, off + (x + 1) * 19, none⟩ _ _ (((insP L x).take q0).flatMap Nd.cells) rfl ((zaA _).trans (by rw [Htk.out])) (HY.out _ hJ.below) (zax _) (by unfold maxLen; omega) (by omega) hJ.size ?_
         intro v8 w8 hown8 hgrow8 hat8
         exact hR _ _ (hJ.app hcB hL h9 (by rw [Htk.out]; exact hown8) hgrow8 hat8)
        try simp only [Act.put, lsA, lsB, lsC]
        refine KW.step _ rfl (fun mm W1 hJ h11 hD R hR => ?_) ?_
        ·
         have hA := hD 12 rfl (by kernel_rfl)
         obtain ⟨_, h2⟩ := hJ.mid hA h11
         obtain ⟨g9, c9, e9, _, _, _, f9, f8⟩ := zbv h2 (k := c) (by show c < BX.length + 2 - 2; omega)
         cases e9
         have hrow := (hJ.mid hA h11).1.row (c + 2) (by show c + 2 < BX.length + 2; omega)
         rw [zbg] at hrow
         obtain ⟨p9, c9, e9⟩ := zaf hrow
         have hst := hJ.store hcB hA h11 rfl undef
         rw [e9] at hst
         simp only [Act.put] at hR
         simp only [e9] at hR ⊢
         go_step
         exact hR undef _ hst
        simp only [Act.put]
        refine KW.nil fun w3 hJ3 => ?_
        have hin3 := hJ3.post rfl
        have hb3 := HD9.out.2.1.trans hJ3.below
        obtain ⟨us9, hus9⟩ : ∃ v, us 12 = v := ⟨_, rfl⟩
        rw [hus9] at hin3
        clear hus9 HY
        have hb3b := hJ3.blk
        have HJ3 := zzh (And.intro hin3 (And.intro hb3 hb3b))
        obtain ⟨z30, z31, z32, z34⟩ := HCl.out _ hb3b
        clear hJ3 hin3 hb3 hb3b z0 z1 z2 z4
        go_upto_region 24 with fail
        have HN : Hid (∀ W, Below w3.heap.size w3 W -> W.cell? ⟨Sb, 0, none⟩ = some (.int .i64 (x : Int)) /\ W.cell? ⟨Sb, 4, none⟩ = some (.int .i64 (q0 : Int)) /\ agg? W b (off + x * 19) 19 = some (nth L x).arr /\ NIn W (some ⟨b, off + (x + 1) * 19 + q0 * 19, none⟩) b (off + (x + 1) * 19 + q0 * 19) (cap - (x + 1) - q0) ((insP L x).drop q0)) := zzh fun W hW => by
         obtain ⟨k0, _, _, k4⟩ := HCl.out W (HJ3.out.2.2.below hW)
         have hbW := HJ3.out.2.1.trans (hW.mono (by have := HJ3.out.2.1.size; have := HB.out; omega))
         have hbw2 : Below w.heap.size w W := Hb5.out.trans ⟨hbW.os, hbW.tape, hbW.output, hbW.size, fun q hq => hbW.block q (by have := Hb5.out.size; have := HB.out; omega)⟩
         have hNW := H.out.1.below hbw2
         refine ⟨k0, k4, hNW.nth hxl, ?_⟩
         have h1 := (hNW.drop (x + 1) (by omega)).take (m - 2)
         have h2 := h1.drop q0 (by have := Hil.out; rw [zcc HX.out.2.2.1] at hq3; exact hq3)
         rw [zcc HX.out.2.2.1]
         exact h2
        refine zaK [9, 10, 11, 12, 13, 14] (fun W => Below w3.heap.size w3 W) (JL w3 R 9) follows (by kernel_rfl) (fun m us W h => h.below) (fun us => JL.init) ?_
        iterate 15 first
         | (refine TK.pass rfl ?_)
         | (refine TK.read rfl _ (by intro wT hT K hK; simp only [Act.put, lsA, lsB, lsC] at hK; obtain ⟨y1, y2, y3, _⟩ := HN.out _ hT; go_step; exact hK _ rfl) ?_; try simp only [Act.put, lsA, lsB, lsC])
        refine TK.nil fun us => ?_
        refine KW.step _ rfl (fun mm W1 hJ h9 hD RR hRR => ?_) ?_
        ·
         have hcall := ileft (nth L x) _ b _ _ _ W1 (HN.out W1 hJ.below).2.2.2
         rw [List.length_drop, HRR.out] at hcall
         go_step
         refine hcall.mono ?_
         rintro ev W2 hp
         obtain ⟨u, rfl, hJ2⟩ := hJ.call h9 hp
         exact hRR _ _ hJ2
        try simp only [Act.put, lsA, lsB, lsC]
        refine KW.step _ rfl (fun mm W1 hJ h10 hD RR hRR => ?_) ?_
        ·
         have h9 := hD 9 rfl (by kernel_rfl)
         simp only [Act.put] at hRR
         go_step
         exact hRR _ _ (hJ.pure h9 (by decide) (fun v e h _ => h))
        try simp only [Act.put, lsA, lsB, lsC]
        refine KW.step _ rfl (fun mm W1 hJ h11 hD RR hRR => ?_) ?_
        ·
         have h10 := hD 10 rfl (by kernel_rfl)
         have h9 := hJ.dep 10 h10
         obtain ⟨v, e, _, h2⟩ := hJ.vals
         have e10 : us 10 = .tuple #[v, e] := h2 10 h10
         have e9 : us 9 = .tuple #[v, e] := h2 9 h9
         simp only [Act.put] at hRR
         simp only [e10] at hRR ⊢
         go_step
         refine hRR _ _ (hJ.pure h9 (by decide) (fun v' e' h _ => ?_))
         rw [e9] at h
         simp at h
         exact h.1
        try simp only [Act.put, lsA, lsB, lsC]
        refine KW.step _ rfl (fun mm W1 hJ h12 hD RR hRR => ?_) ?_
        ·
         have h10 := hD 10 rfl (by kernel_rfl)
         have h9 := hJ.dep 10 h10
         obtain ⟨v, e, _, h2⟩ := hJ.vals
         have e10 : us 10 = .tuple #[v, e] := h2 10 h10
         have e9 : us 9 = .tuple #[v, e] := h2 9 h9
         simp only [Act.put] at hRR
         simp only [e10] at hRR ⊢
         go_step
         refine hRR _ _ (hJ.pure h9 (by decide) (fun v' e' h _ => ?_))
         rw [e9] at h
         simp at h
         exact h.2
        try simp only [Act.put, lsA, lsB, lsC]
        refine KW.step _ rfl (fun mm W1 hJ h13 hD RR hRR => ?_) ?_
        ·
         have h11 := hD 11 rfl (by kernel_rfl)
         have h9 := hJ.dep 11 h11
         simp only [Act.put] at hRR
         go_step
         exact hRR _ _ (hJ.pure h9 (by decide) (fun v e h h' => h' 11 h11))
        try simp only [Act.put, lsA, lsB, lsC]
        refine KW.step _ rfl (fun mm W1 hJ h14 hD RR hRR => ?_) ?_
        ·
         have h12 := hD 12 rfl (by kernel_rfl)
         have h9 := hJ.dep 12 h12
         simp only [Act.put] at hRR
         go_step
         exact hRR _ _ (hJ.pure h9 (by decide) (fun v e h h' => h' 12 h12))
        simp only [Act.put]
        refine KW.nil fun w4 hJ4 => ?_
        obtain ⟨v, ev, h1, h2⟩ := hJ4.vals
        by_cases hR0 : R.2 = 0
        case neg =>
         obtain ⟨rfl, X, rfl, hX3, hX4⟩ := (h1 rfl).2 hR0
         have hbad := HdR.out
         rw [if_neg hR0] at hbad
         have Hbad := zzh (HX.out.2.2.2.2.1 _ hbad)
         have e13 : us 13 = .slice none 0 0 := h2 13 rfl
         have e14 : us 14 = .iface 75 (.pointer (some ⟨X, 0, none⟩)) := h2 14 rfl
         simp only [e13, e14]
         have hB3 : B <= w3.heap.size := by have := HJ3.out.2.1.size; have := HB.out; omega
         have hb4 := HJ3.out.2.1.trans (hJ4.below.mono hB3)
         have hbw4 : Below w.heap.size w w4 := Hb5.out.trans ⟨hb4.os, hb4.tape, hb4.output, hb4.size, fun q hq => hb4.block q (by have := Hb5.out.size; have := HB.out; omega)⟩
         obtain ⟨Rc, hRc⟩ : ∃ Rc, R.2 = Rc := ⟨_, rfl⟩
         rw [hRc] at hX4 Hbad
         clear hJ4 h1 h2 e13 e14 hbad hb4 hR0 hRc hX3
         go_upto_region 26 with fail
         have hba : Below w4.heap.size w4 (w4.alloc (.cells #[.pointer none] 75)) := (Below.refl _ _).alloc (Nat.le_refl _) _
         have hT0 := heap_alloc_new w4 (.cells #[.pointer none] 75)
         have hX5 := (hba.block X (Array.getElem?_eq_some_iff.1 hX4).1).trans hX4
         have hbw6 := hbw4.trans (hba.mono hbw4.size)
         have hXT : X < w4.heap.size := (Array.getElem?_eq_some_iff.1 hX4).1
         have hTs := hbw4.size
         obtain ⟨T, hT⟩ : ∃ T, w4.heap.size = T := ⟨_, rfl⟩
         rw [hT] at hT0 hXT hTs ⊢
         generalize w4.alloc (.cells #[.pointer none] 75) = w6 at hT0 hX5 hbw6 ⊢
         have HAs := zzh (as_hit ⟨X, 0, none⟩ ⟨T, 0, none⟩ (.pointer none) w6 (HGl.out _ hbw6) (by rw [cell?_blk' hT0]; rfl) (frozen_of_row w6 T 0 _ _ hT0))
         have HT := zzh (And.intro hT0 (And.intro hX5 hbw6))
         clear hba hX4 hbw4 hT hT0 hX5 hbw6
         go_upto_region 27 with (go_at_call 32; refine HAs.out.mono ?_; clear HAs; rintro ev w7 ⟨rfl, hw7⟩; have Hw7 := zzh hw7; clear hw7)
         have hba7 : Below w6.heap.size w6 ((((w6.alloc (.cells #[.pointer (some ⟨T, 0, none⟩)] 77)).alloc (.cells #[.pointer (some ⟨1, 77, none⟩), .pointer (some ⟨w6.heap.size, 0, none⟩), .int .u64 150] 119)).alloc (.cells #[.pointer (some ⟨1, 77, none⟩), .pointer (some ⟨w6.heap.size, 0, none⟩), .int .u64 150] 119)).alloc (.cells #[.pointer (some ⟨X, 0, none⟩)] 75)) :=
          ((((Below.refl _ _).alloc (Nat.le_refl _) _).alloc (by simp) _).alloc (by simp; omega) _).alloc (by simp; omega) _
         have hT8 := (hba7.block T (Array.getElem?_eq_some_iff.1 HT.out.1).1).trans HT.out.1
         have hX8 := (hba7.block X (Array.getElem?_eq_some_iff.1 HT.out.2.1).1).trans HT.out.2.1
         have hbw8 := HT.out.2.2.trans (hba7.mono HT.out.2.2.size)
         have hw7 := Hw7.out
         generalize (((w6.alloc (.cells #[.pointer (some ⟨T, 0, none⟩)] 77)).alloc (.cells #[.pointer (some ⟨1, 77, none⟩), .pointer (some ⟨w6.heap.size, 0, none⟩), .int .u64 150] 119)).alloc (.cells #[.pointer (some ⟨1, 77, none⟩), .pointer (some ⟨w6.heap.size, 0, none⟩), .int .u64 150] 119)).alloc (.cells #[.pointer (some ⟨X, 0, none⟩)] 75) = w8 at hT8 hX8 hbw8 hw7
         have hb9 : Below w.heap.size w w7 := by rw [hw7]; exact hbw8.setCell (p := ⟨T, 0, none⟩) hTs _
         have hX9 : w7.heap[X]? = some (.cells #[.int .i64 Rc] 79 (0, 0)) := by rw [hw7]; exact Blk.other hX8 (by omega) _
         have hT9 : w7.heap[T]? = some (.cells #[.pointer (some ⟨X, 0, none⟩)] 75 (0, 0)) := by rw [hw7]; exact Blk.set (c := #[.pointer none]) hT8 0 _ _ rfl
         clear hw7 Hw7 hba7
         have c1 : w7.cell? ⟨T, 0, none⟩ = some (.pointer (some ⟨X, 0, none⟩)) := by rw [cell?_blk' hT9]; rfl
         have c2 : w7.cell? ⟨X, 0, none⟩ = some (.int .i64 Rc) := by rw [cell?_blk' hX9]; rfl
         clear hX9 hT9 hT8 hX8 hbw8
         have Hb9 := zzh hb9
         clear hb9
         go_quiet (fail)
         go_wp2_with fail
         refine bodyPost_ret (zai rfl _ _ _) rfl ?_
         exact HBad.out Rc _ (zdk Hb9.out _) Hbad.out
        have hds := HdR.out
        rw [if_pos hR0] at hds
        have Hst := zzh (HX.out.2.2.2.1 _ hds)
        clear hds
        obtain ⟨rfl, hv⟩ := (h1 rfl).1 hR0
        have e13 : us 13 = v := h2 13 rfl
        have e14 : us 14 = .nilIface := h2 14 rfl
        simp only [e13, e14]
        have hin4 := HJ3.out.1.still hJ4.below
        have hB3 : B <= w3.heap.size := by have := HJ3.out.2.1.size; have := HB.out; omega
        have hb4 := HJ3.out.2.1.trans (hJ4.below.mono hB3)
        clear hJ4 h1 h2 e13 e14
        go_upto_region 26 with fail
        have hba : Below w4.heap.size w4 (w4.alloc (.cells #[.pointer none] 75)) := (Below.refl _ _).alloc (Nat.le_refl _) _
        have hB4 : B <= w4.heap.size := by have := hb4.size; have := HB.out; omega
        have hin6 := hin4.still hba
        have hb6 := hb4.trans (hba.mono hB4)
        have hv6 := zad hv hba
        have hB6 : B <= (w4.alloc (.cells #[.pointer none] 75)).heap.size := Nat.le_trans hB4 hba.size
        generalize w4.alloc (.cells #[.pointer none] 75) = w6 at hin6 hb6 hv6 hB6 ⊢
        have hu1 : upd vj (c + 2) us9 1 = vs 1 := by rw [zaN _ _ (by omega)]; exact HD9.out.2.2.2.2.2.2
        have hu0 : upd vj (c + 2) us9 0 = vs 0 := by rw [zaN _ _ (by omega)]; exact HD9.out.2.2.2.2.2.1
        have hrow := hin6.rws.row 1 (by omega)
        rw [hu1] at hrow
        have hrr : d9.rest.length <= 4004000 := by
         have h1 := HX.out.2.2.2.2.2.2.1.rest
         have h2 : e.length * 2002 <= 2000 * 2002 := Nat.mul_le_mul_right _ (by omega)
         omega
        have hRl : R.1.length <= 2002 := by rw [<- HRR.out]; exact leftP_len (by rw [HRR.out]; exact hR0)
        have HK := zzh (And.intro hin6 (And.intro hb6 (And.intro hv6 (And.intro hrow (And.intro hu1 hu0)))))
        clear hin4 hb4 hv hba hin6 hb6 hrow hB4 hu1 hu0
        obtain ⟨_, ⟨rfl, hn0⟩ | ⟨g6, c6, cur, rfl, _, _, _, _, _, _⟩⟩ := id hv6
        ·
         have hRn : R.1 = [] := List.length_eq_zero_iff.1 hn0
         have HRn := zzh hRn
         clear hRn hn0 hv6
         go_wp2_with (first | (go_at_call 32; refine (as_nil _ _).mono ?_; rintro ev W ⟨rfl, rfl⟩) | (at_builtin; refine wpList_append_own_none rfl _ _ _ rfl B 53 i0 19 Tryz.underlying22 hi0' (vs 1) d9.rest.length (d9.rest.flatMap Nd.cells) rfl HK.out.2.2.2.1 rfl ?_))
         go_roundg (r.length + 1)
         case measure => first | omega | (simp; done) | (simp; omega)
         case rel => exact ⟨e ++ [s], r, _, _, rfl, by rw [HX.out.2.2.2.2.2.2.2]; simp, by rw [List.length_append]; rfl, HK.out.2.2.2.2.1.symm, HK.out.2.2.2.2.2.symm, Hst.out.1, by rw [List.length_append]; exact Hst.out.2, by rw [HRn.out, List.append_nil]; exact HK.out.1, HK.out.2.1⟩
        ·
         have HCs := zzh (hv6.cells (g := g6) rfl)
         clear hv6
         go_wp2_with (first | (go_at_call 32; refine (as_nil _ _).mono ?_; rintro ev W ⟨rfl, rfl⟩) | (at_builtin; refine zah _ rfl _ _ _ rfl B 53 i0 (.agg Nd.zero.arr) 19 160 Tryz.underlying22 hi0' hz0 hz1 hz2' rfl (by decide) (vs 1) d9.rest.length (d9.rest.flatMap Nd.cells) rfl HK.out.2.2.2.1 ⟨g6, 0, none⟩ _ _ (R.1.flatMap Nd.cells) rfl (zaA _) HCs.out (zax _) (by unfold maxLen; omega) (by omega) hB6 ?_; intro v7 w7 hown7 hgrow7 hat7))
         have hin7 := HK.out.1.rest (y := R.1) hown7 (by rw [HK.out.2.2.2.2.1]; exact hgrow7) (by rw [HK.out.2.2.2.2.1]; exact hat7)
         have hb7 : Below B w5 w7 := HK.out.2.1.grown hgrow7 hB6 (fun g hg => (HK.out.2.2.2.1.lt g hg).1)
         go_roundg (r.length + 1)
         case measure => first | omega | (simp; done) | (simp; omega)
         case rel => exact ⟨e ++ [s], r, _, _, rfl, by rw [HX.out.2.2.2.2.2.2.2]; simp, by rw [List.length_append]; rfl, by rw [zbg], by rw [zaN _ _ (by omega)]; exact HK.out.2.2.2.2.2.symm, Hst.out.1, by rw [List.length_append]; exact Hst.out.2, hin7, hb7⟩
       ·
        have hds := Hds.out
        rw [if_neg (by rw [hw]; decide), if_pos hw] at hds
        have Hst := zzh (HX.out.2.2.2.1 _ hds)
        clear hds
        rw [hw] at z2
        have Hw := zzh hw
        clear hw
        have hq1 : (x : Int) <= (x : Int) + (m : Int) := by omega
        have hq2 : (x : Int) + (m : Int) <= (cap : Int) := by omega
        have hq3 : (0 : Int) <= (x : Int) + (m : Int) := by omega
        have hq5 : ¬ cap = x := by omega
        have hq6 : x + m - x = m := by omega
        have hm9 : m <= 2000 := by omega
        have hslen := sl_len (L := L) (i := x) (m := m) (by omega)
        have hrow := HD9.out.1.rws.row 1 (by omega)
        rw [HD9.out.2.2.2.2.2.2] at hrow
        have hrr : d9.rest.length <= 4004000 := by
         have h1 := HX.out.2.2.2.2.2.2.1.rest
         have h2 : e.length * 2002 <= 2000 * 2002 := Nat.mul_le_mul_right _ (by omega)
         omega
        have HF : Hid ((∀ i u, ((sl L x m).flatMap Nd.cells)[i]? = some u -> wr.cell? ((⟨b, off + x * 19, none⟩ : Addr).add i) = some u) /\ ((sl L x m).flatMap Nd.cells).length = m * 19) := zzh (by
         have hbW := HD9.out.2.1
         have hbw2 : Below w.heap.size w wr := Hb5.out.trans ⟨hbW.os, hbW.tape, hbW.output, hbW.size, fun q hq => hbW.block q (by have := Hb5.out.size; have := HB.out; omega)⟩
         exact ⟨(((H.out.1.below hbw2).drop x (by omega)).take m).news, by rw [zaA, hslen]⟩)
        have Hrow := zzh hrow
        have Hslen := zzh hslen
        clear hrow hslen
        go_wp2_with (at_builtin; refine zah _ rfl _ _ _ rfl B 53 i0 (.agg Nd.zero.arr) 19 160 Tryz.underlying22 hi0' hz0 hz1 hz2' rfl (by decide) (vs 1) d9.rest.length (d9.rest.flatMap Nd.cells) rfl Hrow.out ⟨b, off + x * 19, none⟩ _ _ ((sl L x m).flatMap Nd.cells) rfl (HF.out.2.trans (by congr 1 <;> omega)) HF.out.1 (zax _) (by unfold maxLen; omega) (by omega) hBr ?_; intro v7 w7 hown7 hgrow7 hat7)
        have hin7 : DlIn w7 B (upd vj 1 v7) (.slice (some ⟨gB, 0, none⟩) BX.length cb) (zaU L d) ⟨BX, d9.rest ++ zby L x⟩ := by
         refine HD9.out.1.rest (y := zby L x) ?_ (by rw [HD9.out.2.2.2.2.2.2]; exact hgrow7) (by rw [HD9.out.2.2.2.2.2.2]; exact hat7)
         rw [item_sl HX.out.2.2.1, Hslen.out]
         rw [hq6] at hown7
         exact hown7
        have hb7 : Below B w5 w7 := HD9.out.2.1.grown hgrow7 hBr (fun g hg => (Hrow.out.lt g hg).1)
        go_roundg (r.length + 1)
        case measure => first | omega | (simp; done) | (simp; omega)
        case rel => exact ⟨e ++ [s], r, _, _, rfl, by rw [HX.out.2.2.2.2.2.2.2]; simp, by rw [List.length_append]; rfl, by rw [zbg], by rw [zaN _ _ (by omega)]; exact HD9.out.2.2.2.2.2.1.symm, Hst.out.1, by rw [List.length_append]; exact Hst.out.2, hin7, hb7⟩
end Go.Proofs.YtaehkbbdmamfpaaGreatDoor
