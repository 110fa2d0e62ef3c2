/-
  The law InsertsDeals, walked: a page is dealt out as the document says. No statement of the seat stands here.
-/
import Derived.Test.YtaehkbbdmamfpaaGreatDoorK6
import Derived.Test.YtaehkbbdmamfpaaGreatDoorI25
import Derived.Test.YtaehkbbdmamfpaaGreatDoorI30
import Derived.Test.YtaehkbbdmamfpaaGreatDoorI52
import Derived.Test.YtaehkbbdmamfpaaGreatDoorI53
set_option maxRecDepth 100000
set_option maxHeartbeats 16000000
namespace Go.Proofs.YtaehkbbdmamfpaaGreatDoor
open Go.ChangeShapes Go.WideShapes Go.ChangeAt Go.RowKit
attribute [local go_sem ↓] Go.wp_at_zero Go.wp_at_succ
theorem wpList_append_want {P : Program} (w : World) {ops : Array Oper} {rest : List Oper} {o : Oper} {a : Act} {Q : Exit -> Act -> World -> Prop} (hgd : Region.wanted o (yielded ops a.tmps) = true) (s x : Operand) (t : TypeId)
 (ho : o.op = .call { callee := .builtin .append, args := #[s, x], argTypes := #[t, t] })
 (base : Nat) (e : TypeId) (i : TypeInfo) (z : Value) (size bytes : Nat) (ht : P.underlying t = some (.slice e)) (hi : P.info? e = some i) (hz : i.zero = some z)
 (hsize : i.size = size) (hby : i.bytes = bytes) (hzs : z.cells.size = size) (hsz : 0 < size)
 (v : Value) (n : Nat) (xs : List Value) (hs : a.eval s = v) (hown : w.ownsRow base e size v n xs)
 (ad : Addr) (m c : Nat) (news : List Value) (hx : a.eval x = .slice (some ad) m c) (hl : news.length = m * size) (hnews : ∀ j u, news[j]? = some u -> w.cell? (ad.add j) = some u) (h1 : ∀ u ∈ news, u.oneCell' = true)
 (h63 : n + m <= maxLen) (hbytes : (n + m) * bytes <= 140737488355328) (hbase : base <= w.heap.size)
 (h : ∀ v' w', w'.ownsRow base e size v' (n + m) (xs ++ news) -> w.grownBy w' v.ownBlock -> (v'.ownBlock = v.ownBlock \/ v'.ownBlock = some w.heap.size) -> wpList P ops Q rest (a.put o.dst v') w') : wpList P ops Q (o :: rest) a w :=
 wpList_step fun _ hK => by
  rw [if_pos hgd]
  exact zbI s x t ho base e i z size bytes ht hi hz hsize hby hzs hsz v n xs hs hown ad m c news hx hl hnews h1 h63 hbytes hbase fun v' w' h2 h3 h4 => hK _ _ (h v' w' h2 h3 h4)
theorem lent_spoil {w : World} {B g c : Nat} {L : List Nd} (h : LentIn w B g c L) :
 Calls Tryz.prog 15 #[.slice (some ⟨g, 0, none⟩) L.length c] w fun e w' => e = .returned (.tuple #[]) /\ Turn1 g w w' := by
 obtain ⟨cur, h1, h2⟩ := h.blk
 have hc := h.cap
 have hl := h.nin.len
 exact spoil_any g 0 c _ L.length (fun _ => rfl) cur _ w (fun _ => ⟨h1, by omega⟩) (by omega)
theorem turn_rows {b : Nat} {w w' : World} (h : Turn1 b w w') {B n size : Nat} {E : TypeId} {v : Value} {xs : List Value} (hr : w.ownsRow B E size v n xs) (hb : b < B) : w'.ownsRow B E size v n xs :=
 zar hr fun g hg _ => h.other g (fun e => by have := (hr.lt g hg).1; omega)
theorem turn_below {b B : Nat} {w w' : World} (h : Turn1 b w w') (hb : B <= b) : Below B w w' := ⟨h.base.os, h.base.tape, h.base.output, h.base.size, fun k hk => h.other k (by omega)⟩
theorem turn_deal {b : Nat} {w w' : World} (h : Turn1 b w w') {B : Nat} {vs : Nat -> Value} {bv : Value} {pg : List Nd} {d : Dl} (hd : DlIn w B vs bv pg d) (hb : b < B) : DlIn w' B vs bv pg d :=
 ⟨⟨fun i hi => turn_rows h (hd.rws.row i hi) hb, hd.rws.ne⟩, turn_rows h hd.out hb⟩
theorem apart_boxes {W W' : World} {B : Nat} {vs : Nat -> Value} {bv v7 : Value} {pg : List Nd} {d : Dl} (h : DlIn W B vs bv pg d) (hg : W.grownBy W' bv.ownBlock)
 (ho : W'.ownsRow B 22 1 v7 (d.boxes.length + 2) (boxV (d.boxes.length + 2) vs ++ [vs 0, vs 1])) (hl : d.boxes.length <= 255) (hx : ∀ i, i < d.boxes.length + 2 -> (rowX pg d i).length <= 10000000) (hB : B <= W'.heap.size) :
 Calls Tryz.prog 16 #[v7] W' fun e w' => e = .returned (.bool true) /\ Below B W' w' := by
 obtain ⟨n, hn⟩ : ∃ n, d.boxes.length = n := ⟨_, rfl⟩
 rw [hn] at ho hl hx
 have hrow : ∀ i, i < n + 2 -> W'.ownsRow B 53 19 (vs i) (rowX pg d i).length ((rowX pg d i).flatMap Nd.cells) := fun i hi => by
  have hr := h.rws.row i (by omega)
  exact zar hr fun q hq hl => hg.block q hl (fun e => zbz h.out hr q hq e.symm)
 obtain ⟨_, ⟨_, e⟩ | ⟨g, c, cur, rfl, hb, hgg, hc, _, hs, ht⟩⟩ := id ho
 · omega
 have hcap : n + 2 <= c := hc
 obtain ⟨π, hπ⟩ : ∃ π : Nat -> Nat, π = fun j => if j < n then j + 2 else j - n := ⟨_, rfl⟩
 have hlt : ∀ j, j < n + 2 -> π j < n + 2 := fun j hj => by rw [hπ]; simp only; split <;> omega
 have hinj : ∀ i j, i < n + 2 -> j < n + 2 -> i ≠ j -> π i ≠ π j := fun i j hi hj hne => by rw [hπ]; simp only; split <;> split <;> omega
 refine apart_rows B W'.heap.size g (n + 2) c (fun j => vs (π j)) (fun j => (rowX pg d (π j)).length) (fun j => rowX pg d (π j)) W'
  ⟨⟨fun j hj q hq => ((hrow _ (hlt j hj)).lt q hq).2, fun i j hi hj hne q hq => h.rws.ne _ _ (by have := hlt i hi; omega) (by have := hlt j hj; omega) (hinj i j hi hj hne) q hq⟩, hB, (Array.getElem?_eq_some_iff.1 hgg).1, fun j hj e => zbz ho (hrow _ (hlt j hj)) g e rfl, ⟨cur, _, hgg, fun j hj => ?_⟩, by omega, fun j hj => by have := hx _ (hlt j hj); show (rowX pg d (π j)).length <= _; omega⟩
  ⟨fun j hj => hrow _ (hlt j hj), Below.refl _ _, fun _ _ _ => rfl, Nat.le_refl _⟩ hcap
 have h1 : cur[j]? = (boxV (n + 2) vs ++ [vs 0, vs 1])[j]? := by
  rw [<- ht, List.getElem?_take, if_pos (by omega)]
  simp
 rw [h1, hπ]
 have hbl : (boxV (n + 2) vs).length = n := by rw [boxV_len]; omega
 by_cases hj2 : j < n
 ·
  rw [List.getElem?_append_left (by omega), boxV_at (by omega)]
  simp only [if_pos hj2]
 ·
  rw [List.getElem?_append_right (by omega), hbl]
  simp only [if_neg hj2]
  have : j - n = 0 \/ j - n = 1 := by omega
  rcases this with e | e <;> rw [e] <;> rfl
theorem row0_of {W : World} {B : Nat} {vs : Nat -> Value} {bv : Value} {pg : List Nd} {d : Dl} (h : DlIn W B vs bv pg d) (hl : pg.length <= 2000) : ∃ p b c, vs 0 = .slice p pg.length c /\ NIn W p b 0 c pg := by
 have hr : W.ownsRow B 53 19 (vs 0) pg.length (pg.flatMap Nd.cells) := h.rws.row 0 (by omega)
 obtain ⟨_, p, b, c, e, hn, _⟩ := zbS hr (by omega)
 exact ⟨p, b, c, e, hn⟩
theorem row1_of {W : World} {B : Nat} {vs : Nat -> Value} {bv : Value} {pg : List Nd} {d : Dl} (h : DlIn W B vs bv pg d) (hl : d.rest.length <= 2000) : ∃ p b c, vs 1 = .slice p d.rest.length c /\ NIn W p b 0 c d.rest := by
 have hr : W.ownsRow B 53 19 (vs 1) d.rest.length (d.rest.flatMap Nd.cells) := h.rws.row 1 (by omega)
 obtain ⟨_, p, b, c, e, hn, _⟩ := zbS hr (by omega)
 exact ⟨p, b, c, e, hn⟩
theorem same_true {W : World} {p q : Option Addr} {b c b' c' : Nat} {l : List Nd} (h1 : NIn W p b 0 c l) (h2 : NIn W q b' 0 c' l) :
 Calls Tryz.prog 11 #[.slice p l.length c, .slice q l.length c'] W fun e w' => e = .returned (.bool true) /\ Below W.heap.size W w' :=
 (same_any p q b 0 c b' 0 c' l l W h1 h2).mono fun e w' h => ⟨by rw [h.1]; simp, by obtain ⟨_, n, rfl⟩ := h; exact zbd _ _ _⟩
theorem live12_all (w : World) (hg : w.cell? ⟨0, 0, none⟩ = some (.iface 159 (.agg #[.pointer (some ⟨1, 72, none⟩)]))) : Calls Tryz.prog 17 #[] w fun e w' => e = .returned (.bool true) /\ Below w.heap.size w w' := by
 have hw0 : 0 < w.heap.size := by
  rcases Nat.eq_zero_or_pos w.heap.size with h0 | h
  · simp [World.cell?, h0] at hg
  · exact h
 have HGl : Hid (∀ W, Below w.heap.size w W -> W.cell? ⟨0, 0, none⟩ = some (.iface 159 (.agg #[.pointer (some ⟨1, 72, none⟩)]))) := zzh fun W h => (h.cell (p := ⟨0, 0, none⟩) hw0).trans hg
 clear hg
 go_enter Tryz.func17, Tryz.ntmps17
 go_upto_region 2 with (first | (go_at_call 39; refine (foot_any _).mono ?_; rintro e w2 ⟨⟨v, rfl, hv⟩, hb2⟩; obtain ⟨_, p2, g2, c2, rfl, hn2, _⟩ := zbS hv (by decide)) | (go_at_call 18; refine (iaccount p2 g2 0 c2 footN none 0 0 0 [] 2949120 131072 w2 hn2 (cin_nil w2)).mono ?_; rintro e w3 hp; rw [foot_acc] at hp; obtain ⟨u, rfl, hrow3⟩ := hp.out; have hb3 := hp.below; clear hp; obtain ⟨ps, cs, rfl⟩ := zaf hrow3))
 obtain ⟨gs, cs', hvs, hcs, _, hag⟩ := row_agg Sp.cells (fun _ => rfl) (xs := [Sp.mk 2 0 2 655360 2 2293760 0]) hrow3 (by decide) (j := 0) (by decide)
 cases hvs
 have hag2 : agg? w3 gs 0 7 = some (Sp.mk 2 0 2 655360 2 2293760 0).arr := hag
 have hb3' := hb2.trans (hb3.mono hb2.size)
 have hal : Below w3.heap.size w3 (w3.alloc (.cells Tt.zero.arr 43)) := (Below.refl _ _).alloc (Nat.le_refl _) _
 have HC : Hid (∀ W, Below w3.heap.size w3 W -> W.cell? ⟨gs, 2, none⟩ = some (.int .i64 2) /\ W.cell? ⟨gs, 3, none⟩ = some (.int .i64 655360)) := zzh fun W hW => by
  have h2 := cell_bel (zau hag2 2 (.int .i64 2) rfl) hW
  have h3 := cell_bel (zau hag2 3 (.int .i64 655360) rfl) hW
  exact ⟨by simpa using h2, by simpa using h3⟩
 have HB3 := zzh (And.intro hb3' hal)
 have hFirst : Hid True := zzh trivial
 clear hag hag2 hrow3 hb3 hb2 hb3' hn2 hv
 generalize w3.alloc (.cells Tt.zero.arr 43) = w4 at HB3 hal ⊢
 go_upto_region 3 with (first | (go_at_call 39; clear hFirst; refine (foot_any _).mono ?_; rintro e w5 ⟨⟨v, rfl, hv⟩, hb5⟩; obtain ⟨_, p5, g5, c5, rfl, hn5, _⟩ := zbS hv (by decide); obtain rfl := hn5.hp (by decide)) | (go_at_call 39; refine (foot_any _).mono ?_; rintro e w6 ⟨⟨v6, rfl, hv6⟩, hb6⟩; obtain ⟨p6, c6, rfl⟩ := zaf hv6) | (go_at_call 8; refine (ideal_all g5 0 c5 footN ((footN.length : Nat) : Int) none 0 0 0 [] 2949120 131072 w6 (hn5.below hb6) (cin_nil w6) (HGl.out w6 (HB3.out.1.trans ((HB3.out.2.trans ((hb5.trans (hb6.mono hb5.size)).mono hal.size)).mono HB3.out.1.size)))).mono ?_; rintro e w7 hp; obtain ⟨pa, ca, gB, cb, pr, cr, nr, pz, cz, rfl, hnr, hcell, hb7⟩ := deal_foot hp; clear hp))
 have hb67 := HB3.out.2.trans ((hb5.trans ((hb6.trans (hb7.mono hb6.size)).mono hb5.size)).mono hal.size)
 obtain ⟨z2, z3⟩ := HC.out _ hb67
 have HE := zzh (HB3.out.1.trans (hb67.mono HB3.out.1.size))
 have hnr1 : (2 : Int) < (nr : Int) := by omega
 clear hb67 HC HB3 hb7 hb6 hb5 hv hv6 hn5 hal
 go_wp2_with (go_at_call 13; refine (num12_any _ _).mono ?_; rintro e w' ⟨rfl, rfl⟩)
 go_ret
 exact ⟨rfl, HE.out⟩
theorem ideals_walk (p0 : Option Addr) (b off cap : Nat) (L : List Nd) (pc : Option Addr) (bc oc cc : Nat) (C : List Cl) (tk goal depth : Int) (w : World) (hN : NIn w p0 b off cap L) (hC : CIn w pc bc oc cc C)
 (hg : w.cell? ⟨0, 0, none⟩ = some (.iface 159 (.agg #[.pointer (some ⟨1, 72, none⟩)]))) :
 Calls Tryz.prog 3 #[.slice p0 L.length cap, .int .i64 tk, .slice pc C.length cc, .int .i64 goal, .int .i64 depth] w fun e w' => e = .returned (.bool true) /\ Below w.heap.size w w' := by
 have hlen := hN.len
 have hclen := hC.len
 have hw0 : 0 < w.heap.size := by
  rcases Nat.eq_zero_or_pos w.heap.size with h0 | h
  · simp [World.cell?, h0] at hg
  · exact h
 obtain ⟨R, hR⟩ : ∃ R, zbt L tk C goal depth = R := ⟨_, rfl⟩
 have hfew : Few R := by rw [<- hR]; exact deal_few L tk C goal depth
 have HDl : Hid (∀ W g c, Below w.heap.size w W -> NIn W (some ⟨g, 0, none⟩) g 0 c L -> Calls Tryz.prog 8 #[.slice (some ⟨g, 0, none⟩) L.length c, .int .i64 tk, .slice pc C.length cc, .int .i64 goal, .int .i64 depth] W (zcw W R)) := zzh fun W g c hb hn => by
  rw [<- hR]
  exact ideal_all g 0 c L tk pc bc oc cc C goal depth W hn (hC.below hb) ((hb.cell (p := ⟨0, 0, none⟩) hw0).trans hg)
 have HQd : Hid (∀ W pc' bc' oc' cc', Below w.heap.size w W -> CIn W pc' bc' oc' cc' C -> Calls Tryz.prog 9 #[.slice p0 L.length cap, .int .i64 tk, .slice pc' C.length cc', .int .i64 goal, .int .i64 depth] W (zcw W R)) := zzh fun W pc' bc' oc' cc' hb hc => by
  rw [<- hR]
  exact qdeal p0 b off cap L tk pc' bc' oc' cc' C goal depth W (hN.below hb) hc
 have HGl : Hid (∀ W, Below w.heap.size w W -> W.cell? ⟨0, 0, none⟩ = some (.iface 159 (.agg #[.pointer (some ⟨1, 72, none⟩)]))) := zzh fun W h => (h.cell (p := ⟨0, 0, none⟩) hw0).trans hg
 have HL := zzh (lent_any p0 b off cap L w hN)
 have H := zzh (And.intro hN hC)
 clear hg hw0 hR hN hC
 obtain ⟨Rp, Rb, Rr, Re⟩ := R
 have hfp : Rp.length <= 2000 := hfew.page
 have hfr : Rr.length <= 2000 := hfew.rest
 have hfb : Rb.length <= 255 := hfew.boxes
 have HFx : Hid (∀ x ∈ Rb, x.length <= 10000000) := zzh hfew.box
 clear hfew
 go_enter Tryz.func3, Tryz.ntmps3
 go_upto_region 2 with (go_at_call 7; refine HL.out.mono ?_; clear HL; rintro e w1 ⟨⟨x, c, rfl, hcx, hown⟩, hb1⟩)
 have hX := lentIn_of hown hlen
 have HX := zzh hX
 have HD1 := zzh (HDl.out w1 x c hb1 hX.nin)
 have Hb1 := zzh hb1
 clear HDl hX hown hb1 hcx
 go_upto_region 3 with (go_at_call 8; refine HD1.out.mono ?_; clear HD1; rintro e w2 ⟨⟨vs, bv, rfl, hd⟩, hb2⟩)
 have hb02 := Hb1.out.trans (hb2.mono Hb1.out.size)
 have HC2 := zzh (classes12_any pc bc oc cc C w2 (H.out.2.below hb02))
 have H2 := zzh (And.intro hd (And.intro hb2 hb02))
 clear hd hb2 hb02
 go_upto_region 4 with (first | (go_at_call 10; refine HC2.out.mono ?_; clear HC2; rintro e w3 ⟨⟨v3, rfl, hr3⟩, hb3⟩; obtain ⟨p3, g3, c3, rfl, hC3⟩ := cls_seen hr3 hclen; have HQ3 := zzh (HQd.out w3 p3 g3 0 c3 (H2.out.2.2.trans (hb3.mono H2.out.2.2.size)) hC3)) | (go_at_call 9; refine HQ3.out.mono ?_; clear HQ3; rintro e w4 ⟨⟨vs', bv', rfl, hd'⟩, hb4⟩))
 have hsz2 := H2.out.2.1.size
 have hd4 := H2.out.1.still (hb3.trans (hb4.mono hb3.size))
 have hb04 := H2.out.2.2.trans ((hb3.trans (hb4.mono hb3.size)).mono H2.out.2.2.size)
 have HX4 := zzh (((HX.out.below H2.out.2.1).below hb3).below hb4)
 have hz23 := hb3.size
 have hz34 := hb4.size
 obtain ⟨pb, cb, rfl⟩ := zaf hd4.out
 obtain ⟨pb', cb', rfl⟩ := zaf hd'.out
 obtain ⟨pp, gp, cp, ep, np⟩ := row0_of hd4 hfp
 obtain ⟨qp, gq, cq, eq, nq⟩ := row0_of hd' hfp
 obtain ⟨pr, gr, cr, er, nr⟩ := row1_of hd4 hfr
 obtain ⟨qr, gs, cs, es, ns⟩ := row1_of hd' hfr
 simp only [ep, eq, er, es]
 have He := zzh (And.intro ep (And.intro eq (And.intro er es)))
 have hxw : x < w1.heap.size := HX.out.lt
 have hxge : w.heap.size <= x := HX.out.ge
 have Hd := zzh (And.intro hd4 hd')
 have HS1 : Hid (∀ W, Below w4.heap.size w4 W -> Calls Tryz.prog 11 #[.slice pp Rp.length cp, .slice qp Rp.length cq] W fun e w' => e = .returned (.bool true) /\ Below W.heap.size W w') := zzh fun W hb => same_true (np.below hb) (nq.below hb)
 have HS2 : Hid (∀ W, Below w4.heap.size w4 W -> Calls Tryz.prog 11 #[.slice pr Rr.length cr, .slice qr Rr.length cs] W fun e w' => e = .returned (.bool true) /\ Below W.heap.size W w') := zzh fun W hb => same_true (nr.below hb) (ns.below hb)
 have HSB : Hid (∀ W, Below w4.heap.size w4 W -> Calls Tryz.prog 12 #[.slice pb Rb.length cb, .slice pb' Rb.length cb'] W fun e w' => e = .returned (.bool true) /\ Below W.heap.size W w') := zzh fun W hb => (boxes12_any (Hd.out.1.still hb) (Hd.out.2.still hb) hfb HFx.out).mono fun e w' h => ⟨h.1, by obtain ⟨_, n, rfl⟩ := h; exact zbd _ _ _⟩
 have HSt : Hid (∀ W, Below w4.heap.size w4 W -> Calls Tryz.prog 14 #[.slice (some ⟨x, 0, none⟩) L.length c, .slice p0 L.length cap] W fun e w' => e = .returned (.bool true) /\ Below W.heap.size W w') := zzh fun W hb => (HX4.out.below hb).stays (H.out.1.below (hb04.trans (hb.mono hb04.size)))
 have Hb04 := zzh hb04
 have hee : (Re != Re) = false := by simp
 clear hd4 hd' hb3 hb4 hC3 hr3 np nq nr ns ep eq er es hb04
 go_upto_region 6 with (first | (go_at_call_has 11 qp; refine (HS1.out _ (Below.refl _ _)).mono ?_; clear HS1; rintro e w5 ⟨rfl, hb5⟩) | (go_at_call 12; refine (HSB.out _ hb5).mono ?_; clear HSB; rintro e w6 ⟨rfl, hb6⟩; have hb46 := hb5.trans (hb6.mono hb5.size)) | (go_at_call_has 11 qr; refine (HS2.out _ hb46).mono ?_; clear HS2; rintro e w7 ⟨rfl, hb7⟩; have hb47 := hb46.trans (hb7.mono hb46.size)) | (go_at_call 13; refine (num12_any _ _).mono ?_; rintro e w' ⟨rfl, rfl⟩) | (go_at_call 14; refine (HSt.out _ hb47).mono ?_; clear HSt; rintro e w8 ⟨rfl, hb8⟩; have hb48 := hb47.trans (hb8.mono hb47.size)))
 have H8 := zzh (And.intro (Hd.out.1.still hb48) (And.intro (Hd.out.2.still hb48) (Hb04.out.trans (hb48.mono Hb04.out.size))))
 have HSp := zzh (lent_spoil (HX4.out.below hb48))
 have hz48 := hb48.size
 clear hb5 hb6 hb46 hb7 hb47 hb8 hb48 HX4 Hd Hb04
 go_upto_region 7 with (go_at_call 15; refine HSp.out.mono ?_; clear HSp; rintro e w9 ⟨rfl, ht⟩)
 have hd9 := turn_deal ht H8.out.1 hxw
 have hd9' := turn_deal ht H8.out.2.1 (by omega)
 have hb09 := H8.out.2.2.trans (turn_below ht hxge)
 have hz9 := ht.size
 have ep := He.out.1
 have eq := He.out.2.1
 have er := He.out.2.2.1
 have es := He.out.2.2.2
 obtain ⟨pp9, gp9, cp9, ep9, np⟩ := row0_of hd9 hfp
 obtain ⟨qp9, gq9, cq9, eq9, nq⟩ := row0_of hd9' hfp
 obtain ⟨pr9, gr9, cr9, er9, nr⟩ := row1_of hd9 hfr
 obtain ⟨qr9, gs9, cs9, es9, ns⟩ := row1_of hd9' hfr
 rw [ep] at ep9
 rw [eq] at eq9
 rw [er] at er9
 rw [es] at es9
 cases ep9
 cases eq9
 cases er9
 cases es9
 have Hd := zzh (And.intro hd9 hd9')
 have HS1 : Hid (∀ W, Below w9.heap.size w9 W -> Calls Tryz.prog 11 #[.slice pp Rp.length cp, .slice qp Rp.length cq] W fun e w' => e = .returned (.bool true) /\ Below W.heap.size W w') := zzh fun W hb => same_true (np.below hb) (nq.below hb)
 have HS2 : Hid (∀ W, Below w9.heap.size w9 W -> Calls Tryz.prog 11 #[.slice pr Rr.length cr, .slice qr Rr.length cs] W fun e w' => e = .returned (.bool true) /\ Below W.heap.size W w') := zzh fun W hb => same_true (nr.below hb) (ns.below hb)
 have HSB : Hid (∀ W, Below w9.heap.size w9 W -> Calls Tryz.prog 12 #[.slice pb Rb.length cb, .slice pb' Rb.length cb'] W fun e w' => e = .returned (.bool true) /\ Below W.heap.size W w') := zzh fun W hb => (boxes12_any (Hd.out.1.still hb) (Hd.out.2.still hb) hfb HFx.out).mono fun e w' h => ⟨h.1, by obtain ⟨_, n, rfl⟩ := h; exact zbd _ _ _⟩
 have Hb09 := zzh hb09
 obtain ⟨N, hNb⟩ : ∃ N, Rb.length = N := ⟨_, rfl⟩
 have HN := zzh hNb
 obtain ⟨B, hB⟩ : ∃ B, w1.heap.size = B := ⟨_, rfl⟩
 have hBw : B <= w9.heap.size := by omega
 have HRow : Hid (∀ W, Below w9.heap.size w9 W -> W.ownsRow B 22 1 (.slice pb N cb) N (boxV (N + 2) vs)) := zzh fun W hb => by
  have := (hd9.still hb).out
  rw [hB] at this
  rw [<- hNb]
  exact this
 rw [hNb] at hfb HSB ⊢
 have HApt : Hid (∀ (W W' : World) v7, Below w9.heap.size w9 W -> W.grownBy W' (Value.slice pb N cb).ownBlock -> W'.ownsRow B 22 1 v7 (N + 2) (boxV (N + 2) vs ++ [.slice pp Rp.length cp, .slice pr Rr.length cr]) -> B <= W'.heap.size -> Calls Tryz.prog 16 #[v7] W' fun e w' => e = .returned (.bool true) /\ Below B W' w') := zzh fun W W' v7 hb hg ho hBW => by
  have hdw := hd9.still hb
  rw [hB] at hdw
  rw [<- ep, <- er] at ho
  refine apart_boxes hdw (by rw [hNb]; exact hg) (by show W'.ownsRow B _ 1 v7 (Rb.length + 2) (boxV (Rb.length + 2) vs ++ _); rw [hNb]; exact ho) (by show Rb.length <= 255; omega) (fun i hi => ?_) hBW
  match i with
  | 0 => show Rp.length <= _; omega
  | 1 => show Rr.length <= _; omega
  | k + 2 =>
   have hk : k < Rb.length := by have : k + 2 < Rb.length + 2 := hi; omega
   show ((Rb[k]?).getD []).length <= _
   rw [List.getElem?_eq_getElem hk]
   exact HFx.out _ (List.getElem_mem hk)
 have H1 : Hid (∀ u ∈ [Value.slice pp Rp.length cp, Value.slice pr Rr.length cr], u.oneCell' = true) := zzh fun u hu => by
  simp only [List.mem_cons, List.not_mem_nil, or_false] at hu
  rcases hu with rfl | rfl <;> rfl
 have hwB : w.heap.size <= B := by omega
 clear hd9 hd9' np nq nr ns ep eq er es hb09 hNb hB
 obtain ⟨i1, hi1', hy0, hy1, hy2⟩ := info_parts info_rowb
 go_wp2_with (first | (go_at_call_has 11 qp; refine (HS1.out _ (Below.refl _ _)).mono ?_; clear HS1; rintro e w5 ⟨rfl, hb5⟩) | (go_at_call 12; refine (HSB.out _ hb5).mono ?_; clear HSB; rintro e w6 ⟨rfl, hb6⟩; have hb46 := hb5.trans (hb6.mono hb5.size)) | (go_at_call_has 11 qr; refine (HS2.out _ hb46).mono ?_; clear HS2; rintro e w7 ⟨rfl, hb7⟩; have hb47 := hb46.trans (hb7.mono hb46.size); have Hb47 := zzh (hb47.trans (((Below.refl w7.heap.size w7).alloc (Nat.le_refl _) (.cells #[.slice pp Rp.length cp, .slice pr Rr.length cr] 22)).mono hb47.size))) | (at_builtin; refine wpList_append_want _ rfl _ _ _ rfl B 22 i1 (.slice none 0 0) 1 24 Tryz.underlying25 hi1' hy0 hy1 hy2 rfl (by decide) (.slice pb N cb) N (boxV (N + 2) vs) rfl (HRow.out _ Hb47.out) ⟨w7.heap.size, 0, none⟩ 2 2 [.slice pp Rp.length cp, .slice pr Rr.length cr] rfl rfl (World.news_of_block (cs := #[.slice pp Rp.length cp, .slice pr Rr.length cr]) (heap_alloc_new _ _)) H1.out (by unfold maxLen; omega) (by omega) (Nat.le_trans hBw Hb47.out.size) ?_; intro v7 w10 hown7 hgrow7 hat7))
 have hbal := Hb09.out.trans (Hb47.out.mono Hb09.out.size)
 have hB10 : B <= w10.heap.size := Nat.le_trans (Nat.le_trans hBw Hb47.out.size) hgrow7.size
 have hb10 : Below w.heap.size w w10 := hbal.grown hgrow7 hbal.size (fun q hq => Nat.le_trans hwB ((HRow.out _ Hb47.out).lt q hq).1)
 refine (HApt.out _ w10 v7 Hb47.out hgrow7 hown7 hB10).mono ?_
 rintro e w11 ⟨rfl, hb11⟩
 have hb011 := hb10.trans (hb11.mono hwB)
 clear hown7 hgrow7 hat7 hbal hb10 hb11 HApt HRow
 go_wp2_with (go_at_call 17; refine (live12_all _ (HGl.out _ hb011)).mono ?_; rintro e w12 ⟨rfl, hb12⟩)
 go_ret
 exact ⟨rfl, hb011.trans (hb12.mono hb011.size)⟩
end Go.Proofs.YtaehkbbdmamfpaaGreatDoor
