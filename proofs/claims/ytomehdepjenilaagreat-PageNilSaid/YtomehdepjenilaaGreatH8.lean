/-
  The page builder: a box or a rule comes.
-/
import Derived.Test.YtomehdepjenilaaGreatH7
namespace Go.Proofs.YtomehdepjenilaaGreat
open Go.ChangeShapes Go.WideShapes Go.ChangeAt Go.RowKit
def topG (g : Gl) (h : Int) : Nd := { Nd.zero with kind := 7, glue := { g with nat := min 1073741823 (max 0 (wrap64 (g.nat - h))) }, sub := 10 }
def topR (g : Gr) (R : Rw) (h : Int) : Rw := if R.box then R else flexR (growR (putR R [topG g.top h]) (topG g.top h).glue.nat) (topG g.top h).glue
def solidR (g : Gr) (R : Rw) (X : List Nd) : Rw :=
  { putR (deepR (growR (topR g R (X.headD Nd.zero).h) (X.headD Nd.zero).h) (X.headD Nd.zero).d g.depth) X with body := true, box := true }
theorem deep_list (R : Rw) (d m : Int) : (deepR R d m).list = R.list := by unfold deepR; split <;> rfl
theorem head_agg {w : World} {p : Option Addr} {q o cap : Nat} {X : List Nd} (h : NIn w p q o cap X) (hne : X ≠ []) : agg? w q o 19 = some (X.headD Nd.zero).arr := by
  cases X with
  | nil => exact absurd rfl hne
  | cons x l =>
    have := h.nd 0 (by simp)
    rw [Nat.zero_mul, Nat.add_zero] at this
    exact this
set_option maxRecDepth 100000 in
set_option maxHeartbeats 8000000 in
theorem bsolid (w : World) (base B : Nat) (r : Nat → Option Nat) (b : Bc) (c : Sc) (g : Gr) (bot : ByteArray) (W : List Nd) (R : Rw) (p : Option Addr) (q o cap : Nat) (X : List Nd) (h : BdR w base B r b c g bot W R) (hX : ItIn w r p q o cap X) (hlen : R.list.length + X.length ≤ 700000000000) (hso : 0 ≤ g.top.so ∧ g.top.so ≤ 3) (hho : 0 ≤ g.top.ho ∧ g.top.ho ≤ 3) :
    Calls Tryz.prog 88 #[.pointer (some ⟨B, 0, none⟩), .slice p X.length cap] w (NoPg w base B r b g bot W (solidR g R X)) := by
  obtain rfl := hX.at_.hp hX.ne
  obtain ⟨n0, hn0⟩ : ∃ n0, X.headD Nd.zero = n0 := ⟨_, rfl⟩
  have Hn0 := Lib.hid hn0
  have hXp : 0 < X.length := by have := hX.ne; cases X with | nil => exact absurd rfl this | cons => simp
  have hs := BdS.refl h
  have HO := Lib.hid h.sht.own
  clear h hn0
  go_enter Tryz.func88, Tryz.ntmps88
  go_upto_region 1 with (fail)
  have hb1 : Below w.heap.size w (w.alloc (.cells (Pc.mk none 0 0 none 0 0 none 0 0 0 0 ⟨#[]⟩ ⟨#[]⟩ ⟨#[]⟩).arr 46)) := (Below.refl _ _).alloc (Nat.le_refl _) _
  have hP : Lc (w.alloc (.cells (Pc.mk none 0 0 none 0 0 none 0 0 0 0 ⟨#[]⟩ ⟨#[]⟩ ⟨#[]⟩).arr 46)) r w.heap.size Pc.zero.arr 46 := Lc.new HO.out _ _
  have hs1 := hs.below hb1
  have hX1 := hX.below hb1
  clear hs hX hb1
  generalize w.alloc (.cells (Pc.mk none 0 0 none 0 0 none 0 0 0 0 ⟨#[]⟩ ⟨#[]⟩ ⟨#[]⟩).arr 46) = w1 at hP hs1 hX1 ⊢
  obtain ⟨P, hPz⟩ : ∃ P, w.heap.size = P := ⟨_, rfl⟩
  rw [hPz] at hP ⊢
  have hPle : w.heap.size ≤ P := by omega
  clear hPz
  have cs := hs1.bd.at_.cell 8 _ (Bc.get8 b)
  have ax := head_agg hX1.at_ hX1.ne
  rw [Hn0.out] at ax
  have hql : q < w1.heap.size := hX1.at_.hb hX1.ne
  have hBl : B < w1.heap.size := hs1.bd.at_.lt
  have HS := Lib.hid hs1
  have HP := Lib.hid hP
  have HX := Lib.hid hX1
  clear hs1 hP hX1
  go_region
  have hs2 := HS.out.below (w2 := (w1.alloc (.cells n0.arr 49)).drew) ((Below.refl _ _).alloc (Nat.le_refl _) _).drew
  have hP2 := HP.out.below (w2 := (w1.alloc (.cells n0.arr 49)).drew) ((Below.refl _ _).alloc (Nat.le_refl _) _).drew
  have hX2 := HX.out.below (w2 := (w1.alloc (.cells n0.arr 49)).drew) ((Below.refl _ _).alloc (Nat.le_refl _) _).drew
  have hN2 : Lc (w1.alloc (.cells n0.arr 49)).drew r w1.heap.size n0.arr 49 := ⟨Cb.new _ _ _, new_owns HS.out.bd.sht.own (Nat.le_refl _)⟩
  clear cs ax hql hBl HS HP HX
  generalize (w1.alloc (.cells n0.arr 49)).drew = w2 at hs2 hP2 hX2 hN2 ⊢
  generalize w1.heap.size = N at hN2 ⊢
  have c2 : w2.cell? ⟨b.sheet, 2, none⟩ = some (.bool R.box) := by rw [← hs2.bd.sht.of.box]; exact hs2.bd.sht.at_.cell 2 _ (Sc.get2 c)
  cases hbx : R.box
  · have atop : agg? w2 B 2 5 = some g.top.arr := by rw [← hs2.bd.of.top]; exact hs2.bd.at_.agg 2 5 (by rw [Bc.size_arr]; decide)
    have HS2 := Lib.hid hs2
    have HP2 := Lib.hid hP2
    have HX2 := Lib.hid hX2
    have HN2 := Lib.hid hN2
    rw [hbx] at c2
    have hBl : B < w2.heap.size := hs2.bd.at_.lt
    clear hs2 hP2 hX2 hN2
    go_upto_region 4 with (fail)
    have hT3 : Lc (w2.alloc (.cells ({ Nd.zero with kind := 7, glue := g.top, sub := 10 } : Nd).arr 49)) r w2.heap.size ({ Nd.zero with kind := 7, glue := g.top, sub := 10 } : Nd).arr 49 := Lc.new HS2.out.bd.sht.own _ _
    have hb3 : Below w2.heap.size w2 (w2.alloc (.cells ({ Nd.zero with kind := 7, glue := g.top, sub := 10 } : Nd).arr 49)) := (Below.refl _ _).alloc (Nat.le_refl _) _
    have hs3 := HS2.out.below hb3
    have hP3 := HP2.out.below hb3
    have hX3 := HX2.out.below hb3
    have hN3 := HN2.out.below hb3
    have hTN : w2.heap.size ≠ N := by have := HN2.out.at_.lt; omega
    have hTP : w2.heap.size ≠ P := by have := HP2.out.at_.lt; omega
    have hTq : w2.heap.size ≠ q := by have := HX2.out.at_.hb HX2.out.ne; omega
    have hwT : w.heap.size ≤ w2.heap.size := HS2.out.frm.size
    clear HS2 HP2 HX2 HN2 hb3 atop c2 hBl
    generalize (w2.alloc (.cells ({ Nd.zero with kind := 7, glue := g.top, sub := 10 } : Nd).arr 49)) = w3 at hT3 hs3 hP3 hX3 hN3 ⊢
    generalize w2.heap.size = T at hT3 hTN hTP hTq hwT ⊢
    have xt7 := hT3.at_.cell 7 _ (Nd.get7 _)
    have xn4 := hN3.at_.cell 4 _ (Nd.get4 n0)
    have ft7 := hT3.at_.frozen 7
    obtain ⟨x, hx⟩ : ∃ x, wrap64 (g.top.nat - n0.h) = x := ⟨_, rfl⟩
    have Hx := Lib.hid hx
    clear hx
    go_cut [] from 27 to 36 (fun wx => wx = w3.setCell ⟨T, 7, none⟩ (.int .i64 (min 1073741823 (max 0 x))))
    case first =>
      go_wp2_with fail
      all_goals
        go_meet
        have hx9 := Hx.out
        congr 2
        omega
    go_upto_region 5 with (fail)
    obtain rfl := hcut
    have hT4 : Lc (w3.setCell ⟨T, 7, none⟩ (.int .i64 (min 1073741823 (max 0 x)))) r T (topG g.top n0.h).arr 49 := ⟨hT3.at_.set 7 _ (by rw [Nd.set7]; unfold topG; rw [Hx.out]), hT3.off⟩
    have hf4 : Frm (· = T) w3 (w3.setCell ⟨T, 7, none⟩ (.int .i64 (min 1073741823 (max 0 x)))) := (Frm.refl _ _).set1 7 _
    have hs4 := hs3.loc hf4 hT3.off hwT
    have hP4 : Lc (w3.setCell ⟨T, 7, none⟩ (.int .i64 (min 1073741823 (max 0 x)))) r P Pc.zero.arr 46 := ⟨hP3.at_.other (fun e => hTP e.symm) _, hP3.off⟩
    have hN4 : Lc (w3.setCell ⟨T, 7, none⟩ (.int .i64 (min 1073741823 (max 0 x)))) r N n0.arr 49 := ⟨hN3.at_.other (fun e => hTN e.symm) _, hN3.off⟩
    have hX4 : ItIn (w3.setCell ⟨T, 7, none⟩ (.int .i64 (min 1073741823 (max 0 x)))) r (some ⟨q, o, none⟩) q o cap X := ⟨hX3.at_.same9 hf4.size fun _ => hf4.block q (hX3.at_.hb hX3.ne) fun e => hTq e.symm, hX3.ne, hX3.off⟩
    clear hs3 hP3 hN3 hX3 hT3 hf4 xt7 xn4 ft7 hTN hTP hTq
    generalize (w3.setCell ⟨T, 7, none⟩ (.int .i64 (min 1073741823 (max 0 x)))) = w4 at hT4 hs4 hP4 hN4 hX4 ⊢
    have aT := hT4.at_.agg 0 19 (by rw [Nd.size_arr]; decide)
    rw [show (topG g.top n0.h).arr.extract 0 (0 + 19) = (topG g.top n0.h).arr from by simp [Nd.arr, Nd.cells]] at aT
    have hb5 : Below w4.heap.size w4 (w4.alloc (.cells (topG g.top n0.h).arr 49)) := (Below.refl _ _).alloc (Nat.le_refl _) _
    have hs5 := hs4.below hb5
    have hI5 : ItIn (w4.alloc (.cells (topG g.top n0.h).arr 49)) r (some ⟨w4.heap.size, 0, none⟩) w4.heap.size 0 1 [topG g.top n0.h] :=
      ⟨nodes_blk (by rw [show ([topG g.top n0.h].flatMap Nd.cells).toArray = (topG g.top n0.h).arr from by simp [Nd.arr]]; exact heap_alloc_new w4 _) (by simp), (by simp), fun e => new_owns hs4.bd.sht.own (Nat.le_refl _) (shK_owns e)⟩
    have HPut := Lib.hid (put_bd hs5 hI5 (by simp; omega))
    have HT5 := Lib.hid (hT4.below hb5)
    have HS5 := Lib.hid hs5
    have HP5 := Lib.hid (hP4.below hb5)
    have HN5 := Lib.hid (hN4.below hb5)
    have HX5 := Lib.hid (hX4.below hb5)
    clear hT4 hs4 hP4 hN4 hX4 hb5 hs5 hI5
    go_upto_region 6 with (go_at_call 101; refine HPut.out.mono ?_; clear HPut; rintro e w6 hgo; obtain rfl := hgo.ret)
    obtain ⟨c6, r6, hs6, hr6, hl6, hf6⟩ := HS5.out.step hgo
    have hT6 := HT5.out.step hl6 hf6
    have hP6 := HP5.out.step hl6 hf6
    have hN6 := HN5.out.step hl6 hf6
    have hX6 := HX5.out.step hr6 hl6 hf6
    clear hgo hr6 hl6 hf6 HT5 HS5 HP5 HN5 HX5 aT
    obtain ⟨tp, htp⟩ : ∃ tp, topG g.top n0.h = tp := ⟨_, rfl⟩
    have htg : tp.glue.so = g.top.so ∧ tp.glue.ho = g.top.ho := by rw [← htp]; exact ⟨rfl, rfl⟩
    rw [htp] at hs6 hT6
    have Htp := Lib.hid htp
    clear htp
    have xt7 := hT6.at_.cell 7 _ (Nd.get7 _)
    have HG6 := Lib.hid (grow_any w6 base r6 b.sheet c6 _ tp.glue.nat hs6.bd.sht)
    have HS6 := Lib.hid hs6
    have HT6 := Lib.hid hT6
    have HP6 := Lib.hid hP6
    have HN6 := Lib.hid hN6
    have HX6 := Lib.hid hX6
    clear hs6 hT6 hP6 hN6 hX6
    go_upto_region 7 with (go_at_call 102; refine HG6.out.mono ?_; clear HG6; rintro e w7 hgo; obtain rfl := hgo.ret)
    obtain ⟨c7, r7, hs7, hr7, hl7, hf7⟩ := HS6.out.step hgo
    have hT7 := HT6.out.step hl7 hf7
    have hP7 := HP6.out.step hl7 hf7
    have hN7 := HN6.out.step hl7 hf7
    have hX7 := HX6.out.step hr7 hl7 hf7
    clear hgo hr7 hl7 hf7 HS6 HT6 HP6 HN6 HX6 xt7
    have ag7 := hT7.at_.agg 7 5 (by rw [Nd.size_arr]; decide)
    rw [show tp.arr.extract 7 (7 + 5) = tp.glue.arr from rfl] at ag7
    have HF7 := Lib.hid (flex_any w7 base r7 b.sheet c7 _ tp.glue hs7.bd.sht (by rw [htg.1]; exact hso) (by rw [htg.2]; exact hho))
    have HS7 := Lib.hid hs7
    have HP7 := Lib.hid hP7
    have HN7 := Lib.hid hN7
    have HX7 := Lib.hid hX7
    have Htg := Lib.hid htg
    clear hs7 hT7 hP7 hN7 hX7 htg
    go_upto_region 8 with (go_at_call 103; refine HF7.out.mono ?_; clear HF7; rintro e w8 hgo; obtain rfl := hgo.ret)
    obtain ⟨c8, r8, hs8, hr8, hl8, hf8⟩ := HS7.out.step hgo
    have hP8 := HP7.out.step hl8 hf8
    have hN8 := HN7.out.step hl8 hf8
    have hX8 := HX7.out.step hr8 hl8 hf8
    clear hgo hr8 hl8 hf8 HS7 HP7 HN7 HX7 ag7
    have HV : Hid (solidR g R X = { putR (deepR (growR (flexR (growR (putR R [tp]) tp.glue.nat) tp.glue) n0.h) n0.d g.depth) X with body := true, box := true }) := Lib.hid (by unfold solidR topR; rw [Hn0.out, hbx, Htp.out]; rfl)
    have xn4 := hN8.at_.cell 4 _ (Nd.get4 n0)
    have hg8 := Lib.hid (grow_any w8 base r8 b.sheet c8 _ n0.h hs8.bd.sht)
    have HS8 := Lib.hid hs8
    have HP8 := Lib.hid hP8
    have HX8 := Lib.hid hX8
    have HN8 := Lib.hid hN8
    clear hs8 hP8 hX8 hN8
    go_upto_region 9 with (go_at_call 102; refine hg8.out.mono ?_; clear hg8; rintro e w9 hgo; obtain rfl := hgo.ret)
    obtain ⟨c9, r9, hs9, hr9, hl9, hf9⟩ := HS8.out.step hgo
    have hP9 := HP8.out.step hl9 hf9
    have hN9 := HN8.out.step hl9 hf9
    have hX9 := HX8.out.step hr9 hl9 hf9
    clear hgo hr9 hl9 hf9 HS8 HP8 HX8 HN8 xn4
    have xn5 := hN9.at_.cell 5 _ (Nd.get5 n0)
    have cB1 : w9.cell? ⟨B, 1, none⟩ = some (.int .i64 g.depth) := by rw [← hs9.bd.of.depth]; exact hs9.bd.at_.cell 1 _ (Bc.get1 b)
    have hbd : Below w9.heap.size w9 w9.drew := (Below.refl _ _).drew
    have hd9 := Lib.hid (deep_any w9.drew base r9 b.sheet c9 _ n0.d g.depth (hs9.below hbd).bd.sht)
    have HS9 := Lib.hid (hs9.below hbd)
    have HP9 := Lib.hid (hP9.below hbd)
    have HX9 := Lib.hid (hX9.below hbd)
    have HN9 := Lib.hid (hN9.below hbd)
    clear hs9 hP9 hX9 hN9 hbd
    refine Rest.region follows ?_
    refine Rest.tame 8 (fun Wz => Wz = w9.drew) (by kernel_rfl) rfl ?_
    simp only [Nat.reduceSub, List.drop_zero, List.take_succ_cons, List.take_zero]
    iterate 8 first
      | (refine TW.cons_n rfl _ (by intro wT hT R hR K hK; simp only [Act.put, lsA, lsB, lsC] at hK; have yc : wT.cell? ⟨N, 5, none⟩ = some (.int .i64 n0.d) := (by rw [hT]; exact HN9.out.at_.cell 5 _ (Nd.get5 n0)); have yd : wT.cell? ⟨B, 1, none⟩ = some (.int .i64 g.depth) := (by rw [hT]; exact cB1); go_step; first | exact hK _ _ (hR _ hT) | exact hK _ _ (hR _ rfl)) ?_; try simp only [Act.put, lsA, lsB, lsC])
    refine TW.nil fun wz hz => ?_
    subst hz
    refine Rest.seq (by kernel_rfl) ?_
    go_wp2_with (go_at_call 104; refine hd9.out.mono ?_; rintro e w10 hgo; obtain rfl := hgo.ret)
    obtain ⟨c10, r10, hs10, hr10, hl10, hf10⟩ := HS9.out.step hgo
    have hP10 := HP9.out.step hl10 hf10
    have hX10 := HX9.out.step hr10 hl10 hf10
    clear hgo hr10 hl10 hf10 HS9 HP9 HX9 HN9 xn5 cB1 hd9
    have HPut := Lib.hid (put_bd hs10 hX10 (by rw [deep_list]; simp [flexR, growR, putR]; omega))
    have HS10 := Lib.hid hs10
    have HP10 := Lib.hid hP10
    clear hs10 hP10 hX10
    go_upto_region 11 with (go_at_call 101; refine HPut.out.mono ?_; clear HPut; rintro e w11 hgo; obtain rfl := hgo.ret)
    obtain ⟨c11, r11, hs11, hr11, hl11, hf11⟩ := HS10.out.step hgo
    have hP11 := HP10.out.step hl11 hf11
    clear hgo hr11 hl11 hf11 HS10 HP10
    have d1 := hs11.bd.sht.at_.cell 1 _ (Sc.get1 c11)
    have e1 := hs11.bd.sht.at_.frozen 1
    have d2 := hs11.bd.sht.at_.cell 2 _ (Sc.get2 c11)
    have e2 := hs11.bd.sht.at_.frozen 2
    have hS11 := hs11.bd.sht
    have hfr : Frm (· = b.sheet) w11 ((w11.setCell ⟨b.sheet, 1, none⟩ (.bool true)).setCell ⟨b.sheet, 2, none⟩ (.bool true)) := ((Frm.refl _ _).set1 1 _).set1 2 _
    have hnum := hS11.nums hfr (((hS11.at_.set 1 _ (Sc.set1 _ _)).set 2 _ (Sc.set2 _ _))) ⟨rfl, rfl, rfl⟩ ⟨rfl, rfl, rfl⟩ ⟨rfl, rfl⟩ (R' := solidR g R X) (by rw [HV.out]) (by rw [HV.out]) (by rw [HV.out]) (by rw [HV.out]) (by rw [HV.out]; exact ⟨rfl, rfl, hS11.of.goal, hS11.of.t, hS11.of.depth, hS11.of.pens, hS11.of.bat, hS11.of.bcost, hS11.of.bsome, hS11.of.last⟩)
    have hf12 := frm_S hS11 hfr
    have hs12 : BdS w base B r b g bot W (solidR g R X) ((w11.setCell ⟨b.sheet, 1, none⟩ (.bool true)).setCell ⟨b.sheet, 2, none⟩ (.bool true)) _ r11 := ⟨hs11.bd.sheet hnum (sameR.refl _) hf12, hs11.same, hs11.lat, hs11.frm.trans hf12 fun k hk hs => by
      by_cases hn : shK r k
      · exact hn
      · exact absurd hs (not_shK hn hs11.same hs11.lat hk)⟩
    have hPS : P ≠ b.sheet := fun e => hP11.off ⟨1, by rw [hS11.ro.r1, e]⟩
    have hP12 : Lc ((w11.setCell ⟨b.sheet, 1, none⟩ (.bool true)).setCell ⟨b.sheet, 2, none⟩ (.bool true)) r11 P Pc.zero.arr 46 := ⟨(hP11.at_.other hPS _).other hPS _, hP11.off⟩
    have HS12 := Lib.hid hs12
    have HP12 := Lib.hid hP12
    clear hs12 hP12 hnum hf12 hfr hS11 hs11 hP11 hPS
    go_upto_region 12 with (fail)
    generalize (w11.setCell ⟨b.sheet, 1, none⟩ (.bool true)).setCell ⟨b.sheet, 2, none⟩ (.bool true) = w12 at HS12 HP12 ⊢
    clear d1 d2 e1 e2
    have th := HP12.out.at_.there 0 8 (by rw [Pc.size_arr]; decide)
    go_wp2_with fail
    have ha : Cb (setAgg w12 P 0 Pc.zero.arr) P Pc.zero.arr 46 := HP12.out.at_.setAgg 0 _ (setMany_Pc _ _)
    have hf13 : Frm (· = P) w12 (setAgg w12 P 0 Pc.zero.arr) := (Frm.refl _ _).setAgg1 _ _
    exact ⟨rfl, _, results_pc2 rfl _ _ P _ rfl (ha.agg 0 8 (by rw [Pc.size_arr]; decide)), ⟨rfl, (HS12.out.loc hf13 HP12.out.off hPle).go⟩⟩
  · have hs8 := hs2
    have hP8 := hP2
    have hN8 := hN2
    have hX8 := hX2
    rw [hbx] at c2
    clear hs2 hP2 hN2 hX2
    have HV : Hid (solidR g R X = { putR (deepR (growR R n0.h) n0.d g.depth) X with body := true, box := true }) := Lib.hid (by unfold solidR topR; rw [Hn0.out, hbx]; rfl)
    go_upto_region 8 with (fail)
    have xn4 := hN8.at_.cell 4 _ (Nd.get4 n0)
    have hg8 := Lib.hid (grow_any w2 base r b.sheet c R n0.h hs8.bd.sht)
    have HS8 := Lib.hid hs8
    have HP8 := Lib.hid hP8
    have HX8 := Lib.hid hX8
    have HN8 := Lib.hid hN8
    clear hs8 hP8 hX8 hN8
    go_upto_region 9 with (go_at_call 102; refine hg8.out.mono ?_; clear hg8; rintro e w9 hgo; obtain rfl := hgo.ret)
    obtain ⟨c9, r9, hs9, hr9, hl9, hf9⟩ := HS8.out.step hgo
    have hP9 := HP8.out.step hl9 hf9
    have hN9 := HN8.out.step hl9 hf9
    have hX9 := HX8.out.step hr9 hl9 hf9
    clear hgo hr9 hl9 hf9 HS8 HP8 HX8 HN8 xn4
    have xn5 := hN9.at_.cell 5 _ (Nd.get5 n0)
    have cB1 : w9.cell? ⟨B, 1, none⟩ = some (.int .i64 g.depth) := by rw [← hs9.bd.of.depth]; exact hs9.bd.at_.cell 1 _ (Bc.get1 b)
    have hbd : Below w9.heap.size w9 w9.drew := (Below.refl _ _).drew
    have hd9 := Lib.hid (deep_any w9.drew base r9 b.sheet c9 _ n0.d g.depth (hs9.below hbd).bd.sht)
    have HS9 := Lib.hid (hs9.below hbd)
    have HP9 := Lib.hid (hP9.below hbd)
    have HX9 := Lib.hid (hX9.below hbd)
    have HN9 := Lib.hid (hN9.below hbd)
    clear hs9 hP9 hX9 hN9 hbd
    refine Rest.region follows ?_
    refine Rest.tame 8 (fun Wz => Wz = w9.drew) (by kernel_rfl) rfl ?_
    simp only [Nat.reduceSub, List.drop_zero, List.take_succ_cons, List.take_zero]
    iterate 8 first
      | (refine TW.cons_n rfl _ (by intro wT hT R hR K hK; simp only [Act.put, lsA, lsB, lsC] at hK; have yc : wT.cell? ⟨N, 5, none⟩ = some (.int .i64 n0.d) := (by rw [hT]; exact HN9.out.at_.cell 5 _ (Nd.get5 n0)); have yd : wT.cell? ⟨B, 1, none⟩ = some (.int .i64 g.depth) := (by rw [hT]; exact cB1); go_step; first | exact hK _ _ (hR _ hT) | exact hK _ _ (hR _ rfl)) ?_; try simp only [Act.put, lsA, lsB, lsC])
    refine TW.nil fun wz hz => ?_
    subst hz
    refine Rest.seq (by kernel_rfl) ?_
    go_wp2_with (go_at_call 104; refine hd9.out.mono ?_; rintro e w10 hgo; obtain rfl := hgo.ret)
    obtain ⟨c10, r10, hs10, hr10, hl10, hf10⟩ := HS9.out.step hgo
    have hP10 := HP9.out.step hl10 hf10
    have hX10 := HX9.out.step hr10 hl10 hf10
    clear hgo hr10 hl10 hf10 HS9 HP9 HX9 HN9 xn5 cB1 hd9
    have HPut := Lib.hid (put_bd hs10 hX10 (by rw [deep_list]; simp [growR]; omega))
    have HS10 := Lib.hid hs10
    have HP10 := Lib.hid hP10
    clear hs10 hP10 hX10
    go_upto_region 11 with (go_at_call 101; refine HPut.out.mono ?_; clear HPut; rintro e w11 hgo; obtain rfl := hgo.ret)
    obtain ⟨c11, r11, hs11, hr11, hl11, hf11⟩ := HS10.out.step hgo
    have hP11 := HP10.out.step hl11 hf11
    clear hgo hr11 hl11 hf11 HS10 HP10
    have d1 := hs11.bd.sht.at_.cell 1 _ (Sc.get1 c11)
    have e1 := hs11.bd.sht.at_.frozen 1
    have d2 := hs11.bd.sht.at_.cell 2 _ (Sc.get2 c11)
    have e2 := hs11.bd.sht.at_.frozen 2
    have hS11 := hs11.bd.sht
    have hfr : Frm (· = b.sheet) w11 ((w11.setCell ⟨b.sheet, 1, none⟩ (.bool true)).setCell ⟨b.sheet, 2, none⟩ (.bool true)) := ((Frm.refl _ _).set1 1 _).set1 2 _
    have hnum := hS11.nums hfr (((hS11.at_.set 1 _ (Sc.set1 _ _)).set 2 _ (Sc.set2 _ _))) ⟨rfl, rfl, rfl⟩ ⟨rfl, rfl, rfl⟩ ⟨rfl, rfl⟩ (R' := solidR g R X) (by rw [HV.out]) (by rw [HV.out]) (by rw [HV.out]) (by rw [HV.out]) (by rw [HV.out]; exact ⟨rfl, rfl, hS11.of.goal, hS11.of.t, hS11.of.depth, hS11.of.pens, hS11.of.bat, hS11.of.bcost, hS11.of.bsome, hS11.of.last⟩)
    have hf12 := frm_S hS11 hfr
    have hs12 : BdS w base B r b g bot W (solidR g R X) ((w11.setCell ⟨b.sheet, 1, none⟩ (.bool true)).setCell ⟨b.sheet, 2, none⟩ (.bool true)) _ r11 := ⟨hs11.bd.sheet hnum (sameR.refl _) hf12, hs11.same, hs11.lat, hs11.frm.trans hf12 fun k hk hs => by
      by_cases hn : shK r k
      · exact hn
      · exact absurd hs (not_shK hn hs11.same hs11.lat hk)⟩
    have hPS : P ≠ b.sheet := fun e => hP11.off ⟨1, by rw [hS11.ro.r1, e]⟩
    have hP12 : Lc ((w11.setCell ⟨b.sheet, 1, none⟩ (.bool true)).setCell ⟨b.sheet, 2, none⟩ (.bool true)) r11 P Pc.zero.arr 46 := ⟨(hP11.at_.other hPS _).other hPS _, hP11.off⟩
    have HS12 := Lib.hid hs12
    have HP12 := Lib.hid hP12
    clear hs12 hP12 hnum hf12 hfr hS11 hs11 hP11 hPS
    go_upto_region 12 with (fail)
    generalize (w11.setCell ⟨b.sheet, 1, none⟩ (.bool true)).setCell ⟨b.sheet, 2, none⟩ (.bool true) = w12 at HS12 HP12 ⊢
    clear d1 d2 e1 e2
    have th := HP12.out.at_.there 0 8 (by rw [Pc.size_arr]; decide)
    go_wp2_with fail
    have ha : Cb (setAgg w12 P 0 Pc.zero.arr) P Pc.zero.arr 46 := HP12.out.at_.setAgg 0 _ (setMany_Pc _ _)
    have hf13 : Frm (· = P) w12 (setAgg w12 P 0 Pc.zero.arr) := (Frm.refl _ _).setAgg1 _ _
    exact ⟨rfl, _, results_pc2 rfl _ _ P _ rfl (ha.agg 0 8 (by rw [Pc.size_arr]; decide)), ⟨rfl, (HS12.out.loc hf13 HP12.out.off hPle).go⟩⟩
end Go.Proofs.YtomehdepjenilaaGreat
