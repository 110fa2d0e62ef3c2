/-
  The page builder: a box or a rule comes.
-/
import Derived.Test.YtomehdepjenilaaGreatQ6
import Derived.Test.YtomehdepjenilaaGreatH7
set_option maxRecDepth 100000
set_option maxHeartbeats 8000000
namespace Go.Proofs.YtomehdepjenilaaGreat
open Go.ChangeShapes Go.WideShapes Go.ChangeAt Go.RowKit
def topG (g : Gl) (h : Int) : Nd := { Nd.zero with kind := 7, glue := { g with nat := min 1073741823 (max 0 (wrap64 (g.nat - h))) }, sub := 10 }
def topR (g : Gr) (R : Rw) (h : Int) : Rw := if R.box then R else flexR (growR (putR R [topG g.top h]) (topG g.top h).glue.nat) (topG g.top h).glue
def solidR (g : Gr) (R : Rw) (X : List Nd) : Rw :=
  { putR (deepR (growR (topR g R (X.headD Nd.zero).h) (X.headD Nd.zero).h) (X.headD Nd.zero).d g.depth) X with body := true, box := true }
theorem deep_list (R : Rw) (d m : Int) : (deepR R d m).list = R.list := by unfold deepR; split <;> rfl
theorem head_agg {w : World} {p : Option Addr} {q o cap : Nat} {X : List Nd} (h : NIn w p q o cap X) (hne : X ≠ []) : agg? w q o 19 = some (X.headD Nd.zero).arr := by
  cases X with
  | nil => exact absurd rfl hne
  | cons x l =>
    have := h.nd 0 (by simp)
    rw [Nat.zero_mul, Nat.add_zero] at this
    exact this
theorem bsolid (w : World) (base B : Nat) (r : Nat → Option Nat) (b : Bc) (c : Sc) (g : Gr) (bot : ByteArray) (W : List Nd) (R : Rw) (p : Option Addr) (q o cap : Nat) (X : List Nd) (h : BdR w base B r b c g bot W R) (hX : ItIn w r p q o cap X) (hlen : R.list.length + X.length ≤ 700000000000) (hso : 0 ≤ g.top.so ∧ g.top.so ≤ 3) (hho : 0 ≤ g.top.ho ∧ g.top.ho ≤ 3) :
    Calls Tryz.prog 88 #[.pointer (some ⟨B, 0, none⟩), .slice p X.length cap] w (NoPg w base B r b g bot W (solidR g R X)) := by
  obtain rfl := hX.at_.hp hX.ne
  obtain ⟨n0, hn0⟩ : ∃ n0, X.headD Nd.zero = n0 := ⟨_, rfl⟩
  have Hn0 := Lib.hid hn0
  have hXp : 0 < X.length := by have := hX.ne; cases X with | nil => exact absurd rfl this | cons => simp
  have hs := BdS.refl h
  have HO := Lib.hid h.sht.own
  clear h hn0
  go_enter Tryz.func88, Tryz.ntmps88
  go_upto_region 1 with (fail)
  have hb1 : Below w.heap.size w (w.alloc (.cells (Pc.mk none 0 0 none 0 0 none 0 0 0 0 ⟨#[]⟩ ⟨#[]⟩ ⟨#[]⟩).arr 46)) := (Below.refl _ _).alloc (Nat.le_refl _) _
  have hP : Lc (w.alloc (.cells (Pc.mk none 0 0 none 0 0 none 0 0 0 0 ⟨#[]⟩ ⟨#[]⟩ ⟨#[]⟩).arr 46)) r w.heap.size Pc.zero.arr 46 := Lc.new HO.out _ _
  have hs1 := hs.below hb1
  have hX1 := hX.below hb1
  clear hs hX hb1
  generalize w.alloc (.cells (Pc.mk none 0 0 none 0 0 none 0 0 0 0 ⟨#[]⟩ ⟨#[]⟩ ⟨#[]⟩).arr 46) = w1 at hP hs1 hX1 ⊢
  obtain ⟨P, hPz⟩ : ∃ P, w.heap.size = P := ⟨_, rfl⟩
  rw [hPz] at hP ⊢
  have hPle : w.heap.size ≤ P := by omega
  clear hPz
  have cs := hs1.bd.at_.cell 8 _ (Bc.get8 b)
  have ax := head_agg hX1.at_ hX1.ne
  rw [Hn0.out] at ax
  have hql : q < w1.heap.size := hX1.at_.hb hX1.ne
  have hBl : B < w1.heap.size := hs1.bd.at_.lt
  have HS := Lib.hid hs1
  have HP := Lib.hid hP
  have HX := Lib.hid hX1
  clear hs1 hP hX1
  go_region
  have hs2 := HS.out.below (w2 := (w1.alloc (.cells n0.arr 49)).drew) ((Below.refl _ _).alloc (Nat.le_refl _) _).drew
  have hP2 := HP.out.below (w2 := (w1.alloc (.cells n0.arr 49)).drew) ((Below.refl _ _).alloc (Nat.le_refl _) _).drew
  have hX2 := HX.out.below (w2 := (w1.alloc (.cells n0.arr 49)).drew) ((Below.refl _ _).alloc (Nat.le_refl _) _).drew
  have hN2 : Lc (w1.alloc (.cells n0.arr 49)).drew r w1.heap.size n0.arr 49 := ⟨Cb.new _ _ _, new_owns HS.out.bd.sht.own (Nat.le_refl _)⟩
  clear cs ax hql hBl HS HP HX
  generalize (w1.alloc (.cells n0.arr 49)).drew = w2 at hs2 hP2 hX2 hN2 ⊢
  generalize w1.heap.size = N at hN2 ⊢
  have c2 : w2.cell? ⟨b.sheet, 2, none⟩ = some (.bool R.box) := by rw [← hs2.bd.sht.of.box]; exact hs2.bd.sht.at_.cell 2 _ (Sc.get2 c)
  cases hbx : R.box
  · have atop : agg? w2 B 2 5 = some g.top.arr := by rw [← hs2.bd.of.top]; exact hs2.bd.at_.agg 2 5 (by rw [Bc.size_arr]; decide)
    have HS2 := Lib.hid hs2
    have HP2 := Lib.hid hP2
    have HX2 := Lib.hid hX2
    have HN2 := Lib.hid hN2
    rw [hbx] at c2
    have hBl : B < w2.heap.size := hs2.bd.at_.lt
    clear hs2 hP2 hX2 hN2
    go_upto_region 4 with (fail)
    have hT3 : Lc (w2.alloc (.cells ({ Nd.zero with kind := 7, glue := g.top, sub := 10 } : Nd).arr 49)) r w2.heap.size ({ Nd.zero with kind := 7, glue := g.top, sub := 10 } : Nd).arr 49 := Lc.new HS2.out.bd.sht.own _ _
    have hb3 : Below w2.heap.size w2 (w2.alloc (.cells ({ Nd.zero with kind := 7, glue := g.top, sub := 10 } : Nd).arr 49)) := (Below.refl _ _).alloc (Nat.le_refl _) _
    have hs3 := HS2.out.below hb3
    have hP3 := HP2.out.below hb3
    have hX3 := HX2.out.below hb3
    have hN3 := HN2.out.below hb3
    have hTN : w2.heap.size ≠ N := by have := HN2.out.at_.lt; omega
    have hTP : w2.heap.size ≠ P := by have := HP2.out.at_.lt; omega
    have hTq : w2.heap.size ≠ q := by have := HX2.out.at_.hb HX2.out.ne; omega
    have hwT : w.heap.size ≤ w2.heap.size := HS2.out.frm.size
    clear HS2 HP2 HX2 HN2 hb3 atop c2 hBl
    generalize (w2.alloc (.cells ({ Nd.zero with kind := 7, glue := g.top, sub := 10 } : Nd).arr 49)) = w3 at hT3 hs3 hP3 hX3 hN3 ⊢
    generalize w2.heap.size = T at hT3 hTN hTP hTq hwT ⊢
    have xt7 := hT3.at_.cell 7 _ (Nd.get7 _)
    have xn4 := hN3.at_.cell 4 _ (Nd.get4 n0)
    have ft7 := hT3.at_.frozen 7
    obtain ⟨x, hx⟩ : ∃ x, wrap64 (g.top.nat - n0.h) = x := ⟨_, rfl⟩
    have Hx := Lib.hid hx
    clear hx
    go_cut [] from 27 to 36 (fun wx => wx = w3.setCell ⟨T, 7, none⟩ (.int .i64 (min 1073741823 (max 0 x))))
    case first =>
      go_wp2_with fail
      all_goals
        go_meet
        have hx9 := Hx.out
        congr 2
        omega
    go_upto_region 5 with (fail)
    obtain rfl := hcut
    have hT4 : Lc (w3.setCell ⟨T, 7, none⟩ (.int .i64 (min 1073741823 (max 0 x)))) r T (topG g.top n0.h).arr 49 := ⟨hT3.at_.set 7 _ (by rw [Nd.set7]; unfold topG; rw [Hx.out]), hT3.off⟩
    have hf4 : Frm (· = T) w3 (w3.setCell ⟨T, 7, none⟩ (.int .i64 (min 1073741823 (max 0 x)))) := (Frm.refl _ _).set1 7 _
    have hs4 := hs3.loc hf4 hT3.off hwT
    have hP4 : Lc (w3.setCell ⟨T, 7, none⟩ (.int .i64 (min 1073741823 (max 0 x)))) r P Pc.zero.arr 46 := ⟨hP3.at_.other (fun e => hTP e.symm) _, hP3.off⟩
    have hN4 : Lc (w3.setCell ⟨T, 7, none⟩ (.int .i64 (min 1073741823 (max 0 x)))) r N n0.arr 49 := ⟨hN3.at_.other (fun e => hTN e.symm) _, hN3.off⟩
    have hX4 : ItIn (w3.setCell ⟨T, 7, none⟩ (.int .i64 (min 1073741823 (max 0 x)))) r (some ⟨q, o, none⟩) q o cap X := ⟨hX3.at_.same9 hf4.size fun _ => hf4.block q (hX3.at_.hb hX3.ne) fun e => hTq e.symm, hX3.ne, hX3.off⟩
    clear hs3 hP3 hN3 hX3 hT3 hf4 xt7 xn4 ft7 hTN hTP hTq
    generalize (w3.setCell ⟨T, 7, none⟩ (.int .i64 (min 1073741823 (max 0 x)))) = w4 at hT4 hs4 hP4 hN4 hX4 ⊢
    have aT := hT4.at_.agg 0 19 (by rw [Nd.size_arr]; decide)
    rw [show (topG g.top n0.h).arr.extract 0 (0 + 19) = (topG g.top n0.h).arr from by simp [Nd.arr, Nd.cells]] at aT
    have hb5 : Below w4.heap.size w4 (w4.alloc (.cells (topG g.top n0.h).arr 49)) := (Below.refl _ _).alloc (Nat.le_refl _) _
    have hs5 := hs4.below hb5
    have hI5 : ItIn (w4.alloc (.cells (topG g.top n0.h).arr 49)) r (some ⟨w4.heap.size, 0, none⟩) w4.heap.size 0 1 [topG g.top n0.h] :=
      ⟨nodes_blk (by rw [show ([topG g.top n0.h].flatMap Nd.cells).toArray = (topG g.top n0.h).arr from by simp [Nd.arr]]; exact heap_alloc_new w4 _) (by simp), (by simp), fun e => new_owns hs4.bd.sht.own (Nat.le_refl _) (shK_owns e)⟩
    have HPut := Lib.hid (put_bd hs5 hI5 (by simp; omega))
    have HT5 := Lib.hid (hT4.below hb5)
    have HS5 := Lib.hid hs5
    have HP5 := Lib.hid (hP4.below hb5)
    have HN5 := Lib.hid (hN4.below hb5)
    have HX5 := Lib.hid (hX4.below hb5)
    clear hT4 hs4 hP4 hN4 hX4 hb5 hs5 hI5
    go_upto_region 6 with (go_at_call 101; refine HPut.out.mono ?_; clear HPut; rintro e w6 hgo; obtain rfl := hgo.ret)
    obtain ⟨c6, r6, hs6, hr6, hl6, hf6⟩ := HS5.out.step hgo
    have hT6 := HT5.out.step hl6 hf6
    have hP6 := HP5.out.step hl6 hf6
    have hN6 := HN5.out.step hl6 hf6
    have hX6 := HX5.out.step hr6 hl6 hf6
    clear hgo hr6 hl6 hf6 HT5 HS5 HP5 HN5 HX5 aT
    obtain ⟨tp, htp⟩ : ∃ tp, topG g.top n0.h = tp := ⟨_, rfl⟩
    have htg : tp.glue.so = g.top.so ∧ tp.glue.ho = g.top.ho := by rw [← htp]; exact ⟨rfl, rfl⟩
    rw [htp] at hs6 hT6
    have Htp := Lib.hid htp
    clear htp
    have xt7 := hT6.at_.cell 7 _ (Nd.get7 _)
    have HG6 := Lib.hid (grow_any w6 base r6 b.sheet c6 _ tp.glue.nat hs6.bd.sht)
    have HS6 := Lib.hid hs6
    have HT6 := Lib.hid hT6
    have HP6 := Lib.hid hP6
    have HN6 := Lib.hid hN6
    have HX6 := Lib.hid hX6
    clear hs6 hT6 hP6 hN6 hX6
    go_upto_region 7 with (go_at_call 102; refine HG6.out.mono ?_; clear HG6; rintro e w7 hgo; obtain rfl := hgo.ret)
    obtain ⟨c7, r7, hs7, hr7, hl7, hf7⟩ := HS6.out.step hgo
    have hT7 := HT6.out.step hl7 hf7
    have hP7 := HP6.out.step hl7 hf7
    have hN7 := HN6.out.step hl7 hf7
    have hX7 := HX6.out.step hr7 hl7 hf7
    clear hgo hr7 hl7 hf7 HS6 HT6 HP6 HN6 HX6 xt7
    have ag7 := hT7.at_.agg 7 5 (by rw [Nd.size_arr]; decide)
    rw [show tp.arr.extract 7 (7 + 5) = tp.glue.arr from rfl] at ag7
    have HF7 := Lib.hid (flex_any w7 base r7 b.sheet c7 _ tp.glue hs7.bd.sht (by rw [htg.1]; exact hso) (by rw [htg.2]; exact hho))
    have HS7 := Lib.hid hs7
    have HP7 := Lib.hid hP7
    have HN7 := Lib.hid hN7
    have HX7 := Lib.hid hX7
    have Htg := Lib.hid htg
    clear hs7 hT7 hP7 hN7 hX7 htg
    go_upto_region 8 with (go_at_call 103; refine HF7.out.mono ?_; clear HF7; rintro e w8 hgo; obtain rfl := hgo.ret)
    obtain ⟨c8, r8, hs8, hr8, hl8, hf8⟩ := HS7.out.step hgo
    have hP8 := HP7.out.step hl8 hf8
    have hN8 := HN7.out.step hl8 hf8
    have hX8 := HX7.out.step hr8 hl8 hf8
    clear hgo hr8 hl8 hf8 HS7 HP7 HN7 HX7 ag7
    have HV : Hid (solidR g R X = { putR (deepR (growR (flexR (growR (putR R [tp]) tp.glue.nat) tp.glue) n0.h) n0.d g.depth) X with body := true, box := true }) := Lib.hid (by unfold solidR topR; rw [Hn0.out, hbx, Htp.out]; rfl)
    have xn4 := hN8.at_.cell 4 _ (Nd.get4 n0)
    have hg8 := Lib.hid (grow_any w8 base r8 b.sheet c8 _ n0.h hs8.bd.sht)
    have HS8 := Lib.hid hs8
    have HP8 := Lib.hid hP8
    have HX8 := Lib.hid hX8
    have HN8 := Lib.hid hN8
    clear hs8 hP8 hX8 hN8
    go_upto_region 9 with (go_at_call 102; refine hg8.out.mono ?_; clear hg8; rintro e w9 hgo; obtain rfl := hgo.ret)
    obtain ⟨c9, r9, hs9, hr9, hl9, hf9⟩ := HS8.out.step hgo
    have hP9 := HP8.out.step hl9 hf9
    have hN9 := HN8.out.step hl9 hf9
    have hX9 := HX8.out.step hr9 hl9 hf9
    clear hgo hr9 hl9 hf9 HS8 HP8 HX8 HN8 xn4
    have xn5 := hN9.at_.cell 5 _ (Nd.get5 n0)
    have cB1 : w9.cell? ⟨B, 1, none⟩ = some (.int .i64 g.depth) := by rw [← hs9.bd.of.depth]; exact hs9.bd.at_.cell 1 _ (Bc.get1 b)
    have hbd : Below w9.heap.size w9 w9.drew := (Below.refl _ _).drew
    have hd9 := Lib.hid (deep_any w9.drew base r9 b.sheet c9 _ n0.d g.depth (hs9.below hbd).bd.sht)
    have HS9 := Lib.hid (hs9.below hbd)
    have HP9 := Lib.hid (hP9.below hbd)
    have HX9 := Lib.hid (hX9.below hbd)
    have HN9 := Lib.hid (hN9.below hbd)
    clear hs9 hP9 hX9 hN9 hbd
    refine Rest.region follows ?_
    refine Rest.tame 8 (fun Wz => Wz = w9.drew) (by kernel_rfl) rfl ?_
    simp only [Nat.reduceSub, List.drop_zero, List.take_succ_cons, List.take_zero]
    iterate 8 first
      | (refine TW.cons_n rfl _ (by intro wT hT R hR K hK; simp only [Act.put, lsA, lsB, lsC] at hK; have yc : wT.cell? ⟨N, 5, none⟩ = some (.int .i64 n0.d) := (by rw [hT]; exact HN9.out.at_.cell 5 _ (Nd.get5 n0)); have yd : wT.cell? ⟨B, 1, none⟩ = some (.int .i64 g.depth) := (by rw [hT]; exact cB1); go_step; first | exact hK _ _ (hR _ hT) | exact hK _ _ (hR _ rfl)) ?_; try simp only [Act.put, lsA, lsB, lsC])
    refine TW.nil fun wz hz => ?_
    subst hz
    refine Rest.seq (by kernel_rfl) ?_
    go_wp2_with (go_at_call 104; refine hd9.out.mono ?_; rintro e w10 hgo; obtain rfl := hgo.ret)
    obtain ⟨c10, r10, hs10, hr10, hl10, hf10⟩ := HS9.out.step hgo
    have hP10 := HP9.out.step hl10 hf10
    have hX10 := HX9.out.step hr10 hl10 hf10
    clear hgo hr10 hl10 hf10 HS9 HP9 HX9 HN9 xn5 cB1 hd9
    have HPut := Lib.hid (put_bd hs10 hX10 (by rw [deep_list]; simp [flexR, growR, putR]; omega))
    have HS10 := Lib.hid hs10
    have HP10 := Lib.hid hP10
    clear hs10 hP10 hX10
    go_upto_region 11 with (go_at_call 101; refine HPut.out.mono ?_; clear HPut; rintro e w11 hgo; obtain rfl := hgo.ret)
    obtain ⟨c11, r11, hs11, hr11, hl11, hf11⟩ := HS10.out.step hgo
    have hP11 := HP10.out.step hl11 hf11
    clear hgo hr11 hl11 hf11 HS10 HP10
    have d1 := hs11.bd.sht.at_.cell 1 _ (Sc.get1 c11)
    have e1 := hs11.bd.sht.at_.frozen 1
    have d2 := hs11.bd.sht.at_.cell 2 _ (Sc.get2 c11)
    have e2 := hs11.bd.sht.at_.frozen 2
    have hS11 := hs11.bd.sht
    have hfr : Frm (· = b.sheet) w11 ((w11.setCell ⟨b.sheet, 1, none⟩ (.bool true)).setCell ⟨b.sheet, 2, none⟩ (.bool true)) := ((Frm.refl _ _).set1 1 _).set1 2 _
    have hnum := hS11.nums hfr (((hS11.at_.set 1 _ (Sc.set1 _ _)).set 2 _ (Sc.set2 _ _))) ⟨rfl, rfl, rfl⟩ ⟨rfl, rfl, rfl⟩ ⟨rfl, rfl⟩ (R' := solidR g R X) (by rw [HV.out]) (by rw [HV.out]) (by rw [HV.out]) (by rw [HV.out]) (by rw [HV.out]; exact ⟨rfl, rfl, hS11.of.goal, hS11.of.t, hS11.of.depth, hS11.of.pens, hS11.of.bat, hS11.of.bcost, hS11.of.bsome, hS11.of.last⟩)
    have hf12 := frm_S hS11 hfr
    have hs12 : BdS w base B r b g bot W (solidR g R X) ((w11.setCell ⟨b.sheet, 1, none⟩ (.bool true)).setCell ⟨b.sheet, 2, none⟩ (.bool true)) _ r11 := ⟨hs11.bd.sheet hnum (sameR.refl _) hf12, hs11.same, hs11.lat, hs11.frm.trans hf12 fun k hk hs => by
      by_cases hn : shK r k
      · exact hn
      · exact absurd hs (not_shK hn hs11.same hs11.lat hk)⟩
    have hPS : P ≠ b.sheet := fun e => hP11.off ⟨1, by rw [hS11.ro.r1, e]⟩
    have hP12 : Lc ((w11.setCell ⟨b.sheet, 1, none⟩ (.bool true)).setCell ⟨b.sheet, 2, none⟩ (.bool true)) r11 P Pc.zero.arr 46 := ⟨(hP11.at_.other hPS _).other hPS _, hP11.off⟩
    have HS12 := Lib.hid hs12
    have HP12 := Lib.hid hP12
    clear hs12 hP12 hnum hf12 hfr hS11 hs11 hP11 hPS
    go_upto_region 12 with (fail)
    generalize (w11.setCell ⟨b.sheet, 1, none⟩ (.bool true)).setCell ⟨b.sheet, 2, none⟩ (.bool true) = w12 at HS12 HP12 ⊢
    clear d1 d2 e1 e2
    have th := HP12.out.at_.there 0 8 (by rw [Pc.size_arr]; decide)
    go_wp2_with fail
    have ha : Cb (setAgg w12 P 0 Pc.zero.arr) P Pc.zero.arr 46 := HP12.out.at_.setAgg 0 _ (setMany_Pc _ _)
    have hf13 : Frm (· = P) w12 (setAgg w12 P 0 Pc.zero.arr) := (Frm.refl _ _).setAgg1 _ _
    exact ⟨rfl, _, results_pc2 rfl _ _ P _ rfl (ha.agg 0 8 (by rw [Pc.size_arr]; decide)), ⟨rfl, (HS12.out.loc hf13 HP12.out.off hPle).go⟩⟩
  · have hs8 := hs2
    have hP8 := hP2
    have hN8 := hN2
    have hX8 := hX2
    rw [hbx] at c2
    clear hs2 hP2 hN2 hX2
    have HV : Hid (solidR g R X = { putR (deepR (growR R n0.h) n0.d g.depth) X with body := true, box := true }) := Lib.hid (by unfold solidR topR; rw [Hn0.out, hbx]; rfl)
    go_upto_region 8 with (fail)
    have xn4 := hN8.at_.cell 4 _ (Nd.get4 n0)
    have hg8 := Lib.hid (grow_any w2 base r b.sheet c R n0.h hs8.bd.sht)
    have HS8 := Lib.hid hs8
    have HP8 := Lib.hid hP8
    have HX8 := Lib.hid hX8
    have HN8 := Lib.hid hN8
    clear hs8 hP8 hX8 hN8
    go_upto_region 9 with (go_at_call 102; refine hg8.out.mono ?_; clear hg8; rintro e w9 hgo; obtain rfl := hgo.ret)
    obtain ⟨c9, r9, hs9, hr9, hl9, hf9⟩ := HS8.out.step hgo
    have hP9 := HP8.out.step hl9 hf9
    have hN9 := HN8.out.step hl9 hf9
    have hX9 := HX8.out.step hr9 hl9 hf9
    clear hgo hr9 hl9 hf9 HS8 HP8 HX8 HN8 xn4
    have xn5 := hN9.at_.cell 5 _ (Nd.get5 n0)
    have cB1 : w9.cell? ⟨B, 1, none⟩ = some (.int .i64 g.depth) := by rw [← hs9.bd.of.depth]; exact hs9.bd.at_.cell 1 _ (Bc.get1 b)
    have hbd : Below w9.heap.size w9 w9.drew := (Below.refl _ _).drew
    have hd9 := Lib.hid (deep_any w9.drew base r9 b.sheet c9 _ n0.d g.depth (hs9.below hbd).bd.sht)
    have HS9 := Lib.hid (hs9.below hbd)
    have HP9 := Lib.hid (hP9.below hbd)
    have HX9 := Lib.hid (hX9.below hbd)
    have HN9 := Lib.hid (hN9.below hbd)
    clear hs9 hP9 hX9 hN9 hbd
    refine Rest.region follows ?_
    refine Rest.tame 8 (fun Wz => Wz = w9.drew) (by kernel_rfl) rfl ?_
    simp only [Nat.reduceSub, List.drop_zero, List.take_succ_cons, List.take_zero]
    iterate 8 first
      | (refine TW.cons_n rfl _ (by intro wT hT R hR K hK; simp only [Act.put, lsA, lsB, lsC] at hK; have yc : wT.cell? ⟨N, 5, none⟩ = some (.int .i64 n0.d) := (by rw [hT]; exact HN9.out.at_.cell 5 _ (Nd.get5 n0)); have yd : wT.cell? ⟨B, 1, none⟩ = some (.int .i64 g.depth) := (by rw [hT]; exact cB1); go_step; first | exact hK _ _ (hR _ hT) | exact hK _ _ (hR _ rfl)) ?_; try simp only [Act.put, lsA, lsB, lsC])
    refine TW.nil fun wz hz => ?_
    subst hz
    refine Rest.seq (by kernel_rfl) ?_
    go_wp2_with (go_at_call 104; refine hd9.out.mono ?_; rintro e w10 hgo; obtain rfl := hgo.ret)
    obtain ⟨c10, r10, hs10, hr10, hl10, hf10⟩ := HS9.out.step hgo
    have hP10 := HP9.out.step hl10 hf10
    have hX10 := HX9.out.step hr10 hl10 hf10
    clear hgo hr10 hl10 hf10 HS9 HP9 HX9 HN9 xn5 cB1 hd9
    have HPut := Lib.hid (put_bd hs10 hX10 (by rw [deep_list]; simp [growR]; omega))
    have HS10 := Lib.hid hs10
    have HP10 := Lib.hid hP10
    clear hs10 hP10 hX10
    go_upto_region 11 with (go_at_call 101; refine HPut.out.mono ?_; clear HPut; rintro e w11 hgo; obtain rfl := hgo.ret)
    obtain ⟨c11, r11, hs11, hr11, hl11, hf11⟩ := HS10.out.step hgo
    have hP11 := HP10.out.step hl11 hf11
    clear hgo hr11 hl11 hf11 HS10 HP10
    have d1 := hs11.bd.sht.at_.cell 1 _ (Sc.get1 c11)
    have e1 := hs11.bd.sht.at_.frozen 1
    have d2 := hs11.bd.sht.at_.cell 2 _ (Sc.get2 c11)
    have e2 := hs11.bd.sht.at_.frozen 2
    have hS11 := hs11.bd.sht
    have hfr : Frm (· = b.sheet) w11 ((w11.setCell ⟨b.sheet, 1, none⟩ (.bool true)).setCell ⟨b.sheet, 2, none⟩ (.bool true)) := ((Frm.refl _ _).set1 1 _).set1 2 _
    have hnum := hS11.nums hfr (((hS11.at_.set 1 _ (Sc.set1 _ _)).set 2 _ (Sc.set2 _ _))) ⟨rfl, rfl, rfl⟩ ⟨rfl, rfl, rfl⟩ ⟨rfl, rfl⟩ (R' := solidR g R X) (by rw [HV.out]) (by rw [HV.out]) (by rw [HV.out]) (by rw [HV.out]) (by rw [HV.out]; exact ⟨rfl, rfl, hS11.of.goal, hS11.of.t, hS11.of.depth, hS11.of.pens, hS11.of.bat, hS11.of.bcost, hS11.of.bsome, hS11.of.last⟩)
    have hf12 := frm_S hS11 hfr
    have hs12 : BdS w base B r b g bot W (solidR g R X) ((w11.setCell ⟨b.sheet, 1, none⟩ (.bool true)).setCell ⟨b.sheet, 2, none⟩ (.bool true)) _ r11 := ⟨hs11.bd.sheet hnum (sameR.refl _) hf12, hs11.same, hs11.lat, hs11.frm.trans hf12 fun k hk hs => by
      by_cases hn : shK r k
      · exact hn
      · exact absurd hs (not_shK hn hs11.same hs11.lat hk)⟩
    have hPS : P ≠ b.sheet := fun e => hP11.off ⟨1, by rw [hS11.ro.r1, e]⟩
    have hP12 : Lc ((w11.setCell ⟨b.sheet, 1, none⟩ (.bool true)).setCell ⟨b.sheet, 2, none⟩ (.bool true)) r11 P Pc.zero.arr 46 := ⟨(hP11.at_.other hPS _).other hPS _, hP11.off⟩
    have HS12 := Lib.hid hs12
    have HP12 := Lib.hid hP12
    clear hs12 hP12 hnum hf12 hfr hS11 hs11 hP11 hPS
    go_upto_region 12 with (fail)
    generalize (w11.setCell ⟨b.sheet, 1, none⟩ (.bool true)).setCell ⟨b.sheet, 2, none⟩ (.bool true) = w12 at HS12 HP12 ⊢
    clear d1 d2 e1 e2
    have th := HP12.out.at_.there 0 8 (by rw [Pc.size_arr]; decide)
    go_wp2_with fail
    have ha : Cb (setAgg w12 P 0 Pc.zero.arr) P Pc.zero.arr 46 := HP12.out.at_.setAgg 0 _ (setMany_Pc _ _)
    have hf13 : Frm (· = P) w12 (setAgg w12 P 0 Pc.zero.arr) := (Frm.refl _ _).setAgg1 _ _
    exact ⟨rfl, _, results_pc2 rfl _ _ P _ rfl (ha.agg 0 8 (by rw [Pc.size_arr]; decide)), ⟨rfl, (HS12.out.loc hf13 HP12.out.off hPle).go⟩⟩
theorem pfalls (n : Nd) (w : World) : Calls Tryz.prog 105 #[.agg n.arr] w fun e w' => e = .returned (.bool (fallsK n.kind)) ∧ Below w.heap.size w w' := by
  cases h0 : (n.kind == 7)
  rotate_left
  · go_enter Tryz.func105, Tryz.ntmps105
    go_wp2_with fail
    go_ret
    exact ⟨ret_bool (by simp [fallsK, h0]), (Below.refl _ _).alloc (Nat.le_refl _) _⟩
  cases h1 : (n.kind == 8)
  rotate_left
  · go_enter Tryz.func105, Tryz.ntmps105
    go_wp2_with fail
    go_ret
    exact ⟨ret_bool (by simp [fallsK, h0, h1]), (Below.refl _ _).alloc (Nat.le_refl _) _⟩
  cases h2 : (n.kind == 9)
  rotate_left
  · go_enter Tryz.func105, Tryz.ntmps105
    go_wp2_with fail
    go_ret
    exact ⟨ret_bool (by simp [fallsK, h0, h1, h2]), (Below.refl _ _).alloc (Nat.le_refl _) _⟩
  go_enter Tryz.func105, Tryz.ntmps105
  go_wp2_with fail
  go_ret
  exact ⟨ret_bool (by simp [fallsK, h0, h1, h2]), (Below.refl _ _).alloc (Nat.le_refl _) _⟩

theorem pend (p0 : Option Addr) (b off cap : Nat) (L : List Nd) (m : Nat) (w : World) (h : NIn w p0 b off cap L) (hm : behC L 0 = some m) :
    Calls Tryz.prog 66 #[.slice p0 L.length cap] w fun e w' => e = .returned (.int .i64 (m : Int)) ∧ Below w.heap.size w w' := by
  have H := Lib.hid h
  have hl := h.len
  have Hm := Lib.hid hm
  clear h hm
  go_enter Tryz.func66, Tryz.ntmps66
  go_wp2_with fail
  go_loopg [3, 8] (L.length + 1) (fun g t3 t8 wr => ∃ (j k : Nat) (n : Int), g = L.length + 1 - j ∧ t8 = .int .i64 j ∧ t3 = .int .i64 n ∧ behC (L.drop j) n = some k ∧ j + k = m ∧ (-(j : Int) ≤ n ∧ n ≤ j) ∧ Below w.heap.size w wr)
  case atStart => exact ⟨0, m, 0, rfl, rfl, rfl, Hm.out, by omega, by omega, Below.refl _ _⟩
  case round =>
    clear Hm
    obtain ⟨j, k, n, rfl, rfl, rfl, hk, hjk, hn, hbr⟩ := hrel
    have hlt : j < L.length := by have := behC_pos _ _ _ hk; simp at this; omega
    have hNr := H.out.below hbr
    have ax : agg? wr b (off + j * 19) 19 = some (L[j]).arr := hNr.nd j hlt
    have hbl : b < wr.heap.size := hNr.lt hlt
    obtain rfl := H.out.at_ hlt
    have hj1 : (0 : Int) ≤ (j : Int) := by omega
    have hj2 : (j : Int) < (L.length : Int) := by omega
    have hj3 : j < L.length := hlt
    obtain ⟨hn1, hn2⟩ := hn
    have HB := Lib.hid (behC_at hlt hk)
    have Hjk := Lib.hid hjk
    have Hl := Lib.hid hlt
    have hdj : decide (j < L.length) = true := decide_eq_true hlt
    generalize L[j] = nd at ax HB
    clear hk hjk hlt
    have HBr := Lib.hid (hbr.alloc hbr.size (.cells nd.arr 49))
    have dX := Cb.new wr nd.arr 49
    go_upto_region 5 with (fail)
    clear hNr hbr ax hbl
    have x1 := dX.cell 0 _ (Nd.get0 nd)
    generalize wr.alloc (.cells nd.arr 49) = ws at HBr dX x1 ⊢
    generalize wr.heap.size = Xb at dX x1 ⊢
    generalize nd.kind = kd at x1 HB
    clear dX hdj
    rcases kinds_split kd with ⟨h4, ho⟩ | ⟨h4, h5, ho⟩ | ⟨h4, h5, h10, ho⟩ | ⟨h4, h5, h10, h13, ho⟩ | ⟨h4, h5, h10, h13, h17, ho⟩ | ⟨h4, h5, h10, h13, h17, ho⟩
    rotate_right
    · cases h6 : (kd == 6)
      · have hb : behN kd n = n := by unfold behN; rw [ho, if_neg (by simp), if_neg (by simpa using h6)]
        have HB := HB.out
        rw [hb] at HB
        clear hb ho
        rcases HB with ⟨hz, hk1⟩ | ⟨hz, k1, hk1, hk2⟩
        · subst hz
          go_wp2_with fail
          go_ret
          exact ⟨ret_int (by have := Hjk.out; omega), HBr.out⟩
        · have Hk2 := Lib.hid hk2
          have hz' : (n == 0) = false := by simpa using hz
          clear hk2 hz
          go_wp2_with fail
          go_roundg (L.length + 1 - (j + 1))
          case measure => have := Hl.out; omega
          case rel => exact ⟨j + 1, k1, n, rfl, by go_num, rfl, Hk2.out, by have := Hjk.out; omega, by omega, HBr.out⟩
      · have hb : behN kd n = n - 1 := by unfold behN; rw [ho, if_neg (by simp), if_pos (by simpa using h6)]
        have HB := HB.out
        rw [hb] at HB
        clear hb ho
        rcases HB with ⟨hz, hk1⟩ | ⟨hz, k1, hk1, hk2⟩
        · have hz' : ((n - 1 : Int) == 0) = true := by simpa using hz
          clear hz
          go_wp2_with fail
          go_ret
          exact ⟨ret_int (by have := Hjk.out; omega), HBr.out⟩
        · have Hk2 := Lib.hid hk2
          have hz' : ((n - 1 : Int) == 0) = false := by simpa using hz
          clear hk2 hz
          go_wp2_with fail
          go_roundg (L.length + 1 - (j + 1))
          case measure => have := Hl.out; omega
          case rel => exact ⟨j + 1, k1, n - 1, rfl, by go_num, rfl, Hk2.out, by have := Hjk.out; omega, by omega, HBr.out⟩
    all_goals
      have hb : behN kd n = n + 1 := by unfold behN; rw [ho, if_pos rfl]
      have HB := HB.out
      rw [hb] at HB
      clear hb ho
      rcases HB with ⟨hz, hk1⟩ | ⟨hz, k1, hk1, hk2⟩
      · have hz' : ((n + 1 : Int) == 0) = true := by simpa using hz
        clear hz
        go_wp2_with fail
        go_ret
        exact ⟨ret_int (by have := Hjk.out; omega), HBr.out⟩
      · have Hk2 := Lib.hid hk2
        have hz' : ((n + 1 : Int) == 0) = false := by simpa using hz
        clear hk2 hz
        go_wp2_with fail
        go_roundg (L.length + 1 - (j + 1))
        case measure => have := Hl.out; omega
        case rel => exact ⟨j + 1, k1, n + 1, rfl, by go_num, rfl, Hk2.out, by have := Hjk.out; omega, by omega, HBr.out⟩
def freshC (h : Int) (mh mc : Nat) : Sc := ⟨none, 0, 0, false, false, h, ⟨0, 0, 0, 0, 0, 0, 0, 0, 0⟩, 0, mh, mc, none, 0, 0, 0, 0, 1073741823, false, Nd.zero⟩
def freshR (h : Int) : Rw := ⟨[], [], false, false, h, ⟨0, 0, 0, 0, 0, 0, 0, 0, 0⟩, 0, fun _ => none, fun _ => false, 0, 0, 1073741823, false, Nd.zero⟩
def bestV (c : Int) : Value := .agg #[.int .i64 0, .int .i64 c, .bool false]
def bdBs (parts : Array (Nat × Value)) : Sem Value := Instr.build 96 parts
@[go_sem ↓] theorem execOp_buildBs (ρ : Operand → Value) (dst : Option Tmp) (x : Array (Nat × Operand)) (ty : TypeId) (pos : String) (after : Array Edge) (guard : Option (Nat × Bool)) :
    execOp ρ { dst, op := .build 96 x, type := ty, pos, after, guard } = (do pure (.value (← bdBs (x.map fun (i, y) => (i, ρ y))))) := rfl
@[go_sem] theorem run_bdBs (c : Int) (w : World) : (bdBs #[(1, .int .i64 c)]).run Tryz.prog w = .ok (bestV c) w := by kernel_rfl
def bdSh (parts : Array (Nat × Value)) : Sem Value := Instr.build 98 parts
@[go_sem ↓] theorem execOp_buildSh (ρ : Operand → Value) (dst : Option Tmp) (x : Array (Nat × Operand)) (ty : TypeId) (pos : String) (after : Array Edge) (guard : Option (Nat × Bool)) :
    execOp ρ { dst, op := .build 98 x, type := ty, pos, after, guard } = (do pure (.value (← bdSh (x.map fun (i, y) => (i, ρ y))))) := rfl
@[go_sem] theorem run_bdSh (h : Int) (mh mc : Nat) (w : World) : (bdSh #[(3, .int .i64 h), (6, .map (some mh)), (7, .map (some mc)), (10, bestV 1073741823)]).run Tryz.prog w = .ok (.agg (freshC h mh mc).arr) w := by kernel_rfl
def freshRo (r : Nat → Option Nat) (S mh mc : Nat) : Nat → Option Nat := fun i => if i = 1 then some S else if i = 2 then none else if i = 4 then some mh else if i = 5 then some mc else if i = 6 then none else r i
theorem freshRo_cases {r : Nat → Option Nat} {S mh mc i q : Nat} (h : freshRo r S mh mc i = some q) : (r i = some q ∧ i ≠ 1 ∧ i ≠ 4 ∧ i ≠ 5) ∨ (i = 1 ∧ q = S) ∨ (i = 4 ∧ q = mh) ∨ (i = 5 ∧ q = mc) := by
  unfold freshRo at h
  split at h
  · rename_i e; cases h; exact .inr (.inl ⟨e, rfl⟩)
  split at h
  · cases h
  split at h
  · rename_i e; cases h; exact .inr (.inr (.inl ⟨e, rfl⟩))
  split at h
  · rename_i e; cases h; exact .inr (.inr (.inr ⟨e, rfl⟩))
  split at h
  · cases h
  · exact .inl ⟨h, by assumption, by assumption, by assumption⟩
theorem freshRo_own {base : Nat} {r : Nat → Option Nat} {w w' : World} {S mh mc : Nat} (h : Own base r w) (hB : base ≤ w.heap.size) (h1 : w.heap.size ≤ mh) (h2 : mh < mc) (h3 : mc < S) (h4 : S < w'.heap.size) : Own base (freshRo r S mh mc) w' := by
  refine ⟨fun i q e => ?_, fun i j q hne e1 e2 => ?_⟩
  · rcases freshRo_cases e with ⟨e, _⟩ | ⟨_, rfl⟩ | ⟨_, rfl⟩ | ⟨_, rfl⟩
    · have := h.lt i q e; omega
    · omega
    · omega
    · omega
  · rcases freshRo_cases e1 with ⟨a, _⟩ | ⟨rfl, rfl⟩ | ⟨rfl, rfl⟩ | ⟨rfl, rfl⟩ <;> rcases freshRo_cases e2 with ⟨b, _⟩ | ⟨f1, f2⟩ | ⟨f1, f2⟩ | ⟨f1, f2⟩
    · exact h.sep i j q hne a b
    all_goals first
      | (have := (h.lt i q a).2; omega)
      | (have := (h.lt j _ b).2; omega)
      | omega
theorem bfresh (w : World) (B : Nat) (h : Int) (a : Array Value) (ha : Cb w B a 71) (h0 : a[0]? = some (.int .i64 h)) (h8 : ∃ v, a[8]? = some v) :
    Calls Tryz.prog 33 #[.pointer (some ⟨B, 0, none⟩)] w fun e w' => e = .returned (.tuple #[]) ∧ ∃ S mh mc, w.heap.size ≤ mh ∧ mh < mc ∧ mc < S ∧ S < w'.heap.size ∧ MapF w' mh (fun _ => none) ∧ MapF w' mc (fun _ => none) ∧ ScAt w' S (freshC h mh mc) ∧
      Cb w' B (a.setIfInBounds 8 (.pointer (some ⟨S, 0, none⟩))) 71 ∧ Frm (· = B) w w' := by
  obtain ⟨v8, h8⟩ := h8
  have c0 := ha.cell 0 _ h0
  have c8 := ha.cell 8 _ h8
  have f8 := ha.frozen 8
  have hl := ha.lt
  have hl1 : B < w.heap.size + 1 := by omega
  have hl2 : B < w.heap.size + 1 + 1 := by omega
  have H := Lib.hid ha
  have H0 := Lib.hid (And.intro h0 h8)
  clear ha h0 h8
  have hmm := @run_makeMap Tryz.prog
  go_enter Tryz.func33, Tryz.ntmps33
  go_wp2_with fail
  have hz : (w.setCell ⟨B, 8, none⟩ (.pointer (some ⟨w.heap.size + 1 + 1, 0, none⟩))).heap.size = w.heap.size := by simp [World.setCell]
  have hB : Cb (w.setCell ⟨B, 8, none⟩ (.pointer (some ⟨w.heap.size + 1 + 1, 0, none⟩))) B (a.setIfInBounds 8 (.pointer (some ⟨w.heap.size + 1 + 1, 0, none⟩))) 71 := H.out.set 8 _ rfl
  have hF : Frm (· = B) w (w.setCell ⟨B, 8, none⟩ (.pointer (some ⟨w.heap.size + 1 + 1, 0, none⟩))) := (Frm.refl _ _).set1 8 _
  refine ⟨rfl, _, results_none rfl _ _ _, rfl, w.heap.size + 1 + 1, w.heap.size, w.heap.size + 1, Nat.le_refl _, by omega, by omega, ?_⟩
  generalize w.setCell ⟨B, 8, none⟩ (.pointer (some ⟨w.heap.size + 1 + 1, 0, none⟩)) = w0 at hz hB hF ⊢
  rw [← hz] at hB ⊢
  have m1 := MapF.new w0
  have m2 := MapF.new (w0.alloc (.map #[] 0))
  have z2 : (w0.alloc (.map #[] 0)).heap.size = w0.heap.size + 1 := by simp
  have z3 : ((w0.alloc (.map #[] 0)).alloc (.map #[] 0)).heap.size = w0.heap.size + 1 + 1 := by simp
  rw [z2] at m2
  have s3 := Cb.new ((w0.alloc (.map #[] 0)).alloc (.map #[] 0)) (freshC h w0.heap.size (w0.heap.size + 1)).arr 98
  rw [z3] at s3
  refine ⟨by simp, ?_, ?_, s3, ((hB.alloc _).alloc _).alloc _, ((hF.alloc _).alloc _).alloc _⟩
  · exact m1.same ((Below.heap_alloc _ _ _ (by rw [z3]; omega)).trans (Below.heap_alloc _ _ _ (by rw [z2]; omega)))
  · exact m2.same (Below.heap_alloc _ _ _ (by rw [z3]; omega))
theorem BdR.fresh {w w' : World} {base B : Nat} {r : Nat → Option Nat} {b : Bc} {g : Gr} {bot : ByteArray} {W : List Nd} (hO : Own base r w) (hB : base ≤ w.heap.size) (ho : BcOf w b g bot W) (r0 : r 0 = some B) (r3 : r 3 = blkA b.waitsA) (r7 : r 7 = blkA b.clsA)
    {S mh mc : Nat} (h1 : w.heap.size ≤ mh) (h2 : mh < mc) (h3 : mc < S) (h4 : S < w'.heap.size) (m1 : MapF w' mh (fun _ => none)) (m2 : MapF w' mc (fun _ => none)) (hs : ScAt w' S (freshC g.height mh mc)) (hb : Cb w' B ({ b with sheet := S } : Bc).arr 71) (hf : Frm (· = B) w w') :
    BdR w' base B (freshRo r S mh mc) { b with sheet := S } (freshC g.height mh mc) g bot W (freshR g.height) ∧ later r (freshRo r S mh mc) w := by
  have hne : ∀ i q, i ≠ 0 → r i = some q → q ≠ B := fun i q hi e e2 => hO.sep i 0 q hi e (by rw [r0, e2])
  have ho' : BcOf w' b g bot W := ho.same hf.size (fun q e hq => hf.block q hq (hne 3 q (by decide) (by rw [r3, e]))) (fun q e hq => hf.block q hq (hne 7 q (by decide) (by rw [r7, e])))
  refine ⟨⟨⟨hs, ⟨rfl, rfl, rfl, rfl, rfl, rfl, rfl, rfl, rfl, rfl, World.ownsRow_nil _ _ _ _, World.ownsRow_nil _ _ _ _, m1, m2⟩, freshRo_own hO hB h1 h2 h3 h4, ⟨rfl, rfl, rfl, rfl, rfl⟩, Nat.le_trans hB hf.size⟩, hb, ⟨ho'.height, ho'.depth, ho'.top, ho'.bot, ho'.cls, ho'.wn, ho'.waits⟩, r0, r3, r7⟩, fun i q e => ?_⟩
  rcases freshRo_cases e with ⟨e, _⟩ | ⟨_, rfl⟩ | ⟨_, rfl⟩ | ⟨_, rfl⟩
  · exact .inl e
  · exact .inr (by omega)
  · exact .inr h1
  · exact .inr (by omega)
end Go.Proofs.YtomehdepjenilaaGreat
