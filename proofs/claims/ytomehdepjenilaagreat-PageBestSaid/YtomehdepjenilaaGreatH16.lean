/-
  The page builder: a page without inserts is fired.
-/
import Derived.Test.YtomehdepjenilaaGreatH0
import Derived.Test.YtomehdepjenilaaGreatW2
import Derived.Test.YtomehdepjenilaaGreatV10
import Derived.Test.YtomehdepjenilaaGreatH19a
namespace Go.Proofs.YtomehdepjenilaaGreat
open Go.ChangeShapes Go.WideShapes Go.ChangeAt Go.RowKit
def behN9 (l : List Nd) : List Nd × Int := match l with
  | [] => ([], 10000)
  | x :: r => if x.kind = 9 then ({ x with pen := 10000 } :: r, x.pen) else (x :: r, 10000)
noncomputable def firP (L : List Nd) (k : Nat) (n : Nd) (cost : Int) (bot : ByteArray) : PgP :=
  let m := marksR (L.take k) (itemsP (L.take k))
  ⟨L.take k, [], (behN9 (L.drop k ++ [n])).2, cost, bot, if m.some then m.first else bot, if m.some then m.last else bot⟩
theorem behN9_len (l : List Nd) : (behN9 l).1.length = l.length := by
  unfold behN9
  split
  · rfl
  · split <;> rfl
theorem own_pen {w : World} {base g cap : Nat} {x : Nd} {r : List Nd} (h : w.ownsRow base 49 19 (.slice (some ⟨g, 0, none⟩) (r.length + 1) cap) (r.length + 1) ((x :: r).flatMap Nd.cells)) (v : Int) : (w.setCell ⟨g, 16, none⟩ (.int .i64 v)).ownsRow base 49 19 (.slice (some ⟨g, 0, none⟩) (r.length + 1) cap) (r.length + 1) ((({ x with pen := v } : Nd) :: r).flatMap Nd.cells) := by
  have h1 := (h.stored 16 (.int .i64 v)).1
  have e : ((x :: r).flatMap Nd.cells).set 16 (.int .i64 v) = (({ x with pen := v } : Nd) :: r).flatMap Nd.cells := by rw [List.flatMap_cons, List.flatMap_cons]; rfl
  rwa [e] at h1
structure FMid (w : World) (base B N Q P g5 c5 z : Nat) (r : Nat → Option Nat) (b : Bc) (c : Sc) (g : Gr) (bot : ByteArray) (W : List Nd) (R : Rw) (n : Nd) (X : List Nd) (m : Nat) (T : Pc) (wx : World) : Prop where
  bd : BdS w base B r b g bot W R wx c r
  nb : Lc wx r N n.arr 49
  q : Lc wx r Q Pc.zero.arr 46
  p : Lc wx r P T.arr 46
  o : wx.ownsRow z 49 19 (.slice (some ⟨g5, 0, none⟩) m c5) m (X.flatMap Nd.cells)
  zl : w.heap.size ≤ P ∧ P < z ∧ N < P ∧ Q < P ∧ z ≤ g5 ∧ ¬ owns r g5
section
variable {w wx : World} {base B N Q P g5 c5 z m : Nat} {r : Nat → Option Nat} {b : Bc} {c : Sc} {g : Gr} {bot : ByteArray} {W X r5 : List Nd} {R : Rw} {n x5 : Nd} {T : Pc}
theorem FMid.frm {T' : Pc} {w6 : World} (h : FMid w base B N Q P g5 c5 z r b c g bot W R n X m T wx) (hf : Frm (· = P) wx w6) (hp : Cb w6 P T'.arr 46) : FMid w base B N Q P g5 c5 z r b c g bot W R n X m T' w6 := by
  obtain ⟨z1, z2, z3, z4, z5, z6⟩ := h.zl
  refine ⟨h.bd.loc hf h.p.off z1, ⟨h.nb.at_.frm hf (by omega), h.nb.off⟩, ⟨h.q.at_.frm hf (by omega), h.q.off⟩, ⟨hp, h.p.off⟩, ownsRow_same h.o fun q hq hlt => hf.block q hlt ?_, h.zl⟩
  simp only [Value.ownBlock, Option.some.injEq] at hq
  omega
theorem FMid.below {w6 : World} (h : FMid w base B N Q P g5 c5 z r b c g bot W R n X m T wx) (hb : Below wx.heap.size wx w6) : FMid w base B N Q P g5 c5 z r b c g bot W R n X m T w6 :=
  ⟨h.bd.below hb, h.nb.below hb, h.q.below hb, h.p.below hb, ownsRow_same h.o fun q _ hlt => hb.block q hlt, h.zl⟩
theorem FMid.pen (h : FMid w base B N Q P g5 c5 z r b c g bot W R n X m T wx) (v : Int) : FMid w base B N Q P g5 c5 z r b c g bot W R n X m { T with pen := v } (wx.setCell ⟨P, 3, none⟩ (.int .i64 v)) := by
  obtain ⟨z1, z2, z3, z4, z5, z6⟩ := h.zl
  refine ⟨h.bd.loc ((Frm.refl _ _).set1 3 _) h.p.off z1, ⟨h.nb.at_.other (by omega) _, h.nb.off⟩, ⟨h.q.at_.other (by omega) _, h.q.off⟩, ⟨h.p.at_.set 3 _ (Pc.set3 _ _), h.p.off⟩, ownsRow_setCell_other h.o (by simp only [Value.ownBlock, Option.some.injEq, ne_eq]; omega) _, h.zl⟩
theorem FMid.row (h : FMid w base B N Q P g5 c5 z r b c g bot W R n (x5 :: r5) (r5.length + 1) T wx) (v : Int) : FMid w base B N Q P g5 c5 z r b c g bot W R n ({ x5 with pen := v } :: r5) (r5.length + 1) T (wx.setCell ⟨g5, 16, none⟩ (.int .i64 v)) := by
  obtain ⟨z1, z2, z3, z4, z5, z6⟩ := h.zl
  refine ⟨h.bd.loc ((Frm.refl _ _).set1 16 _) z6 (by omega), ⟨h.nb.at_.other (by omega) _, h.nb.off⟩, ⟨h.q.at_.other (by omega) _, h.q.off⟩, ⟨h.p.at_.other (by omega) _, h.p.off⟩, own_pen h.o v, h.zl⟩
end
set_option maxRecDepth 100000 in
set_option maxHeartbeats 16000000 in
theorem bfire_0 (w : World) (base B : Nat) (r : Nat → Option Nat) (b : Bc) (c : Sc) (g : Gr) (bot : ByteArray) (W : List Nd) (R : Rw) (h : BdR w base B r b c g bot W R) (hI : R.ins = []) (n : Nd) (k : Nat) (hk : 0 < k) (hkb : R.bat = (k : Int)) (hkl : k ≤ R.list.length) (hlen : R.list.length + W.length ≤ 700000000000) :
    Calls Tryz.prog 107 #[.pointer (some ⟨B, 0, none⟩), .agg n.arr] w fun e w' => ∃ T : Pc, e = .returned (.agg T.arr) ∧ Fired w base B r g (firP R.list k n R.bcost bot) ((behN9 (R.list.drop k ++ [n])).1 ++ W) T w' := by
  have hl0 : R.list.length ≤ 800000000000 := by omega
  have hbN : Below w.heap.size w ((w.alloc (.cells n.arr 49)).alloc (.cells (Pc.mk none 0 0 none 0 0 none 0 0 0 0 ⟨#[]⟩ ⟨#[]⟩ ⟨#[]⟩).arr 46)) := ((Below.refl _ _).alloc (Nat.le_refl _) _).alloc (by simp) _
  have hs1 := (BdS.refl h).below hbN
  have hN1 : Lc ((w.alloc (.cells n.arr 49)).alloc (.cells (Pc.mk none 0 0 none 0 0 none 0 0 0 0 ⟨#[]⟩ ⟨#[]⟩ ⟨#[]⟩).arr 46)) r w.heap.size n.arr 49 := ⟨(Cb.new w n.arr 49).alloc _, new_owns h.sht.own (Nat.le_refl _)⟩
  have hQ1 : Lc ((w.alloc (.cells n.arr 49)).alloc (.cells (Pc.mk none 0 0 none 0 0 none 0 0 0 0 ⟨#[]⟩ ⟨#[]⟩ ⟨#[]⟩).arr 46)) r (w.heap.size + 1) Pc.zero.arr 46 := ⟨by have := Cb.new (w.alloc (.cells n.arr 49)) Pc.zero.arr 46; rw [World.size_alloc] at this; exact this, new_owns h.sht.own (by omega)⟩
  have HOw := Lib.hid (And.intro h.sht.own h.r0)
  clear h hbN
  go_enter Tryz.func107, Tryz.ntmps107
  go_upto_region 1 with (fail)
  generalize (w.alloc (.cells n.arr 49)).alloc (.cells (Pc.mk none 0 0 none 0 0 none 0 0 0 0 ⟨#[]⟩ ⟨#[]⟩ ⟨#[]⟩).arr 46) = w1 at hs1 hN1 hQ1 ⊢
  obtain ⟨N, hNz⟩ : ∃ N, w.heap.size = N := ⟨_, rfl⟩
  obtain ⟨Q, hQz⟩ : ∃ Q, w.heap.size + 1 = Q := ⟨_, rfl⟩
  rw [hNz] at hN1
  rw [hQz] at hQ1
  simp only [hQz]
  simp only [hNz]
  have hNQ : N ≠ Q := by omega
  have hNle : w.heap.size ≤ N := by omega
  have hQle : w.heap.size ≤ Q := by omega
  clear hNz hQz
  have cs := hs1.bd.at_.cell 8 _ (Bc.get8 b)
  have cb := hs1.bd.at_.cell 10 _ (Bc.get10 b)
  rw [hs1.bd.of.bot] at cb
  have c18 := hs1.bd.sht.at_.cell 18 _ (Sc.get18 c)
  rw [hs1.bd.sht.of.bat, hkb] at c18
  have c19 := hs1.bd.sht.at_.cell 19 _ (Sc.get19 c)
  rw [hs1.bd.sht.of.bcost] at c19
  have hlr := hs1.bd.sht.of.list
  have hln : c.listN = R.list.length := owns_len hlr
  have hLne : R.list ≠ [] := by intro e; rw [e] at hkl; simp at hkl; omega
  obtain ⟨_, p4, g4, c4, e4, hN4, _⟩ := row_nodes hlr (by omega)
  obtain rfl := hN4.hp hLne
  simp only [Value.slice.injEq] at e4
  obtain ⟨ea, en, ec⟩ := e4
  have HS := Lib.hid hs1
  have HN := Lib.hid hN1
  have HQ := Lib.hid hQ1
  have HN4 := Lib.hid hN4
  have Hln := Lib.hid (And.intro ea (And.intro hln ec))
  have hBl : B < w1.heap.size := hs1.bd.at_.lt
  have hSl : b.sheet < w1.heap.size := hs1.bd.sht.at_.lt
  have hb3 : Below w1.heap.size w1 (w1.alloc (.cells (Pc.mk none 0 0 none 0 0 none 0 0 10000 R.bcost bot ⟨#[]⟩ ⟨#[]⟩).arr 46)).drew := ((Below.refl _ _).alloc (Nat.le_refl _) _).drew
  have hP3 : Lc (w1.alloc (.cells (Pc.mk none 0 0 none 0 0 none 0 0 10000 R.bcost bot ⟨#[]⟩ ⟨#[]⟩).arr 46)).drew r w1.heap.size (Pc.mk none 0 0 none 0 0 none 0 0 10000 R.bcost bot ⟨#[]⟩ ⟨#[]⟩).arr 46 := (Lc.new hs1.bd.sht.own _ _).below (Below.refl _ _).drew
  have HB3 := Lib.hid hb3
  have HP3 := Lib.hid hP3
  clear hs1 hN1 hQ1 hb3 hP3 hlr hN4 ea hln ec en
  go_upto_region 3 with (fail)
  go_region
  go_upto_region 4 with (fail)
  obtain ⟨P, hPz⟩ : ∃ P, w1.heap.size = P := ⟨_, rfl⟩
  have hPN : N < P := by rw [← hPz]; exact HN.out.at_.lt
  have hPQ : Q < P := by rw [← hPz]; exact HQ.out.at_.lt
  have HPz := Lib.hid hPz
  rw [hPz] at HP3
  simp only [hPz]
  generalize (w1.alloc (.cells (Pc.mk none 0 0 none 0 0 none 0 0 10000 R.bcost bot ⟨#[]⟩ ⟨#[]⟩).arr 46)).drew = w3 at HB3 HP3 ⊢
  have HS3 := Lib.hid (HS.out.below HB3.out)
  have HN3 := Lib.hid (HN.out.below HB3.out)
  have HQ3 := Lib.hid (HQ.out.below HB3.out)
  have HL3 := Lib.hid (HN4.out.below HB3.out)
  clear HS HN HQ HN4 cs cb c18 c19 hPz hBl hSl
  have hkI : (k : Int) ≤ (R.list.length : Int) := by omega
  have hkc : (R.list.length : Int) ≤ (c4 : Int) := by have := HL3.out.cap'; omega
  have hk0 : (0 : Int) ≤ (k : Int) := by omega
  have HD := HL3.out.drop k hkl
  have hdl : (R.list.drop k).length = R.list.length - k := by simp
  have HDl := Lib.hid hdl
  have HD := Lib.hid HD
  clear hdl
  have HC : Hid (∀ W9, Below w3.heap.size w3 W9 → W9.cell? ⟨b.sheet, 0, none⟩ = some (.slice (some ⟨g4, 0, none⟩) R.list.length c4) ∧ agg? W9 N 0 19 = some n.arr) := Lib.hid fun W9 hf => by
    have := ((HS3.out.below hf).bd.sht.at_).cell 0 _ (Sc.get0 c)
    rw [Hln.out.1, Hln.out.2.1, Hln.out.2.2] at this
    exact ⟨this, (HN3.out.below hf).at_.agg 0 19 (by rw [Nd.size_arr]; decide)⟩
  have HCl : Hid (∀ W9, Below w3.heap.size w3 W9 → Calls Tryz.prog 41 #[.slice (if c4 = k then some ⟨g4, 0, none⟩ else some ⟨g4, k * 19, none⟩) (R.list.length - k) (c4 - k)] W9 fun e w' => (∃ v, e = .returned v ∧ NRow W9 v (R.list.drop k) w') ∧ Below W9.heap.size W9 w') := Lib.hid fun W9 hf => by
    by_cases e : c4 = k
    · rw [if_pos e]
      have hz : R.list.drop k = [] := List.drop_eq_nil_of_le (by omega)
      have hNN : NIn W9 (some ⟨g4, 0, none⟩) g4 0 (c4 - k) (R.list.drop k) := ⟨fun h => absurd hz h, fun h => absurd hz h, fun j hj => absurd hj (by rw [hz]; simp), by rw [hz]; simp, by rw [hz]; simp⟩
      have := clone_some ⟨g4, 0, none⟩ g4 0 (c4 - k) (R.list.drop k) W9 hNN (by rw [HDl.out]; omega)
      rw [HDl.out] at this
      exact this
    · rw [if_neg e]
      have hd := HD.out.below hf
      rw [Nat.zero_add] at hd
      have := clone_some ⟨g4, k * 19, none⟩ g4 (k * 19) (c4 - k) (R.list.drop k) W9 (by simpa using hd) (by rw [HDl.out]; omega)
      rw [HDl.out] at this
      exact this
  obtain ⟨i0, hi0', hz0, hz1, hz2'⟩ := info_parts info_node
  refine region_makers [6, 8, 9, 10] (fun W9 => Below w3.heap.size w3 W9) (JF w3 (R.list.drop k) n) follows (by kernel_rfl) (fun m us W9 h9 => h9.below) (fun us => JF.init us) ?_
  iterate 11 first
    | (refine TK.pass rfl ?_)
    | (refine TK.read rfl _ (by intro wT hT KT hK; simp only [Act.put, lsA, lsB, lsC] at hK; have yb := (HC.out _ hT).1; have yn := (HC.out _ hT).2; go_step; exact hK _ rfl) ?_; try simp only [Act.put, lsA, lsB, lsC])
  refine TK.nil fun us => ?_
  refine KW.step _ rfl (fun mm W1 hJ h6 hD RR hRR => ?_) ?_
  · go_step
    refine (HCl.out _ hJ.below).mono ?_
    rintro ev W2 ⟨⟨v, rfl, hv⟩, hb⟩
    exact hRR _ _ (hJ.clone h6 hv hb)
  try simp only [Act.put, lsA, lsB, lsC]
  refine KW.step _ rfl (fun mm W1 hJ h8 hD RR hRR => ?_) ?_
  · go_step
    exact hRR _ _ (hJ.lit h8)
  try simp only [Act.put, lsA, lsB, lsC]
  refine KW.step _ rfl (fun mm W1 hJ h9 hD RR hRR => ?_) ?_
  · have m6 := hD 6 rfl (by kernel_rfl)
    have m8 := hD 8 rfl (by kernel_rfl)
    obtain ⟨X, e8, _, hX, _⟩ := hJ.v8 m8 h9
    have hone := nodes_one [n]
    have hXn : NIn W1 (some ⟨X, 0, none⟩) X 0 1 [n] := nodes_blk (L := [n]) (by rw [List.flatMap_cons, List.flatMap_nil, List.append_nil]; exact hX) (by simp)
    have hnw := hXn.news
    rw [List.flatMap_cons, List.flatMap_nil, List.append_nil] at hone hnw
    refine ap_at (.tmp 38) (.tmp 40) 27 rfl w3.heap.size 49 i0 (.agg Nd.zero.arr) 19 160 Tryz.underlying27 hi0' hz0 hz1 hz2' rfl (by decide) (us 6) (R.list.drop k).length ((R.list.drop k).flatMap Nd.cells) rfl (hJ.v6 m6 h9) ⟨X, 0, none⟩ 1 1 n.cells e8 rfl hnw hone (by rw [HDl.out]; unfold maxLen; omega) (by rw [HDl.out]; omega) hJ.below.size ?_
    intro v7 w7 hown7 hgrow7 hat7
    obtain ⟨_, ⟨e7, hn0⟩ | ⟨g7, c7, cur, e7, _⟩⟩ := id hown7
    · omega
    · subst e7
      exact hRR _ _ (hJ.app m6 m8 h9 hown7 hgrow7)
  try simp only [Act.put, lsA, lsB, lsC]
  refine KW.step _ rfl (fun mm W1 hJ h10 hD RR hRR => ?_) ?_
  · go_step
    exact hRR _ _ (hJ.assign (hD 9 rfl (by kernel_rfl)) h10)
  simp only [Act.put]
  refine KW.nil fun w4 hJ4 => ?_
  generalize (if c4 = k then some (⟨g4, 0, none⟩ : Addr) else some ⟨g4, k * 19, none⟩) = ad9
  have hb4 := hJ4.below
  have hown := hJ4.v9 rfl
  have hL5 : (R.list.drop k).length + 1 = (R.list.drop k ++ [n]).length := by rw [List.length_append, List.length_singleton]
  rw [hL5] at hown
  have hlen5 : (R.list.drop k ++ [n]).length ≤ 700000000001 := by rw [← hL5, HDl.out]; omega
  have hv10 := hJ4.v10 rfl
  obtain ⟨_, p5, g5, c5, e5, hN5, hge5⟩ := row_nodes hown (by omega)
  obtain ⟨L5, hL5z⟩ : ∃ L5, R.list.drop k ++ [n] = L5 := ⟨_, rfl⟩
  have hne5 : L5 ≠ [] := by rw [← hL5z]; simp
  have HL5 := Lib.hid hL5z
  rw [hL5z] at hN5 hown hlen5 hge5 e5
  obtain rfl := hN5.hp hne5
  have hge6 := hge5 hne5
  clear hge5
  simp only [hv10, e5]
  obtain ⟨x5, r5, rfl⟩ : ∃ x r, L5 = x :: r := by cases L5 with
    | nil => exact absurd rfl hne5
    | cons x r => exact ⟨x, r, rfl⟩
  rw [e5] at hown
  have HM := Lib.hid (show FMid w base B N Q P g5 c5 w3.heap.size r b c g bot W R n (x5 :: r5) (r5.length + 1) (Pc.mk none 0 0 none 0 0 none 0 0 10000 R.bcost bot ⟨#[]⟩ ⟨#[]⟩) w4 from ⟨HS3.out.below hb4, HN3.out.below hb4, HQ3.out.below hb4, HP3.out.below hb4, hown, by omega, HP3.out.at_.lt, hPN, hPQ, hge6, new_owns HS3.out.bd.sht.own hge6⟩)
  obtain ⟨Z, hZ⟩ : ∃ Z, w3.heap.size = Z := ⟨_, rfl⟩
  have hwZ : w.heap.size ≤ Z := by rw [← hZ]; exact HS3.out.frm.size
  rw [hZ] at HM
  clear HS3 HN3 HQ3 HP3 HL3 HB3 hb4 hown hL5 hv10 e5 hN5 hJ4 HC HCl HD hge6 hkI hkc hk0 HPz hZ
  have y0 : w4.cell? ⟨g5, 0, none⟩ = some (.int .i64 x5.kind) := HM.out.o.cellAt 0 (by omega)
  have y16 : w4.cell? ⟨g5, 16, none⟩ = some (.int .i64 x5.pen) := HM.out.o.cellAt 16 (by omega)
  have f16 : w4.frozen? ⟨g5, 16, none⟩ = false := HM.out.o.frozenAt 16
  have p3 := HM.out.p.at_.cell 3 _ (Pc.get3 _)
  have f3 := HM.out.p.at_.frozen 3
  have hgP5 : g5 ≠ P := by have := HM.out.zl; omega
  have HX := Lib.hid hlen5
  clear hlen5 hne5
  go_upto_if 46 with (fail)
  go_cut [45, 46] from 47 to 54 (fun _ _ wx => FMid w base B N Q P g5 c5 Z r b c g bot W R n (behN9 (x5 :: r5)).1 (r5.length + 1) (Pc.mk none 0 0 none 0 0 none 0 0 (behN9 (x5 :: r5)).2 R.bcost bot ⟨#[]⟩ ⟨#[]⟩) wx)
  case first =>
    by_cases h9 : x5.kind = 9
    · have e9 : behN9 (x5 :: r5) = ({ x5 with pen := 10000 } :: r5, x5.pen) := by simp only [behN9, if_pos h9]
      have HE := Lib.hid e9
      clear e9
      have HT := Lib.hid ((HM.out.pen x5.pen).row 10000)
      go_wp2_with fail
      go_meet
      rw [HE.out]
      exact HT.out
    · have e9 : behN9 (x5 :: r5) = (x5 :: r5, 10000) := by simp only [behN9, if_neg h9]
      have HE := Lib.hid e9
      clear e9
      go_wp2_with fail
      go_meet
      rw [HE.out]
      exact HM.out
  case rest =>
    have HM5 := Lib.hid hcut
    clear hcut HM y0 y16 f16 p3 f3
    obtain ⟨bp, hbp⟩ : ∃ bp, behN9 (x5 :: r5) = bp := ⟨_, rfl⟩
    have HBP := Lib.hid hbp
    rw [hbp] at HM5
    clear hbp
    go_upto_region 9 with (go_at_call 143; refine (deal_0 _ base B r b c g bot W R HM5.out.bd.bd hI P _ HM5.out.p ⟨rfl, rfl, rfl, rfl, rfl, rfl⟩ k hk hkl hl0).mono ?_; rintro e w6 ⟨rfl, ⟨q6, cap6, hP6, hown6⟩, hf6⟩)
    have HM6 := Lib.hid (HM5.out.frm hf6 hP6)
    have hkn : (R.list.take k).length = k := by rw [List.length_take]; omega
    have hqb : P < q6 := by have h1 := (hown6.lt q6 rfl).1; have h2 := HM5.out.p.at_.lt; omega
    obtain ⟨x9, p9, g9, c9, e9, hN9, y9⟩ := row_nodes hown6 (by rw [hkn]; omega)
    simp only [Value.slice.injEq] at e9
    obtain ⟨ea, em, ec⟩ := e9
    rw [← ea, ← ec] at hN9
    have hkne : R.list.take k ≠ [] := by intro e; rw [e] at hkn; simp at hkn; omega
    have hg9 := hN9.hp hkne
    simp only [Option.some.injEq, Addr.mk.injEq, and_true] at hg9
    rw [← hg9] at hN9
    have HN9 := Lib.hid hN9
    have HO6 := Lib.hid hown6
    have Hkn := Lib.hid (And.intro hkn hkne)
    clear hP6 hf6 hN9 ea ec em hg9 hkn hkne hown6 x9 y9
    have p5 : w6.cell? ⟨P, 5, none⟩ = some (.string bot) := HM6.out.p.at_.cell 5 _ (Pc.get5 _)
    have p6 := HM6.out.p.at_.cell 6 _ (Pc.get6 _)
    have p7 := HM6.out.p.at_.cell 7 _ (Pc.get7 _)
    have f6 := HM6.out.p.at_.frozen 6
    have f7 := HM6.out.p.at_.frozen 7
    go_upto_region 10 with (fail)
    have hf7 : Frm (· = P) w6 ((w6.setCell ⟨P, 6, none⟩ (.string bot)).setCell ⟨P, 7, none⟩ (.string bot)) := ((Frm.refl _ _).set1 6 (.string bot)).set1 7 (.string bot)
    have HM7 := Lib.hid (HM6.out.frm (T' := Pc.mk (some ⟨q6, 0, none⟩) k cap6 none 0 0 none 0 0 bp.2 R.bcost bot bot bot) hf7 ((HM6.out.p.at_.set 6 _ (Pc.set6 _ _)).set 7 _ (Pc.set7 _ _)))
    have HN7 := Lib.hid (HN9.out.same9 hf7.size fun _ => hf7.block q6 (HN9.out.hb Hkn.out.2) (by omega))
    generalize (w6.setCell ⟨P, 6, none⟩ (.string bot)).setCell ⟨P, 7, none⟩ (.string bot) = w7 at HM7 HN7 hf7 ⊢
    have HO7 := Lib.hid (ownsRow_base (ownsRow_same HO6.out fun q hq hlt => hf7.block q hlt (by simp only [Value.ownBlock, Option.some.injEq] at hq; omega)) HM5.out.bd.frm.size)
    clear HM6 p5 p6 p7 f6 f7 hf7 HN9 HO6
    have p0 : w7.cell? ⟨P, 0, none⟩ = some (.slice (some ⟨q6, 0, none⟩) k cap6) := HM7.out.p.at_.cell 0 _ (Pc.get0 _)
    have HMk : Hid (Calls Tryz.prog 144 #[.slice (some ⟨q6, 0, none⟩) k cap6] w7 fun e w' => e = .returned ((marksR (R.list.take k) (itemsP (R.list.take k))).vals (colP (R.list.take k) (itemsP (R.list.take k)))) ∧ Below w7.heap.size w7 w') := Lib.hid (by
      have := vmarks (some ⟨q6, 0, none⟩) q6 0 cap6 (R.list.take k) (itemsP (R.list.take k)) itemsP_spec w7 HN7.out
      rw [Hkn.out.1] at this
      exact this)
    obtain ⟨mk9, hmk⟩ : ∃ m, marksR (R.list.take k) (itemsP (R.list.take k)) = m := ⟨_, rfl⟩
    have Hmk := Lib.hid hmk
    rw [hmk] at HMk
    clear hmk
    obtain ⟨mf, ml, ms⟩ := mk9
    simp only [Mk.vals] at HMk
    go_upto_if 72 with (go_at_call 144; refine HMk.out.mono ?_; rintro e w8 ⟨rfl, hb8⟩)
    have HM8 := Lib.hid (HM7.out.below hb8)
    have HO8 := Lib.hid (ownsRow_same HO7.out fun q _ hlt => hb8.block q hlt)
    clear HO7
    clear hb8 p0 HMk
    have p6 := HM8.out.p.at_.cell 6 _ (Pc.get6 _)
    have p7 := HM8.out.p.at_.cell 7 _ (Pc.get7 _)
    have f6 := HM8.out.p.at_.frozen 6
    have f7 := HM8.out.p.at_.frozen 7
    go_cut [11, 70, 72] from 73 to 76 (fun _ _ _ wx => FMid w base B N Q P g5 c5 Z r b c g bot W R n bp.1 (r5.length + 1) (Pc.mk (some ⟨q6, 0, none⟩) k cap6 none 0 0 none 0 0 bp.2 R.bcost bot (if ms = true then mf else bot) (if ms = true then ml else bot)) wx ∧ wx.ownsRow w.heap.size 49 19 (.slice (some ⟨q6, 0, none⟩) k cap6) k ((R.list.take k).flatMap Nd.cells))
    case first =>
      cases ms
      · go_wp2_with fail
        go_meet
        exact ⟨HM8.out, HO8.out⟩
      · have hf9 : Frm (· = P) w8 ((w8.setCell ⟨P, 6, none⟩ (.string mf)).setCell ⟨P, 7, none⟩ (.string ml)) := ((Frm.refl _ _).set1 6 (.string mf)).set1 7 (.string ml)
        have HM9 := Lib.hid (HM8.out.frm (T' := Pc.mk (some ⟨q6, 0, none⟩) k cap6 none 0 0 none 0 0 bp.2 R.bcost bot mf ml) hf9 ((HM8.out.p.at_.set 6 _ (Pc.set6 _ _)).set 7 _ (Pc.set7 _ _)))
        have HO9 := Lib.hid (ownsRow_same HO8.out fun q hq hlt => hf9.block q hlt (by simp only [Value.ownBlock, Option.some.injEq] at hq; omega))
        clear hf9
        go_wp2_with fail
        go_meet
        exact ⟨HM9.out, HO9.out⟩
    case rest =>
      have HM9 := Lib.hid hcut.1
      have HO9 := Lib.hid hcut.2
      clear hcut HM8 HM7 HO8 p6 p7 f6 f7
      obtain ⟨tf, htf⟩ : ∃ x, (if ms = true then mf else bot) = x := ⟨_, rfl⟩
      obtain ⟨tl, htl⟩ : ∃ x, (if ms = true then ml else bot) = x := ⟨_, rfl⟩
      rw [htf, htl] at HM9
      have HTF := Lib.hid (And.intro htf htl)
      clear htf htl
      have p7 := HM9.out.p.at_.cell 7 _ (Pc.get7 _)
      have b10 := HM9.out.bd.bd.at_.cell 10 _ (Bc.get10 b)
      have f10 := HM9.out.bd.bd.at_.frozen 10
      go_upto_region 14 with (fail)
      have hBP : B ≠ P := fun e => HM9.out.p.off ⟨0, by rw [HM9.out.bd.bd.r0, e]⟩
      have hBg : g5 ≠ B := fun e => HM9.out.zl.2.2.2.2.2 ⟨0, by rw [HM9.out.bd.bd.r0, e]⟩
      have HB10 := Lib.hid (HM9.out.bd.bd.last tl)
      have HP10 := Lib.hid (HM9.out.p.at_.other (q := B) (k := 10) (Ne.symm hBP) (.string tl))
      have HO10 := Lib.hid (ownsRow_setCell_other (a := ⟨B, 10, none⟩) HM9.out.o (by simp only [Value.ownBlock, Option.some.injEq, ne_eq]; exact hBg) (.string tl))
      have hqB : q6 ≠ B := by
        have h1 := (HO9.out.lt q6 rfl).1
        have h2 := (HOw.out.1.lt 0 B HOw.out.2).2
        omega
      have HOB := Lib.hid (ownsRow_setCell_other (a := ⟨B, 10, none⟩) HO9.out (by simp only [Value.ownBlock, Option.some.injEq, ne_eq]; exact hqB) (.string tl))
      have hF10 : Frm (owns r) w (wc.setCell ⟨B, 10, none⟩ (.string tl)) := (HM9.out.bd.frm.mono fun k _ e => shK_owns e).setCell (p := ⟨B, 10, none⟩) (fun _ => ⟨0, HM9.out.bd.bd.r0⟩) _
      have hBL : bp.1.length = r5.length + 1 := by rw [← HBP.out, behN9_len]; rfl
      have HBL := Lib.hid hBL
      clear hBL
      have HT2 := Lib.hid (show pgK (Pc.mk (some ⟨q6, 0, none⟩) k cap6 none 0 0 none 0 0 bp.2 R.bcost bot tf tl) Q → False from fun h => by
        have hh := HM9.out.zl
        rcases h with h | h
        · simp only [blkA, Option.map_some, Option.some.injEq] at h; omega
        · simp [blkA] at h)
      have HQ10 := Lib.hid (And.intro hQle (HM9.out.q.at_.other (q := B) (k := 10) (fun e => HM9.out.q.off ⟨0, by rw [HM9.out.bd.bd.r0, e]⟩) (.string tl)))
      have hzz := HM9.out.zl
      clear HM9 HO9 p7 b10 f10
      generalize wc.setCell ⟨B, 10, none⟩ (.string tl) = w10 at HB10 HP10 HO10 HOB hF10 HQ10 ⊢
      have HF10 := Lib.hid hF10
      clear hF10
      have hg5P : P < g5 := by omega
      clear hzz
      obtain ⟨wq, wo, hWN, hWa⟩ := HB10.out.of.waits
      have hwn : b.waitsN = W.length := HB10.out.of.wn
      have hwB : W ≠ [] → wq ≠ B := fun hne e => by
        have e1 := hWN.hp hne
        exact HB10.out.sht.own.sep 3 0 wq (by decide) (by rw [HB10.out.r3, e1]; rfl) (by rw [HB10.out.r0, e])
      have hbl : B < w10.heap.size := HB10.out.at_.lt
      have HW := Lib.hid (And.intro hWN (And.intro hWa (And.intro hwn hwB)))
      clear hWN hWa hwn hwB
      have HCr : Hid (∀ W9, Frm (· = B) w10 W9 → W9.cell? ⟨P, 2, none⟩ = some (.slice none 0 0)) := Lib.hid fun W9 hf => (HP10.out.frm hf (Ne.symm hBP)).cell 2 _ (Pc.get2 _)
      refine region_makers [3, 5, 9, 10, 13] (fun W9 => Frm (· = B) w10 W9) (JW w10 B ({ b with bot := tl } : Bc).arr [] bp.1 W (.slice b.waitsA b.waitsN b.waitsC)) follows (by kernel_rfl) (fun m us W9 h9 => h9.frm) (fun us => JW.init HB10.out.at_ us) ?_
      iterate 14 first
        | (refine TK.pass rfl ?_)
        | (refine TK.read rfl _ (by intro wT hT KT hK; simp only [Act.put, lsA, lsB, lsC] at hK; have yb := HCr.out _ hT; go_step; exact hK _ rfl) ?_; try simp only [Act.put, lsA, lsB, lsC])
      refine TK.nil fun us => ?_
      refine KW.step _ rfl (fun mm W1 hJ h3 hD RR hRR => ?_) ?_
      · go_step
        refine (clone_nil _).mono ?_
        rintro ev W2 ⟨rfl, rfl⟩
        exact hRR _ _ (hJ.clone h3 hbl (World.ownsRow_nil _ _ _ _) (Below.refl _ _))
      try simp only [Act.put, lsA, lsB, lsC]
      refine KW.step _ rfl (fun mm W1 hJ h5 hD RR hRR => ?_) ?_
      · have m3 := hD 3 rfl (by kernel_rfl)
        have hrow : W1.ownsRow Z 49 19 (.slice (some ⟨g5, 0, none⟩) (r5.length + 1) c5) (r5.length + 1) (bp.1.flatMap Nd.cells) := ownsRow_same HO10.out fun q hq hlt => hJ.frm.block q hlt (by simp only [Value.ownBlock, Option.some.injEq] at hq; rw [← hq]; exact hBg)
        refine ap_at (.tmp 85) (.tmp 86) 27 rfl w10.heap.size 49 i0 (.agg Nd.zero.arr) 19 160 Tryz.underlying27 hi0' hz0 hz1 hz2' rfl (by decide) (us 3) ([] : List Nd).length (([] : List Nd).flatMap Nd.cells) rfl (hJ.v3 m3 h5) ⟨g5, 0, none⟩ (r5.length + 1) c5 (bp.1.flatMap Nd.cells) rfl (by rw [flat_len, HBL.out]) (fun j u hu => by rw [← hu, ← hrow.cellAt j (by have := (List.getElem?_eq_some_iff.1 hu).1; rw [flat_len, HBL.out] at this; exact this)]; congr 1; unfold Addr.add; split <;> simp_all) (nodes_one bp.1) (by have h1 := HX.out; simp only [List.length_nil, List.length_cons] at h1 ⊢; unfold maxLen; omega) (by have h1 := HX.out; simp only [List.length_nil, List.length_cons] at h1 ⊢; omega) hJ.frm.size ?_
        intro v7 w7 hown7 hgrow7 hat7
        exact hRR _ _ (hJ.app1 m3 h5 hbl (by rw [HBL.out]; exact hown7) hgrow7)
      try simp only [Act.put, lsA, lsB, lsC]
      refine KW.step _ rfl (fun mm W1 hJ h9 hD RR hRR => ?_) ?_
      · have yb9 : W1.cell? ⟨B, 9, none⟩ = some (.slice b.waitsA b.waitsN b.waitsC) := by
          have h1 := hJ.blk
          rw [if_neg (by rw [(hJ.no h9 (.inr (.inr (.inl rfl)))).2.2]; decide)] at h1
          exact h1.cell 9 _ (Bc.get9 _)
        go_step
        exact hRR _ _ (hJ.load h9)
      try simp only [Act.put, lsA, lsB, lsC]
      refine KW.step _ rfl (fun mm W1 hJ h10 hD RR hRR => ?_) ?_
      · have m5 := hD 5 rfl (by kernel_rfl)
        have m9 := hD 9 rfl (by kernel_rfl)
        have e9 := hJ.v9 m9
        have hbd : bp.1.length + W.length ≤ 700000000001 := by
          have h1 := HBL.out
          have h2 := HX.out
          have h3 := HL5.out
          have h4 : (R.list.drop k ++ [n]).length = (x5 :: r5).length := by rw [h3]
          simp only [List.length_append, List.length_drop, List.length_cons, List.length_nil] at h2 h4
          omega
        have hv5 := hJ.v5 m5 h10
        simp only [List.length_nil, List.flatMap_nil, Nat.zero_add, List.nil_append] at hv5
        by_cases hne : W = []
        · subst hne
          have hn0 : b.waitsN = 0 := HW.out.2.2.1
          rw [hn0] at e9
          cases ea : b.waitsA with
          | none =>
            rw [ea] at e9
            refine ap_none9 (.tmp 87) (.tmp 91) 27 rfl w10.heap.size 49 i0 19 b.waitsC Tryz.underlying27 hi0' (us 5) bp.1.length (bp.1.flatMap Nd.cells) rfl hv5 e9 ?_
            refine hRR (us 5) W1 (hJ.app2 m5 m9 h10 hbl (by simpa using hv5) ?_)
            exact ⟨rfl, rfl, rfl, Nat.le_refl _, fun _ _ _ => rfl⟩
          | some a =>
            rw [ea] at e9
            refine ap_at (.tmp 87) (.tmp 91) 27 rfl w10.heap.size 49 i0 (.agg Nd.zero.arr) 19 160 Tryz.underlying27 hi0' hz0 hz1 hz2' rfl (by decide) (us 5) bp.1.length (bp.1.flatMap Nd.cells) rfl hv5 a 0 b.waitsC [] e9 rfl (fun j u hu => by simp at hu) (fun u hu => by cases hu) (by unfold maxLen; omega) (by omega) hJ.frm.size ?_
            intro v7 w7 hown7 hgrow7 hat7
            exact hRR _ _ (hJ.app2 m5 m9 h10 hbl (by simpa using hown7) hgrow7)
        · have ea : b.waitsA = some ⟨wq, wo, none⟩ := HW.out.1.hp hne
          rw [ea, HW.out.2.2.1] at e9
          have hN1 : NIn W1 b.waitsA wq wo b.waitsC W := HW.out.1.same9 hJ.frm.size fun _ => hJ.frm.block wq (HW.out.1.hb hne) (HW.out.2.2.2 hne)
          refine ap_at (.tmp 87) (.tmp 91) 27 rfl w10.heap.size 49 i0 (.agg Nd.zero.arr) 19 160 Tryz.underlying27 hi0' hz0 hz1 hz2' rfl (by decide) (us 5) bp.1.length (bp.1.flatMap Nd.cells) rfl hv5 ⟨wq, wo, none⟩ W.length b.waitsC (W.flatMap Nd.cells) e9 (flat_len W) hN1.news (nodes_one W) (by unfold maxLen; omega) (by omega) hJ.frm.size ?_
          intro v7 w7 hown7 hgrow7 hat7
          exact hRR _ _ (hJ.app2 m5 m9 h10 hbl (by simpa using hown7) hgrow7)
      try simp only [Act.put, lsA, lsB, lsC]
      refine KW.step _ rfl (fun mm W1 hJ h13 hD RR hRR => ?_) ?_
      · have m10 := hD 10 rfl (by kernel_rfl)
        have hB1 := hJ.blk
        rw [if_neg (by rw [h13]; decide)] at hB1
        have yc := hB1.cell 9 _ (Bc.get9 _)
        have yf := hB1.frozen 9
        obtain ⟨p10, n10, c10, e10⟩ : ∃ p n c, us 10 = .slice p n c := by
          rcases (hJ.v10 m10).2 with ⟨e, _⟩ | ⟨g, cp, cur, e, _⟩
          · exact ⟨_, _, _, e⟩
          · exact ⟨_, _, _, e⟩
        have hst := hJ.store m10 h13 hbl undef
        rw [e10] at hst
        simp only [Act.put] at hRR
        simp only [e10] at hRR ⊢
        go_step
        exact hRR undef _ hst
      simp only [Act.put]
      refine KW.nil fun w14 hJ14 => ?_
      have hf14 := hJ14.frm
      have hv14 := hJ14.v10 rfl
      have hb14 := hJ14.blk
      simp only [show ([3, 5, 9, 10, 13] : List Nat).contains 13 = true from rfl, if_true] at hb14
      simp only [List.length_nil, List.flatMap_nil, Nat.zero_add, List.nil_append] at hv14
      rw [← List.length_append, ← List.flatMap_append] at hv14
      have hbd : (bp.1 ++ W).length ≤ 700000000001 := by
        have h1 := HBL.out
        have h2 := HX.out
        have h3 := HL5.out
        have h4 : (R.list.drop k ++ [n]).length = (x5 :: r5).length := by rw [h3]
        simp only [List.length_append, List.length_drop, List.length_cons, List.length_nil] at h2 h4 ⊢
        omega
      have hne14 : bp.1 ++ W ≠ [] := by
        have h1 := HBL.out
        intro e
        have : (bp.1 ++ W).length = 0 := by rw [e]; rfl
        rw [List.length_append] at this
        omega
      obtain ⟨q14, cap14, hB14, hl14⟩ := HB10.out.wait hf14 hv14 (by omega) hne14 hb14
      have HP14 := Lib.hid (HP10.out.frm hf14 (Ne.symm hBP))
      have HQ14 := Lib.hid (HQ10.out.2.frm hf14 (fun e => by
        have h1 := (HOw.out.1.lt 0 B HOw.out.2).2
        have h2 := HQ10.out.1
        omega))
      have HF14 := Lib.hid hf14
      have HB14 := Lib.hid (And.intro hB14 hl14)
      have HQL := Lib.hid HQ10.out.2.lt
      have HFr := Lib.hid (bfresh w14 B g.height _ hB14.at_ (by rw [← hB14.of.height]; exact Bc.get0 _) ⟨_, Bc.get8 _⟩)
      clear hf14 hv14 hb14 hbd hne14 hB14 hl14 hJ14 HCr HW HB10 HO10
      go_upto_region 16 with (go_at_call 33; refine HFr.out.mono ?_; rintro e w15 ⟨rfl, S, mh, mc, h1, h2, h3, h4, m1, m2, hs, hb, hf15⟩)
      have hfp : firP R.list k n R.bcost bot = ⟨R.list.take k, [], bp.2, R.bcost, bot, tf, tl⟩ := by
        unfold firP
        rw [HL5.out, HBP.out, Hmk.out]
        simp only
        rw [HTF.out.1, HTF.out.2]
      have hpg : PgIn w10 w.heap.size (Pc.mk (some ⟨q6, 0, none⟩) k cap6 none 0 0 none 0 0 bp.2 R.bcost bot tf tl) ⟨R.list.take k, [], bp.2, R.bcost, bot, tf, tl⟩ := by
        refine ⟨?_, World.ownsRow_nil _ _ _ _, rfl, rfl, rfl, rfl, rfl⟩
        show w10.ownsRow w.heap.size 49 19 (.slice (some ⟨q6, 0, none⟩) k cap6) (R.list.take k).length _
        rw [Hkn.out.1]
        exact HOB.out
      have HE : Hid (∀ w16, Frm (· = Q) w15 w16 → Fired w base B r g (firP R.list k n R.bcost bot) ((behN9 (R.list.drop k ++ [n])).1 ++ W) (Pc.mk (some ⟨q6, 0, none⟩) k cap6 none 0 0 none 0 0 bp.2 R.bcost bot tf tl) w16) := Lib.hid fun w16 hf16 => by
        rw [hfp, HL5.out, HBP.out]
        exact fire_end HOw.out.1 HOw.out.2 HF10.out hpg HF14.out HB14.out.1 HB14.out.2 h1 h2 h3 h4 m1 m2 hs hb hf15 hf16 ⟨HQ10.out.1, HQL.out, HT2.out⟩
      have hP15 := HP14.out.frm hf15 (Ne.symm hBP)
      have hQB : ¬ Q = B := fun e => by
        have h1 := (HOw.out.1.lt 0 B HOw.out.2).2
        have h2 := HQ10.out.1
        omega
      have HQ15 := Lib.hid (HQ14.out.frm hf15 hQB)
      have pa := hP15.agg 0 8 (by rw [Pc.size_arr]; decide)
      rw [show (Pc.mk (some ⟨q6, 0, none⟩) k cap6 none 0 0 none 0 0 bp.2 R.bcost bot tf tl).arr.extract 0 (0 + 8) = (Pc.mk (some ⟨q6, 0, none⟩) k cap6 none 0 0 none 0 0 bp.2 R.bcost bot tf tl).arr from rfl] at pa
      have qt := HQ15.out.there 0 8 (by rw [Pc.size_arr]; decide)
      clear h1 h2 h3 h4 m1 m2 hs hb hf15 hP15 hfp hpg hQB
      go_wp2_with fail
      have hf16 : Frm (· = Q) w15 (setAgg w15 Q 0 (Pc.mk (some ⟨q6, 0, none⟩) k cap6 none 0 0 none 0 0 bp.2 R.bcost bot tf tl).arr) := (Frm.refl _ _).setAgg1 _ _
      have ha : Cb (setAgg w15 Q 0 (Pc.mk (some ⟨q6, 0, none⟩) k cap6 none 0 0 none 0 0 bp.2 R.bcost bot tf tl).arr) Q (Pc.mk (some ⟨q6, 0, none⟩) k cap6 none 0 0 none 0 0 bp.2 R.bcost bot tf tl).arr 46 := HQ15.out.setAgg 0 _ (setMany_Pc _ _)
      exact ⟨rfl, _, results_pc1 rfl _ _ Q _ rfl (ha.agg 0 8 (by rw [Pc.size_arr]; decide)), _, rfl, HE.out _ hf16⟩
end Go.Proofs.YtomehdepjenilaaGreat
