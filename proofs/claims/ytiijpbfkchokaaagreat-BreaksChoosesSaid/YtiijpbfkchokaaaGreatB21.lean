/-
  A line of a paragraph, judged: the program's one, walked.
-/
import Derived.Test.YtiijpbfkchokaaaGreatB22
import Derived.Deep.CutBlock
namespace Go.Proofs.YtiijpbfkchokaaaGreat
open Go.ChangeShapes Go.WideShapes Go.ChangeAt Go.RowKit
attribute [local go_sem ↓] Go.wp_at_zero Go.wp_at_succ
structure OneI (w : World) (R VT VB : Nat) (T : Tt) (x : Bk) (W : World) : Prop where
  t : TAt W VT T
  bk : BkAt W VB x
  r : ∃ z, BkAt W R z
  below : Below w.heap.size w W
  h1 : w.heap.size ≤ R
  h2 : R < VT
  h3 : VT < VB
section
variable {w : World} {R VT VB : Nat} {T : Tt} {x y : Bk} {W W' : World}
theorem OneI.still (h : OneI w R VT VB T x W) (hb : Below W.heap.size W W') : OneI w R VT VB T x W' :=
  ⟨h.t.still hb, h.bk.still hb, h.r.imp fun _ hz => hz.still hb, h.below.trans (hb.mono h.below.size), h.h1, h.h2, h.h3⟩
theorem OneI.drew (h : OneI w R VT VB T x W) : OneI w R VT VB T x W.drew := h.still ((Below.refl _ _).drew)
theorem OneI.set (h : OneI w R VT VB T x W) (k : Nat) (v : Value) (hm : x.arr.setIfInBounds k v = y.arr) : OneI w R VT VB T y (W.setCell ⟨VB, k, none⟩ v) :=
  ⟨(Below.heap_setCell _ _ _ _ (by have := h.h3; simp only; omega)).trans h.t, h.bk.set k v hm, h.r.imp fun _ hz => (Below.heap_setCell _ _ _ _ (by have := h.h3; have := h.h2; simp only; omega)).trans hz, h.below.setCell (p := ⟨VB, k, none⟩) (by have := h.h1; have := h.h3; have := h.h2; simp only; omega) _, h.h1, h.h2, h.h3⟩
end
theorem wid_bound {P : Pm} {S : List Sh2} (h : pmC P S = 0) (line : Int) : -1000000000000 ≤ (widP P S line).1 ∧ (widP P S line).1 ≤ 1000000000000 := by
  have hN := pmC_zero h
  have hb := hN.b
  obtain ⟨b1, b2, b3⟩ := hb
  have hS : ∀ x ∈ S, dimenB x.a = true ∧ dimenB x.b = true := by
    rw [pmC_ok] at h
    split at h
    · rename_i h1
      simp only [Bool.and_eq_true, List.all_eq_true] at h1
      exact h1.2
    · cases h
  unfold widP
  split
  · split
    · simp only; omega
    · split <;> (simp only; omega)
  · simp only
    have key : ∀ i, dimenB (S.getD i ⟨0, 0⟩).b = true := fun i => by
      rw [List.getD_eq_getElem?_getD]
      cases hi : S[i]? with
      | none => rfl
      | some x => exact (hS x (List.mem_of_getElem? hi)).2
    have := key ((min line (S.length : Int)).toNat - 1)
    simp only [dimenB, decide_eq_true_eq] at this
    omega
theorem jud_bound (T : Tt) (w : Int) : (0 ≤ (judP T w).1 ∧ (judP T w).1 ≤ 20000) ∧ (0 ≤ (judP T w).2 ∧ (judP T w).2 ≤ 3) := by
  unfold judP
  split
  · simp
  · split
    · rename_i h1
      have := badM_range (w - T.nat) T.s0 (by omega)
      split
      · simp
      · simp only
        refine ⟨by omega, ?_⟩
        split
        · omega
        · split <;> omega
    · rename_i h1 h2
      have := badM_range (-(w - T.nat)) T.h0 (by omega)
      split
      · simp
      · simp only
        refine ⟨by omega, ?_⟩
        split <;> omega
theorem px_P (lv : Value) (P : Pm) (iv mv sv av pv : Value) : (pxArr lv P iv mv sv av pv).extract 1 (1 + 24) = P.arr := by kernel_rfl
set_option maxRecDepth 100000 in
set_option maxHeartbeats 8000000 in
theorem vone (Y X mb B : Nat) (P : Pm) (vs : Nat → Value) (L : List Nd) (b off cap : Nat) (p0 : Option Addr) (s : List Nat) (g off2 : Nat) (S : List Sh2) (tol ext : Int) (hok : TryOk P S L s tol ext) (f : Option Nat) (k : Nat) (z : Nat × Int) (hz : (brkP L P s)[k]? = some z) (hf : ∀ x, f = some x → x ∈ s ∧ x < z.1) (line before : Int) (hln : 1 ≤ line ∧ line ≤ 1000000) (hbf : -10 ≤ before ∧ before ≤ 10) (w : World) (h : TryIn w Y X mb B P vs L b off cap p0 s g off2 S tol ext) :
    Calls Tryz.prog 55 #[.pointer (some ⟨Y, 0, none⟩), .int .i64 (fI f), .int .i64 k, .int .i64 line, .int .i64 before] w fun e w' => e = .returned (.agg (oneP L P S s tol ext f z line before).arr) ∧ Below w.heap.size w w' := by
  have hPN := pmC_zero hok.pm
  obtain ⟨to_, q⟩ := z
  have hzm := brkP_mem (List.mem_of_getElem? hz)
  simp only at hzm hf
  have hsl : s.length ≤ 2000 := by have := hok.items.len; have := (checkC_zero hok.chk).1; omega
  have hbl : (brkP L P s).length ≤ 2001 := by
    have h1 : ∀ (l : List Nat) (pr : Option Nat), (brkF L P pr l).length ≤ l.length := by
      intro l
      induction l with
      | nil => intro pr; exact Nat.le_refl _
      | cons y r ih =>
        intro pr
        unfold brkF
        split
        · split
          · rw [List.length_cons, List.length_cons]; exact Nat.succ_le_succ (ih _)
          · exact Nat.le_succ_of_le (ih _)
        · exact Nat.le_succ_of_le (ih _)
    unfold brkP
    rw [List.length_append, List.length_singleton]
    have := h1 s none
    omega
  have hk : k < (brkP L P s).length := (List.getElem?_eq_some_iff.1 hz).1
  have htl : to_ ≤ 2000 := by
    have := (checkC_zero hok.chk).1
    rcases List.mem_append.1 hzm.1 with h1 | h1
    · have := (hok.items.lt _ h1).2; omega
    · have := List.mem_singleton.1 h1; omega
  have hbT := line_bound hok.chk hok.items hPN.left hPN.right (fun x hx => (hf x hx).1) hzm.1
  obtain ⟨T0, hT0⟩ : ∃ T0, lineT L P s f to_ = T0 := ⟨_, rfl⟩
  obtain ⟨wd, hwd⟩ : ∃ wd, (widP P S line).1 = wd := ⟨_, rfl⟩
  have HV : Hid (oneP L P S s tol ext f (to_, q) line before = oneB P tol (T0.plus ⟨0, ext, 0, 0, 0, 0, 0, 0, 0⟩) wd q (discO L f) (discB L to_) (to_ == L.length) to_ before) := Lib.hid (by unfold oneP; rw [hT0, hwd])
  obtain ⟨p2, c2, e2⟩ := owns_form (h.para.para.rows 2 (by decide))
  obtain ⟨p3, c3, e3⟩ := owns_form (h.para.para.rows 3 (by decide))
  obtain ⟨n, hn⟩ : ∃ n, (brkP L P s).length = n := ⟨_, rfl⟩
  have hna : (atsI (brkP L P s)).length = n := by rw [← hn]; simp [atsI]
  have hnp : (pensI (brkP L P s)).length = n := by rw [← hn]; simp [pensI]
  have hr2 := h.para.para.rows 2 (by decide)
  have hr3 := h.para.para.rows 3 (by decide)
  rw [e2] at hr2
  rw [e3] at hr3
  obtain ⟨g2, rfl, hx2, hc2, hcg2⟩ := zin_get9 (l := atsI (brkP L P s)) (i := k) hr2 (by rw [hna, ← hn]; exact hk)
  obtain ⟨g3, rfl, hx3, hc3, hcg3⟩ := zin_get9 (l := pensI (brkP L P s)) (i := k) hr3 (by rw [hnp, ← hn]; exact hk)
  rw [hx2, hna] at hc2
  rw [hx3, hnp] at hc3
  have HR : Hid (∀ W, Below w.heap.size w W → W.cell? ⟨Y, 0, none⟩ = some (.pointer (some ⟨X, 0, none⟩)) ∧ W.cell? ⟨X, 28, none⟩ = some (.slice (some ⟨g2, 0, none⟩) n c2) ∧ W.cell? ⟨g2, k, none⟩ = some (.int .i64 to_) ∧ W.cell? ⟨X, 29, none⟩ = some (.slice (some ⟨g3, 0, none⟩) n c3) ∧ W.cell? ⟨g3, k, none⟩ = some (.int .i64 q)) := Lib.hid fun W hb => by
    have h9 := h.still hb
    refine ⟨h9.cell.1, ?_, ?_, ?_, ?_⟩
    · have := h9.para.para.cell 28 (vs 2) rfl
      rw [e2, hx2, hna] at this
      exact this
    · have hr9 := h9.para.para.rows 2 (by decide)
      rw [e2] at hr9
      obtain ⟨g9, q1, _, _, q4⟩ := zin_get9 (l := atsI (brkP L P s)) (i := k) hr9 (by rw [hna, ← hn]; exact hk)
      cases q1
      rw [q4]
      have : (atsI (brkP L P s))[k]? = some (to_ : Int) := by unfold atsI; rw [List.getElem?_map, hz]; rfl
      rw [(List.getElem?_eq_some_iff.1 this).2]
    · have := h9.para.para.cell 29 (vs 3) rfl
      rw [e3, hx3, hnp] at this
      exact this
    · have hr9 := h9.para.para.rows 3 (by decide)
      rw [e3] at hr9
      obtain ⟨g9, q1, _, _, q4⟩ := zin_get9 (l := pensI (brkP L P s)) (i := k) hr9 (by rw [hnp, ← hn]; exact hk)
      cases q1
      rw [q4]
      have : (pensI (brkP L P s))[k]? = some q := by unfold pensI; rw [List.getElem?_map, hz]; rfl
      rw [(List.getElem?_eq_some_iff.1 this).2]
  have hk1 : (0 : Int) ≤ (k : Int) := by omega
  have hk2 : (k : Int) < (n : Int) := by omega
  have HLn : Hid (∀ W, Below w.heap.size w W → Calls Tryz.prog 51 #[.pointer (some ⟨X, 0, none⟩), .int .i64 (fI f), .int .i64 to_] W fun e w' => e = .returned (.agg T0.arr) ∧ Below W.heap.size W w') := Lib.hid fun W hb => by
    have h1 := vline X mb B P vs L b off cap p0 s _ _ hok.chk hok.items hPN.left hPN.right f to_ hf hzm.1 W (h.para.still hb)
    rw [hT0] at h1
    exact h1
  have HDf : Hid (∀ W, Below w.heap.size w W → Calls Tryz.prog 71 #[.pointer (some ⟨X, 0, none⟩), .int .i64 (fI f)] W fun e w' => e = .returned (.bool (discO L f)) ∧ W = w') := Lib.hid fun W hb => vdisc X mb B P vs L b off cap p0 _ _ _ _ f W (h.para.still hb) fun x hx => by have := (hf x hx).2; omega
  have HDt : Hid (∀ W, Below w.heap.size w W → Calls Tryz.prog 71 #[.pointer (some ⟨X, 0, none⟩), .int .i64 to_] W fun e w' => e = .returned (.bool (discB L to_)) ∧ W = w') := Lib.hid fun W hb => vdisc X mb B P vs L b off cap p0 _ _ _ _ (some to_) W (h.para.still hb) fun x hx => by cases hx; omega
  have HWi : Hid (∀ W, Below w.heap.size w W → Calls Tryz.prog 39 #[.agg P.arr, .int .i64 line] W fun e w' => e = .returned (.tuple #[.int .i64 wd, .int .i64 (widP P S line).2]) ∧ Below W.heap.size W w') := Lib.hid fun W hb => by
    have h1 := vwidth P g off2 S hPN.b line (by omega) W (h.shape.below hb)
    rw [hwd] at h1
    exact h1
  have HP : Hid (∀ W, Below w.heap.size w W → (∀ i v, P.arr[i]? = some v → W.cell? ⟨X, 1 + i, none⟩ = some v) ∧ agg? W X 1 24 = some P.arr ∧ W.cell? ⟨X, 0, none⟩ = some (.slice p0 L.length cap) ∧ W.cell? ⟨Y, 1, none⟩ = some (.int .i64 tol) ∧ W.cell? ⟨Y, 2, none⟩ = some (.int .i64 ext)) := Lib.hid fun W hb => by
    have h9 := h.still hb
    refine ⟨fun i v hv => ?_, ?_, h9.para.para.cell 0 _ rfl, h9.cell.2.1, h9.cell.2.2⟩
    · have hi : i < 24 := by
        have := (Array.getElem?_eq_some_iff.1 hv).1
        rwa [Pm.size_arr] at this
      have h10 := h9.para.para.cell (1 + i) v (by
        rw [← hv]
        simp only [pxArr, Pm.arr]
        rw [List.getElem?_toArray, List.getElem?_toArray, Nat.add_comm, List.getElem?_cons_succ, List.getElem?_append_left (by show i < 24; exact hi)])
      exact h10
    · rw [agg?_blk' h9.para.para.blk 1 24 (by rw [px_size]; decide), px_P]
  have HT0 := Lib.hid hbT
  rw [hT0] at HT0
  have HZ := Lib.hid hz
  have Hzm := Lib.hid hzm
  have HPN := Lib.hid hPN
  have Hok := Lib.hid hok
  have hwb : -1000000000000 ≤ wd ∧ wd ≤ 1000000000000 := by rw [← hwd]; exact wid_bound hok.pm line
  have hext := hok.ext
  have htol := hok.tol
  obtain ⟨fz, hfz⟩ : ∃ fz, fI f = fz := ⟨_, rfl⟩
  rw [hfz] at HLn HDf ⊢
  clear hcg2 hcg3 h hz hf hzm hk hbT hT0 hwd hn hna hnp hr2 hr3 e2 e3 hx2 hx3 hPN hok hfz
  obtain ⟨R, hRe⟩ : ∃ R, w.heap.size = R := ⟨_, rfl⟩
  have HRe := Lib.hid hRe
  have hb1 : Below w.heap.size w (w.alloc (.cells (Bk.mk 0 0 0 0 0 false).arr 91)) := (Below.refl _ _).alloc (Nat.le_refl _) _
  have hR1 : BkAt (w.alloc (.cells (Bk.mk 0 0 0 0 0 false).arr 91)) R ⟨0, 0, 0, 0, 0, false⟩ := by rw [← hRe]; exact heap_alloc_new w _
  clear hRe
  go_enter Tryz.func55, Tryz.ntmps55
  go_upto_region 1 with (fail)
  rw [HRe.out]
  generalize w.alloc (.cells (Bk.mk 0 0 0 0 0 false).arr 91) = w1 at hb1 hR1 ⊢
  refine Rest.region follows ?_
  refine Rest.tame 22 (fun W => Below w.heap.size w W ∧ BkAt W R ⟨0, 0, 0, 0, 0, false⟩) (by kernel_rfl) ⟨hb1.drew, hR1⟩ ?_
  simp only [Nat.reduceSub, List.drop_zero, List.take_succ_cons, List.take_zero]
  iterate 22 first
    | (refine TW.cons_n rfl _ (by intro wT hT R hR K hK; simp only [Act.put, lsA, lsB, lsC] at hK; obtain ⟨y0, y28, yg2, y29, yg3⟩ := HR.out _ hT.1; go_step; exact hK _ _ (hR _ hT)) ?_; try simp only [Act.put, lsA, lsB, lsC])
  refine TW.nil fun w2 h2 => ?_
  obtain ⟨hb2, hR2⟩ := h2
  refine Rest.done ?_
  clear hb1 hR1
  have y0 := (HR.out _ hb2).1
  have HLn2 := Lib.hid (HLn.out _ hb2)
  clear HLn
  go_upto_region 3 with (go_at_call 51; refine HLn2.out.mono ?_; rintro e w3 ⟨rfl, hb3⟩)
  have hb3' : Below w.heap.size w w3 := hb2.trans (hb3.mono hb2.size)
  have hR3 := hR2.still hb3
  obtain ⟨VT, hVT⟩ : ∃ VT, w3.heap.size = VT := ⟨_, rfl⟩
  have hba := (Below.refl w3.heap.size w3).alloc (Nat.le_refl _) (.cells T0.arr 62)
  have hT4 : TAt (w3.alloc (.cells T0.arr 62)) VT T0 := by rw [← hVT]; exact heap_alloc_new w3 _
  have hR4 := hR3.still hba
  have hb4 := hb3'.trans (hba.mono hb3'.size)
  have hRVT : R < VT := by rw [← hVT]; exact hR3.lt
  have hwR : w.heap.size ≤ R := Nat.le_of_eq HRe.out
  rw [hVT]
  clear hVT hba hR3 hb3' hb3 hb2 hR2 y0 HLn2
  generalize w3.alloc (.cells T0.arr 62) = w4 at hT4 hR4 hb4 ⊢
  have hs0 := HT0.out.s0
  refine Rest.region follows ?_
  refine Rest.tame 10 (fun W => TAt W VT T0 ∧ BkAt W R ⟨0, 0, 0, 0, 0, false⟩ ∧ Below w.heap.size w W) (by kernel_rfl) ⟨hT4, hR4, hb4.drew⟩ ?_
  simp only [Nat.reduceSub, List.drop_zero, List.take_succ_cons, List.take_zero]
  iterate 10 first
    | (refine TW.cons_n rfl _ (by intro wT hT R hR K hK; simp only [Act.put, lsA, lsB, lsC] at hK; have yt := hT.1.cell 1 _ rfl; have ye := (HP.out _ hT.2.2).2.2.2.2; go_step; exact hK _ _ (hR _ hT)) ?_; try simp only [Act.put, lsA, lsB, lsC])
  refine TW.nil fun w5 h5 => ?_
  obtain ⟨hT5, hR5, hb5⟩ := h5
  obtain ⟨T1, hT1⟩ : ∃ T1, T0.plus ⟨0, ext, 0, 0, 0, 0, 0, 0, 0⟩ = T1 := ⟨_, rfl⟩
  have hset : T0.arr.setIfInBounds 1 (.int .i64 (T0.s0 + ext)) = T1.arr := by
    rw [Tt.set1, ← hT1]
    congr 1
    apply Tt.ext_all <;> simp [Tt.plus]
  have hBT1 : TtB 14100000000000 T1 := by rw [← hT1]; exact (HT0.out.plus (K := 14000000000000) (J := 1073741823) (by constructor <;> (simp only; omega))).mono (by omega)
  rw [hT1] at HV
  have yt := hT5.cell 1 _ rfl
  have yf := hT5.frozen 1
  have hT6 := hT5.set 1 _ hset
  have hR6 : BkAt (w5.setCell ⟨VT, 1, none⟩ (.int .i64 (T0.s0 + ext))) R ⟨0, 0, 0, 0, 0, false⟩ := (Below.heap_setCell _ _ _ _ (by simp only; omega)).trans hR5
  have hb6 : Below w.heap.size w (w5.setCell ⟨VT, 1, none⟩ (.int .i64 (T0.s0 + ext))) := hb5.setCell (p := ⟨VT, 1, none⟩) (by simp only; omega) _
  have HBT1 := Lib.hid hBT1
  clear hT4 hR4 hb4 hT5 hR5 hb5 hset hBT1 hT1 HT0
  refine Rest.seq (by kernel_rfl) ?_
  simp only [List.drop_succ_cons, List.drop_zero]
  go_upto_region 4 with (fail)
  clear yt yf hs0
  generalize w5.setCell ⟨VT, 1, none⟩ (.int .i64 (T0.s0 + ext)) = w6 at hT6 hR6 hb6 ⊢
  have y0 := (HR.out _ hb6).1
  have yP := (HP.out _ hb6).2.1
  have HW6 := Lib.hid (HWi.out _ hb6)
  clear HWi
  go_upto_region 5 with (go_at_call 39; refine HW6.out.mono ?_; rintro e w7 ⟨rfl, hb7⟩)
  have hT7 := hT6.still hb7
  have hR7 := hR6.still hb7
  have hb7' := hb6.trans (hb7.mono hb6.size)
  obtain ⟨VB, hVB⟩ : ∃ VB, w7.heap.size = VB := ⟨_, rfl⟩
  have hba := (Below.refl w7.heap.size w7).alloc (Nat.le_refl _) (.cells (Bk.mk to_ 0 0 0 0 false).arr 91)
  have hI : OneI w R VT VB T1 ⟨to_, 0, 0, 0, 0, false⟩ (w7.alloc (.cells (Bk.mk to_ 0 0 0 0 false).arr 91)) :=
    ⟨hT7.still hba, by rw [← hVB]; exact heap_alloc_new w7 _, ⟨_, hR7.still hba⟩, hb7'.trans (hba.mono hb7'.size), hwR, hRVT, by rw [← hVB]; exact hT7.lt⟩
  clear hT6 hR6 hb6 y0 yP HW6 hT7 hR7 hb7 hb7' hba
  go_upto_region 6 with (fail)
  have HVB := Lib.hid hVB
  clear hVB
  generalize w7.alloc (.cells (Bk.mk to_ 0 0 0 0 false).arr 91) = w8 at hI ⊢
  have aT := hI.t.agg
  have hn1 := HBT1.out.nat
  have hh0 := HBT1.out.h0
  have HJ := Lib.hid (vjudge T1 wd w8 (by omega))
  obtain ⟨bd, hbd⟩ : ∃ bd, (judP T1 wd).1 = bd := ⟨_, rfl⟩
  obtain ⟨cl, hcl⟩ : ∃ cl, (judP T1 wd).2 = cl := ⟨_, rfl⟩
  have HI8 := Lib.hid hI
  have hbdb : 0 ≤ bd ∧ bd ≤ 20000 := by rw [← hbd]; exact (jud_bound T1 wd).1
  have hclb : 0 ≤ cl ∧ cl ≤ 3 := by rw [← hcl]; exact (jud_bound T1 wd).2
  have HV2 : Hid (oneP L P S s tol ext f (to_, q) line before = if tol < bd ∨ 10000 < bd then ⟨to_, bd, cl, 0, (if 10000 < bd then T1.nat - wd - T1.h0 else 0), true⟩ else ⟨to_, bd, cl, demP P bd cl q (discO L f) (discB L to_) (to_ == L.length) before, (if 10000 < bd then T1.nat - wd - T1.h0 else 0), false⟩) := Lib.hid (by rw [HV.out]; unfold oneB; simp only [hbd, hcl])
  rw [hbd, hcl] at HJ
  clear hI hbd hcl HV
  go_upto_region 7 with (go_at_call 77; refine HJ.out.mono ?_; rintro e w9 ⟨rfl, hb9⟩; have hI9 := HI8.out.still hb9; have y1 := hI9.bk.cell 1 _ rfl; have z1 := hI9.bk.frozen 1; have y2 := hI9.bk.cell 2 _ rfl; have z2 := hI9.bk.frozen 2)
  have hI9b := (hI9.set (y := ⟨to_, bd, 0, 0, 0, false⟩) 1 (.int .i64 bd) rfl).set (y := ⟨to_, bd, cl, 0, 0, false⟩) 2 (.int .i64 cl) rfl
  have HI9 := Lib.hid hI9b
  clear hI9 hI9b y1 y2 z1 z2 hb9 aT HJ HI8
  generalize (w9.setCell ⟨VB, 1, none⟩ (.int .i64 bd)).setCell ⟨VB, 2, none⟩ (.int .i64 cl) = w10 at HI9 ⊢
  obtain ⟨ov, hov⟩ : ∃ ov, (if 10000 < bd then T1.nat - wd - T1.h0 else 0) = ov := ⟨_, rfl⟩
  rw [hov] at HV2
  have y1 := HI9.out.bk.cell 1 _ rfl
  have u0 := HI9.out.t.cell 0 _ rfl
  have u5 := HI9.out.t.cell 5 _ rfl
  have y4 := HI9.out.bk.cell 4 _ rfl
  have z4 := HI9.out.bk.frozen 4
  go_upto_if 79 with (fail)
  go_cut [] from 77 to 88 (fun wx => OneI w R VT VB T1 ⟨to_, bd, cl, 0, ov, false⟩ wx)
  case first =>
    by_cases hb4 : 10000 < bd
    · have hb5 : decide (10000 < bd) = true := decide_eq_true hb4
      rw [if_pos hb4] at hov
      have hI10 := HI9.out.set (y := ⟨to_, bd, cl, 0, ov, false⟩) 4 (.int .i64 (T1.nat - wd - T1.h0)) (by rw [← hov]; rfl)
      have HI10 := Lib.hid hI10
      clear hov hI10
      rw [hb5]
      go_wp2_with fail
      go_meet
      exact HI10.out
    · have hb5 : decide (10000 < bd) = false := decide_eq_false hb4
      rw [if_neg hb4] at hov
      subst hov
      rw [hb5]
      go_wp2_with fail
      go_meet
      exact HI9.out
  case rest =>
    clear HI9 y1 u0 u5 y4 z4
    have HI := Lib.hid hcut
    clear hcut hov hn1 hh0
    obtain ⟨bb, hbb⟩ : ∃ bb, decide (tol < bd ∨ 10000 < bd) = bb := ⟨_, rfl⟩
    have Hbb := Lib.hid hbb
    clear hbb
    go_upto_region 9 with (fail)
    go_cut [100] from 89 to 100 (fun s100 wx => s100 = .bool bb ∧ OneI w R VT VB T1 ⟨to_, bd, cl, 0, ov, false⟩ wx)
    case first =>
      by_cases hb1 : tol < bd
      · have e1 : bb = true := by rw [← Hbb.out]; exact decide_eq_true (.inl hb1)
        subst e1
        have hb2 : decide (tol < bd) = true := decide_eq_true hb1
        clear hb1
        refine Rest.region follows ?_
        refine Rest.tame 12 (fun W => OneI w R VT VB T1 ⟨to_, bd, cl, 0, ov, false⟩ W) (by kernel_rfl) HI.out.drew ?_
        simp only [Nat.reduceSub, List.drop_zero, List.take_succ_cons, List.take_zero]
        iterate 12 first
          | (refine TW.cons_n rfl _ (by intro wT hT R hR K hK; simp only [Act.put, lsA, lsB, lsC] at hK; have y1 := hT.bk.cell 1 _ rfl; have yl := (HP.out _ hT.below).2.2.2.1; go_step; exact hK _ _ (hR _ hT)) ?_; try simp only [Act.put, lsA, lsB, lsC])
          | (refine TW.skip_g _ _ _ rfl rfl rfl ?_; try simp only [Act.put, lsA, lsB, lsC])
          | (refine TW.skip_u _ _ _ rfl rfl rfl ?_; try simp only [Act.put, lsA, lsB, lsC])
          | (refine TW.cons_g _ _ _ rfl rfl rfl _ (by intro wT hT R hR K hK; simp only [Act.put, lsA, lsB, lsC] at hK; have y1 := hT.bk.cell 1 _ rfl; have yl := (HP.out _ hT.below).2.2.2.1; go_step; exact hK _ _ (hR _ hT)) ?_; try simp only [Act.put, lsA, lsB, lsC])
        refine TW.nil fun w9 h9 => ?_
        refine Rest.done ?_
        go_wp2_with fail
        go_meet
        exact ⟨rfl, h9⟩
      · have hb2 : decide (tol < bd) = false := decide_eq_false hb1
        have e1 : decide (10000 < bd) = bb := by rw [← Hbb.out]; simp [hb1]
        clear hb1
        refine Rest.region follows ?_
        refine Rest.tame 12 (fun W => OneI w R VT VB T1 ⟨to_, bd, cl, 0, ov, false⟩ W) (by kernel_rfl) HI.out.drew ?_
        simp only [Nat.reduceSub, List.drop_zero, List.take_succ_cons, List.take_zero]
        iterate 12 first
          | (refine TW.cons_n rfl _ (by intro wT hT R hR K hK; simp only [Act.put, lsA, lsB, lsC] at hK; have y1 := hT.bk.cell 1 _ rfl; have yl := (HP.out _ hT.below).2.2.2.1; go_step; exact hK _ _ (hR _ hT)) ?_; try simp only [Act.put, lsA, lsB, lsC])
          | (refine TW.skip_g _ _ _ rfl rfl rfl ?_; try simp only [Act.put, lsA, lsB, lsC])
          | (refine TW.skip_u _ _ _ rfl rfl rfl ?_; try simp only [Act.put, lsA, lsB, lsC])
          | (refine TW.cons_g _ _ _ rfl rfl rfl _ (by intro wT hT R hR K hK; simp only [Act.put, lsA, lsB, lsC] at hK; have y1 := hT.bk.cell 1 _ rfl; have yl := (HP.out _ hT.below).2.2.2.1; go_step; exact hK _ _ (hR _ hT)) ?_; try simp only [Act.put, lsA, lsB, lsC])
        refine TW.nil fun w9 h9 => ?_
        refine Rest.done ?_
        go_wp2_with fail
        go_meet
        exact ⟨rfl, h9⟩
    case rest =>
      clear HI
      obtain ⟨rfl, hI⟩ := hcut
      cases hb : bb
      case true =>
        subst hb
        have HV3 := Lib.hid (HV2.out.trans (if_pos (of_decide_eq_true Hbb.out)))
        have y5 := hI.bk.cell 5 _ rfl
        have z5 := hI.bk.frozen 5
        have hI2 := hI.set (y := ⟨to_, bd, cl, 0, ov, true⟩) 5 (.bool true) rfl
        have HI2 := Lib.hid hI2
        clear HV2 hI hI2
        go_upto_region 11 with (fail)
        clear y5 z5
        generalize wc.setCell ⟨VB, 5, none⟩ (.bool true) = w12 at HI2 ⊢
        obtain ⟨zr, hzr⟩ := HI2.out.r
        have tR := hzr.there
        have aB := HI2.out.bk.agg
        have hbe := HI2.out.below
        have HZr := Lib.hid hzr
        clear hzr
        go_wp2_with fail
        exact ret_bk rfl R 0 _ rfl (HZr.out.store (y := ⟨to_, bd, cl, 0, ov, true⟩)).agg rfl ⟨by rw [HV3.out], Below.setAgg hbe hwR _ _⟩
      case false =>
        subst hb
        have HV3 := Lib.hid (HV2.out.trans (if_neg (of_decide_eq_false Hbb.out)))
        have HI := Lib.hid hI
        have hlp := HPN.out.linep
        have hPa := HPN.out.adj
        have hPd := HPN.out.dbl
        have hPf := HPN.out.fin
        have hq9 := Hzm.out.2
        clear HV2 hI
        go_upto_region 12 with (fail)
        refine Rest.region follows ?_
        refine Rest.tame 12 (fun W => OneI w R VT VB T1 ⟨to_, bd, cl, 0, ov, false⟩ W) (by kernel_rfl) HI.out.drew ?_
        simp only [Nat.reduceSub, List.drop_zero, List.take_succ_cons, List.take_zero]
        iterate 12 first
          | (refine TW.cons_n rfl _ (by intro wT hT R hR K hK; simp only [Act.put, lsA, lsB, lsC] at hK; have y0 := (HR.out _ hT.below).1; have y1 := hT.bk.cell 1 _ rfl; have yl : wT.cell? ⟨X, 3, none⟩ = some (.int .i64 P.linep) := (HP.out _ hT.below).1 2 _ (Pm.get2 P); go_step; exact hK _ _ (hR _ hT)) ?_; try simp only [Act.put, lsA, lsB, lsC])
        refine TW.nil fun w13 h13 => ?_
        refine Rest.done ?_
        obtain ⟨dd, hdd⟩ : ∃ dd, P.linep + bd = dd := ⟨_, rfl⟩
        rw [hdd]
        have hd1 : -2147483647 ≤ dd ∧ dd ≤ 2147503647 := by omega
        have y3 := h13.bk.cell 3 _ rfl
        have z3 := h13.bk.frozen 3
        have HI13 := Lib.hid (h13.set (y := ⟨to_, bd, cl, 100000000, ov, false⟩) 3 (.int .i64 100000000) rfl)
        have HDd := Lib.hid hdd
        clear HI h13 hdd
        go_upto_region 14 with (fail)
        clear y3 z3
        generalize w13.setCell ⟨VB, 3, none⟩ (.int .i64 100000000) = w14 at HI13 ⊢
        obtain ⟨D1, hD1⟩ : ∃ D1, (if -9999 ≤ dd ∧ dd ≤ 9999 then dd * dd else 100000000) = D1 := ⟨_, rfl⟩
        have HD1 := Lib.hid hD1
        have hD1b : 0 ≤ D1 ∧ D1 ≤ 100000000 := by
          rw [← hD1]
          split
          · rename_i h9
            have := sq_bd (d := dd) (N := 9999) h9.1 h9.2
            omega
          · omega
        clear hD1
        obtain ⟨cD, hcD⟩ : ∃ cD, decide (-9999 ≤ dd ∧ dd ≤ 9999) = cD := ⟨_, rfl⟩
        have HcD := Lib.hid hcD
        clear hcD
        go_cut [120] from 115 to 120 (fun s120 wx => s120 = .bool cD ∧ w14 = wx)
        case first =>
          by_cases h1 : -9999 ≤ dd
          · have h2 : decide (-9999 ≤ dd) = true := decide_eq_true h1
            have e1 : decide (dd ≤ 9999) = cD := by rw [← HcD.out]; simp [h1]
            clear h1
            go_wp2_with fail
            go_meet
            exact ⟨rfl, rfl⟩
          · have h2 : decide (-9999 ≤ dd) = false := decide_eq_false h1
            have e1 : cD = false := by rw [← HcD.out]; simp [h1]
            subst e1
            clear h1
            go_wp2_with fail
            go_meet
            exact ⟨rfl, rfl⟩
        case rest =>
          obtain ⟨rfl, rfl⟩ := hcut
          have y3 := HI13.out.bk.cell 3 _ rfl
          have z3 := HI13.out.bk.frozen 3
          go_upto_if 120 with (fail)
          go_cut [] from 121 to 124 (fun wx => OneI w R VT VB T1 ⟨to_, bd, cl, D1, ov, false⟩ wx)
          case first =>
            cases hb : cD
            · subst hb
              have e1 : (100000000 : Int) = D1 := by rw [← HD1.out, if_neg (of_decide_eq_false HcD.out)]
              subst e1
              go_wp2_with fail
              go_meet
              exact HI13.out
            · subst hb
              have h9 := of_decide_eq_true HcD.out
              have e1 : dd * dd = D1 := by rw [← HD1.out, if_pos h9]
              have hm : IntKind.i64.wrap (dd * dd) = D1 := by rw [e1]; exact Go.IntWalk.i64_in _ (by omega)
              have HI14 := HI13.out.set (y := ⟨to_, bd, cl, D1, ov, false⟩) 3 (.int .i64 D1) rfl
              clear e1 h9
              go_wp2_with fail
              go_meet
              exact HI14
          case rest =>
            clear HI13 y3 z3
            have HI := Lib.hid hcut
            clear hcut
            obtain ⟨D2, hD2⟩ : ∃ D2, D1 + (if 0 < q then q * q else if -10000 < q then -(q * q) else 0) = D2 := ⟨_, rfl⟩
            have hD2b : -100000000 ≤ D2 ∧ D2 ≤ 200000000 := by
              rw [← hD2]
              split
              · have := sq_bd (d := q) (N := 9999) (by omega) (by omega)
                omega
              · split
                · have := sq_bd (d := q) (N := 9999) (by omega) (by omega)
                  omega
                · omega
            have HD2 := Lib.hid hD2
            have y3 := HI.out.bk.cell 3 _ rfl
            have z3 := HI.out.bk.frozen 3
            clear hD2
            go_upto_block 0 with (fail)
            go_cut [] from 125 to 148 (fun wx => OneI w R VT VB T1 ⟨to_, bd, cl, D2, ov, false⟩ wx)
            case first =>
              by_cases hq1 : 0 < q
              · have hq2 : decide (0 < q) = true := decide_eq_true hq1
                have h9 := sq_bd (d := q) (N := 9999) (by omega) (by omega)
                have e1 : D1 + q * q = D2 := by rw [← HD2.out, if_pos hq1]
                have hI2 := HI.out.set (y := ⟨to_, bd, cl, D2, ov, false⟩) 3 (.int .i64 (D1 + q * q)) (by rw [e1]; rfl)
                generalize hqq : q * q = qq at h9 e1 hI2
                have hm : IntKind.i64.wrap (q * q) = qq := by rw [hqq]; exact Go.IntWalk.i64_in _ (by omega)
                clear e1 hqq
                go_wp2_with fail
                go_meet
                exact hI2
              · have hq2 : decide (0 < q) = false := decide_eq_false hq1
                by_cases hq3 : -10000 < q
                · have hq4 : decide (-10000 < q) = true := decide_eq_true hq3
                  have h9 := sq_bd (d := q) (N := 9999) (by omega) (by omega)
                  have e1 : D1 - q * q = D2 := by rw [← HD2.out, if_neg hq1, if_pos hq3]; omega
                  by_cases hq5 : q < 0
                  · have hq6 : decide (q < 0) = true := decide_eq_true hq5
                    have hI2 := HI.out.set (y := ⟨to_, bd, cl, D2, ov, false⟩) 3 (.int .i64 (D1 - q * q)) (by rw [e1]; rfl)
                    generalize hqq : q * q = qq at h9 e1 hI2
                    have hm : IntKind.i64.wrap (q * q) = qq := by rw [hqq]; exact Go.IntWalk.i64_in _ (by omega)
                    clear e1 hqq
                    go_wp2_with fail
                    go_meet
                    exact hI2
                  · have hq6 : decide (q < 0) = false := decide_eq_false hq5
                    have e2 : D1 = D2 := by
                      have e3 : q = 0 := by omega
                      rw [e3] at e1
                      omega
                    subst e2
                    clear e1 h9
                    go_wp2_with fail
                    go_meet
                    exact HI.out
                · have hq4 : decide (-10000 < q) = false := decide_eq_false hq3
                  have e2 : D1 = D2 := by rw [← HD2.out, if_neg hq1, if_neg hq3, Int.add_zero]
                  subst e2
                  go_wp2_with fail
                  go_meet
                  exact HI.out
            case rest =>
              clear HI y3 z3
              have HI := Lib.hid hcut
              clear hcut
              obtain ⟨df, hdf⟩ : ∃ df, discO L f = df := ⟨_, rfl⟩
              obtain ⟨dt, hdt⟩ : ∃ dt, discB L to_ = dt := ⟨_, rfl⟩
              obtain ⟨de, hde⟩ : ∃ de, (to_ == L.length) = de := ⟨_, rfl⟩
              rw [hdf] at HDf
              rw [hdt] at HDt
              obtain ⟨D3, hD3⟩ : ∃ D3, D2 + (if (df && dt) = true then P.dbl else 0) + (if (df && de) = true then P.fin else 0) = D3 := ⟨_, rfl⟩
              obtain ⟨D4, hD4⟩ : ∃ D4, D3 + (if 1 < cl - before ∨ 1 < before - cl then P.adj else 0) = D4 := ⟨_, rfl⟩
              have HV4 : Hid (oneP L P S s tol ext f (to_, q) line before = ⟨to_, bd, cl, D4, ov, false⟩) := Lib.hid (by
                rw [HV3.out]
                unfold demP
                rw [HDd.out, HD1.out, HD2.out, hdf, hdt, hde, hD3, hD4])
              have HD3 := Lib.hid hD3
              have HD4 := Lib.hid hD4
              have Hde := Lib.hid hde
              have hD3b : -6000000000 ≤ D3 ∧ D3 ≤ 6000000000 := by
                rw [← hD3]
                split <;> split <;> omega
              clear HV3 HDd HD1 HD2 hD3 hD4 hdf hdt hde
              have y0 := (HR.out _ HI.out.below).1
              have HD1 := Lib.hid (HDf.out _ HI.out.below)
              go_upto_if 154 with (go_at_call 71; refine HD1.out.mono ?_; rintro e w' ⟨rfl, rfl⟩)
              clear y0 HD1
              go_cut [] from 155 to 194 (fun wx => OneI w R VT VB T1 ⟨to_, bd, cl, D3, ov, false⟩ wx)
              case first =>
                cases hb : df
                · subst hb
                  have e1 : D2 = D3 := by rw [← HD3.out]; simp
                  subst e1
                  go_wp2_with fail
                  go_meet
                  exact HI.out
                · subst hb
                  obtain ⟨D5, hD5⟩ : ∃ D5, D2 + (if dt = true then P.dbl else 0) = D5 := ⟨_, rfl⟩
                  have HD5 := Lib.hid hD5
                  have HD6 : Hid (D5 + (if de = true then P.fin else 0) = D3) := Lib.hid (by rw [← HD3.out, ← hD5]; simp)
                  have hD5b : -3000000000 ≤ D5 ∧ D5 ≤ 3000000000 := by rw [← hD5]; split <;> omega
                  clear hD5
                  have y0 := (HR.out _ HI.out.below).1
                  have HD1 := Lib.hid (HDt.out _ HI.out.below)
                  go_upto_if 160 with (go_at_call 71; refine HD1.out.mono ?_; rintro e w' ⟨rfl, rfl⟩)
                  clear y0 HD1
                  go_cut [] from 161 to 172 (fun wx => OneI w R VT VB T1 ⟨to_, bd, cl, D5, ov, false⟩ wx)
                  case first =>
                    cases hb : dt
                    · subst hb
                      have e1 : D2 = D5 := by rw [← HD5.out]; simp
                      subst e1
                      go_wp2_with fail
                      go_meet
                      exact HI.out
                    · subst hb
                      have e1 : D2 + P.dbl = D5 := by rw [← HD5.out]; simp
                      have E1 := Lib.hid e1
                      clear e1
                      go_upto_region 22 with (fail)
                      refine Rest.region follows ?_
                      refine Rest.tame 12 (fun W => OneI w R VT VB T1 ⟨to_, bd, cl, D2, ov, false⟩ W) (by kernel_rfl) HI.out.drew ?_
                      simp only [Nat.reduceSub, List.drop_zero, List.take_succ_cons, List.take_zero]
                      iterate 12 first
                        | (refine TW.cons_n rfl _ (by intro wT hT R hR K hK; simp only [Act.put, lsA, lsB, lsC] at hK; have y0 := (HR.out _ hT.below).1; have y3 := hT.bk.cell 3 _ rfl; have yl : wT.cell? ⟨X, 7, none⟩ = some (.int .i64 P.dbl) := (HP.out _ hT.below).1 6 _ (Pm.get6 P); go_step; exact hK _ _ (hR _ hT)) ?_; try simp only [Act.put, lsA, lsB, lsC])
                      refine TW.nil fun w9 h9 => ?_
                      have y3 := h9.bk.cell 3 _ rfl
                      have z3 := h9.bk.frozen 3
                      have h10 := h9.set (y := ⟨to_, bd, cl, D5, ov, false⟩) 3 (.int .i64 (D2 + P.dbl)) (by rw [E1.out]; rfl)
                      refine Rest.seq (by kernel_rfl) ?_
                      simp only [List.drop_succ_cons, List.drop_zero]
                      go_wp2_with fail
                      go_meet
                      exact h10
                  case rest =>
                    clear HI
                    have HI := Lib.hid hcut
                    clear hcut
                    obtain ⟨y0, _, _, _, _⟩ := HR.out _ HI.out.below
                    have yL := (HP.out _ HI.out.below).2.2.1
                    have hde2 : ((to_ : Int) == (L.length : Int)) = de := by rw [← Hde.out, Bool.eq_iff_iff, beq_iff_eq, beq_iff_eq]; omega
                    have hde3 : (to_ == L.length) = de := Hde.out
                    go_upto_if 182 with (fail)
                    clear y0 yL hde2 hde3
                    go_cut [] from 183 to 194 (fun wx => OneI w R VT VB T1 ⟨to_, bd, cl, D3, ov, false⟩ wx)
                    case first =>
                      cases hb : de
                      · subst hb
                        have e1 : D5 = D3 := by rw [← HD6.out]; simp
                        subst e1
                        go_wp2_with fail
                        go_meet
                        exact HI.out
                      · subst hb
                        have e1 : D5 + P.fin = D3 := by rw [← HD6.out]; simp
                        have E1 := Lib.hid e1
                        clear e1
                        go_upto_region 24 with (fail)
                        refine Rest.region follows ?_
                        refine Rest.tame 12 (fun W => OneI w R VT VB T1 ⟨to_, bd, cl, D5, ov, false⟩ W) (by kernel_rfl) HI.out.drew ?_
                        simp only [Nat.reduceSub, List.drop_zero, List.take_succ_cons, List.take_zero]
                        iterate 12 first
                          | (refine TW.cons_n rfl _ (by intro wT hT R hR K hK; simp only [Act.put, lsA, lsB, lsC] at hK; have y0 := (HR.out _ hT.below).1; have y3 := hT.bk.cell 3 _ rfl; have yl : wT.cell? ⟨X, 8, none⟩ = some (.int .i64 P.fin) := (HP.out _ hT.below).1 7 _ (Pm.get7 P); go_step; exact hK _ _ (hR _ hT)) ?_; try simp only [Act.put, lsA, lsB, lsC])
                        refine TW.nil fun w9 h9 => ?_
                        have y3 := h9.bk.cell 3 _ rfl
                        have z3 := h9.bk.frozen 3
                        have h10 := h9.set (y := ⟨to_, bd, cl, D3, ov, false⟩) 3 (.int .i64 (D5 + P.fin)) (by rw [E1.out]; rfl)
                        refine Rest.seq (by kernel_rfl) ?_
                        simp only [List.drop_succ_cons, List.drop_zero]
                        go_wp2_with fail
                        go_meet
                        exact h10
                    case rest =>
                      go_wp2_with fail
                      go_meet
                      exact hcut
              case rest =>
                clear HI HDf HDt HD3
                have HI := Lib.hid hcut
                clear hcut
                obtain ⟨cE, hcE⟩ : ∃ cE, decide (1 < cl - before ∨ 1 < before - cl) = cE := ⟨_, rfl⟩
                have HcE := Lib.hid hcE
                have y2 := HI.out.bk.cell 2 _ rfl
                clear hcE
                go_upto_region 25 with (fail)
                go_cut [206] from 195 to 206 (fun s206 wx => s206 = .bool cE ∧ wc = wx)
                case first =>
                  by_cases h1 : 1 < cl - before
                  · have h2 : decide (1 < cl - before) = true := decide_eq_true h1
                    have e1 : cE = true := by rw [← HcE.out]; simp [h1]
                    subst e1
                    clear h1
                    go_wp2_with fail
                    go_meet
                    exact ⟨rfl, rfl⟩
                  · have h2 : decide (1 < cl - before) = false := decide_eq_false h1
                    have e1 : decide (1 < before - cl) = cE := by rw [← HcE.out]; simp [h1]
                    clear h1
                    go_wp2_with fail
                    go_meet
                    exact ⟨rfl, rfl⟩
                case rest =>
                  obtain ⟨rfl, rfl⟩ := hcut
                  clear y2
                  go_upto_if 206 with (fail)
                  go_cut [] from 207 to 218 (fun wx => OneI w R VT VB T1 ⟨to_, bd, cl, D4, ov, false⟩ wx)
                  case first =>
                    cases hb : cE
                    · subst hb
                      have e1 : D3 = D4 := by rw [← HD4.out, if_neg (of_decide_eq_false HcE.out), Int.add_zero]
                      subst e1
                      go_wp2_with fail
                      go_meet
                      exact HI.out
                    · subst hb
                      have e1 : D3 + P.adj = D4 := by rw [← HD4.out, if_pos (of_decide_eq_true HcE.out)]
                      have E1 := Lib.hid e1
                      clear e1
                      go_upto_region 26 with (fail)
                      refine Rest.region follows ?_
                      refine Rest.tame 12 (fun W => OneI w R VT VB T1 ⟨to_, bd, cl, D3, ov, false⟩ W) (by kernel_rfl) HI.out.drew ?_
                      simp only [Nat.reduceSub, List.drop_zero, List.take_succ_cons, List.take_zero]
                      iterate 12 first
                        | (refine TW.cons_n rfl _ (by intro wT hT R hR K hK; simp only [Act.put, lsA, lsB, lsC] at hK; have y0 := (HR.out _ hT.below).1; have y3 := hT.bk.cell 3 _ rfl; have yl : wT.cell? ⟨X, 6, none⟩ = some (.int .i64 P.adj) := (HP.out _ hT.below).1 5 _ (Pm.get5 P); go_step; exact hK _ _ (hR _ hT)) ?_; try simp only [Act.put, lsA, lsB, lsC])
                      refine TW.nil fun w9 h9 => ?_
                      have y3 := h9.bk.cell 3 _ rfl
                      have z3 := h9.bk.frozen 3
                      have h10 := h9.set (y := ⟨to_, bd, cl, D4, ov, false⟩) 3 (.int .i64 (D3 + P.adj)) (by rw [E1.out]; rfl)
                      refine Rest.seq (by kernel_rfl) ?_
                      simp only [List.drop_succ_cons, List.drop_zero]
                      go_wp2_with fail
                      go_meet
                      exact h10
                  case rest =>
                    clear HI
                    have hI := hcut
                    clear hcut
                    obtain ⟨zr, hzr⟩ := hI.r
                    have tR := hzr.there
                    have aB := hI.bk.agg
                    have hbe := hI.below
                    have HZr := Lib.hid hzr
                    clear hzr hI
                    go_wp2_with fail
                    exact ret_bk rfl R 0 _ rfl (HZr.out.store (y := ⟨to_, bd, cl, D4, ov, false⟩)).agg rfl ⟨by rw [HV4.out], Below.setAgg hbe hwR _ _⟩
end Go.Proofs.YtiijpbfkchokaaaGreat
