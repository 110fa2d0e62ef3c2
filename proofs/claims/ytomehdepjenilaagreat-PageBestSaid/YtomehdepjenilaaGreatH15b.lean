/-
  Between the makers of 'x.f = append(x.f, y...)' in a region that draws its order: a load, an append of nodes that lie somewhere, a store. No statement of the seat stands here.
-/
import Derived.Test.YtomehdepjenilaaGreatH12
import Derived.Test.YtomehdepjenilaaGreatJ1
import Derived.RegionTactic
import Derived.Deep.RegionLaw
import Derived.StillTailTactics
import Derived.Maps.AppendAt
namespace Go.Proofs.YtomehdepjenilaaGreat
open Go.ChangeShapes Go.WideShapes Go.ChangeAt Go.RowKit
structure JX (w0 : World) (P : Nat) (a0 : Array Value) (ty : TypeId) (o base : Nat) (v0 : Value) (n m : Nat) (xs ys : List Value) (iL iA iS : Nat) (mk : Nat → Bool) (us : Nat → Value) (W : World) : Prop where
  frm : Frm (fun k => k = P ∨ v0.ownBlock = some k) w0 W
  ld : mk iL = true → us iL = v0
  dA : mk iA = true → mk iL = true
  dS : mk iS = true → mk iA = true
  pre : mk iA = false → W.ownsRow base 49 19 v0 n xs ∧ Cb W P a0 ty
  mid : mk iA = true → ∃ g cap, us iA = .slice (some ⟨g, 0, none⟩) (n + m) cap ∧ W.ownsRow base 49 19 (.slice (some ⟨g, 0, none⟩) (n + m) cap) (n + m) (xs ++ ys) ∧ (v0.ownBlock = some g ∨ w0.heap.size ≤ g) ∧ Cb W P (if mk iS = true then a0.setIfInBounds o (.slice (some ⟨g, 0, none⟩) (n + m) cap) else a0) ty
section
variable {w0 W W' : World} {P o base n m iL iA iS : Nat} {a0 : Array Value} {ty : TypeId} {v0 : Value} {xs ys : List Value} {mk : Nat → Bool} {us : Nat → Value}
theorem JX.init (hr : w0.ownsRow base 49 19 v0 n xs) (hP : Cb w0 P a0 ty) : JX w0 P a0 ty o base v0 n m xs ys iL iA iS (fun _ => false) us w0.drew :=
  ⟨(Frm.refl _ _).drew, (fun h => by cases h), (fun h => by cases h), (fun h => by cases h), (fun _ => ⟨hr, hP⟩), (fun h => by cases h)⟩
theorem JX.load (h : JX w0 P a0 ty o base v0 n m xs ys iL iA iS mk us W) (hL : mk iL = false) (h1 : iL ≠ iA) (h2 : iL ≠ iS) : JX w0 P a0 ty o base v0 n m xs ys iL iA iS (fun j => mk j || j == iL) (fun j => if j = iL then v0 else us j) W := by
  have hA : mk iA = false := by
    cases e : mk iA
    · rfl
    · have := h.dA e; rw [hL] at this; cases this
  have hS : mk iS = false := by
    cases e : mk iS
    · rfl
    · have := h.dS e; rw [hA] at this; cases this
  have b1 : (iA == iL) = false := by simpa using fun e => h1 e.symm
  have b2 : (iS == iL) = false := by simpa using fun e => h2 e.symm
  refine ⟨h.frm, fun _ => by simp, fun e => by simp, fun e => ?_, fun _ => h.pre hA, fun e => ?_⟩
  · simp [hS, b2] at e
  · simp [hA, b1] at e
theorem JX.app (h : JX w0 P a0 ty o base v0 n m xs ys iL iA iS mk us W) (hL : mk iL = true) (hA : mk iA = false) (h1 : iL ≠ iA) (h2 : iA ≠ iS) (hPb : v0.ownBlock ≠ some P) {g cap : Nat} (hown : W'.ownsRow base 49 19 (.slice (some ⟨g, 0, none⟩) (n + m) cap) (n + m) (xs ++ ys)) (hgrow : W.grownBy W' v0.ownBlock) (hat : v0.ownBlock = some g ∨ g = W.heap.size) :
    JX w0 P a0 ty o base v0 n m xs ys iL iA iS (fun j => mk j || j == iA) (fun j => if j = iA then .slice (some ⟨g, 0, none⟩) (n + m) cap else us j) W' := by
  have hS : mk iS = false := by
    cases e : mk iS
    · rfl
    · have := h.dS e; rw [hA] at this; cases this
  have b2 : (iS == iA) = false := by simpa using fun e => h2 e.symm
  have hp := (h.pre hA).2
  refine ⟨h.frm.grown hgrow fun k hk _ => .inr hk, fun _ => by simp only [if_neg h1]; exact h.ld hL, fun _ => by simp [hL], fun e => by simp, fun e => by simp at e, fun _ => ⟨g, cap, by simp, hown, ?_, ?_⟩⟩
  · rcases hat with e | e
    · exact .inl e
    · exact .inr (by rw [e]; exact h.frm.size)
  · simp only [hS, b2, Bool.or_false, Bool.false_eq_true, if_false]
    exact (hgrow.block P hp.lt fun e => hPb e.symm).trans hp
theorem JX.store (h : JX w0 P a0 ty o base v0 n m xs ys iL iA iS mk us W) (hA : mk iA = true) (hS : mk iS = false) (h2 : iA ≠ iS) (h3 : iL ≠ iS) {g cap : Nat} (hu : us iA = .slice (some ⟨g, 0, none⟩) (n + m) cap) (hgP : g ≠ P) (u : Value) :
    JX w0 P a0 ty o base v0 n m xs ys iL iA iS (fun j => mk j || j == iS) (fun j => if j = iS then u else us j) (W.setCell ⟨P, o, none⟩ (.slice (some ⟨g, 0, none⟩) (n + m) cap)) := by
  obtain ⟨g', cap', e1, e2, e3, e4⟩ := h.mid hA
  rw [hu] at e1
  simp only [Value.slice.injEq, Option.some.injEq, Addr.mk.injEq, and_true, true_and] at e1
  obtain ⟨rfl, rfl⟩ := e1
  rw [if_neg (by rw [hS]; decide)] at e4
  refine ⟨h.frm.setCell (p := ⟨P, o, none⟩) (fun _ => .inl rfl) _, fun e => ?_, fun e => ?_, fun e => by simp [hA], fun e => ?_, fun _ => ⟨g, cap, by simp only [if_neg h2]; exact hu, ?_, e3, ?_⟩⟩
  · simp only [if_neg h3]; exact h.ld (h.dA hA)
  · simp [h.dA hA]
  · simp [hA] at e
  · exact ownsRow_same e2 fun q hq _ => by
      simp only [Value.ownBlock, Option.some.injEq] at hq
      subst hq
      exact Below.heap_setCell _ _ _ _ hgP
  · have b : (mk iS || iS == iS) = true := by simp
    simp only [b, if_true]
    exact e4.set o _ rfl
end
set_option maxRecDepth 100000 in
set_option maxHeartbeats 16000000 in
theorem deal_0 (w : World) (base B : Nat) (r : Nat → Option Nat) (b : Bc) (c : Sc) (g : Gr) (bot : ByteArray) (W : List Nd) (R : Rw) (h : BdR w base B r b c g bot W R) (hI : R.ins = []) (P : Nat) (T : Pc) (hP : Lc w r P T.arr 46) (hT : T.boxA = none ∧ T.boxN = 0 ∧ T.boxC = 0 ∧ T.insA = none ∧ T.insN = 0 ∧ T.insC = 0) (k : Nat) (hk : 0 < k) (hkl : k ≤ R.list.length) (hlen : R.list.length ≤ 800000000000) :
    Calls Tryz.prog 143 #[.pointer (some ⟨B, 0, none⟩), .pointer (some ⟨P, 0, none⟩), .int .i64 k] w fun e w' => e = .returned (.tuple #[]) ∧ (∃ q cap, PgAt w' P { T with boxA := some ⟨q, 0, none⟩, boxN := k, boxC := cap } ∧ w'.ownsRow w.heap.size 49 19 (.slice (some ⟨q, 0, none⟩) k cap) k ((R.list.take k).flatMap Nd.cells)) ∧ Frm (· = P) w w' := by
  obtain ⟨t1, t2, t3, t4, t5, t6⟩ := hT
  have hlr := h.sht.of.list
  have hln : c.listN = R.list.length := owns_len hlr
  have hin : c.insN = 0 := by have := owns_len h.sht.of.ins; rw [hI] at this; simpa using this
  have hnn := row_nodes hlr (by omega)
  obtain ⟨_, p4, g4, c4, e4, hN4, _⟩ := hnn
  have hLne : R.list ≠ [] := by intro e; rw [e] at hkl; simp at hkl; omega
  obtain rfl := hN4.hp hLne
  simp only [Value.slice.injEq] at e4
  obtain ⟨ea, en, ec⟩ := e4
  have hm0 := @run_makeMap Tryz.prog
  have hw1 : Below w.heap.size w (w.alloc (.map #[] 0)) := (Below.refl _ _).alloc (Nat.le_refl _) _
  have cs := h.at_.cell 8 _ (Bc.get8 b)
  have hBl := h.at_.lt
  have H := Lib.hid h
  have HP := Lib.hid hP
  have HN := Lib.hid hN4
  have Hln := Lib.hid (And.intro ea (And.intro hln (And.intro ec hin)))
  clear h hP hlr hN4 ea hln ec hin en hI hLne
  go_enter Tryz.func143, Tryz.ntmps143
  go_upto_region 3 with (fail)
  have h1 := H.out.below hw1
  have hP1 := HP.out.below hw1
  have hN1 := HN.out.below hw1
  have c16 : (w.alloc (.map #[] 0)).cell? ⟨b.sheet, 16, none⟩ = some (.slice c.insA 0 c.insC) := by
    have := h1.sht.at_.cell 16 _ (Sc.get16 c)
    rw [Hln.out.2.2.2] at this
    exact this
  have c0 : (w.alloc (.map #[] 0)).cell? ⟨b.sheet, 0, none⟩ = some (.slice (some ⟨g4, 0, none⟩) R.list.length c4) := by rw [← Hln.out.1, ← Hln.out.2.1, ← Hln.out.2.2.1]; exact h1.sht.at_.cell 0 _ (Sc.get0 c)
  have HB1 := Lib.hid hw1
  have H1 := Lib.hid h1
  have HP1 := Lib.hid hP1
  have HN1 := Lib.hid hN1
  clear hw1 h1 hP1 hN1 cs hBl
  generalize w.alloc (.map #[] 0) = w1 at c16 c0 HB1 H1 HP1 HN1 ⊢
  go_wp2_with fail
  go_loopg [8, 26] 1 (fun gg t8 t26 wr => gg = 1 ∧ t8 = .int .i64 0 ∧ t26 = .int .i64 0 ∧ wr = w1)
  case atStart => exact ⟨rfl, rfl, rfl, rfl⟩
  case round =>
    obtain ⟨rfl, rfl, rfl, rfl⟩ := hrel
    go_wp2_with fail
    have p0 := HP1.out.at_.cell 0 _ (Pc.get0 T)
    have pf := HP1.out.at_.frozen 0
    rw [t1, t2, t3] at p0
    obtain ⟨i0, hi0', hz0, hz1, hz2'⟩ := info_parts info_node
    have hkI : (k : Int) ≤ (R.list.length : Int) := by omega
    have hkc : (k : Int) ≤ (c4 : Int) := by have := HN1.out.cap'; omega
    have hk0 : (0 : Int) ≤ (k : Int) := by omega
    have hkn : (R.list.take k).length = k := by simp; omega
    have hNt := HN1.out.take k
    have Hnews := Lib.hid (And.intro (hNt.drew).news (nodes_one (R.list.take k)))
    have Hkn := Lib.hid hkn
    have hbs : w.heap.size ≤ wr.heap.size := HB1.out.size
    have hPl : P < wr.heap.size := HP1.out.at_.lt
    clear hkn hNt c16
    have hfl : ((R.list.take k).flatMap Nd.cells).length = k * 19 := by rw [flat_len, Hkn.out]
    have Hfl := Lib.hid hfl
    have hgP : g4 ≠ P := fun e => HP1.out.off ⟨2, by rw [H1.out.sht.ro.r2, Hln.out.1, ← e]; rfl⟩
    have hSP : b.sheet ≠ P := fun e => HP1.out.off ⟨1, by rw [H1.out.sht.ro.r1, e]⟩
    have HNews : Hid (∀ W9, Frm (fun z => z = P ∨ (Value.slice none 0 0).ownBlock = some z) wr W9 → ∀ j u, ((R.list.take k).flatMap Nd.cells)[j]? = some u → W9.cell? ((⟨g4, 0, none⟩ : Addr).add j) = some u) := Lib.hid fun W9 hf => ((HN1.out.take k).same9 hf.size fun _ => hf.block g4 (HN1.out.hb (by intro e; rw [e] at hkl; simp at hkl; omega)) fun e => by
      rcases e with e | e
      · exact hgP e
      · simp [Value.ownBlock] at e).news
    have HC : Hid (∀ W9, Frm (fun z => z = P ∨ (Value.slice none 0 0).ownBlock = some z) wr W9 → W9.cell? ⟨b.sheet, 0, none⟩ = some (.slice (some ⟨g4, 0, none⟩) R.list.length c4)) := Lib.hid fun W9 hf => by
      have := (H1.out.sht.at_.frm hf fun e => by
        rcases e with e | e
        · exact hSP e
        · simp [Value.ownBlock] at e).cell 0 _ (Sc.get0 c)
      rw [Hln.out.1, Hln.out.2.1, Hln.out.2.2.1] at this
      exact this
    refine region_makers [4, 12, 15] (fun W9 => Frm (fun z => z = P ∨ (Value.slice none 0 0).ownBlock = some z) wr W9) (JX wr P T.arr 46 0 w.heap.size (.slice none 0 0) 0 k [] ((R.list.take k).flatMap Nd.cells) 4 12 15) follows (by kernel_rfl) (fun m us W9 h9 => h9.frm) (fun us => JX.init (World.ownsRow_nil _ _ _ _) HP1.out.at_) ?_
    iterate 16 first
      | (refine TK.pass rfl ?_)
      | (refine TK.read rfl _ (by intro wT hT KT hK; simp only [Act.put, lsA, lsB, lsC] at hK; have yb := HC.out _ hT; go_step; exact hK _ rfl) ?_; try simp only [Act.put, lsA, lsB, lsC])
    refine TK.nil fun us => ?_
    refine KW.step _ rfl (fun mm W1 hJ h7 hD RT hR => ?_) ?_
    · have hA : mm 12 = false := by
        cases e : mm 12
        · rfl
        · have := hJ.dA e; rw [h7] at this; cases this
      have y0 := (hJ.pre hA).2.cell 0 _ (Pc.get0 T)
      rw [t1, t2, t3] at y0
      simp only [Act.put] at hR
      go_step
      exact hR _ _ (hJ.load h7 (by decide) (by decide))
    try simp only [Act.put, lsA, lsB, lsC]
    refine KW.step _ rfl (fun mm W1 hJ h9 hD RT hR => ?_) ?_
    · have hL := hD 4 rfl (by kernel_rfl)
      have hl4 := hJ.ld hL
      have hbW : w.heap.size ≤ W1.heap.size := Nat.le_trans hbs hJ.frm.size
      refine wp_append_lies W1 (.tmp 162) (.tmp 169) 27 rfl w.heap.size 49 i0 (.agg Nd.zero.arr) 19 160 Tryz.underlying27 hi0' hz0 hz1 hz2' rfl (by decide) (.slice none 0 0) 0 [] hl4 (hJ.pre h9).1 ⟨g4, 0, none⟩ k c4 ((R.list.take k).flatMap Nd.cells) rfl Hfl.out (HNews.out _ hJ.frm) Hnews.out.2 hk (by unfold maxLen; omega) (by omega) hbW _ rfl ?_
      intro g7 cap7 w7 hown7 hgrow7 hat7 hlt7
      exact hR _ _ (hJ.app hL h9 (by decide) (by decide) (by simp [Value.ownBlock]) hown7 hgrow7 hat7)
    try simp only [Act.put, lsA, lsB, lsC]
    refine KW.step _ rfl (fun mm W1 hJ h15 hD RT hR => ?_) ?_
    · have hA := hD 12 rfl (by kernel_rfl)
      obtain ⟨g7, cap7, e7, hown7, hat7, hP7⟩ := hJ.mid hA
      have hg7 : g7 ≠ P := fun e => by
        rcases hat7 with h | h
        · simp [Value.ownBlock] at h
        · omega
      rw [if_neg (by rw [h15]; decide)] at hP7
      have y0 := hP7.cell 0 _ (Pc.get0 T)
      have yf := hP7.frozen 0
      have hst := hJ.store hA h15 (by decide) (by decide) e7 hg7 undef
      simp only [Act.put] at hR
      simp only [Nat.zero_add] at hst e7
      simp only [e7] at hR ⊢
      go_step
      exact hR undef _ hst
    simp only [Act.put]
    refine KW.nil fun w3 hJ3 => ?_
    obtain ⟨g7, cap7, e7, hown7, hat7, hP7⟩ := hJ3.mid rfl
    simp only [show ([4, 12, 15] : List Nat).contains 15 = true from rfl, if_true, Nat.zero_add, List.nil_append] at hP7 e7 hown7
    have hf3 := hJ3.frm
    have hPb : PgAt w3 P { T with boxA := some ⟨g7, 0, none⟩, boxN := k, boxC := cap7 } := by
      have h9 := hP7
      rw [Pc.set0] at h9
      exact h9
    have q1 := hPb.cell 1 _ (Pc.get1 _)
    have q1' : w3.cell? ⟨P, 1, none⟩ = some (.slice none 0 0) := by rw [q1]; simp only [t4, t5, t6]
    have HF := Lib.hid ((Frm.of_below (K := (· = P)) HB1.out).trans (K' := fun z => z = P ∨ (Value.slice none 0 0).ownBlock = some z) hf3 fun z _ e => by
      rcases e with e | e
      · exact e
      · simp [Value.ownBlock] at e)
    have HPb := Lib.hid (And.intro hPb hown7)
    clear hJ3 hP7 e7 hown7 hat7 hf3 q1 hPb
    go_upto_region 24 with (go_at_call 157; refine (sort_0 _ _).mono ?_; rintro e w4 ⟨rfl, rfl⟩)
    go_loopg [183] 1 (fun gg t183 wz => gg = 1 ∧ t183 = .int .i64 0 ∧ wz = w4)
    case atStart => exact ⟨rfl, rfl, rfl⟩
    case round =>
      obtain ⟨rfl, rfl, rfl⟩ := hrel
      go_wp2_with fail
      exact ⟨rfl, _, results_none rfl _ _ _, rfl, ⟨g7, cap7, HPb.out.1, HPb.out.2⟩, HF.out⟩
structure JF (w0 : World) (L : List Nd) (n : Nd) (mk : Nat → Bool) (us : Nat → Value) (W : World) : Prop where
  below : Below w0.heap.size w0 W
  d9 : mk 9 = true → mk 6 = true ∧ mk 8 = true
  d10 : mk 10 = true → mk 9 = true
  v6 : mk 6 = true → mk 9 = false → W.ownsRow w0.heap.size 49 19 (us 6) L.length (L.flatMap Nd.cells)
  v8 : mk 8 = true → mk 9 = false → ∃ X, us 8 = .slice (some ⟨X, 0, none⟩) 1 1 ∧ w0.heap.size ≤ X ∧ Cb W X n.arr 49 ∧ (mk 6 = true → (us 6).ownBlock ≠ some X)
  v9 : mk 9 = true → W.ownsRow w0.heap.size 49 19 (us 9) (L.length + 1) ((L ++ [n]).flatMap Nd.cells)
  v10 : mk 10 = true → us 10 = us 9
section
variable {w0 W W' : World} {L : List Nd} {n : Nd} {mk : Nat → Bool} {us : Nat → Value}
theorem JF.init (us : Nat → Value) : JF w0 L n (fun _ => false) us w0.drew :=
  ⟨(Below.refl _ _).drew, (fun h => by cases h), (fun h => by cases h), (fun h => by cases h), (fun h => by cases h), (fun h => by cases h), (fun h => by cases h)⟩
theorem JF.no9 (h : JF w0 L n mk us W) (hm : mk 6 = false ∨ mk 8 = false) : mk 9 = false := by
  cases e : mk 9
  · rfl
  · obtain ⟨a, b⟩ := h.d9 e
    rcases hm with hm | hm
    · rw [hm] at a; cases a
    · rw [hm] at b; cases b
theorem JF.no10 (h : JF w0 L n mk us W) (hm : mk 9 = false) : mk 10 = false := by
  cases e : mk 10
  · rfl
  · have := h.d10 e; rw [hm] at this; cases this
theorem JF.clone (h : JF w0 L n mk us W) (h6 : mk 6 = false) {v : Value} (hv : NRow W v L W') (hb : Below W.heap.size W W') : JF w0 L n (fun j => mk j || j == 6) (fun j => if j = 6 then v else us j) W' := by
  have h9 := h.no9 (.inl h6)
  have h10 := h.no10 h9
  refine ⟨h.below.trans (hb.mono h.below.size), fun e => by simp [h9] at e, fun e => by simp [h10] at e, fun _ _ => ?_, fun e _ => ?_, fun e => by simp [h9] at e, fun e => by simp [h10] at e⟩
  · simp only [if_pos]
    exact ownsRow_base hv h.below.size
  · have e8 : mk 8 = true := by simpa using e
    obtain ⟨X, e1, e2, e3, _⟩ := h.v8 e8 h9
    refine ⟨X, by simpa using e1, e2, e3.below hb, fun _ => ?_⟩
    simp only [if_pos]
    intro e4
    have := (hv.lt X e4).1
    have := e3.lt
    omega
theorem JF.lit (h : JF w0 L n mk us W) (h8 : mk 8 = false) : JF w0 L n (fun j => mk j || j == 8) (fun j => if j = 8 then .slice (some ⟨W.heap.size, 0, none⟩) 1 1 else us j) (W.alloc (.cells n.arr 49)) := by
  have h9 := h.no9 (.inr h8)
  have h10 := h.no10 h9
  refine ⟨h.below.alloc h.below.size _, fun e => by simp [h9] at e, fun e => by simp [h10] at e, fun e _ => ?_, fun _ _ => ⟨W.heap.size, by simp, h.below.size, Cb.new _ _ _, fun e e4 => ?_⟩, fun e => by simp [h9] at e, fun e => by simp [h10] at e⟩
  · have e6 : mk 6 = true := by simpa using e
    have := h.v6 e6 h9
    simpa using this.alloc _
  · have e6 : mk 6 = true := by simpa using e
    have := (h.v6 e6 h9).lt W.heap.size (by simpa using e4)
    omega
theorem JF.app (h : JF w0 L n mk us W) (h6 : mk 6 = true) (h8 : mk 8 = true) (h9 : mk 9 = false) {g cap : Nat} (hown : W'.ownsRow w0.heap.size 49 19 (.slice (some ⟨g, 0, none⟩) (L.length + 1) cap) (L.length + 1) (L.flatMap Nd.cells ++ n.cells)) (hgrow : W.grownBy W' (us 6).ownBlock) :
    JF w0 L n (fun j => mk j || j == 9) (fun j => if j = 9 then .slice (some ⟨g, 0, none⟩) (L.length + 1) cap else us j) W' := by
  have h10 := h.no10 h9
  refine ⟨h.below.trans ((Below.refl _ _).grown hgrow h.below.size fun k hk => ((h.v6 h6 h9).lt k hk).1), fun _ => by simp [h6, h8], fun e => by simp [h10] at e, fun _ e => by simp at e, fun _ e => by simp at e, fun _ => ?_, fun e => by simp [h10] at e⟩
  simp only [if_pos, List.flatMap_append, List.flatMap_cons, List.flatMap_nil, List.append_nil]
  exact hown
theorem JF.assign (h : JF w0 L n mk us W) (h9 : mk 9 = true) (_h10 : mk 10 = false) : JF w0 L n (fun j => mk j || j == 10) (fun j => if j = 10 then us 9 else us j) W := by
  refine ⟨h.below, fun e => ?_, fun _ => by simp [h9], fun e e9 => by simp [h9] at e9, fun e e9 => by simp [h9] at e9, fun _ => by simpa using h.v9 h9, fun _ => by simp⟩
  have := h.d9 h9
  simp [this.1, this.2]
end
/-! ### An append in a region of makers -/
theorem ap_at {P : Program} {w : World} {o : Oper} {a : Act} {K : Act → World → Prop} {Q : Exit → Act → World → Prop} (s x : Operand) (t : TypeId)
    (ho : o.op = .call { callee := .builtin .append, args := #[s, x], argTypes := #[t, t] })
    (base : Nat) (e : TypeId) (i : TypeInfo) (z : Value) (size bytes : Nat) (ht : P.underlying t = some (.slice e)) (hi : P.info? e = some i) (hz : i.zero = some z)
    (hsize : i.size = size) (hby : i.bytes = bytes) (hzs : z.cells.size = size) (hsz : 0 < size)
    (v : Value) (n : Nat) (xs : List Value) (hs : a.eval s = v) (hown : w.ownsRow base e size v n xs)
    (ad : Addr) (m c : Nat) (news : List Value) (hx : a.eval x = .slice (some ad) m c) (hl : news.length = m * size) (hnews : ∀ j u, news[j]? = some u → w.cell? (ad.add j) = some u) (h1 : ∀ u ∈ news, u.oneCell' = true)
    (h63 : n + m ≤ maxLen) (hbytes : (n + m) * bytes ≤ 140737488355328) (hbase : base ≤ w.heap.size)
    (h : ∀ v' w', w'.ownsRow base e size v' (n + m) (xs ++ news) → w.grownBy w' v.ownBlock → (v'.ownBlock = v.ownBlock ∨ v'.ownBlock = some w.heap.size) → K (a.put o.dst v') w') : o.wp P a w K Q := by
  obtain ⟨v', w', hr, h2, h3, _, h5⟩ := run_append_own_at (P := P) w base t o.type e i z size bytes ht hi hz hsize hby hzs hsz v n xs hown ad m c news hl hnews h1 h63 hbytes hbase
  unfold Oper.wp execOp
  simp only [ho, resolve, invoke, builtin, Sem.run_bind, Sem.run_pure, Result.andThen_ok, List.map_toArray, List.map_cons, List.map_nil, hs, hx, hr]
  exact h v' w' h2 h3 h5
@[go_sem] theorem run_bdPg3 (p c : Int) (t : ByteArray) (w : World) : (bdPg #[(3, .int .i64 p), (4, .int .i64 c), (5, .string t)]).run Tryz.prog w = .ok (.agg (Pc.mk none 0 0 none 0 0 none 0 0 p c t ⟨#[]⟩ ⟨#[]⟩).arr) w := by kernel_rfl
structure JW (w0 : World) (B : Nat) (a : Array Value) (Hd Bh Ws : List Nd) (vw : Value) (mk : Nat → Bool) (us : Nat → Value) (W : World) : Prop where
  frm : Frm (· = B) w0 W
  d5 : mk 5 = true → mk 3 = true
  d10 : mk 10 = true → mk 5 = true ∧ mk 9 = true
  d13 : mk 13 = true → mk 10 = true
  v3 : mk 3 = true → mk 5 = false → W.ownsRow w0.heap.size 49 19 (us 3) Hd.length (Hd.flatMap Nd.cells)
  v5 : mk 5 = true → mk 10 = false → W.ownsRow w0.heap.size 49 19 (us 5) (Hd.length + Bh.length) (Hd.flatMap Nd.cells ++ Bh.flatMap Nd.cells)
  v9 : mk 9 = true → us 9 = vw
  v10 : mk 10 = true → W.ownsRow w0.heap.size 49 19 (us 10) (Hd.length + Bh.length + Ws.length) (Hd.flatMap Nd.cells ++ Bh.flatMap Nd.cells ++ Ws.flatMap Nd.cells)
  blk : Cb W B (if mk 13 = true then a.setIfInBounds 9 (us 10) else a) 71
section
variable {w0 W W' : World} {B : Nat} {a : Array Value} {Hd Bh Ws : List Nd} {vw : Value} {mk : Nat → Bool} {us : Nat → Value}
theorem JW.init (hB : Cb w0 B a 71) (us : Nat → Value) : JW w0 B a Hd Bh Ws vw (fun _ => false) us w0.drew :=
  ⟨(Frm.refl _ _).drew, (fun h => by cases h), (fun h => by cases h), (fun h => by cases h), (fun h => by cases h), (fun h => by cases h), (fun h => by cases h), (fun h => by cases h), hB⟩
theorem JW.no {i : Nat} (h : JW w0 B a Hd Bh Ws vw mk us W) (hm : mk i = false) (hi : i = 3 ∨ i = 5 ∨ i = 9 ∨ i = 10) : (i = 3 → mk 5 = false) ∧ (i ≠ 10 → mk 10 = false) ∧ mk 13 = false := by
  have h5 : i = 3 → mk 5 = false := fun e => by
    subst e
    cases e5 : mk 5
    · rfl
    · have := h.d5 e5; rw [hm] at this; cases this
  have h10 : i ≠ 10 → mk 10 = false := fun e => by
    cases e10 : mk 10
    · rfl
    · obtain ⟨a1, a2⟩ := h.d10 e10
      rcases hi with rfl | rfl | rfl | rfl
      · rw [h5 rfl] at a1; cases a1
      · rw [hm] at a1; cases a1
      · rw [hm] at a2; cases a2
      · exact absurd rfl e
  refine ⟨h5, h10, ?_⟩
  cases e13 : mk 13
  · rfl
  · have := h.d13 e13
    by_cases e : i = 10
    · subst e; rw [hm] at this; cases this
    · rw [h10 e] at this; cases this
theorem JW.clone (h : JW w0 B a Hd Bh Ws vw mk us W) (h3 : mk 3 = false) (_hbs : B < w0.heap.size) {v : Value} (hv : NRow W v Hd W') (hb : Below W.heap.size W W') : JW w0 B a Hd Bh Ws vw (fun j => mk j || j == 3) (fun j => if j = 3 then v else us j) W' := by
  obtain ⟨n5, n10, n13⟩ := h.no h3 (.inl rfl)
  have n5 := n5 rfl
  have n10 := n10 (by decide)
  have hB := h.blk
  rw [if_neg (by rw [n13]; decide)] at hB
  refine ⟨h.frm.trans (K' := fun _ => False) (Frm.of_below hb) (fun _ _ e => e.elim), fun e => by simp, fun e => by simp [n10] at e, fun e => by simp [n13] at e, fun _ _ => ?_, fun e => by simp [n5] at e, fun e => ?_, fun e => by simp [n10] at e, ?_⟩
  · simp only [if_pos]
    exact ownsRow_base hv h.frm.size
  · have e9 : mk 9 = true := by simpa using e
    simpa using h.v9 e9
  · simp only [n13, Bool.false_or]
    rw [if_neg (by decide)]
    exact hB.below hb
theorem JW.app1 (h : JW w0 B a Hd Bh Ws vw mk us W) (h3 : mk 3 = true) (h5 : mk 5 = false) (hbs : B < w0.heap.size) {v : Value} (hown : W'.ownsRow w0.heap.size 49 19 v (Hd.length + Bh.length) (Hd.flatMap Nd.cells ++ Bh.flatMap Nd.cells)) (hgrow : W.grownBy W' (us 3).ownBlock) :
    JW w0 B a Hd Bh Ws vw (fun j => mk j || j == 5) (fun j => if j = 5 then v else us j) W' := by
  obtain ⟨_, n10, n13⟩ := h.no h5 (.inr (.inl rfl))
  have n10 := n10 (by decide)
  have hB := h.blk
  rw [if_neg (by rw [n13]; decide)] at hB
  have hlt : ∀ k, (us 3).ownBlock = some k → w0.heap.size ≤ k := fun k hk => ((h.v3 h3 h5).lt k hk).1
  refine ⟨h.frm.grown hgrow fun k hk hk0 => by have := hlt k hk; omega, fun _ => by simp [h3], fun e => by simp [n10] at e, fun e => by simp [n13] at e, fun _ e => by simp at e, fun _ _ => by simpa using hown, fun e => ?_, fun e => by simp [n10] at e, ?_⟩
  · have e9 : mk 9 = true := by simpa using e
    simpa using h.v9 e9
  · simp only [n13, Bool.false_or]
    rw [if_neg (by decide)]
    exact (hgrow.block B hB.lt fun e => by have := hlt B e.symm; omega).trans hB
theorem JW.load (h : JW w0 B a Hd Bh Ws vw mk us W) (h9 : mk 9 = false) : JW w0 B a Hd Bh Ws vw (fun j => mk j || j == 9) (fun j => if j = 9 then vw else us j) W := by
  obtain ⟨_, n10, n13⟩ := h.no h9 (.inr (.inr (.inl rfl)))
  have n10 := n10 (by decide)
  refine ⟨h.frm, fun e => by simpa using h.d5 (by simpa using e), fun e => by simp [n10] at e, fun e => by simp [n13] at e, fun e1 e2 => by simpa using h.v3 (by simpa using e1) (by simpa using e2), fun e1 _ => by simpa using h.v5 (by simpa using e1) n10, fun _ => by simp, fun e => by simp [n10] at e, ?_⟩
  have hB := h.blk
  rw [if_neg (by rw [n13]; decide)] at hB
  simp only [n13, Bool.false_or]
  rw [if_neg (by decide)]
  exact hB
theorem JW.app2 (h : JW w0 B a Hd Bh Ws vw mk us W) (h5 : mk 5 = true) (h9 : mk 9 = true) (h10 : mk 10 = false) (hbs : B < w0.heap.size) {v : Value} (hown : W'.ownsRow w0.heap.size 49 19 v (Hd.length + Bh.length + Ws.length) (Hd.flatMap Nd.cells ++ Bh.flatMap Nd.cells ++ Ws.flatMap Nd.cells)) (hgrow : W.grownBy W' (us 5).ownBlock) :
    JW w0 B a Hd Bh Ws vw (fun j => mk j || j == 10) (fun j => if j = 10 then v else us j) W' := by
  obtain ⟨_, _, n13⟩ := h.no h10 (.inr (.inr (.inr rfl)))
  have hB := h.blk
  rw [if_neg (by rw [n13]; decide)] at hB
  have hlt : ∀ k, (us 5).ownBlock = some k → w0.heap.size ≤ k := fun k hk => ((h.v5 h5 h10).lt k hk).1
  refine ⟨h.frm.grown hgrow fun k hk hk0 => by have := hlt k hk; omega, fun _ => by simp [h.d5 h5], fun _ => by simp [h5, h9], fun e => by simp [n13] at e, fun _ e => by simp [h5] at e, fun _ e => by simp at e, fun _ => by simpa using h.v9 h9, fun _ => by simpa using hown, ?_⟩
  simp only [n13, Bool.false_or]
  rw [if_neg (by decide)]
  exact (hgrow.block B hB.lt fun e => by have := hlt B e.symm; omega).trans hB
theorem JW.store (h : JW w0 B a Hd Bh Ws vw mk us W) (h10 : mk 10 = true) (h13 : mk 13 = false) (hbs : B < w0.heap.size) (u : Value) :
    JW w0 B a Hd Bh Ws vw (fun j => mk j || j == 13) (fun j => if j = 13 then u else us j) (W.setCell ⟨B, 9, none⟩ (us 10)) := by
  have hB := h.blk
  rw [if_neg (by rw [h13]; decide)] at hB
  obtain ⟨e5, e9⟩ := h.d10 h10
  refine ⟨h.frm.set1 9 _, fun _ => by simp [h.d5 e5], fun _ => by simp [e5, e9], fun _ => by simp [h10], fun _ e => by simp [e5] at e, fun _ e => by simp [h10] at e, fun _ => by simpa using h.v9 e9, fun _ => ?_, ?_⟩
  · have := ownsRow_same (h.v10 h10) (w' := W.setCell ⟨B, 9, none⟩ (us 10)) fun q hq _ => Below.heap_setCell _ _ _ _ (by have := ((h.v10 h10).lt q hq).1; simp only; omega)
    simpa using this
  · have b : (mk 13 || (13 : Nat) == 13) = true := by simp
    simp only [b, if_true]
    have := hB.set 9 (us 10) rfl
    simpa using this
end
theorem BdR.last {w : World} {base B : Nat} {r : Nat → Option Nat} {b : Bc} {c : Sc} {g : Gr} {bot : ByteArray} {W : List Nd} {R : Rw} (h : BdR w base B r b c g bot W R) (t : ByteArray) : BdR (w.setCell ⟨B, 10, none⟩ (.string t)) base B r { b with bot := t } c g t W R := by
  have hf : Frm (· = B) w (w.setCell ⟨B, 10, none⟩ (.string t)) := (Frm.refl _ _).set1 10 _
  have hn : ∀ i q, i ≠ 0 → r i = some q → q ≠ B := fun i q hi e e2 => h.sht.own.sep i 0 q hi e (by rw [h.r0, e2])
  refine ⟨h.sht.frm hf fun k hk e => ?_, h.at_.set 10 _ (Bc.set10 _ _), ?_, h.r0, h.r3, h.r7⟩
  · rcases hk with k1 | k1 | k1 | k1 | k1 <;> exact hn _ _ (by decide) k1 e
  · have ho := h.of.same hf.size (fun q e hq => hf.block q hq (hn 3 q (by decide) (by rw [h.r3, e]))) (fun q e hq => hf.block q hq (hn 7 q (by decide) (by rw [h.r7, e])))
    exact ⟨ho.height, ho.depth, ho.top, rfl, ho.cls, ho.wn, ho.waits⟩
theorem BdR.wait {w w' : World} {base B : Nat} {r : Nat → Option Nat} {b : Bc} {c : Sc} {g : Gr} {bot : ByteArray} {W W' : List Nd} {R : Rw} {v : Value} (h : BdR w base B r b c g bot W R) (hf : Frm (· = B) w w') (hv : w'.ownsRow w.heap.size 49 19 v W'.length (W'.flatMap Nd.cells)) (hlen : W'.length * 160 ≤ 140737488351232) (hne : W' ≠ [])
    (hb : Cb w' B (b.arr.setIfInBounds 9 v) 71) : ∃ q cap, BdR w' base B (setR r 3 (some q)) { b with waitsA := some ⟨q, 0, none⟩, waitsN := W'.length, waitsC := cap } c g bot W' R ∧ later r (setR r 3 (some q)) w := by
  obtain ⟨_, p, q, cap, e, hN, hq⟩ := row_nodes hv hlen
  have hq := hq hne
  obtain rfl := hN.hp hne
  have hql := hN.hb hne
  have hn : ∀ i q, i ≠ 0 → r i = some q → q ≠ B := fun i q hi e e2 => h.sht.own.sep i 0 q hi e (by rw [h.r0, e2])
  have hs := h.sht.frm hf fun k hk e => by
    rcases hk with k1 | k1 | k1 | k1 | k1 <;> exact hn _ _ (by decide) k1 e
  have ho := h.of.same hf.size (fun q e hq => hf.block q hq (hn 3 q (by decide) (by rw [h.r3, e]))) (fun q e hq => hf.block q hq (hn 7 q (by decide) (by rw [h.r7, e])))
  have o1 : ∀ j, j ≠ 3 → setR r 3 (some q) j = r j := fun j hj => setR_other _ _ hj
  rw [e, Bc.set9] at hb
  have hOw : Own base (setR r 3 (some q)) w' := h.sht.own.set h.sht.base hf.size 3 (some q) fun x ex => by
    simp only [Option.some.injEq] at ex
    subst ex
    exact .inr ⟨hq, hql⟩
  refine ⟨q, cap, ⟨⟨hs.at_, hs.of, hOw, ⟨by rw [o1 1 (by decide)]; exact hs.ro.r1, by rw [o1 2 (by decide)]; exact hs.ro.r2, by rw [o1 4 (by decide)]; exact hs.ro.r4, by rw [o1 5 (by decide)]; exact hs.ro.r5, by rw [o1 6 (by decide)]; exact hs.ro.r6⟩, hs.base⟩, hb, ⟨ho.height, ho.depth, ho.top, ho.bot, ho.cls, rfl, q, 0, hN, fun a ea => by simpa using ea.symm⟩, by rw [o1 0 (by decide)]; exact h.r0, setR_same _ _ _, by rw [o1 7 (by decide)]; exact h.r7⟩, fun i x ex => ?_⟩
  by_cases hi : i = 3
  · subst hi
    rw [setR_same] at ex
    simp only [Option.some.injEq] at ex
    subst ex
    exact .inr hq
  · rw [o1 i hi] at ex
    exact .inl ex
end Go.Proofs.YtomehdepjenilaaGreat
