/-
  Between the makers of 'x.f = append(x.f, y...)' in a region that draws its order: a load, an append of nodes that lie somewhere, a store. No statement of the seat stands here.
-/
import Derived.Test.YtomehdepjenilaaGreatH12
import Derived.Test.YtomehdepjenilaaGreatJ1
import Derived.RegionTactic
import Derived.Deep.RegionLaw
import Derived.StillTailTactics
namespace Go.Proofs.YtomehdepjenilaaGreat
open Go.ChangeShapes Go.WideShapes Go.ChangeAt Go.RowKit
structure JX (w0 : World) (P : Nat) (a0 : Array Value) (ty : TypeId) (o base : Nat) (v0 : Value) (n m : Nat) (xs ys : List Value) (iL iA iS : Nat) (mk : Nat → Bool) (us : Nat → Value) (W : World) : Prop where
  frm : Frm (fun k => k = P ∨ v0.ownBlock = some k) w0 W
  ld : mk iL = true → us iL = v0
  dA : mk iA = true → mk iL = true
  dS : mk iS = true → mk iA = true
  pre : mk iA = false → W.ownsRow base 49 19 v0 n xs ∧ Cb W P a0 ty
  mid : mk iA = true → ∃ g cap, us iA = .slice (some ⟨g, 0, none⟩) (n + m) cap ∧ W.ownsRow base 49 19 (.slice (some ⟨g, 0, none⟩) (n + m) cap) (n + m) (xs ++ ys) ∧ (v0.ownBlock = some g ∨ w0.heap.size ≤ g) ∧ Cb W P (if mk iS = true then a0.setIfInBounds o (.slice (some ⟨g, 0, none⟩) (n + m) cap) else a0) ty
section
variable {w0 W W' : World} {P o base n m iL iA iS : Nat} {a0 : Array Value} {ty : TypeId} {v0 : Value} {xs ys : List Value} {mk : Nat → Bool} {us : Nat → Value}
theorem JX.init (hr : w0.ownsRow base 49 19 v0 n xs) (hP : Cb w0 P a0 ty) : JX w0 P a0 ty o base v0 n m xs ys iL iA iS (fun _ => false) us w0.drew :=
  ⟨(Frm.refl _ _).drew, (fun h => by cases h), (fun h => by cases h), (fun h => by cases h), (fun _ => ⟨hr, hP⟩), (fun h => by cases h)⟩
theorem JX.load (h : JX w0 P a0 ty o base v0 n m xs ys iL iA iS mk us W) (hL : mk iL = false) (h1 : iL ≠ iA) (h2 : iL ≠ iS) : JX w0 P a0 ty o base v0 n m xs ys iL iA iS (fun j => mk j || j == iL) (fun j => if j = iL then v0 else us j) W := by
  have hA : mk iA = false := by
    cases e : mk iA
    · rfl
    · have := h.dA e; rw [hL] at this; cases this
  have hS : mk iS = false := by
    cases e : mk iS
    · rfl
    · have := h.dS e; rw [hA] at this; cases this
  have b1 : (iA == iL) = false := by simpa using fun e => h1 e.symm
  have b2 : (iS == iL) = false := by simpa using fun e => h2 e.symm
  refine ⟨h.frm, fun _ => by simp, fun e => by simp, fun e => ?_, fun _ => h.pre hA, fun e => ?_⟩
  · simp [hS, b2] at e
  · simp [hA, b1] at e
theorem JX.app (h : JX w0 P a0 ty o base v0 n m xs ys iL iA iS mk us W) (hL : mk iL = true) (hA : mk iA = false) (h1 : iL ≠ iA) (h2 : iA ≠ iS) (hPb : v0.ownBlock ≠ some P) {g cap : Nat} (hown : W'.ownsRow base 49 19 (.slice (some ⟨g, 0, none⟩) (n + m) cap) (n + m) (xs ++ ys)) (hgrow : W.grownBy W' v0.ownBlock) (hat : v0.ownBlock = some g ∨ g = W.heap.size) :
    JX w0 P a0 ty o base v0 n m xs ys iL iA iS (fun j => mk j || j == iA) (fun j => if j = iA then .slice (some ⟨g, 0, none⟩) (n + m) cap else us j) W' := by
  have hS : mk iS = false := by
    cases e : mk iS
    · rfl
    · have := h.dS e; rw [hA] at this; cases this
  have b2 : (iS == iA) = false := by simpa using fun e => h2 e.symm
  have hp := (h.pre hA).2
  refine ⟨h.frm.grown hgrow fun k hk _ => .inr hk, fun _ => by simp only [if_neg h1]; exact h.ld hL, fun _ => by simp [hL], fun e => by simp, fun e => by simp at e, fun _ => ⟨g, cap, by simp, hown, ?_, ?_⟩⟩
  · rcases hat with e | e
    · exact .inl e
    · exact .inr (by rw [e]; exact h.frm.size)
  · simp only [hS, b2, Bool.or_false, Bool.false_eq_true, if_false]
    exact (hgrow.block P hp.lt fun e => hPb e.symm).trans hp
theorem JX.store (h : JX w0 P a0 ty o base v0 n m xs ys iL iA iS mk us W) (hA : mk iA = true) (hS : mk iS = false) (h2 : iA ≠ iS) (h3 : iL ≠ iS) {g cap : Nat} (hu : us iA = .slice (some ⟨g, 0, none⟩) (n + m) cap) (hgP : g ≠ P) (u : Value) :
    JX w0 P a0 ty o base v0 n m xs ys iL iA iS (fun j => mk j || j == iS) (fun j => if j = iS then u else us j) (W.setCell ⟨P, o, none⟩ (.slice (some ⟨g, 0, none⟩) (n + m) cap)) := by
  obtain ⟨g', cap', e1, e2, e3, e4⟩ := h.mid hA
  rw [hu] at e1
  simp only [Value.slice.injEq, Option.some.injEq, Addr.mk.injEq, and_true, true_and] at e1
  obtain ⟨rfl, rfl⟩ := e1
  rw [if_neg (by rw [hS]; decide)] at e4
  refine ⟨h.frm.setCell (p := ⟨P, o, none⟩) (fun _ => .inl rfl) _, fun e => ?_, fun e => ?_, fun e => by simp [hA], fun e => ?_, fun _ => ⟨g, cap, by simp only [if_neg h2]; exact hu, ?_, e3, ?_⟩⟩
  · simp only [if_neg h3]; exact h.ld (h.dA hA)
  · simp [h.dA hA]
  · simp [hA] at e
  · exact ownsRow_same e2 fun q hq _ => by
      simp only [Value.ownBlock, Option.some.injEq] at hq
      subst hq
      exact Below.heap_setCell _ _ _ _ hgP
  · have b : (mk iS || iS == iS) = true := by simp
    simp only [b, if_true]
    exact e4.set o _ rfl
end
set_option maxRecDepth 100000 in
set_option maxHeartbeats 16000000 in
theorem deal_0 (w : World) (base B : Nat) (r : Nat → Option Nat) (b : Bc) (c : Sc) (g : Gr) (bot : ByteArray) (W : List Nd) (R : Rw) (h : BdR w base B r b c g bot W R) (hI : R.ins = []) (P : Nat) (T : Pc) (hP : Lc w r P T.arr 46) (hT : T.boxA = none ∧ T.boxN = 0 ∧ T.boxC = 0 ∧ T.insA = none ∧ T.insN = 0 ∧ T.insC = 0) (k : Nat) (hk : 0 < k) (hkl : k ≤ R.list.length) (hlen : R.list.length ≤ 800000000000) :
    Calls Tryz.prog 143 #[.pointer (some ⟨B, 0, none⟩), .pointer (some ⟨P, 0, none⟩), .int .i64 k] w fun e w' => e = .returned (.tuple #[]) ∧ (∃ q cap, PgAt w' P { T with boxA := some ⟨q, 0, none⟩, boxN := k, boxC := cap } ∧ w'.ownsRow w.heap.size 49 19 (.slice (some ⟨q, 0, none⟩) k cap) k ((R.list.take k).flatMap Nd.cells)) ∧ Frm (· = P) w w' := by
  obtain ⟨t1, t2, t3, t4, t5, t6⟩ := hT
  have hlr := h.sht.of.list
  have hln : c.listN = R.list.length := owns_len hlr
  have hin : c.insN = 0 := by have := owns_len h.sht.of.ins; rw [hI] at this; simpa using this
  have hnn := row_nodes hlr (by omega)
  obtain ⟨_, p4, g4, c4, e4, hN4, _⟩ := hnn
  have hLne : R.list ≠ [] := by intro e; rw [e] at hkl; simp at hkl; omega
  obtain rfl := hN4.hp hLne
  simp only [Value.slice.injEq] at e4
  obtain ⟨ea, en, ec⟩ := e4
  have hm0 := @run_makeMap Tryz.prog
  have hw1 : Below w.heap.size w (w.alloc (.map #[] 0)) := (Below.refl _ _).alloc (Nat.le_refl _) _
  have cs := h.at_.cell 8 _ (Bc.get8 b)
  have hBl := h.at_.lt
  have H := Lib.hid h
  have HP := Lib.hid hP
  have HN := Lib.hid hN4
  have Hln := Lib.hid (And.intro ea (And.intro hln (And.intro ec hin)))
  clear h hP hlr hN4 ea hln ec hin en hI hLne
  go_enter Tryz.func143, Tryz.ntmps143
  go_upto_region 3 with (fail)
  have h1 := H.out.below hw1
  have hP1 := HP.out.below hw1
  have hN1 := HN.out.below hw1
  have c16 : (w.alloc (.map #[] 0)).cell? ⟨b.sheet, 16, none⟩ = some (.slice c.insA 0 c.insC) := by
    have := h1.sht.at_.cell 16 _ (Sc.get16 c)
    rw [Hln.out.2.2.2] at this
    exact this
  have c0 : (w.alloc (.map #[] 0)).cell? ⟨b.sheet, 0, none⟩ = some (.slice (some ⟨g4, 0, none⟩) R.list.length c4) := by rw [← Hln.out.1, ← Hln.out.2.1, ← Hln.out.2.2.1]; exact h1.sht.at_.cell 0 _ (Sc.get0 c)
  have HB1 := Lib.hid hw1
  have H1 := Lib.hid h1
  have HP1 := Lib.hid hP1
  have HN1 := Lib.hid hN1
  clear hw1 h1 hP1 hN1 cs hBl
  generalize w.alloc (.map #[] 0) = w1 at c16 c0 HB1 H1 HP1 HN1 ⊢
  go_wp2_with fail
  go_loopg [8, 26] 1 (fun gg t8 t26 wr => gg = 1 ∧ t8 = .int .i64 0 ∧ t26 = .int .i64 0 ∧ wr = w1)
  case atStart => exact ⟨rfl, rfl, rfl, rfl⟩
  case round =>
    obtain ⟨rfl, rfl, rfl, rfl⟩ := hrel
    go_wp2_with fail
    have p0 := HP1.out.at_.cell 0 _ (Pc.get0 T)
    have pf := HP1.out.at_.frozen 0
    rw [t1, t2, t3] at p0
    obtain ⟨i0, hi0', hz0, hz1, hz2'⟩ := info_parts info_node
    have hkI : (k : Int) ≤ (R.list.length : Int) := by omega
    have hkc : (k : Int) ≤ (c4 : Int) := by have := HN1.out.cap'; omega
    have hk0 : (0 : Int) ≤ (k : Int) := by omega
    have hkn : (R.list.take k).length = k := by simp; omega
    have hNt := HN1.out.take k
    have Hnews := Lib.hid (And.intro (hNt.drew).news (nodes_one (R.list.take k)))
    have Hkn := Lib.hid hkn
    have hbs : w.heap.size ≤ wr.heap.size := HB1.out.size
    have hPl : P < wr.heap.size := HP1.out.at_.lt
    clear hkn hNt c16
    have hfl : ((R.list.take k).flatMap Nd.cells).length = k * 19 := by rw [flat_len, Hkn.out]
    have Hfl := Lib.hid hfl
    have hgP : g4 ≠ P := fun e => HP1.out.off ⟨2, by rw [H1.out.sht.ro.r2, Hln.out.1, ← e]; rfl⟩
    have hSP : b.sheet ≠ P := fun e => HP1.out.off ⟨1, by rw [H1.out.sht.ro.r1, e]⟩
    have HNews : Hid (∀ W9, Frm (fun z => z = P ∨ (Value.slice none 0 0).ownBlock = some z) wr W9 → ∀ j u, ((R.list.take k).flatMap Nd.cells)[j]? = some u → W9.cell? ((⟨g4, 0, none⟩ : Addr).add j) = some u) := Lib.hid fun W9 hf => ((HN1.out.take k).same9 hf.size fun _ => hf.block g4 (HN1.out.hb (by intro e; rw [e] at hkl; simp at hkl; omega)) fun e => by
      rcases e with e | e
      · exact hgP e
      · simp [Value.ownBlock] at e).news
    have HC : Hid (∀ W9, Frm (fun z => z = P ∨ (Value.slice none 0 0).ownBlock = some z) wr W9 → W9.cell? ⟨b.sheet, 0, none⟩ = some (.slice (some ⟨g4, 0, none⟩) R.list.length c4)) := Lib.hid fun W9 hf => by
      have := (H1.out.sht.at_.frm hf fun e => by
        rcases e with e | e
        · exact hSP e
        · simp [Value.ownBlock] at e).cell 0 _ (Sc.get0 c)
      rw [Hln.out.1, Hln.out.2.1, Hln.out.2.2.1] at this
      exact this
    refine region_makers [4, 12, 15] (fun W9 => Frm (fun z => z = P ∨ (Value.slice none 0 0).ownBlock = some z) wr W9) (JX wr P T.arr 46 0 w.heap.size (.slice none 0 0) 0 k [] ((R.list.take k).flatMap Nd.cells) 4 12 15) follows (by kernel_rfl) (fun m us W9 h9 => h9.frm) (fun us => JX.init (World.ownsRow_nil _ _ _ _) HP1.out.at_) ?_
    iterate 16 first
      | (refine TK.pass rfl ?_)
      | (refine TK.read rfl _ (by intro wT hT KT hK; simp only [Act.put, lsA, lsB, lsC] at hK; have yb := HC.out _ hT; go_step; exact hK _ rfl) ?_; try simp only [Act.put, lsA, lsB, lsC])
    refine TK.nil fun us => ?_
    refine KW.step _ rfl (fun mm W1 hJ h7 hD RT hR => ?_) ?_
    · have hA : mm 12 = false := by
        cases e : mm 12
        · rfl
        · have := hJ.dA e; rw [h7] at this; cases this
      have y0 := (hJ.pre hA).2.cell 0 _ (Pc.get0 T)
      rw [t1, t2, t3] at y0
      simp only [Act.put] at hR
      go_step
      exact hR _ _ (hJ.load h7 (by decide) (by decide))
    try simp only [Act.put, lsA, lsB, lsC]
    refine KW.step _ rfl (fun mm W1 hJ h9 hD RT hR => ?_) ?_
    · have hL := hD 4 rfl (by kernel_rfl)
      have hl4 := hJ.ld hL
      have hbW : w.heap.size ≤ W1.heap.size := Nat.le_trans hbs hJ.frm.size
      refine wp_append_lies W1 (.tmp 162) (.tmp 169) 27 rfl w.heap.size 49 i0 (.agg Nd.zero.arr) 19 160 Tryz.underlying27 hi0' hz0 hz1 hz2' rfl (by decide) (.slice none 0 0) 0 [] hl4 (hJ.pre h9).1 ⟨g4, 0, none⟩ k c4 ((R.list.take k).flatMap Nd.cells) rfl Hfl.out (HNews.out _ hJ.frm) Hnews.out.2 hk (by unfold maxLen; omega) (by omega) hbW _ rfl ?_
      intro g7 cap7 w7 hown7 hgrow7 hat7 hlt7
      exact hR _ _ (hJ.app hL h9 (by decide) (by decide) (by simp [Value.ownBlock]) hown7 hgrow7 hat7)
    try simp only [Act.put, lsA, lsB, lsC]
    refine KW.step _ rfl (fun mm W1 hJ h15 hD RT hR => ?_) ?_
    · have hA := hD 12 rfl (by kernel_rfl)
      obtain ⟨g7, cap7, e7, hown7, hat7, hP7⟩ := hJ.mid hA
      have hg7 : g7 ≠ P := fun e => by
        rcases hat7 with h | h
        · simp [Value.ownBlock] at h
        · omega
      rw [if_neg (by rw [h15]; decide)] at hP7
      have y0 := hP7.cell 0 _ (Pc.get0 T)
      have yf := hP7.frozen 0
      have hst := hJ.store hA h15 (by decide) (by decide) e7 hg7 undef
      simp only [Act.put] at hR
      simp only [Nat.zero_add] at hst e7
      simp only [e7] at hR ⊢
      go_step
      exact hR undef _ hst
    simp only [Act.put]
    refine KW.nil fun w3 hJ3 => ?_
    obtain ⟨g7, cap7, e7, hown7, hat7, hP7⟩ := hJ3.mid rfl
    simp only [show ([4, 12, 15] : List Nat).contains 15 = true from rfl, if_true, Nat.zero_add, List.nil_append] at hP7 e7 hown7
    have hf3 := hJ3.frm
    have hPb : PgAt w3 P { T with boxA := some ⟨g7, 0, none⟩, boxN := k, boxC := cap7 } := by
      have h9 := hP7
      rw [Pc.set0] at h9
      exact h9
    have q1 := hPb.cell 1 _ (Pc.get1 _)
    have q1' : w3.cell? ⟨P, 1, none⟩ = some (.slice none 0 0) := by rw [q1]; simp only [t4, t5, t6]
    have HF := Lib.hid ((Frm.of_below (K := (· = P)) HB1.out).trans (K' := fun z => z = P ∨ (Value.slice none 0 0).ownBlock = some z) hf3 fun z _ e => by
      rcases e with e | e
      · exact e
      · simp [Value.ownBlock] at e)
    have HPb := Lib.hid (And.intro hPb hown7)
    clear hJ3 hP7 e7 hown7 hat7 hf3 q1 hPb
    go_upto_region 24 with (go_at_call 157; refine (sort_0 _ _).mono ?_; rintro e w4 ⟨rfl, rfl⟩)
    go_loopg [183] 1 (fun gg t183 wz => gg = 1 ∧ t183 = .int .i64 0 ∧ wz = w4)
    case atStart => exact ⟨rfl, rfl, rfl⟩
    case round =>
      obtain ⟨rfl, rfl, rfl⟩ := hrel
      go_wp2_with fail
      exact ⟨rfl, _, results_none rfl _ _ _, rfl, ⟨g7, cap7, HPb.out.1, HPb.out.2⟩, HF.out⟩
end Go.Proofs.YtomehdepjenilaaGreat
