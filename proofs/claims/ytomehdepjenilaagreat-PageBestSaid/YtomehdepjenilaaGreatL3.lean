/-
  vlist.legal: a column's legal breaks, one by one: the iterator's contract.
-/
import Derived.Test.YtomehdepjenilaaGreatV11b
import Derived.Test.YtomehdepjenilaaGreatL1
import Derived.Test.YtomehdepjenilaaGreatV10
set_option maxHeartbeats 8000000
namespace Go.Proofs.YtomehdepjenilaaGreat
open Go.ChangeShapes Go.WideShapes Go.ChangeAt Go.RowKit Go.Shelf
attribute [local go_sem] Oper.semAt_some
theorem legal_any (p0 : Option Addr) (len cap : Nat) (w : World) : Calls Tryz.prog 64 #[.slice p0 len cap] w fun e w' =>
    e = .returned (.func (.func 86) #[] #[.pointer (some ⟨w.heap.size, 0, none⟩)]) ∧ w' = w.alloc (.cells #[.slice p0 len cap] 27) := by
  go_enter Tryz.func64, Tryz.ntmps64
  go_wp2
  go_ret
  exact ⟨rfl, rfl⟩
def KpL (n₀ Bs B : Nat) (A C : World) : Prop := Below n₀ A C ∧ C.heap[Bs]? = A.heap[Bs]? ∧ (∀ r, B ≤ r → r < B + 3 → C.heap[r]? = A.heap[r]?) ∧ KeepsFrom B A C
theorem kpL_t {n₀ Bs B : Nat} {X Y Z : World} (h : KpL n₀ Bs B X Y) (k : KpL n₀ Bs B Y Z) : KpL n₀ Bs B X Z := ⟨h.1.trans k.1, k.2.1.trans h.2.1, fun r h1 h2 => (k.2.2.1 r h1 h2).trans (h.2.2.1 r h1 h2), h.2.2.2.trans k.2.2.2⟩
def LgI (W0 : World) (n₀ Bs B yl : Nat) (p0 : Option Addr) (cap : Nat) (L : List Nd) (s : List Nat) (J : List (Br L s) → World → Prop) (pre : List {i : Nat // i ∈ s}) (W : World) : Prop :=
  (Boxed W B 146 (.func (.yield yl) #[] #[]) ∧ Boxed W (B + 1) 3 (.int .i64 (lastV (lastO none (pre.map (·.1))))) ∧ Boxed W (B + 2) 27 (.slice p0 L.length cap) ∧ Boxed W Bs 27 (.slice p0 L.length cap)) ∧
    Below n₀ W0 W ∧ (∃ ys : List (Br L s), ys.map (·.1) = breaksF L none (pre.map (·.1)) ∧ J ys W) ∧ B + 3 ≤ W.heap.size
def LgX (L : List Nd) (s : List Nat) (Jx : List (Br L s) → World → Prop) (c : Code) (pre : List {i : Nat // i ∈ s}) (W : World) : Prop := c = .ret ∧ ∃ ys : List (Br L s), ys.map (·.1) = breaksF L none (pre.map (·.1)) ∧ Jx ys W
theorem roundIn_wide {n m l y : Nat} {P : Program} {f : FuncId} {tmps : Array Value} {asg bdy : Code} {A : World} {R : Ending → World → Prop} (h : RoundIn Fence.wide n P y f tmps asg bdy A R) : RoundIn (Fence.wide.inRound l) m P y f tmps asg bdy A R := ⟨trivial, fun c cs _ => h.2 c cs (room_wide _)⟩
theorem grownBy_below {A C : World} (h : Below A.heap.size A C) : A.grownBy C none := ⟨h.os, h.tape, h.output, h.size, fun k hk _ => h.block k hk⟩
theorem lgI_own {W0 : World} {n₀ Bs B yl B' : Nat} {p0 : Option Addr} {cap : Nat} {L : List Nd} {s : List Nat} {J : List (Br L s) → World → Prop} (hJ : Abides B 3 J) (h0 : n₀ ≤ W0.heap.size) (h1 : n₀ ≤ B) (hB : B ≤ B') : OwnFrom B' (LgI W0 n₀ Bs B yl p0 cap L s J) :=
  OwnFrom.and (OwnFrom.and (Own.from (boxed_own _ _ _) _) (OwnFrom.and (Own.from (boxed_own _ _ _) _) (OwnFrom.and (Own.from (boxed_own _ _ _) _) (Own.from (boxed_own _ _ _) _))))
    (OwnFrom.and (ownFrom_below h0 (Nat.le_trans h1 hB)) (OwnFrom.and (fun s A C row hs hg hr => by
      obtain ⟨ys, h2, h3⟩ := hs
      exact ⟨ys, h2, hJ.from hB ys A C row h3 hg hr⟩) (fun s A C row hs hg _ => Nat.le_trans hs hg.size)))
theorem lgX_own {B B' : Nat} {L : List Nd} {s : List Nat} {Jx : List (Br L s) → World → Prop} (hJ : Abides B 3 Jx) (hB : B ≤ B') (c : Code) : OwnFrom B' (LgX L s Jx c) := fun s A C row hs hg hr => by
  obtain ⟨h1, ys, h2, h3⟩ := hs
  exact ⟨h1, ys, h2, hJ.from hB ys A C row h3 hg hr⟩
structure LgM (W0 : World) (n₀ Bs B yl : Nat) (p0 : Option Addr) (cap : Nat) (L : List Nd) (s : List Nat) (J : List (Br L s) → World → Prop) (A : World) (x : Nat) (C : World) : Prop where
  keeps : KeepsFrom (B + 3) A C
  kp : KpI n₀ (B + 2) A C
  b0 : Boxed C B 146 (.func (.yield yl) #[] #[])
  b1 : Boxed C (B + 1) 3 (.int .i64 (x : Nat))
  b2 : Boxed C (B + 2) 27 (.slice p0 L.length cap)
  bs : Boxed C Bs 27 (.slice p0 L.length cap)
  below : Below n₀ W0 C
  size : B + 3 ≤ C.heap.size
  js : ∀ ys, J ys A → J ys C
section
variable {W0 A W1 : World} {n₀ Bs B yl : Nat} {p0 : Option Addr} {cap : Nat} {L : List Nd} {s : List Nat} {J Jx : List (Br L s) → World → Prop} {pre : List {i : Nat // i ∈ s}}
theorem lg_store (hI : LgI W0 n₀ Bs B yl p0 cap L s J pre A) (hJ : Abides B 3 J) (hn₀ : n₀ ≤ B) (hBs : Bs < B) (hA : Below A.heap.size A W1) (x : Nat) : LgM W0 n₀ Bs B yl p0 cap L s J A x (W1.setCell ⟨B + 1, 0, none⟩ (.int .i64 (x : Nat))) := by
  obtain ⟨⟨i0, i1, i2, iS⟩, i5, _, i6⟩ := hI
  have hz := hA.size
  have k0 : Boxed W1 B 146 (.func (.yield yl) #[] #[]) := (hA.block _ i0.lt).trans i0
  have k1 : Boxed W1 (B + 1) 3 (.int .i64 (lastV (lastO none (pre.map (·.1))))) := (hA.block _ i1.lt).trans i1
  have k2 : Boxed W1 (B + 2) 27 (.slice p0 L.length cap) := (hA.block _ i2.lt).trans i2
  have kS : Boxed W1 Bs 27 (.slice p0 L.length cap) := (hA.block _ iS.lt).trans iS
  have hAn : Below n₀ A (W1.setCell ⟨B + 1, 0, none⟩ (.int .i64 (x : Nat))) := (hA.mono (by omega)).setCell (p := ⟨B + 1, 0, none⟩) (by simp only; omega) _
  refine ⟨((keepsOthers_below hA).trans (KeepsOthers.setCell _ _ _)).from _, ⟨hAn, (Below.heap_setCell _ _ _ _ (by simp only; omega)).trans (hA.block _ i2.lt)⟩, k0.other (by omega) _, Boxed.set _ k1, k2.other (by omega) _, kS.other (by omega) _, i5.trans hAn, by have := hAn.size; omega, fun ys hy => ?_⟩
  exact hJ ys W1 _ (some (B + 1)) (hJ ys A W1 none hy (grownBy_below hA) (fun r e => by cases e)) (grownBy_setCell' W1 (B + 1) _) (fun r e => by cases e; exact ⟨by omega, .inl (by omega)⟩)
theorem LgM.on {x : Nat} {C : World} (h : LgM W0 n₀ Bs B yl p0 cap L s J A x C) (hx : x ∈ s) (hI : LgI W0 n₀ Bs B yl p0 cap L s J pre A) (hq : ¬ qOf L (lastO none (pre.map (·.1))) x < 10000) :
    KeepsFrom (B + 3) A C ∧ KpI n₀ (B + 2) A C ∧ LgI W0 n₀ Bs B yl p0 cap L s J (pre ++ [⟨x, hx⟩]) C := by
  obtain ⟨ys, hy1, hy2⟩ := hI.2.2.1
  have e : List.map (fun i : {i : Nat // i ∈ s} => i.1) (pre ++ [⟨x, hx⟩]) = pre.map (·.1) ++ [x] := by rw [List.map_append]; rfl
  refine ⟨h.keeps, h.kp, ⟨h.b0, ?_, h.b2, h.bs⟩, h.below, ⟨ys, ?_, h.js _ hy2⟩, h.size⟩
  · rw [e, lastO_snoc]; exact h.b1
  · rw [e, breaksF_snoc, hy1]; unfold brk; rw [if_neg hq, List.append_nil]
theorem LgM.yes {x : Nat} {C D : World} (h : LgM W0 n₀ Bs B yl p0 cap L s J A x C) (hx : x ∈ s) {ys : List (Br L s)} {q : Int} (hq : qOf L (lastO none (pre.map (·.1))) x = q) (hq2 : q < 10000) (hm : BrOk L s (x, q)) (hys : ys.map (·.1) = breaksF L none (pre.map (·.1))) (hJ : J (ys ++ [⟨(x, q), hm⟩]) D) (hk : KpL n₀ Bs B C D) :
    KeepsFrom (B + 3) A D ∧ KpI n₀ (B + 2) A D ∧ LgI W0 n₀ Bs B yl p0 cap L s J (pre ++ [⟨x, hx⟩]) D := by
  have e : List.map (fun i : {i : Nat // i ∈ s} => i.1) (pre ++ [⟨x, hx⟩]) = pre.map (·.1) ++ [x] := by rw [List.map_append]; rfl
  have hkf : KeepsFrom (B + 3) C D := ⟨hk.2.2.2.size, fun k o hk2 => hk.2.2.2.same k o (by omega)⟩
  refine ⟨h.keeps.trans hkf, kpI_t h.kp ⟨hk.1, hk.2.2.1 _ (by omega) (by omega)⟩, ⟨(hk.2.2.1 _ (by omega) (by omega)).trans h.b0, ?_, (hk.2.2.1 _ (by omega) (by omega)).trans h.b2, hk.2.1.trans h.bs⟩, h.below.trans hk.1, ⟨_, ?_, hJ⟩, Nat.le_trans h.size hk.2.2.2.size⟩
  · rw [e, lastO_snoc]; exact (hk.2.2.1 _ (by omega) (by omega)).trans h.b1
  · rw [e, breaksF_snoc, List.map_append, hys, hq]; simp [brk, hq2]
theorem LgM.no {x : Nat} {C D : World} (h : LgM W0 n₀ Bs B yl p0 cap L s J A x C) (hx : x ∈ s) {ys : List (Br L s)} {q : Int} (hq : qOf L (lastO none (pre.map (·.1))) x = q) (hq2 : q < 10000) (hm : BrOk L s (x, q)) (hys : ys.map (·.1) = breaksF L none (pre.map (·.1))) (hJ : Jx (ys ++ [⟨(x, q), hm⟩]) D) (hk : KeepsFrom B C D) :
    KeepsFrom (B + 3) A D ∧ LgX L s Jx .ret (pre ++ [⟨x, hx⟩]) D := by
  have hkf : KeepsFrom (B + 3) C D := ⟨hk.size, fun k o hk2 => hk.same k o (by omega)⟩
  have e : List.map (fun i : {i : Nat // i ∈ s} => i.1) (pre ++ [⟨x, hx⟩]) = pre.map (·.1) ++ [x] := by rw [List.map_append]; rfl
  refine ⟨h.keeps.trans hkf, rfl, _, ?_, hJ⟩
  rw [e, breaksF_snoc, List.map_append, hys, hq]; simp [brk, hq2]
end
set_option maxRecDepth 100000 in
theorem legal_seq (n : Nat) (hn : n = 7) (Bs n₀ b off cap : Nat) (p0 : Option Addr) (L : List Nd) (s : List Nat) (hs : Items L 0 s) (hl : L.length ≤ 2000) (w : World) (hBs : w.heap[Bs]? = some (.cells #[.slice p0 L.length cap] 27 (0, 0))) (hN : NIn w p0 b off cap L) (hb : L ≠ [] → b < n₀) (hn₀ : n₀ ≤ w.heap.size) :
    SeqCells Fence.wide n Tryz.prog 86 #[.pointer (some ⟨Bs, 0, none⟩)] (fun x : Br L s => #[.int .i64 (x.1.1 : Nat), .int .i64 x.1.2]) (KpL n₀ Bs) (fun ys => ys.map (·.1) = legalP L s) (fun pre => pre.map (·.1) <+: legalP L s) (s.length + 1) 3 w := by
  subst hn
  intro yl J Jx W hW hJ hJx hY h0
  have eS : Boxed W Bs 27 (.slice p0 L.length cap) := (hW.block Bs (Array.getElem?_eq_some_iff.1 hBs).1).trans hBs
  have HN := Lib.hid (hN.below hW)
  have HY := Lib.hid hY
  have H0 := Lib.hid h0
  have HJ := Lib.hid hJ
  have HJx := Lib.hid hJx
  have hz0 : n₀ ≤ W.heap.size := Nat.le_trans hn₀ hW.size
  have c0 := eS.cell
  have HI : Hid (∀ A, Calls Tryz.prog 85 #[.slice p0 L.length cap] A fun e w' => e = .returned (.func (.func 99) #[] #[.pointer (some ⟨A.heap.size, 0, none⟩)]) ∧ w' = A.alloc (.cells #[.slice p0 L.length cap] 27)) := Lib.hid (items_any p0 L.length cap)
  clear hN hY h0 hJ hJx hBs hW
  refine callsIn_of_wp_marks Tryz.func86 rfl trivial ?_ rfl
  simp only [Tryz.ntmps86, List.size_toArray, List.length_cons, List.length_nil, Nat.reduceAdd, Nat.reduceSub, Array.replicate_succ, Array.replicate_zero, List.push_toArray, List.append_toArray, List.nil_append, List.cons_append]
  gi_upto_region 2 with (fail)
  have g0 : Boxed ((W.alloc (.cells #[.func (.yield yl) #[] #[]] 146)).alloc (.cells #[.int .i64 (-1)] 3)) W.heap.size 146 (.func (.yield yl) #[] #[]) := (Boxed.new W _ _).alloc _
  have g1 : Boxed ((W.alloc (.cells #[.func (.yield yl) #[] #[]] 146)).alloc (.cells #[.int .i64 (-1)] 3)) (W.heap.size + 1) 3 (.int .i64 (-1)) := by have := Boxed.new (W.alloc (.cells #[.func (.yield yl) #[] #[]] 146)) 3 (.int .i64 (-1)); rwa [World.size_alloc] at this
  have gS := (eS.alloc (.cells #[.func (.yield yl) #[] #[]] 146)).alloc (.cells #[.int .i64 (-1)] 3)
  have gb : Below W.heap.size W ((W.alloc (.cells #[.func (.yield yl) #[] #[]] 146)).alloc (.cells #[.int .i64 (-1)] 3)) := ((Below.refl _ W).alloc (Nat.le_refl _) _).alloc (by simp) _
  have gz : ((W.alloc (.cells #[.func (.yield yl) #[] #[]] 146)).alloc (.cells #[.int .i64 (-1)] 3)).heap.size = W.heap.size + 2 := by simp
  have gJ : Hid (J [] ((W.alloc (.cells #[.func (.yield yl) #[] #[]] 146)).alloc (.cells #[.int .i64 (-1)] 3))) := Lib.hid (HJ.out.alloc _ (HJ.out.alloc _ H0.out))
  have hBlt := eS.lt
  generalize (W.alloc (.cells #[.func (.yield yl) #[] #[]] 146)).alloc (.cells #[.int .i64 (-1)] 3) = w2 at g0 g1 gS gb gz gJ ⊢
  have GZ := Lib.hid gz
  have gz2 : W.heap.size + 2 ≤ w2.heap.size := by omega
  have c2 := gS.cell
  clear gz c0 eS H0
  gi_wp2
  refine ⟨trivial, (callsIn_wide.2 (HI.out _)).mono ?_⟩
  clear HI
  rintro e w4 ⟨rfl, rfl⟩
  have k0 := g0.alloc (.cells #[.slice p0 L.length cap] 27)
  have k1 := g1.alloc (.cells #[.slice p0 L.length cap] 27)
  have kS := gS.alloc (.cells #[.slice p0 L.length cap] 27)
  have kI := Boxed.new w2 27 (.slice p0 L.length cap)
  have kb := gb.alloc (by omega) (.cells #[.slice p0 L.length cap] 27)
  have kJ : Hid (J [] (w2.alloc (.cells #[.slice p0 L.length cap] 27))) := Lib.hid (HJ.out.alloc _ gJ.out)
  have kz : (w2.alloc (.cells #[.slice p0 L.length cap] 27)).heap.size = w2.heap.size + 1 := by simp
  clear g0 g1 gS gb gJ c2
  gi_wp2
  generalize w2.alloc (.cells #[.slice p0 L.length cap] 27) = w5 at k0 k1 kS kI kb kJ kz ⊢
  rw [GZ.out] at kI kz ⊢
  have hBle : W.heap.size ≤ w5.heap.size := by omega
  have HZ5 : Hid (w5.heap.size = W.heap.size + 3) := Lib.hid (by omega)
  clear kz gz2
  refine wpIn_rangeFunc_ownG rfl (by decide) (gf := 99) (lb := #[.pointer (some ⟨W.heap.size + 2, 0, none⟩)]) rfl trivial (enters_of Tryz.func99 (by kernel_rfl) rfl)
    (items_stops 6 (by decide) (W.heap.size + 2) n₀ b off cap p0 L s hs w5 kI (HN.out.below kb) hb) kpI_t (kpI_b (Nat.le_trans hz0 hBle) (by have := HZ5.out; omega)) (Below.refl _ _) (fun _ => rfl)
    (LgI W n₀ Bs W.heap.size yl p0 cap L s J) (LgX L s Jx) (lgI_own HJ.out hz0 hz0 hBle) (lgX_own HJx.out hBle) ?h0 ?a₁ ?assign ?body ?done ?stop
  case assign =>
    intro l x W K hK
    gi_wp2
    exact hK
  case h0 => exact ⟨⟨k0, k1, kI, kS⟩, kb.mono hz0, ⟨[], rfl, kJ.out⟩, Nat.le_of_eq HZ5.out.symm⟩
  case body =>
    rintro l pre x A hA hlt
    have HA := Lib.hid hA
    obtain ⟨⟨i0, i1, i2, iS⟩, i5, ⟨ys, hys, hJy⟩, i6⟩ := hA
    obtain ⟨hx1, hx2⟩ := hs.lt x.1 x.2
    have hNA : NIn A p0 b off cap L := HN.out.kept hb i5
    have xa := hNA.nth hx2
    obtain ⟨n, hn⟩ : ∃ n, nth L x.1 = n := ⟨_, rfl⟩
    rw [hn] at xa
    have Hn := Lib.hid hn
    obtain rfl := hNA.at_ hx2
    have hx3 : (0 : Int) ≤ (x.1 : Int) := by omega
    have hx4 : (x.1 : Int) < (L.length : Int) := by omega
    have hz6 : W.heap.size + 3 ≤ A.heap.size := i6
    have HStore : Hid (∀ A1, Below A.heap.size A A1 → LgM W n₀ Bs W.heap.size yl (some ⟨b, off, none⟩) cap L s J A x.1 (A1.setCell ⟨W.heap.size + 1, 0, none⟩ (.int .i64 (x.1 : Nat)))) := Lib.hid fun A1 h1 => lg_store HA.out HJ.out hz0 hBlt h1 x.1
    have hylen : ys.length < s.length + 1 := by
      have := congrArg List.length hys
      rw [List.length_map] at this
      have h2 := breaksF_len L (pre.map (·.1)) none
      rw [List.length_map] at h2
      omega
    -- no break
    have HOn : Hid (¬ qOf L (lastO none (pre.map (·.1))) x.1 < 10000 → ∀ C, LgM W n₀ Bs W.heap.size yl (some ⟨b, off, none⟩) cap L s J A x.1 C → KeepsFrom w5.heap.size A C ∧ KpI n₀ (W.heap.size + 2) A C ∧ LgI W n₀ Bs W.heap.size yl (some ⟨b, off, none⟩) cap L s J (pre ++ [x]) C) := Lib.hid fun hq C hM => by rw [HZ5.out]; exact hM.on x.2 HA.out hq
    -- a break
    have HBr : Hid (∀ q : Int, qOf L (lastO none (pre.map (·.1))) x.1 = q → q < 10000 → ∀ C, LgM W n₀ Bs W.heap.size yl (some ⟨b, off, none⟩) cap L s J A x.1 C → YieldAt Fence.wide (7 - 1) Tryz.prog yl #[.int .i64 (x.1 : Nat), .int .i64 q] C fun e D =>
        (e = .returned (.bool true) ∧ (KeepsFrom w5.heap.size A D ∧ KpI n₀ (W.heap.size + 2) A D ∧ LgI W n₀ Bs W.heap.size yl (some ⟨b, off, none⟩) cap L s J (pre ++ [x]) D)) ∨ (e = .returned (.bool false) ∧ (KeepsFrom w5.heap.size A D ∧ LgX L s Jx .ret (pre ++ [x]) D))) := Lib.hid fun q hq hq2 C hM => by
      have hm : BrOk L s (x.1, q) := .inl ⟨x.2, hq2, _, hq.symm⟩
      rw [HZ5.out]
      obtain ⟨fn, tmps, asg, bdy, hy1, hy2⟩ := HY.out ys ⟨(x.1, q), hm⟩ C (hM.js ys hJy) hylen hM.size
      refine ⟨fn, tmps, asg, bdy, hy1, hy2.mono ?_⟩
      rintro e D (⟨he, hJ, hk⟩ | ⟨he, hJ, hk⟩)
      · exact .inl ⟨he, hM.yes x.2 hq hq2 hm hys hJ hk⟩
      · exact .inr ⟨he, hM.no x.2 hq hq2 hm hys hJ hk⟩
    have hq0 : qOf L (lastO none (pre.map (·.1))) x.1 = if ((n.kind == 7) && (lastO none (pre.map (·.1))).any fun j => !fallsK (nth L j).kind) = true then 0 else if (n.kind == 8 && decide (x.1 + 1 < L.length) && (nth L (x.1 + 1)).kind == 7) = true then 0 else if (n.kind == 9) = true then n.pen else 10000 := by unfold qOf; rw [Hn.out]
    have HQ := Lib.hid hq0
    have hpm : ∀ j, lastO none (pre.map (·.1)) = some j → j < L.length := fun j hj => by
      obtain ⟨y, hy, rfl⟩ := List.mem_map.1 (lastO_mem hj)
      exact (hs.lt y.1 y.2).2
    have HPm := Lib.hid hpm
    have HNA := Lib.hid hNA
    clear hn i5 i6 hq0 hpm hNA hys hJy hylen
    have cS := iS.cell
    clear i0 i1 i2 iS
    gi_upto_region 6 with (fail)
    clear cS
    have dX : (A.alloc (.cells n.arr 49)).heap[A.heap.size]? = some (.cells n.arr 49 (0, 0)) := heap_alloc_new _ _
    have hbX : Below A.heap.size A (A.alloc (.cells n.arr 49)) := (Below.refl _ A).alloc (Nat.le_refl _) _
    generalize hA1 : A.alloc (.cells n.arr 49) = A1 at dX hbX ⊢
    clear hA1
    obtain ⟨⟨i0, i1, i2, iS⟩, _⟩ := HA.out
    have j0 : Boxed A1 W.heap.size 146 (.func (.yield yl) #[] #[]) := (hbX.block _ i0.lt).trans i0
    have j1 : Boxed A1 (W.heap.size + 1) 3 (.int .i64 (lastV (lastO none (pre.map (·.1))))) := (hbX.block _ i1.lt).trans i1
    have jS : Boxed A1 Bs 27 (.slice (some ⟨b, off, none⟩) L.length cap) := (hbX.block _ iS.lt).trans iS
    have c0 := j0.cell
    have c1 := j1.cell
    have cS := jS.cell
    have f1 := j1.frozen
    have x0 : A1.cell? ⟨A.heap.size, 0, none⟩ = some (.int .i64 n.kind) := by rw [cell?_blk' dX]; rfl
    have x16 : A1.cell? ⟨A.heap.size, 16, none⟩ = some (.int .i64 n.pen) := by rw [cell?_blk' dX]; rfl
    have hneq : W.heap.size ≠ W.heap.size + 1 := by omega
    have J0 := Lib.hid j0
    have J1 := Lib.hid j1
    have JS := Lib.hid jS
    clear i0 i1 i2 iS j0 j1 jS
    cases k7 : (n.kind == 7)
    · cases k8 : (n.kind == 8)
      · cases k9 : (n.kind == 9)
        · have HF := Lib.hid (HOn.out (by rw [HQ.out, k7, k8, k9]; simp) _ (HStore.out _ hbX))
          clear HQ HOn HBr HStore
          gi_wp2
          refine ⟨trivial, ?_⟩
          gi_wp2
          refine ⟨fun _ h => (by cases h), ?_⟩
          gi_wp2
          exact HF.out
        · by_cases hp : n.pen < 10000
          · obtain ⟨fn, tmps, asg, bdy, hy, hR⟩ := HBr.out n.pen (by rw [HQ.out, k7, k8, k9]; simp) hp _ (HStore.out _ hbX)
            clear HQ HOn HBr HStore
            gi_wp2
            refine ⟨trivial, ?_⟩
            gi_wp2
            refine (roundIn_wide hR).mono ?_
            rintro e D (⟨rfl, hF⟩ | ⟨rfl, hF⟩)
            · have HF := Lib.hid hF
              clear hF
              gi_wp2
              exact HF.out
            · have HF := Lib.hid hF
              clear hF
              gi_wp2
              exact HF.out
          · have HF := Lib.hid (HOn.out (by rw [HQ.out, k7, k8, k9]; simpa using hp) _ (HStore.out _ hbX))
            clear HQ HOn HBr HStore
            gi_wp2
            refine ⟨trivial, ?_⟩
            gi_wp2
            refine ⟨fun _ h => (by cases h), ?_⟩
            gi_wp2
            exact HF.out
      · have k9 : (n.kind == 9) = false := by
          have h8 : n.kind = 8 := by simpa using k8
          rw [h8]; rfl
        by_cases h1 : x.1 + 1 < L.length
        · have hlt3 : ((x.1 : Int) + 1) < (L.length : Int) := by omega
          have hlt4 : (0 : Int) ≤ (x.1 : Int) + 1 := by omega
          have hwr : IntKind.i64.wrap ((x.1 : Int) + 1) = (x.1 : Int) + 1 := Go.IntWalk.i64_in _ (by omega)
          have htn : ((x.1 : Int) + 1).toNat = x.1 + 1 := by omega
          have hdl : decide (x.1 + 1 < L.length) = true := by simpa using h1
          have xn := (HNA.out.below hbX).nth h1
          have y0 : A1.cell? ⟨b, off + (x.1 + 1) * 19, none⟩ = some (.int .i64 (nth L (x.1 + 1)).kind) := by have := agg_cell xn 0 _ (show (nth L (x.1 + 1)).arr[0]? = some (.int .i64 (nth L (x.1 + 1)).kind) from rfl); simpa using this
          clear xn
          cases kn : ((nth L (x.1 + 1)).kind == 7)
          · have HF := Lib.hid (HOn.out (by rw [HQ.out, k7, k8, k9, hdl, kn]; simp) _ (HStore.out _ hbX))
            clear HQ HOn HBr HStore
            gi_wp2
            refine ⟨trivial, ?_⟩
            gi_wp2
            refine ⟨fun _ h => (by cases h), ?_⟩
            gi_wp2
            exact HF.out
          · obtain ⟨fn, tmps, asg, bdy, hy, hR⟩ := HBr.out 0 (by rw [HQ.out, k7, k8, hdl, kn]; simp) (by decide) _ (HStore.out _ hbX)
            clear HQ HOn HBr HStore
            gi_wp2
            refine ⟨trivial, ?_⟩
            gi_wp2
            refine (roundIn_wide hR).mono ?_
            rintro e D (⟨rfl, hF⟩ | ⟨rfl, hF⟩)
            · have HF := Lib.hid hF
              clear hF
              gi_wp2
              exact HF.out
            · have HF := Lib.hid hF
              clear hF
              gi_wp2
              exact HF.out
        · have hlt3 : ¬ ((x.1 : Int) + 1) < (L.length : Int) := by omega
          have hwr : IntKind.i64.wrap ((x.1 : Int) + 1) = (x.1 : Int) + 1 := Go.IntWalk.i64_in _ (by omega)
          have hdl : decide (x.1 + 1 < L.length) = false := by simpa using h1
          have HF := Lib.hid (HOn.out (by rw [HQ.out, k7, k8, k9, hdl]; simp) _ (HStore.out _ hbX))
          clear HQ HOn HBr HStore
          gi_wp2
          refine ⟨trivial, ?_⟩
          gi_wp2
          refine ⟨fun _ h => (by cases h), ?_⟩
          gi_wp2
          exact HF.out
    · have h7 : n.kind = 7 := by simpa using k7
      have k8 : (n.kind == 8) = false := by rw [h7]; rfl
      have k9 : (n.kind == 9) = false := by rw [h7]; rfl
      clear h7
      obtain ⟨pv, hpv⟩ : ∃ pv, lastO none (pre.map (·.1)) = pv := ⟨_, rfl⟩
      rw [hpv] at c1
      cases pv with
      | none =>
        have Hpv := Lib.hid hpv
        clear hpv
        simp only [lastV] at c1
        have HF := Lib.hid (HOn.out (by rw [HQ.out, Hpv.out, k7, k8, k9]; simp) _ (HStore.out _ hbX))
        clear HQ HOn HBr HStore
        gi_wp2
        refine ⟨trivial, ?_⟩
        gi_wp2
        refine ⟨fun _ h => (by cases h), ?_⟩
        gi_wp2
        exact HF.out
      | some j =>
        have hj := HPm.out j hpv
        have xj := (HNA.out.below hbX).nth hj
        have hj1 : (0 : Int) ≤ (j : Int) := by omega
        have hj2 : (j : Int) < (L.length : Int) := by omega
        have Hpv := Lib.hid hpv
        have HV := Lib.hid (vfalls (nth L j) A1)
        have C1 := Lib.hid c1
        simp only [lastV] at c1
        clear hpv
        cases hfj : fallsK (nth L j).kind
        · rw [hfj] at HV
          gi_wp2
          refine ⟨trivial, (CallsIn.inRound l (callsIn_wide.2 HV.out)).mono ?_⟩
          clear HV
          rintro e A2 ⟨rfl, hb2⟩
          have hbX2 := hbX.trans (hb2.mono hbX.size)
          have j0 := (hb2.block _ (Array.getElem?_eq_some_iff.1 J0.out).1).trans J0.out
          have j1 := (hb2.block _ (Array.getElem?_eq_some_iff.1 J1.out).1).trans J1.out
          have jX := (hb2.block _ (Array.getElem?_eq_some_iff.1 dX).1).trans dX
          have jS := (hb2.block _ (Array.getElem?_eq_some_iff.1 JS.out).1).trans JS.out
          have c0 := Boxed.cell j0
          have c1 := Boxed.cell j1
          have f1 := Boxed.frozen j1
          have cS := Boxed.cell jS
          have x0 : A2.cell? ⟨A.heap.size, 0, none⟩ = some (.int .i64 n.kind) := by rw [cell?_blk' jX]; rfl
          obtain ⟨fn, tmps, asg, bdy, hy, hR⟩ := HBr.out 0 (by rw [HQ.out, Hpv.out, k7]; simp [hfj]) (by decide) _ (HStore.out _ hbX2)
          clear HQ HOn HBr HStore j0 j1 jX jS hb2
          gi_wp2
          refine (roundIn_wide hR).mono ?_
          rintro e D (⟨rfl, hF⟩ | ⟨rfl, hF⟩)
          · have HF := Lib.hid hF
            clear hF
            gi_wp2
            exact HF.out
          · have HF := Lib.hid hF
            clear hF
            gi_wp2
            exact HF.out
        · rw [hfj] at HV
          gi_wp2
          refine ⟨trivial, (CallsIn.inRound l (callsIn_wide.2 HV.out)).mono ?_⟩
          clear HV
          rintro e A2 ⟨rfl, hb2⟩
          have hbX2 := hbX.trans (hb2.mono hbX.size)
          have j0 := (hb2.block _ (Array.getElem?_eq_some_iff.1 J0.out).1).trans J0.out
          have j1 := (hb2.block _ (Array.getElem?_eq_some_iff.1 J1.out).1).trans J1.out
          have jX := (hb2.block _ (Array.getElem?_eq_some_iff.1 dX).1).trans dX
          have jS := (hb2.block _ (Array.getElem?_eq_some_iff.1 JS.out).1).trans JS.out
          have c0 := Boxed.cell j0
          have c1 := Boxed.cell j1
          have f1 := Boxed.frozen j1
          have cS := Boxed.cell jS
          have x0 : A2.cell? ⟨A.heap.size, 0, none⟩ = some (.int .i64 n.kind) := by rw [cell?_blk' jX]; rfl
          have HF := Lib.hid (HOn.out (by rw [HQ.out, Hpv.out, k7, k8, k9]; simp [hfj]) _ (HStore.out _ hbX2))
          clear HQ HOn HBr HStore j0 j1 jX jS hb2
          gi_wp2
          refine ⟨fun _ h => (by cases h), ?_⟩
          gi_wp2
          exact HF.out
  case done =>
    rintro D pre A hD hpre hA hK
    obtain ⟨⟨i0, i1, i2, iS⟩, i5, ⟨ys, hys, hJy⟩, i6⟩ := hA
    have c0 := i0.cell
    have cS := iS.cell
    have hylen : ys.length < s.length + 1 := by
      have := congrArg List.length hys
      rw [List.length_map] at this
      have h2 := breaksF_len L (pre.map (·.1)) none
      rw [hpre] at h2 this
      omega
    obtain ⟨fn, tmps, asg, bdy, hy, hR⟩ := HY.out ys ⟨(L.length, -10000), .inr rfl⟩ A hJy hylen i6
    have hend : List.map (fun y : Br L s => y.1) (ys ++ [⟨(L.length, -10000), .inr rfl⟩]) = legalP L s := by rw [List.map_append, hys, hpre]; rfl
    have Hend := Lib.hid hend
    have hDw : W.heap.size ≤ D := Nat.le_trans hBle hD
    clear hend hys hJy hylen i0 i1 i2 iS i5
    gi_wp2
    refine hR.mono ?_
    rintro e C (⟨rfl, hJ, hk⟩ | ⟨rfl, hJ, hk⟩)
    · have hK' := hk.2.2.2.same D _ hDw hK rfl
      have HJ2 := Lib.hid (HJ.out _ C _ (some D) hJ (grownBy_putObj' C D (.deferred none)) (fun r e => by cases e; exact ⟨hDw, .inr ⟨_, hK', rfl⟩⟩))
      clear hJ hk
      gi_wp2
      refine ⟨by simp, .inl ⟨_, _, rfl, run_takeDeferred hK', ?_⟩⟩
      exact ⟨_, results_none rfl _ _ _, ⟨_, rfl⟩, .inl ⟨_, Hend.out, HJ2.out⟩⟩
    · have hK' := hk.same D _ hDw hK rfl
      have HJ2 := Lib.hid (HJx.out _ C _ (some D) hJ (grownBy_putObj' C D (.deferred none)) (fun r e => by cases e; exact ⟨hDw, .inr ⟨_, hK', rfl⟩⟩))
      clear hJ hk
      gi_wp2
      refine ⟨by simp, .inl ⟨_, _, rfl, run_takeDeferred hK', ?_⟩⟩
      exact ⟨_, results_none rfl _ _ _, ⟨_, rfl⟩, .inr ⟨_, by rw [Hend.out]; exact List.prefix_refl _, HJ2.out⟩⟩
  case stop =>
    rintro D c pre A hD hp ⟨rfl, ys, hys, hJ⟩ hK
    have hpf : ys.map (·.1) <+: legalP L s := by rw [hys]; exact breaksF_pre hp
    have HPf := Lib.hid hpf
    have HJ1 := Lib.hid hJ
    clear hpf hys hJ
    have hDw : W.heap.size ≤ D := Nat.le_trans hBle hD
    gi_wp2
    refine ⟨by simp, .inl ⟨_, _, rfl, run_takeDeferred hK, ?_⟩⟩
    exact ⟨_, results_none rfl _ _ _, ⟨_, rfl⟩, .inr ⟨_, HPf.out, HJx.out _ A _ (some D) HJ1.out (grownBy_putObj' A D (.deferred none)) (fun r e => by cases e; exact ⟨hDw, .inr ⟨_, hK, rfl⟩⟩)⟩⟩
end Go.Proofs.YtomehdepjenilaaGreat
