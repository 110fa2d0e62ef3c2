/-
  vlist.legal: a column's legal breaks, one by one: the iterator's contract.
-/
import Derived.Test.YtaehkbbdmamfpaaGreatDoorV11b
import Derived.Test.YtaehkbbdmamfpaaGreatDoorVBs
import Derived.Test.YtaehkbbdmamfpaaGreatDoorL1
import Derived.Test.YtaehkbbdmamfpaaGreatDoorQ13
set_option maxRecDepth 100000
set_option maxHeartbeats 8000000
namespace Go.Proofs.YtaehkbbdmamfpaaGreatDoor
open Go.ChangeShapes Go.WideShapes Go.ChangeAt Go.RowKit Go.Shelf
section
attribute [local go_sem] Oper.semAt_some
theorem legal_any (p0 : Option Addr) (len cap : Nat) (w : World) : Calls Tryz.prog 105 #[.slice p0 len cap] w fun e w' =>
 e = .returned (.func (.func 131) #[] #[.pointer (some ⟨w.heap.size, 0, none⟩)]) /\ w' = w.alloc (.cells #[.slice p0 len cap] 22) := by
 go_enter Tryz.func105, Tryz.ntmps105
 go_wp2
 go_ret
 exact ⟨rfl, rfl⟩
def KpL (n₀ Bs B : Nat) (A C : World) : Prop := Below n₀ A C /\ C.heap[Bs]? = A.heap[Bs]? /\ (∀ r, B <= r -> r < B + 3 -> C.heap[r]? = A.heap[r]?) /\ KeepsFrom B A C
theorem kpL_t {n₀ Bs B : Nat} {X Y Z : World} (h : KpL n₀ Bs B X Y) (k : KpL n₀ Bs B Y Z) : KpL n₀ Bs B X Z := ⟨h.1.trans k.1, k.2.1.trans h.2.1, fun r h1 h2 => (k.2.2.1 r h1 h2).trans (h.2.2.1 r h1 h2), h.2.2.2.trans k.2.2.2⟩
def LgI (W0 : World) (n₀ Bs B yl : Nat) (p0 : Option Addr) (cap : Nat) (L : List Nd) (s : List Nat) (J : List (Br L s) -> World -> Prop) (pre : List {i : Nat // i ∈ s}) (W : World) : Prop :=
 (Boxed W B 183 (.func (.yield yl) #[] #[]) /\ Boxed W (B + 1) 3 (.int .i64 (lastV (zbT none (pre.map (·.1))))) /\ Boxed W (B + 2) 22 (.slice p0 L.length cap) /\ Boxed W Bs 22 (.slice p0 L.length cap)) /\
  Below n₀ W0 W /\ (∃ ys : List (Br L s), ys.map (·.1) = zak L none (pre.map (·.1)) /\ J ys W) /\ B + 3 <= W.heap.size
def LgX (L : List Nd) (s : List Nat) (Jx : List (Br L s) -> World -> Prop) (c : Code) (pre : List {i : Nat // i ∈ s}) (W : World) : Prop := c = .ret /\ ∃ ys : List (Br L s), ys.map (·.1) = zak L none (pre.map (·.1)) /\ Jx ys W
theorem roundIn_wide {n m l y : Nat} {P : Program} {f : FuncId} {tmps : Array Value} {asg bdy : Code} {A : World} {R : Ending -> World -> Prop} (h : RoundIn Fence.wide n P y f tmps asg bdy A R) : RoundIn (Fence.wide.inRound l) m P y f tmps asg bdy A R := ⟨trivial, fun c cs _ => h.2 c cs (room_wide _)⟩
theorem grownBy_below {A C : World} (h : Below A.heap.size A C) : A.grownBy C none := ⟨h.os, h.tape, h.output, h.size, fun k hk _ => h.block k hk⟩
theorem lgI_own {W0 : World} {n₀ Bs B yl B' : Nat} {p0 : Option Addr} {cap : Nat} {L : List Nd} {s : List Nat} {J : List (Br L s) -> World -> Prop} (hJ : Abides B 3 J) (h0 : n₀ <= W0.heap.size) (h1 : n₀ <= B) (hB : B <= B') : OwnFrom B' (LgI W0 n₀ Bs B yl p0 cap L s J) :=
 OwnFrom.and (OwnFrom.and (Own.from (boxed_own _ _ _) _) (OwnFrom.and (Own.from (boxed_own _ _ _) _) (OwnFrom.and (Own.from (boxed_own _ _ _) _) (Own.from (boxed_own _ _ _) _))))
  (OwnFrom.and (ownFrom_below h0 (Nat.le_trans h1 hB)) (OwnFrom.and (fun s A C row hs hg hr => by
   obtain ⟨ys, h2, h3⟩ := hs
   exact ⟨ys, h2, hJ.from hB ys A C row h3 hg hr⟩) (fun s A C row hs hg _ => Nat.le_trans hs hg.size)))
theorem lgX_own {B B' : Nat} {L : List Nd} {s : List Nat} {Jx : List (Br L s) -> World -> Prop} (hJ : Abides B 3 Jx) (hB : B <= B') (c : Code) : OwnFrom B' (LgX L s Jx c) := fun s A C row hs hg hr => by
 obtain ⟨h1, ys, h2, h3⟩ := hs
 exact ⟨h1, ys, h2, hJ.from hB ys A C row h3 hg hr⟩
structure LgM (W0 : World) (n₀ Bs B yl : Nat) (p0 : Option Addr) (cap : Nat) (L : List Nd) (s : List Nat) (J : List (Br L s) -> World -> Prop) (A : World) (x : Nat) (C : World) : Prop where
 keeps : KeepsFrom (B + 3) A C
 kp : KpI n₀ (B + 2) A C
 b0 : Boxed C B 183 (.func (.yield yl) #[] #[])
 b1 : Boxed C (B + 1) 3 (.int .i64 (x : Nat))
 b2 : Boxed C (B + 2) 22 (.slice p0 L.length cap)
 bs : Boxed C Bs 22 (.slice p0 L.length cap)
 below : Below n₀ W0 C
 size : B + 3 <= C.heap.size
 js : ∀ ys, J ys A -> J ys C
section
variable {W0 A W1 : World} {n₀ Bs B yl : Nat} {p0 : Option Addr} {cap : Nat} {L : List Nd} {s : List Nat} {J Jx : List (Br L s) -> World -> Prop} {pre : List {i : Nat // i ∈ s}}
theorem lg_store (hI : LgI W0 n₀ Bs B yl p0 cap L s J pre A) (hJ : Abides B 3 J) (hn₀ : n₀ <= B) (hBs : Bs < B) (hA : Below A.heap.size A W1) (x : Nat) : LgM W0 n₀ Bs B yl p0 cap L s J A x (W1.setCell ⟨B + 1, 0, none⟩ (.int .i64 (x : Nat))) := by
 obtain ⟨⟨i0, i1, i2, iS⟩, i5, _, i6⟩ := hI
 have hz := hA.size
 have k0 : Boxed W1 B 183 (.func (.yield yl) #[] #[]) := (hA.block _ i0.lt).trans i0
 have k1 : Boxed W1 (B + 1) 3 (.int .i64 (lastV (zbT none (pre.map (·.1))))) := (hA.block _ i1.lt).trans i1
 have k2 : Boxed W1 (B + 2) 22 (.slice p0 L.length cap) := (hA.block _ i2.lt).trans i2
 have kS : Boxed W1 Bs 22 (.slice p0 L.length cap) := (hA.block _ iS.lt).trans iS
 have hAn : Below n₀ A (W1.setCell ⟨B + 1, 0, none⟩ (.int .i64 (x : Nat))) := (hA.mono (by omega)).setCell (p := ⟨B + 1, 0, none⟩) (by simp only; omega) _
 refine ⟨((zbk hA).trans (KeepsOthers.setCell _ _ _)).from _, ⟨hAn, (Below.heap_setCell _ _ _ _ (by simp only; omega)).trans (hA.block _ i2.lt)⟩, k0.other (by omega) _, Boxed.set _ k1, k2.other (by omega) _, kS.other (by omega) _, i5.trans hAn, by have := hAn.size; omega, fun ys hy => ?_⟩
 exact hJ ys W1 _ (some (B + 1)) (hJ ys A W1 none hy (grownBy_below hA) (fun r e => by cases e)) (grownBy_setCell' W1 (B + 1) _) (fun r e => by cases e; exact ⟨by omega, .inl (by omega)⟩)
theorem LgM.on {x : Nat} {C : World} (h : LgM W0 n₀ Bs B yl p0 cap L s J A x C) (hx : x ∈ s) (hI : LgI W0 n₀ Bs B yl p0 cap L s J pre A) (hq : ¬ qOf L (zbT none (pre.map (·.1))) x < 10000) :
 KeepsFrom (B + 3) A C /\ KpI n₀ (B + 2) A C /\ LgI W0 n₀ Bs B yl p0 cap L s J (pre ++ [⟨x, hx⟩]) C := by
 obtain ⟨ys, hy1, hy2⟩ := hI.2.2.1
 have e : List.map (fun i : {i : Nat // i ∈ s} => i.1) (pre ++ [⟨x, hx⟩]) = pre.map (·.1) ++ [x] := by rw [List.map_append]; rfl
 refine ⟨h.keeps, h.kp, ⟨h.b0, ?_, h.b2, h.bs⟩, h.below, ⟨ys, ?_, h.js _ hy2⟩, h.size⟩
 · rw [e, lastO_snoc]; exact h.b1
 · rw [e, zcN, hy1]; unfold brk; rw [if_neg hq, List.append_nil]
theorem LgM.yes {x : Nat} {C D : World} (h : LgM W0 n₀ Bs B yl p0 cap L s J A x C) (hx : x ∈ s) {ys : List (Br L s)} {q : Int} (hq : qOf L (zbT none (pre.map (·.1))) x = q) (hq2 : q < 10000) (hm : BrOk L s (x, q)) (hys : ys.map (·.1) = zak L none (pre.map (·.1))) (hJ : J (ys ++ [⟨(x, q), hm⟩]) D) (hk : KpL n₀ Bs B C D) :
 KeepsFrom (B + 3) A D /\ KpI n₀ (B + 2) A D /\ LgI W0 n₀ Bs B yl p0 cap L s J (pre ++ [⟨x, hx⟩]) D := by
 have e : List.map (fun i : {i : Nat // i ∈ s} => i.1) (pre ++ [⟨x, hx⟩]) = pre.map (·.1) ++ [x] := by rw [List.map_append]; rfl
 have hkf : KeepsFrom (B + 3) C D := ⟨hk.2.2.2.size, fun k o hk2 => hk.2.2.2.same k o (by omega)⟩
 refine ⟨h.keeps.trans hkf, kpI_t h.kp ⟨hk.1, hk.2.2.1 _ (by omega) (by omega)⟩, ⟨(hk.2.2.1 _ (by omega) (by omega)).trans h.b0, ?_, (hk.2.2.1 _ (by omega) (by omega)).trans h.b2, hk.2.1.trans h.bs⟩, h.below.trans hk.1, ⟨_, ?_, hJ⟩, Nat.le_trans h.size hk.2.2.2.size⟩
 · rw [e, lastO_snoc]; exact (hk.2.2.1 _ (by omega) (by omega)).trans h.b1
 · rw [e, zcN, List.map_append, hys, hq]; simp [brk, hq2]
theorem LgM.no {x : Nat} {C D : World} (h : LgM W0 n₀ Bs B yl p0 cap L s J A x C) (hx : x ∈ s) {ys : List (Br L s)} {q : Int} (hq : qOf L (zbT none (pre.map (·.1))) x = q) (hq2 : q < 10000) (hm : BrOk L s (x, q)) (hys : ys.map (·.1) = zak L none (pre.map (·.1))) (hJ : Jx (ys ++ [⟨(x, q), hm⟩]) D) (hk : KeepsFrom B C D) :
 KeepsFrom (B + 3) A D /\ LgX L s Jx .ret (pre ++ [⟨x, hx⟩]) D := by
 have hkf : KeepsFrom (B + 3) C D := ⟨hk.size, fun k o hk2 => hk.same k o (by omega)⟩
 have e : List.map (fun i : {i : Nat // i ∈ s} => i.1) (pre ++ [⟨x, hx⟩]) = pre.map (·.1) ++ [x] := by rw [List.map_append]; rfl
 refine ⟨h.keeps.trans hkf, rfl, _, ?_, hJ⟩
 rw [e, zcN, List.map_append, hys, hq]; simp [brk, hq2]
end
theorem legal_seq (n : Nat) (hn : n = 7) (Bs n₀ b off cap : Nat) (p0 : Option Addr) (L : List Nd) (s : List Nat) (hs : Items L 0 s) (hl : L.length <= 2000) (w : World) (hBs : w.heap[Bs]? = some (.cells #[.slice p0 L.length cap] 22 (0, 0))) (hN : NIn w p0 b off cap L) (hb : L ≠ [] -> b < n₀) (hn₀ : n₀ <= w.heap.size) :
 SeqCells Fence.wide n Tryz.prog 131 #[.pointer (some ⟨Bs, 0, none⟩)] (fun x : Br L s => #[.int .i64 (x.1.1 : Nat), .int .i64 x.1.2]) (KpL n₀ Bs) (fun ys => ys.map (·.1) = zaE L s) (fun pre => pre.map (·.1) <+: zaE L s) (s.length + 1) 3 w := by
 subst hn
 intro yl J Jx W hW hJ hJx hY h0
 have eS : Boxed W Bs 22 (.slice p0 L.length cap) := (hW.block Bs (Array.getElem?_eq_some_iff.1 hBs).1).trans hBs
 have HN := zzh (hN.below hW)
 have HY := zzh hY
 have H0 := zzh h0
 have HJ := zzh hJ
 have HJx := zzh hJx
 have hz0 : n₀ <= W.heap.size := Nat.le_trans hn₀ hW.size
 have c0 := eS.cell
 have HI : Hid (∀ A, Calls Tryz.prog 51 #[.slice p0 L.length cap] A fun e w' => e = .returned (.func (.func 101) #[] #[.pointer (some ⟨A.heap.size, 0, none⟩)]) /\ w' = A.alloc (.cells #[.slice p0 L.length cap] 22)) := zzh (items_any p0 L.length cap)
 clear hN hY h0 hJ hJx hBs hW
 refine callsIn_of_wp_marks Tryz.func131 rfl trivial ?_ rfl
 simp only [Tryz.ntmps131, List.size_toArray, List.length_cons, List.length_nil, Nat.reduceAdd, Nat.reduceSub, Array.replicate_succ, Array.replicate_zero, List.push_toArray, List.append_toArray, List.nil_append, List.cons_append]
 gi_upto_region 2 with (fail)
 have g0 : Boxed ((W.alloc (.cells #[.func (.yield yl) #[] #[]] 183)).alloc (.cells #[.int .i64 (-1)] 3)) W.heap.size 183 (.func (.yield yl) #[] #[]) := (Boxed.new W _ _).alloc _
 have g1 : Boxed ((W.alloc (.cells #[.func (.yield yl) #[] #[]] 183)).alloc (.cells #[.int .i64 (-1)] 3)) (W.heap.size + 1) 3 (.int .i64 (-1)) := by have := Boxed.new (W.alloc (.cells #[.func (.yield yl) #[] #[]] 183)) 3 (.int .i64 (-1)); rwa [World.size_alloc] at this
 have gS := (eS.alloc (.cells #[.func (.yield yl) #[] #[]] 183)).alloc (.cells #[.int .i64 (-1)] 3)
 have gb : Below W.heap.size W ((W.alloc (.cells #[.func (.yield yl) #[] #[]] 183)).alloc (.cells #[.int .i64 (-1)] 3)) := ((Below.refl _ W).alloc (Nat.le_refl _) _).alloc (by simp) _
 have gz : ((W.alloc (.cells #[.func (.yield yl) #[] #[]] 183)).alloc (.cells #[.int .i64 (-1)] 3)).heap.size = W.heap.size + 2 := by simp
 have gJ : Hid (J [] ((W.alloc (.cells #[.func (.yield yl) #[] #[]] 183)).alloc (.cells #[.int .i64 (-1)] 3))) := zzh (HJ.out.alloc _ (HJ.out.alloc _ H0.out))
 have hBlt := eS.lt
 generalize (W.alloc (.cells #[.func (.yield yl) #[] #[]] 183)).alloc (.cells #[.int .i64 (-1)] 3) = w2 at g0 g1 gS gb gz gJ ⊢
 have GZ := zzh gz
 have gz2 : W.heap.size + 2 <= w2.heap.size := by omega
 have c2 := gS.cell
 clear gz c0 eS H0
 gi_wp2
 refine ⟨trivial, (callsIn_wide.2 (HI.out _)).mono ?_⟩
 clear HI
 rintro e w4 ⟨rfl, rfl⟩
 have k0 := g0.alloc (.cells #[.slice p0 L.length cap] 22)
 have k1 := g1.alloc (.cells #[.slice p0 L.length cap] 22)
 have kS := gS.alloc (.cells #[.slice p0 L.length cap] 22)
 have kI := Boxed.new w2 22 (.slice p0 L.length cap)
 have kb := gb.alloc (by omega) (.cells #[.slice p0 L.length cap] 22)
 have kJ : Hid (J [] (w2.alloc (.cells #[.slice p0 L.length cap] 22))) := zzh (HJ.out.alloc _ gJ.out)
 have kz : (w2.alloc (.cells #[.slice p0 L.length cap] 22)).heap.size = w2.heap.size + 1 := by simp
 clear g0 g1 gS gb gJ c2
 gi_wp2
 generalize w2.alloc (.cells #[.slice p0 L.length cap] 22) = w5 at k0 k1 kS kI kb kJ kz ⊢
 rw [GZ.out] at kI kz ⊢
 have hBle : W.heap.size <= w5.heap.size := by omega
 have HZ5 : Hid (w5.heap.size = W.heap.size + 3) := zzh (by omega)
 clear kz gz2
 refine wpIn_rangeFunc_ownG rfl (by decide) (gf := 101) (lb := #[.pointer (some ⟨W.heap.size + 2, 0, none⟩)]) rfl trivial (enters_of Tryz.func101 (by kernel_rfl) rfl)
  (zcE 6 (by decide) (W.heap.size + 2) n₀ b off cap p0 L s hs w5 kI (HN.out.below kb) hb) kpI_t (kpI_b (Nat.le_trans hz0 hBle) (by have := HZ5.out; omega)) (Below.refl _ _) (fun _ => rfl)
  (LgI W n₀ Bs W.heap.size yl p0 cap L s J) (LgX L s Jx) (lgI_own HJ.out hz0 hz0 hBle) (lgX_own HJx.out hBle) ?h0 ?a₁ ?assign ?body ?done ?stop
 case assign =>
  intro l x W K hK
  gi_wp2
  exact hK
 case h0 => exact ⟨⟨k0, k1, kI, kS⟩, kb.mono hz0, ⟨[], rfl, kJ.out⟩, Nat.le_of_eq HZ5.out.symm⟩
 case body =>
  rintro l pre x A hA hlt
  have HA := zzh hA
  obtain ⟨⟨i0, i1, i2, iS⟩, i5, ⟨ys, hys, hJy⟩, i6⟩ := hA
  obtain ⟨hx1, hx2⟩ := hs.lt x.1 x.2
  have hNA : NIn A p0 b off cap L := HN.out.kept hb i5
  have xa := hNA.nth hx2
  obtain ⟨n, hn⟩ : ∃ n, nth L x.1 = n := ⟨_, rfl⟩
  rw [hn] at xa
  have Hn := zzh hn
  obtain rfl := hNA.at_ hx2
  have hx3 : (0 : Int) <= (x.1 : Int) := by omega
  have hx4 : (x.1 : Int) < (L.length : Int) := by omega
  have hz6 : W.heap.size + 3 <= A.heap.size := i6
  have HStore : Hid (∀ A1, Below A.heap.size A A1 -> LgM W n₀ Bs W.heap.size yl (some ⟨b, off, none⟩) cap L s J A x.1 (A1.setCell ⟨W.heap.size + 1, 0, none⟩ (.int .i64 (x.1 : Nat)))) := zzh fun A1 h1 => lg_store HA.out HJ.out hz0 hBlt h1 x.1
  have hylen : ys.length < s.length + 1 := by
   have := congrArg List.length hys
   rw [List.length_map] at this
   have h2 := zcI L (pre.map (·.1)) none
   rw [List.length_map] at h2
   omega
  -- no break
  have HOn : Hid (¬ qOf L (zbT none (pre.map (·.1))) x.1 < 10000 -> ∀ C, LgM W n₀ Bs W.heap.size yl (some ⟨b, off, none⟩) cap L s J A x.1 C -> KeepsFrom w5.heap.size A C /\ KpI n₀ (W.heap.size + 2) A C /\ LgI W n₀ Bs W.heap.size yl (some ⟨b, off, none⟩) cap L s J (pre ++ [x]) C) := zzh fun hq C hM => by rw [HZ5.out]; exact hM.on x.2 HA.out hq
  -- a break
  have HBr : Hid (∀ q : Int, qOf L (zbT none (pre.map (·.1))) x.1 = q -> q < 10000 -> ∀ C, LgM W n₀ Bs W.heap.size yl (some ⟨b, off, none⟩) cap L s J A x.1 C -> YieldAt Fence.wide (7 - 1) Tryz.prog yl #[.int .i64 (x.1 : Nat), .int .i64 q] C fun e D =>
   (e = .returned (.bool true) /\ (KeepsFrom w5.heap.size A D /\ KpI n₀ (W.heap.size + 2) A D /\ LgI W n₀ Bs W.heap.size yl (some ⟨b, off, none⟩) cap L s J (pre ++ [x]) D)) \/ (e = .returned (.bool false) /\ (KeepsFrom w5.heap.size A D /\ LgX L s Jx .ret (pre ++ [x]) D))) := zzh fun q hq hq2 C hM => by
   have hm : BrOk L s (x.1, q) := .inl ⟨x.2, hq2, _, hq.symm⟩
   rw [HZ5.out]
   obtain ⟨fn, tmps, asg, bdy, hy1, hy2⟩ := HY.out ys ⟨(x.1, q), hm⟩ C (hM.js ys hJy) hylen hM.size
   refine ⟨fn, tmps, asg, bdy, hy1, hy2.mono ?_⟩
   rintro e D (⟨he, hJ, hk⟩ | ⟨he, hJ, hk⟩)
   · exact .inl ⟨he, hM.yes x.2 hq hq2 hm hys hJ hk⟩
   · exact .inr ⟨he, hM.no x.2 hq hq2 hm hys hJ hk⟩
  have hq0 : qOf L (zbT none (pre.map (·.1))) x.1 = if ((n.kind == 7) && (zbT none (pre.map (·.1))).any fun j => !zbB (nth L j).kind) = true then 0 else if (n.kind == 8 && decide (x.1 + 1 < L.length) && (nth L (x.1 + 1)).kind == 7) = true then 0 else if (n.kind == 9) = true then n.pen else 10000 := by unfold qOf; rw [Hn.out]
  have HQ := zzh hq0
  have hpm : ∀ j, zbT none (pre.map (·.1)) = some j -> j < L.length := fun j hj => by
   obtain ⟨y, hy, rfl⟩ := List.mem_map.1 (lastO_mem hj)
   exact (hs.lt y.1 y.2).2
  have HPm := zzh hpm
  have HNA := zzh hNA
  clear hn i5 i6 hq0 hpm hNA hys hJy hylen
  have cS := iS.cell
  clear i0 i1 i2 iS
  gi_upto_region 6 with (fail)
  clear cS
  have dX : (A.alloc (.cells n.arr 53)).heap[A.heap.size]? = some (.cells n.arr 53 (0, 0)) := heap_alloc_new _ _
  have hbX : Below A.heap.size A (A.alloc (.cells n.arr 53)) := (Below.refl _ A).alloc (Nat.le_refl _) _
  generalize hA1 : A.alloc (.cells n.arr 53) = A1 at dX hbX ⊢
  clear hA1
  obtain ⟨⟨i0, i1, i2, iS⟩, _⟩ := HA.out
  have j0 : Boxed A1 W.heap.size 183 (.func (.yield yl) #[] #[]) := (hbX.block _ i0.lt).trans i0
  have j1 : Boxed A1 (W.heap.size + 1) 3 (.int .i64 (lastV (zbT none (pre.map (·.1))))) := (hbX.block _ i1.lt).trans i1
  have jS : Boxed A1 Bs 22 (.slice (some ⟨b, off, none⟩) L.length cap) := (hbX.block _ iS.lt).trans iS
  have c0 := j0.cell
  have c1 := j1.cell
  have cS := jS.cell
  have f1 := j1.frozen
  have x0 : A1.cell? ⟨A.heap.size, 0, none⟩ = some (.int .i64 n.kind) := by rw [cell?_blk' dX]; rfl
  have x16 : A1.cell? ⟨A.heap.size, 16, none⟩ = some (.int .i64 n.pen) := by rw [cell?_blk' dX]; rfl
  have hneq : W.heap.size ≠ W.heap.size + 1 := by omega
  have J0 := zzh j0
  have J1 := zzh j1
  have JS := zzh jS
  clear i0 i1 i2 iS j0 j1 jS
  cases k7 : (n.kind == 7)
  ·
   cases k8 : (n.kind == 8)
   ·
    cases k9 : (n.kind == 9)
    ·
     have HF := zzh (HOn.out (by rw [HQ.out, k7, k8, k9]; simp) _ (HStore.out _ hbX))
     clear HQ HOn HBr HStore
     gi_wp2
     refine ⟨trivial, ?_⟩
     gi_wp2
     refine ⟨fun _ h => (by cases h), ?_⟩
     gi_wp2
     exact HF.out
    ·
     by_cases hp : n.pen < 10000
     ·
      obtain ⟨fn, tmps, asg, bdy, hy, hR⟩ := HBr.out n.pen (by rw [HQ.out, k7, k8, k9]; simp) hp _ (HStore.out _ hbX)
      clear HQ HOn HBr HStore
      gi_wp2
      refine ⟨trivial, ?_⟩
      gi_wp2
      refine (roundIn_wide hR).mono ?_
      rintro e D (⟨rfl, hF⟩ | ⟨rfl, hF⟩)
      ·
       have HF := zzh hF
       clear hF
       gi_wp2
       exact HF.out
      ·
       have HF := zzh hF
       clear hF
       gi_wp2
       exact HF.out
     ·
      have HF := zzh (HOn.out (by rw [HQ.out, k7, k8, k9]; simpa using hp) _ (HStore.out _ hbX))
      clear HQ HOn HBr HStore
      gi_wp2
      refine ⟨trivial, ?_⟩
      gi_wp2
      refine ⟨fun _ h => (by cases h), ?_⟩
      gi_wp2
      exact HF.out
   ·
    have k9 : (n.kind == 9) = false := by
     have h8 : n.kind = 8 := by simpa using k8
     rw [h8]; rfl
    by_cases h1 : x.1 + 1 < L.length
    ·
     have hlt3 : ((x.1 : Int) + 1) < (L.length : Int) := by omega
     have hlt4 : (0 : Int) <= (x.1 : Int) + 1 := by omega
     have hwr : IntKind.i64.wrap ((x.1 : Int) + 1) = (x.1 : Int) + 1 := Go.IntWalk.i64_in _ (by omega)
     have htn : ((x.1 : Int) + 1).toNat = x.1 + 1 := by omega
     have hdl : decide (x.1 + 1 < L.length) = true := by simpa using h1
     have xn := (HNA.out.below hbX).nth h1
     have y0 : A1.cell? ⟨b, off + (x.1 + 1) * 19, none⟩ = some (.int .i64 (nth L (x.1 + 1)).kind) := by have := zau xn 0 _ (show (nth L (x.1 + 1)).arr[0]? = some (.int .i64 (nth L (x.1 + 1)).kind) from rfl); simpa using this
     clear xn
     cases kn : ((nth L (x.1 + 1)).kind == 7)
     ·
      have HF := zzh (HOn.out (by rw [HQ.out, k7, k8, k9, hdl, kn]; simp) _ (HStore.out _ hbX))
      clear HQ HOn HBr HStore
      gi_wp2
      refine ⟨trivial, ?_⟩
      gi_wp2
      refine ⟨fun _ h => (by cases h), ?_⟩
      gi_wp2
      exact HF.out
     ·
      obtain ⟨fn, tmps, asg, bdy, hy, hR⟩ := HBr.out 0 (by rw [HQ.out, k7, k8, hdl, kn]; simp) (by decide) _ (HStore.out _ hbX)
      clear HQ HOn HBr HStore
      gi_wp2
      refine ⟨trivial, ?_⟩
      gi_wp2
      refine (roundIn_wide hR).mono ?_
      rintro e D (⟨rfl, hF⟩ | ⟨rfl, hF⟩)
      ·
       have HF := zzh hF
       clear hF
       gi_wp2
       exact HF.out
      ·
       have HF := zzh hF
       clear hF
       gi_wp2
       exact HF.out
    ·
     have hlt3 : ¬ ((x.1 : Int) + 1) < (L.length : Int) := by omega
     have hwr : IntKind.i64.wrap ((x.1 : Int) + 1) = (x.1 : Int) + 1 := Go.IntWalk.i64_in _ (by omega)
     have hdl : decide (x.1 + 1 < L.length) = false := by simpa using h1
     have HF := zzh (HOn.out (by rw [HQ.out, k7, k8, k9, hdl]; simp) _ (HStore.out _ hbX))
     clear HQ HOn HBr HStore
     gi_wp2
     refine ⟨trivial, ?_⟩
     gi_wp2
     refine ⟨fun _ h => (by cases h), ?_⟩
     gi_wp2
     exact HF.out
  ·
   have h7 : n.kind = 7 := by simpa using k7
   have k8 : (n.kind == 8) = false := by rw [h7]; rfl
   have k9 : (n.kind == 9) = false := by rw [h7]; rfl
   clear h7
   obtain ⟨pv, hpv⟩ : ∃ pv, zbT none (pre.map (·.1)) = pv := ⟨_, rfl⟩
   rw [hpv] at c1
   cases pv with
   | none =>
    have Hpv := zzh hpv
    clear hpv
    simp only [lastV] at c1
    have HF := zzh (HOn.out (by rw [HQ.out, Hpv.out, k7, k8, k9]; simp) _ (HStore.out _ hbX))
    clear HQ HOn HBr HStore
    gi_wp2
    refine ⟨trivial, ?_⟩
    gi_wp2
    refine ⟨fun _ h => (by cases h), ?_⟩
    gi_wp2
    exact HF.out
   | some j =>
    have hj := HPm.out j hpv
    have xj := (HNA.out.below hbX).nth hj
    have hj1 : (0 : Int) <= (j : Int) := by omega
    have hj2 : (j : Int) < (L.length : Int) := by omega
    have Hpv := zzh hpv
    have HV := zzh (vfalls (nth L j) A1)
    have C1 := zzh c1
    simp only [lastV] at c1
    clear hpv
    cases hfj : zbB (nth L j).kind
    ·
     rw [hfj] at HV
     gi_wp2
     refine ⟨trivial, (CallsIn.inRound l (callsIn_wide.2 HV.out)).mono ?_⟩
     clear HV
     rintro e A2 ⟨rfl, hb2⟩
     have hbX2 := hbX.trans (hb2.mono hbX.size)
     have j0 := (hb2.block _ (Array.getElem?_eq_some_iff.1 J0.out).1).trans J0.out
     have j1 := (hb2.block _ (Array.getElem?_eq_some_iff.1 J1.out).1).trans J1.out
     have jX := (hb2.block _ (Array.getElem?_eq_some_iff.1 dX).1).trans dX
     have jS := (hb2.block _ (Array.getElem?_eq_some_iff.1 JS.out).1).trans JS.out
     have c0 := Boxed.cell j0
     have c1 := Boxed.cell j1
     have f1 := Boxed.frozen j1
     have cS := Boxed.cell jS
     have x0 : A2.cell? ⟨A.heap.size, 0, none⟩ = some (.int .i64 n.kind) := by rw [cell?_blk' jX]; rfl
     obtain ⟨fn, tmps, asg, bdy, hy, hR⟩ := HBr.out 0 (by rw [HQ.out, Hpv.out, k7]; simp [hfj]) (by decide) _ (HStore.out _ hbX2)
     clear HQ HOn HBr HStore j0 j1 jX jS hb2
     gi_wp2
     refine (roundIn_wide hR).mono ?_
     rintro e D (⟨rfl, hF⟩ | ⟨rfl, hF⟩)
     ·
      have HF := zzh hF
      clear hF
      gi_wp2
      exact HF.out
     ·
      have HF := zzh hF
      clear hF
      gi_wp2
      exact HF.out
    ·
     rw [hfj] at HV
     gi_wp2
     refine ⟨trivial, (CallsIn.inRound l (callsIn_wide.2 HV.out)).mono ?_⟩
     clear HV
     rintro e A2 ⟨rfl, hb2⟩
     have hbX2 := hbX.trans (hb2.mono hbX.size)
     have j0 := (hb2.block _ (Array.getElem?_eq_some_iff.1 J0.out).1).trans J0.out
     have j1 := (hb2.block _ (Array.getElem?_eq_some_iff.1 J1.out).1).trans J1.out
     have jX := (hb2.block _ (Array.getElem?_eq_some_iff.1 dX).1).trans dX
     have jS := (hb2.block _ (Array.getElem?_eq_some_iff.1 JS.out).1).trans JS.out
     have c0 := Boxed.cell j0
     have c1 := Boxed.cell j1
     have f1 := Boxed.frozen j1
     have cS := Boxed.cell jS
     have x0 : A2.cell? ⟨A.heap.size, 0, none⟩ = some (.int .i64 n.kind) := by rw [cell?_blk' jX]; rfl
     have HF := zzh (HOn.out (by rw [HQ.out, Hpv.out, k7, k8, k9]; simp [hfj]) _ (HStore.out _ hbX2))
     clear HQ HOn HBr HStore j0 j1 jX jS hb2
     gi_wp2
     refine ⟨fun _ h => (by cases h), ?_⟩
     gi_wp2
     exact HF.out
 case done =>
  rintro D pre A hD hpre hA hK
  obtain ⟨⟨i0, i1, i2, iS⟩, i5, ⟨ys, hys, hJy⟩, i6⟩ := hA
  have c0 := i0.cell
  have cS := iS.cell
  have hylen : ys.length < s.length + 1 := by
   have := congrArg List.length hys
   rw [List.length_map] at this
   have h2 := zcI L (pre.map (·.1)) none
   rw [hpre] at h2 this
   omega
  obtain ⟨fn, tmps, asg, bdy, hy, hR⟩ := HY.out ys ⟨(L.length, -10000), .inr rfl⟩ A hJy hylen i6
  have hend : List.map (fun y : Br L s => y.1) (ys ++ [⟨(L.length, -10000), .inr rfl⟩]) = zaE L s := by rw [List.map_append, hys, hpre]; rfl
  have Hend := zzh hend
  have hDw : W.heap.size <= D := Nat.le_trans hBle hD
  clear hend hys hJy hylen i0 i1 i2 iS i5
  gi_wp2
  refine hR.mono ?_
  rintro e C (⟨rfl, hJ, hk⟩ | ⟨rfl, hJ, hk⟩)
  ·
   have hK' := hk.2.2.2.same D _ hDw hK rfl
   have HJ2 := zzh (HJ.out _ C _ (some D) hJ (grownBy_putObj' C D (.deferred none)) (fun r e => by cases e; exact ⟨hDw, .inr ⟨_, hK', rfl⟩⟩))
   clear hJ hk
   gi_wp2
   refine ⟨by simp, .inl ⟨_, _, rfl, run_takeDeferred hK', ?_⟩⟩
   exact ⟨_, results_none rfl _ _ _, ⟨_, rfl⟩, .inl ⟨_, Hend.out, HJ2.out⟩⟩
  ·
   have hK' := hk.same D _ hDw hK rfl
   have HJ2 := zzh (HJx.out _ C _ (some D) hJ (grownBy_putObj' C D (.deferred none)) (fun r e => by cases e; exact ⟨hDw, .inr ⟨_, hK', rfl⟩⟩))
   clear hJ hk
   gi_wp2
   refine ⟨by simp, .inl ⟨_, _, rfl, run_takeDeferred hK', ?_⟩⟩
   exact ⟨_, results_none rfl _ _ _, ⟨_, rfl⟩, .inr ⟨_, by rw [Hend.out]; exact List.prefix_refl _, HJ2.out⟩⟩
 case stop =>
  rintro D c pre A hD hp ⟨rfl, ys, hys, hJ⟩ hK
  have hpf : ys.map (·.1) <+: zaE L s := by rw [hys]; exact breaksF_pre hp
  have HPf := zzh hpf
  have HJ1 := zzh hJ
  clear hpf hys hJ
  have hDw : W.heap.size <= D := Nat.le_trans hBle hD
  gi_wp2
  refine ⟨by simp, .inl ⟨_, _, rfl, run_takeDeferred hK, ?_⟩⟩
  exact ⟨_, results_none rfl _ _ _, ⟨_, rfl⟩, .inr ⟨_, HPf.out, HJx.out _ A _ (some D) HJ1.out (grownBy_putObj' A D (.deferred none)) (fun r e => by cases e; exact ⟨hDw, .inr ⟨_, hK, rfl⟩⟩)⟩⟩
end
section
attribute [local go_sem] Oper.semAt_some
structure Two (W : World) (R Z n m : Nat) (a b : List Int) (v u : Value) : Prop where
 bv : Boxed W Z 59 v
 bu : Boxed W (Z + 1) 59 u
 rv : W.ownsRow R 3 1 v n (ints a)
 ru : W.ownsRow R 3 1 u m (ints b)
 ne : ∀ g, v.ownBlock = some g -> u.ownBlock ≠ some g
theorem zbA {β : Type} {B m X : Nat} {t : TypeId} {f : β -> Value} (hX : X < B) : Abides B m (fun s W => Boxed W X t (f s)) := fun s A C row hs hg hr =>
 (hg.block X hs.lt (fun e => by have := (hr X e.symm).1; omega)).trans hs
theorem abides_below {β : Type} {n₀ B m : Nat} {w₀ : World} (hn : n₀ <= w₀.heap.size) (hB : n₀ <= B) : Abides B m (fun (_ : β) W => Below n₀ w₀ W) :=
 fun _ _ _ _ hs hg hr => hs.grown hg (Nat.le_trans hn hs.size) (fun k e => Nat.le_trans hB (hr k e).1)
theorem owns_turn {A C : World} {B m R n size : Nat} {E : TypeId} {v : Value} {xs : List Value} {row : Option Nat} (hR : B + m <= R) (hg : A.grownBy C row) (hr : Turns B m A row) (h : A.ownsRow R E size v n xs) : C.ownsRow R E size v n xs := by
 refine h.kept hg ?_
 cases hv : v.ownBlock with
 | none => exact .inl rfl
 | some g =>
  refine .inr fun e => ?_
  have h1 := h.lt g hv
  rcases (hr g e.symm).2 with h2 | ⟨o, ho, hc⟩
  · omega
  · rw [zcT h g o hv ho] at hc; cases hc
theorem abides_two {β : Type} {B m R Z : Nat} {n k : β -> Nat} {a b : β -> List Int} (hZ : Z + 1 < B) (hR : B + m <= R) : Abides B m (fun s W => ∃ v u, Two W R Z (n s) (k s) (a s) (b s) v u) := fun s A C row hs hg hr => by
 obtain ⟨v, u, h⟩ := hs
 exact ⟨v, u, ⟨(hg.block Z h.bv.lt (fun e => by have := (hr Z e.symm).1; omega)).trans h.bv, (hg.block (Z + 1) h.bu.lt (fun e => by have := (hr (Z + 1) e.symm).1; omega)).trans h.bu, owns_turn hR hg hr h.rv, owns_turn hR hg hr h.ru, h.ne⟩⟩
section
variable {W w1 : World} {R Z n m g cap : Nat} {a b : List Int} {v u : Value} {x : Int}
structure Stepped (W C : World) (R Z : Nat) : Prop where
 others : KeepsOthers W C
 frame : ∀ k, k < R -> k ≠ Z -> C.heap[k]? = W.heap[k]?
 below : ∀ n₀, n₀ <= Z -> n₀ <= R -> n₀ <= W.heap.size -> Below n₀ W C
theorem zdi {X : Nat} {t : TypeId} (ht : t ≠ 3) {y : Value} (hb : Boxed W X t y) {v : Value} {k : Nat} {xs : List Value} (hr : W.ownsRow R 3 1 v k xs) : v.ownBlock ≠ some X := fun e => hb.not_row ht hr e.symm
theorem push_box {X : Nat} {t : TypeId} {y : Value} {tmp : Obj} (ht : t ≠ 3) (hb : Boxed W X t y) {k : Nat} {xs : List Value} (hr : W.ownsRow R 3 1 v k xs) (hg : (W.alloc tmp).grownBy w1 v.ownBlock) : Boxed w1 X t y :=
 (hb.alloc tmp).kept hg (fun e => zdi ht hb hr e.symm)
theorem pushed {Y : Nat} {tmp : Obj} {k : Nat} {xs : List Value} (hR : R <= W.heap.size) (hr : W.ownsRow R 3 1 v k xs) (hg : (W.alloc tmp).grownBy w1 v.ownBlock) (v' : Value) : Stepped W (w1.setCell ⟨Y, 0, none⟩ v') R Y := by
 refine ⟨((KeepsOthers.alloc W tmp).trans (KeepsOthers.of_grownBy hg (zcT (hr.alloc tmp)))).trans (KeepsOthers.setCell _ _ _), fun i hi hne => ?_, fun n₀ h1 h2 h3 => ?_⟩
 · exact ((Below.heap_setCell _ _ _ i hne).trans (hg.block i (by simp; omega) (fun e => by have := (hr.lt i e.symm).1; omega))).trans (Below.heap_alloc _ _ _ (by omega))
 · exact (((Below.refl n₀ W).alloc h3 tmp).grown hg (by simp; omega) (fun i e => by have := (hr.lt i e).1; omega)).setCell (p := ⟨Y, 0, none⟩) h1 _
theorem Two.first (h : Two W R Z n m a b v u) (hg : (W.alloc (.cells #[.int .i64 x] 3)).grownBy w1 v.ownBlock) (hown : w1.ownsRow R 3 1 (.slice (some ⟨g, 0, none⟩) (n + 1) cap) (n + 1) (ints a ++ [.int .i64 x])) (hat : v.ownBlock = some g \/ g = (W.alloc (.cells #[.int .i64 x] 3)).heap.size) :
 Two (w1.setCell ⟨Z, 0, none⟩ (.slice (some ⟨g, 0, none⟩) (n + 1) cap)) R Z (n + 1) m (a ++ [x]) b (.slice (some ⟨g, 0, none⟩) (n + 1) cap) u := by
 have kv := push_box (by decide) h.bv h.rv hg
 have ku := push_box (by decide) h.bu h.rv hg
 have ru : w1.ownsRow R 3 1 u m (ints b) := (h.ru.alloc _).kept hg (by
  cases hu : u.ownBlock with
  | none => exact .inl rfl
  | some q => exact .inr fun e => h.ne q e.symm hu)
 refine ⟨Boxed.set _ kv, ku.other (by omega) _, (by rw [zcb]; exact hown.kept (grownBy_setCell' w1 Z _) (.inr (zdi (by decide) kv hown))), ru.kept (grownBy_setCell' w1 Z _) (.inr (zdi (by decide) kv ru)), fun q hq hu => ?_⟩
 obtain rfl : g = q := by simpa [Value.ownBlock] using hq
 rcases hat with e | e
 · exact h.ne g e hu
 ·
  have h5 := (h.ru.lt g hu).2
  rw [World.size_alloc] at e; omega
theorem Two.swap (h : Two W R Z n m a b v u) (hg : (W.alloc (.cells #[.int .i64 x] 3)).grownBy w1 u.ownBlock) (hown : w1.ownsRow R 3 1 (.slice (some ⟨g, 0, none⟩) (m + 1) cap) (m + 1) (ints b ++ [.int .i64 x])) (hat : u.ownBlock = some g \/ g = (W.alloc (.cells #[.int .i64 x] 3)).heap.size) :
 Two (w1.setCell ⟨Z + 1, 0, none⟩ (.slice (some ⟨g, 0, none⟩) (m + 1) cap)) R Z n (m + 1) a (b ++ [x]) v (.slice (some ⟨g, 0, none⟩) (m + 1) cap) := by
 have kv := push_box (by decide) h.bv h.ru hg
 have ku := push_box (by decide) h.bu h.ru hg
 have rv : w1.ownsRow R 3 1 v n (ints a) := (h.rv.alloc _).kept hg (by
  cases hu : v.ownBlock with
  | none => exact .inl rfl
  | some q => exact .inr fun e => h.ne q hu e.symm)
 refine ⟨kv.other (by omega) _, Boxed.set _ ku, rv.kept (grownBy_setCell' w1 (Z + 1) _) (.inr (zdi (by decide) ku rv)), (by rw [zcb]; exact hown.kept (grownBy_setCell' w1 (Z + 1) _) (.inr (zdi (by decide) ku hown))), fun q hq hu => ?_⟩
 obtain rfl : g = q := by simpa [Value.ownBlock] using hu
 rcases hat with e | e
 · exact h.ne g hq e
 ·
  have h5 := (h.rv.lt g hq).2
  rw [World.size_alloc] at e; omega
end
theorem Two.back {W : World} {R Z n m : Nat} {a b : List Int} {v u : Value} (h : Two W R Z n m a b v u) : Two ((W.setCell ⟨Z, 0, none⟩ v).setCell ⟨Z + 1, 0, none⟩ u).drew R Z n m a b v u := by
 have k1 : Boxed (W.setCell ⟨Z, 0, none⟩ v) Z 59 v := Boxed.set _ h.bv
 have k2 : Boxed (W.setCell ⟨Z, 0, none⟩ v) (Z + 1) 59 u := h.bu.other (by omega) _
 have r1 : (W.setCell ⟨Z, 0, none⟩ v).ownsRow R 3 1 v n (ints a) := h.rv.kept (grownBy_setCell' W Z _) (.inr (zdi (by decide) h.bv h.rv))
 have r2 : (W.setCell ⟨Z, 0, none⟩ v).ownsRow R 3 1 u m (ints b) := h.ru.kept (grownBy_setCell' W Z _) (.inr (zdi (by decide) h.bv h.ru))
 have q1 := r1.kept (grownBy_setCell' _ (Z + 1) u) (.inr (zdi (by decide) k2 r1))
 have q2 := r2.kept (grownBy_setCell' _ (Z + 1) u) (.inr (zdi (by decide) k2 r2))
 exact ⟨k1.other (by omega) _, Boxed.set _ k2, zar q1 fun _ _ _ => rfl, zar q2 fun _ _ _ => rfl, h.ne⟩
def legR (L : List Nd) (s : List Nat) : List (Nat × Int) := if colP L s = 0 then zaE L s else []
def atsP (l : List (Nat × Int)) : List Int := l.map fun x => (x.1 : Int)
def zcP (l : List (Nat × Int)) : List Int := l.map (·.2)
structure LegPost (w : World) (L : List Nd) (s : List Nat) (e : Ending) (w' : World) : Prop where
 ex : ∃ v u, e = .returned (.tuple #[v, u, .int .i64 (colP L s)]) /\ w'.ownsRow w.heap.size 3 1 v (legR L s).length (ints (atsP (legR L s))) /\ w'.ownsRow w.heap.size 3 1 u (legR L s).length (ints (zcP (legR L s))) /\ ∀ g, v.ownBlock = some g -> u.ownBlock ≠ some g
 below : Below w.heap.size w w'
def LeI (w : World) (Z R Bs : Nat) (p0 : Option Addr) (cap : Nat) (L : List Nd) (s : List Nat) (pre : List (Br L s)) (W : World) : Prop :=
 (∃ v u, Two W R Z pre.length pre.length (atsP (pre.map (·.1))) (zcP (pre.map (·.1))) v u) /\ Boxed W Bs 22 (.slice p0 L.length cap) /\ Below w.heap.size w W
theorem vlegal (p0 : Option Addr) (b off cap : Nat) (L : List Nd) (s : List Nat) (hs : zao L = 0 -> Items L 0 s) (w : World) (hN : NIn w p0 b off cap L) :
 Calls Tryz.prog 55 #[.slice p0 L.length cap] w (LegPost w L s) := by
 have hlen := hN.len
 have HN := zzh hN
 have Hs := zzh hs
 have HC : Hid (∀ W, Below w.heap.size w W -> Calls Tryz.prog 50 #[.slice p0 L.length cap] W fun e w' => e = .returned (.int .i64 (colP L s)) /\ Below W.heap.size W w') := zzh fun W hb => column_any p0 b off cap L s Hs.out W (HN.out.below hb)
 have b0 : Boxed ((w.alloc (.cells #[.slice none 0 0] 59)).alloc (.cells #[.slice none 0 0] 59)) w.heap.size 59 (.slice none 0 0) := (Boxed.new w _ _).alloc _
 have b1 : Boxed ((w.alloc (.cells #[.slice none 0 0] 59)).alloc (.cells #[.slice none 0 0] 59)) (w.heap.size + 1) 59 (.slice none 0 0) := by have := Boxed.new (w.alloc (.cells #[.slice none 0 0] 59)) 59 (.slice none 0 0); rwa [World.size_alloc] at this
 have hb1 : Below w.heap.size w ((w.alloc (.cells #[.slice none 0 0] 59)).alloc (.cells #[.slice none 0 0] 59)) := ((Below.refl _ _).alloc (Nat.le_refl _) _).alloc (by simp) _
 clear hN hs
 refine (callsIn_wide (n := 8)).1 ?_
 refine callsIn_of_wp_marks Tryz.func55 rfl trivial ?_ rfl
 simp only [Tryz.ntmps55, List.size_toArray, List.length_cons, List.length_nil, Nat.reduceAdd, Nat.reduceSub, Array.replicate_succ, Array.replicate_zero, List.push_toArray, List.append_toArray, List.nil_append, List.cons_append]
 gi_wp2
 refine ⟨trivial, (callsIn_wide.2 (HC.out _ hb1)).mono ?_⟩
 rintro e w2 ⟨rfl, hb2⟩
 have d0 : Boxed w2 w.heap.size 59 (.slice none 0 0) := (hb2.block _ b0.lt).trans b0
 have d1 : Boxed w2 (w.heap.size + 1) 59 (.slice none 0 0) := (hb2.block _ b1.lt).trans b1
 have hbw := hb1.trans (hb2.mono hb1.size)
 clear b0 b1 hb1 hb2 HC
 by_cases hck : colP L s = 0
 ·
  have hs := Hs.out (zav hck)
  have hl := (zaj (zav hck)).1
  have Hck := zzh hck
  rw [hck]
  have HI := zzh (legal_any p0 L.length cap w2)
  clear hck Hs
  gi_wp2
  refine ⟨trivial, (callsIn_wide.2 HI.out).mono ?_⟩
  clear HI
  rintro e w4 ⟨rfl, rfl⟩
  have e0 := d0.alloc (.cells #[.slice p0 L.length cap] 22)
  have e1 := d1.alloc (.cells #[.slice p0 L.length cap] 22)
  have eB := hbw.alloc hbw.size (.cells #[.slice p0 L.length cap] 22)
  have eS := Boxed.new w2 22 (.slice p0 L.length cap)
  have hlt1 := d1.lt
  clear d0 d1 hbw
  gi_wp2
  generalize w2.alloc (.cells #[.slice p0 L.length cap] 22) = w5 at e0 e1 eB eS ⊢
  generalize w2.heap.size = Bs at eS hlt1 ⊢
  have hBs := eS.lt
  refine wpIn_range_cells rfl (by decide) (gf := 131) (lb := #[.pointer (some ⟨Bs, 0, none⟩)]) rfl trivial (enters_of Tryz.func131 (by kernel_rfl) rfl)
   (legal_seq 7 rfl Bs w.heap.size b off cap p0 L s hs hl w5 eS (HN.out.below eB) (fun e => HN.out.hb e) eB.size) kpL_t ?hKb (Below.refl _ _) (fun _ => rfl)
   (LeI w w.heap.size (w5.heap.size + 5) Bs p0 cap L s) (fun _ _ _ => False) ((abides_two (by omega) (by omega)).and ((zbA hBs).and (abides_below (Nat.le_refl _) eB.size))) (fun _ => Abides.pure _ _ _)
   ⟨⟨_, _, e0, e1, World.ownsRow_nil _ _ _ _, World.ownsRow_nil _ _ _ _, fun g h => by cases h⟩, eS, eB⟩ ?a₁ ?assign ?body ?done ?stop
  case assign =>
   intro l x W K hK
   gi_wp2
   exact hK
  case body =>
   rintro l pre x W ⟨⟨v, u, hT⟩, hS, hb⟩ hsz hlt
   obtain ⟨i0, hi0', hz0, hz1, hz2⟩ := info_parts info_int
   have c0 := hT.bv.cell
   have f0 := hT.bv.frozen
   have hpl : pre.length <= 2001 := by have := hs.len; omega
   have rvA := hT.rv.alloc (.cells #[.int .i64 (x.1.1 : Nat)] 3)
   have hpo : ∀ q : Int, Hid (∀ u ∈ [Value.int .i64 q], u.oneCell' = true) := fun q => zzh (by simp [Value.oneCell'])
   have H1 := hpo (x.1.1 : Nat)
   have H2 := hpo x.1.2
   have HT := zzh hT
   clear hpo hT
   gi_upto_region 8 with (gi_at_builtin; refine zbC _ rfl (.tmp 17) (.tmp 19) 59 rfl (w5.heap.size + 5) 3 i0 (.int .i64 0) 1 8 Tryz.underlying59 hi0' hz0 hz1 hz2 rfl (by decide) v pre.length (ints (atsP (pre.map (·.1)))) rfl rvA ⟨W.heap.size, 0, none⟩ 1 1 [.int .i64 (x.1.1 : Nat)] rfl rfl (World.news_of_block (cs := #[.int .i64 (x.1.1 : Nat)]) (heap_alloc_new _ _)) H1.out (by decide) (by unfold maxLen; omega) (by omega) (by simp; omega) _ rfl ?_; intro g8 cap8 w8 hown8 hgrow8 hat8 hlt8; (have kv := push_box (by decide) HT.out.bv HT.out.rv hgrow8); (have c8 := kv.cell); (have f8 := kv.frozen))
   have hT9 := HT.out.first hgrow8 hown8 hat8
   have hP9 := pushed (Y := w.heap.size) hsz HT.out.rv hgrow8 (.slice (some ⟨g8, 0, none⟩) (pre.length + 1) cap8)
   clear kv c8 f8 c0 f0 rvA hown8 hgrow8 hat8 hlt8 HT
   generalize w8.setCell ⟨w.heap.size, 0, none⟩ (.slice (some ⟨g8, 0, none⟩) (pre.length + 1) cap8) = w9 at hT9 hP9 ⊢
   have c1 := hT9.bu.cell
   have f1 := hT9.bu.frozen
   have ruA := hT9.ru.alloc (.cells #[.int .i64 x.1.2] 3)
   have hsz9 : w5.heap.size + 5 <= w9.heap.size := Nat.le_trans hsz hP9.others.size
   have HT9 := zzh hT9
   have HP9 := zzh hP9
   clear hT9 hP9
   gi_wp2_with (gi_at_builtin; refine zbC _ rfl (.tmp 21) (.tmp 23) 59 rfl (w5.heap.size + 5) 3 i0 (.int .i64 0) 1 8 Tryz.underlying59 hi0' hz0 hz1 hz2 rfl (by decide) u pre.length (ints (zcP (pre.map (·.1)))) rfl ruA ⟨w9.heap.size, 0, none⟩ 1 1 [.int .i64 x.1.2] rfl rfl (World.news_of_block (cs := #[.int .i64 x.1.2]) (heap_alloc_new _ _)) H2.out (by decide) (by unfold maxLen; omega) (by omega) (by simp; omega) _ rfl ?_; intro g10 cap10 w10 hown10 hgrow10 hat10 hlt10; (have ku := push_box (by decide) HT9.out.bu HT9.out.ru hgrow10); (have c10 := ku.cell); (have f10 := ku.frozen))
   have hT11 := HT9.out.swap hgrow10 hown10 hat10
   have hP11 := pushed (Y := w.heap.size + 1) hsz9 HT9.out.ru hgrow10 (.slice (some ⟨g10, 0, none⟩) (pre.length + 1) cap10)
   generalize w10.setCell ⟨w.heap.size + 1, 0, none⟩ (.slice (some ⟨g10, 0, none⟩) (pre.length + 1) cap10) = w11 at hT11 hP11 ⊢
   have hbn : Below w.heap.size W w11 := (HP9.out.below _ (Nat.le_refl _) (by omega) (by omega)).trans (hP11.below _ (by omega) (by omega) (by omega))
   have hko := HP9.out.others.trans hP11.others
   have hfr : ∀ k, k < w5.heap.size + 5 -> k ≠ w.heap.size -> k ≠ w.heap.size + 1 -> w11.heap[k]? = W.heap[k]? := fun k h1 h2 h3 => (hP11.frame k h1 h3).trans (HP9.out.frame k h1 h2)
   have e1 : atsP ((pre ++ [x]).map (·.1)) = atsP (pre.map (·.1)) ++ [((x.1.1 : Nat) : Int)] := by simp [atsP]
   have e2 : zcP ((pre ++ [x]).map (·.1)) = zcP (pre.map (·.1)) ++ [x.1.2] := by simp [zcP]
   have e3 : (pre ++ [x]).length = pre.length + 1 := by simp
   have hbz := eB.size
   have hT12 : ∃ v u, Two w11 (w5.heap.size + 5) w.heap.size (pre ++ [x]).length (pre ++ [x]).length (atsP ((pre ++ [x]).map (·.1))) (zcP ((pre ++ [x]).map (·.1))) v u := by rw [e1, e2, e3]; exact ⟨_, _, hT11⟩
   refine ⟨hko, ⟨hbn, hfr _ (by omega) (by omega) (by omega), fun r h1 h2 => hfr r (by omega) (by omega) (by omega), hko.from _⟩, hT12, (hfr _ (by omega) (by omega) (by omega)).trans hS, hb.trans hbn⟩
  case hKb =>
   intro A o hlt
   refine ⟨(Below.refl _ A).grown (grownBy_putObj' A _ o) (by have := eB.size; omega) (fun k e => by cases e; have := eB.size; omega), World.putObj_heap_other (by omega), fun r h1 h2 => World.putObj_heap_other (by omega), KeepsFrom.of_grownBy (grownBy_putObj' A _ o) (fun j e => by cases e; omega)⟩
  case done =>
   rintro ys W hys ⟨⟨v, u, hT⟩, hS, hb⟩ hK
   have Hys := zzh hys
   have c0 := hT.bv.cell
   have f0 := hT.bv.frozen
   have c1 := hT.bu.cell
   have f1 := hT.bu.frozen
   clear hys
   obtain ⟨pv, cv, rfl⟩ := zaf hT.rv
   obtain ⟨pu, cu, rfl⟩ := zaf hT.ru
   gi_wp2
   refine wpIn_wide.2 ?_
   go_region
   have hT2 := hT.back
   have hKo : KeepsOthers W ((W.setCell ⟨w.heap.size, 0, none⟩ (.slice pv ys.length cv)).setCell ⟨w.heap.size + 1, 0, none⟩ (.slice pu ys.length cu)).drew := ((KeepsOthers.setCell _ _ _).trans (KeepsOthers.setCell _ _ _)).trans (KeepsOthers.drew _)
   have hK' := hKo.same w5.heap.size _ hK rfl
   have hbE : Below w.heap.size w ((W.setCell ⟨w.heap.size, 0, none⟩ (.slice pv ys.length cv)).setCell ⟨w.heap.size + 1, 0, none⟩ (.slice pu ys.length cu)).drew := ((hb.setCell (p := ⟨w.heap.size, 0, none⟩) (by simp only; omega) _).setCell (p := ⟨w.heap.size + 1, 0, none⟩) (by simp only; omega) _).drew
   generalize (W.setCell ⟨w.heap.size, 0, none⟩ (.slice pv ys.length cv)).setCell ⟨w.heap.size + 1, 0, none⟩ (.slice pu ys.length cu) = W9 at hT2 hK' hbE ⊢
   clear c0 f0 c1 f1 hKo hT hb
   gi_wp2
   refine ⟨by simp, .inl ⟨_, _, rfl, run_takeDeferred hK', ?_⟩⟩
   have q1 := cell_kept (W := W9.drew) hT2.bv.cell (grownBy_putObj' _ w5.heap.size (.deferred none)) (fun r e => by cases e; exact ⟨_, hK', rfl⟩)
   have q2 := cell_kept (W := W9.drew) hT2.bu.cell (grownBy_putObj' _ w5.heap.size (.deferred none)) (fun r e => by cases e; exact ⟨_, hK', rfl⟩)
   have hr : legR L s = ys.map (·.1) := by unfold legR; rw [if_pos Hck.out, Hys.out]
   have hrl : (legR L s).length = ys.length := by rw [hr, List.length_map]
   refine ⟨.tuple #[.slice pv ys.length cv, .slice pu ys.length cu, .int .i64 0], ?_, ⟨⟨_, _, by rw [Hck.out], ?_, ?_, hT2.ne⟩, hbE.trans (belowK_b (w := w) (Nat.le_refl _) _ w5.heap.size _ _ eB.size hK' rfl rfl)⟩⟩
   · simp [results, Tryz.f55, go_sem, q1, q2]
   ·
    rw [hrl, hr]
    exact zas (ownsRow_putObj hT2.rv _ hK' rfl) (by have := eB.size; omega)
   ·
    rw [hrl, hr]
    exact zas (ownsRow_putObj hT2.ru _ hK' rfl) (by have := eB.size; omega)
  case stop =>
   rintro c pre W _ h
   exact h.elim
 ·
  have hck' : ((colP L s : Int) != 0) = true := by simpa using hck
  have HR := zzh (show legR L s = [] by unfold legR; rw [if_neg hck])
  have c0 := d0.cell
  have c1 := d1.cell
  have f0 := d0.frozen
  have f1 := d1.frozen
  clear hck
  gi_wp2
  have g0 := (Boxed.set (.slice none 0 0) d0).other (B' := w.heap.size + 1) (by omega) (.slice none 0 0)
  have g1 := Boxed.set (.slice none 0 0) (d1.other (B' := w.heap.size) (by omega) (.slice none 0 0))
  have q1 := g0.cell
  have q2 := g1.cell
  refine ⟨.tuple #[.slice none 0 0, .slice none 0 0, .int .i64 (colP L s)], ?_, ⟨⟨_, _, rfl, by rw [HR.out]; exact World.ownsRow_nil _ _ _ _, by rw [HR.out]; exact World.ownsRow_nil _ _ _ _, fun g h => by cases h⟩, (hbw.setCell (p := ⟨w.heap.size, 0, none⟩) (by simp only; omega) _).setCell (p := ⟨w.heap.size + 1, 0, none⟩) (by simp only; omega) _⟩⟩
  simp [results, Tryz.f55, go_sem, q1, q2]
end
end Go.Proofs.YtaehkbbdmamfpaaGreatDoor
