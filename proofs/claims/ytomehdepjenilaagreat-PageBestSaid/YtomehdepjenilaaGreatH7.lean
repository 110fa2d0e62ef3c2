/-
  The page builder: how bad a page is; a break is tried.
-/
import Derived.Test.YtomehdepjenilaaGreatH4
import Derived.Test.YtomehdepjenilaaGreatTame4
import Derived.Test.YtomehdepjenilaaGreatC5
import Derived.Test.YtomehdepjenilaaGreatL1
set_option maxRecDepth 100000
set_option maxHeartbeats 8000000
namespace Go.Proofs.YtomehdepjenilaaGreat
open Go.ChangeShapes Go.WideShapes Go.ChangeAt Go.RowKit
def held31 (x : Int) : Int := max (-2147483647) (min x 2147483647)
def badG (goal : Int) (t : Tt) : Int :=
  let x := wrap64 (goal - t.nat)
  if x = 0 ∨ 0 < x ∧ (t.s1 ≠ 0 ∨ t.s2 ≠ 0 ∨ t.s3 ≠ 0) then 0
  else if x < 0 ∧ t.h0 < wrap64 (-x) then 1073741823
  else if 0 < x then badP (held31 x) (held31 t.s0)
  else if wrap64 (-x) < 0 then 0 else badP (held31 (wrap64 (-x))) (held31 t.h0)
theorem held_in (x : Int) : -2147483647 ≤ held31 x ∧ held31 x ≤ 2147483647 := by unfold held31; omega
theorem held_any (x : Int) (w : World) : Calls Tryz.prog 151 #[.int .i64 x] w fun e w' => e = .returned (.int .i64 (held31 x)) ∧ w' = w := by
  go_enter Tryz.func151, Tryz.ntmps151
  go_wp2_with fail
  all_goals go_ret
  all_goals exact ⟨ret_i1 (by unfold held31; omega), rfl⟩
theorem vbad_neg (t s : Int) (w : World) (h0 : t < 0) (ht : -2147483647 ≤ t) (hs1 : -2147483647 ≤ s) (hs2 : s ≤ 2147483647) :
    Calls Tryz.prog 152 #[.int .i64 t, .int .i64 s] w fun e w' => e = .returned (.tuple #[.int .i64 0, .int .i64 1]) ∧ Below w.heap.size w w' := by
  have HF := Lib.hid (anyFar2 (fun k => if k = 0 then t else s) w.heap.size (w.alloc (.cells #[.int .i64 t, .int .i64 s] 3)) (two_near (heap_alloc_new w _) (by omega) (by omega)))
  go_enter Tryz.func152, Tryz.ntmps152
  go_wp2_with (go_at_call 166; refine HF.out.mono ?_; rintro e w' ⟨rfl, rfl⟩)
  all_goals go_ret2
  all_goals exact ⟨rfl, (Below.refl _ _).alloc (Nat.le_refl _) _⟩
theorem sbad_v (V : Int) (S : Nat) (c : Sc) (w : World) (h : ScAt w S c) (hV : badG c.goal c.t = V) : Calls Tryz.prog 142 #[.pointer (some ⟨S, 0, none⟩)] w fun e w' => e = .returned (.int .i64 V) ∧ Below w.heap.size w w' := by
  have c3 := h.cell 3 _ (Sc.get3 c)
  have c4 := h.cell 4 _ (Sc.get4 c)
  have H := Lib.hid h
  have hlt := h.lt
  clear h
  obtain ⟨x, hx⟩ : ∃ x, wrap64 (c.goal - c.t.nat) = x := ⟨_, rfl⟩
  have hb : V = if x = 0 ∨ 0 < x ∧ (c.t.s1 ≠ 0 ∨ c.t.s2 ≠ 0 ∨ c.t.s3 ≠ 0) then 0
    else if x < 0 ∧ c.t.h0 < wrap64 (-x) then 1073741823
    else if 0 < x then badP (held31 x) (held31 c.t.s0)
    else if wrap64 (-x) < 0 then 0 else badP (held31 (wrap64 (-x))) (held31 c.t.h0) := by rw [← hV]; unfold badG; simp only [hx]
  have Hb := Lib.hid hb
  clear hb
  have Hx := Lib.hid hx
  clear hx
  go_enter Tryz.func142, Tryz.ntmps142
  go_wp2_with fail
  go_region
  rw [Hx.out]
  have h2 := H.out.drew
  clear c3 c4
  have hb2 : Below w.heap.size w w.drew := (Below.refl _ _).drew
  generalize w.drew = w2 at h2 hb2 ⊢
  have c5 := h2.cell 5 _ (Sc.get5 c)
  have c6 := h2.cell 6 _ (Sc.get6 c)
  have c7 := h2.cell 7 _ (Sc.get7 c)
  have c8 := h2.cell 8 _ (Sc.get8 c)
  have c9 := h2.cell 9 _ (Sc.get9 c)
  have hlt2 := h2.lt
  have H2 := Lib.hid h2
  clear h2 H hlt Hx
  obtain ⟨s0, hs0⟩ : ∃ s0, c.t.s0 = s0 := ⟨_, rfl⟩
  rw [hs0] at c5 Hb
  have HS0 := Lib.hid hs0
  clear hs0
  generalize c.t.s1 = s1 at c6 Hb ⊢
  generalize c.t.s2 = s2 at c7 Hb ⊢
  generalize c.t.s3 = s3 at c8 Hb ⊢
  obtain ⟨h0, hh0⟩ : ∃ h0, c.t.h0 = h0 := ⟨_, rfl⟩
  rw [hh0] at c9 Hb
  have HH0 := Lib.hid hh0
  clear hh0
  have Hb2 := Lib.hid hb2
  clear hb2
  have HK : Hid (∀ y W, Calls Tryz.prog 151 #[.int .i64 y] W fun e w' => e = .returned (.int .i64 (held31 y)) ∧ w' = W) := Lib.hid held_any
  have HV : Hid (∀ y z W, 0 ≤ y → Calls Tryz.prog 152 #[.int .i64 (held31 y), .int .i64 (held31 z)] W fun e w' => e = .returned (.tuple #[.int .i64 (badP (held31 y) (held31 z)), .int .i64 0]) ∧ Below W.heap.size W w') := Lib.hid fun y z W hy => vbadness _ _ W (by unfold held31; omega) (held_in _).2 (held_in _).1 (held_in _).2
  have HN : Hid (∀ y z W, y < 0 → Calls Tryz.prog 152 #[.int .i64 (held31 y), .int .i64 (held31 z)] W fun e w' => e = .returned (.tuple #[.int .i64 0, .int .i64 1]) ∧ Below W.heap.size W w') := Lib.hid fun y z W hy => vbad_neg _ _ W (by unfold held31; omega) (held_in _).1 (held_in _).1 (held_in _).2
  clear hV
  by_cases x0 : x = 0
  · have hv := Lib.hid (Hb.out.trans (if_pos (.inl x0)))
    subst x0
    go_wp2_with fail
    go_ret
    exact ⟨ret_i1 hv.out.symm, Hb2.out⟩
  by_cases x1 : 0 < x
  · have d1 : decide (x > 0) = true := decide_eq_true x1
    have d2 : decide (x < 0) = false := by simp; omega
    have n1 : ¬ (x < 0 ∧ h0 < wrap64 (-x)) := fun h => by omega
    by_cases k1 : s1 = 0
    case neg =>
      have hv := Lib.hid (Hb.out.trans (if_pos (.inr ⟨x1, .inl k1⟩)))
      have e1 : (s1 != 0) = true := by simpa using k1
      go_wp2_with fail
      go_ret
      exact ⟨ret_i1 hv.out.symm, Hb2.out⟩
    by_cases k2 : s2 = 0
    case neg =>
      have hv := Lib.hid (Hb.out.trans (if_pos (.inr ⟨x1, .inr (.inl k2)⟩)))
      have e1 : (s1 != 0) = false := by simpa using k1
      have e2 : (s2 != 0) = true := by simpa using k2
      go_wp2_with fail
      go_ret
      exact ⟨ret_i1 hv.out.symm, Hb2.out⟩
    by_cases k3 : s3 = 0
    case neg =>
      have hv := Lib.hid (Hb.out.trans (if_pos (.inr ⟨x1, .inr (.inr k3)⟩)))
      have e1 : (s1 != 0) = false := by simpa using k1
      have e2 : (s2 != 0) = false := by simpa using k2
      have e3 : (s3 != 0) = true := by simpa using k3
      go_wp2_with fail
      go_ret
      exact ⟨ret_i1 hv.out.symm, Hb2.out⟩
    have hv := Lib.hid (Hb.out.trans ((if_neg (fun h => by rcases h with h | ⟨_, h | h | h⟩ <;> omega)).trans ((if_neg n1).trans (if_pos x1))))
    have e1 : (s1 != 0) = false := by simpa using k1
    have e2 : (s2 != 0) = false := by simpa using k2
    have e3 : (s3 != 0) = false := by simpa using k3
    have hx1 : 0 ≤ x := by omega
    go_wp2_with fail
    have hb3 : Below w2.heap.size w2 w2.drew := (Below.refl _ _).drew
    refine Rest.region follows ?_
    refine Rest.tame 17 (fun W => Below w2.heap.size w2 W) (by kernel_rfl) hb3 ?_
    simp only [Nat.reduceSub, List.drop_zero, List.take_succ_cons, List.take_zero]
    iterate 17 first
      | (refine TW.cons_n rfl _ (by intro wT hT R hR K hK; simp only [Act.put, lsA, lsB, lsC] at hK; have yc := (H2.out.below hT).cell 5 _ (Sc.get5 c); rw [HS0.out] at yc; go_step; first | ((with_reducible refine (HK.out _ _).mono ?_); rintro e w8 ⟨rfl, rfl⟩; exact hK _ _ (hR _ hT)) | ((with_reducible refine (HV.out _ _ _ hx1).mono ?_); rintro e w8 ⟨rfl, h8⟩; exact hK _ _ (hR _ (hT.trans (h8.mono hT.size)))) | exact hK _ _ (hR _ hT)) ?_; try simp only [Act.put, lsA, lsB, lsC])
    refine TW.nil fun w9 h9 => ?_
    refine Rest.done ?_
    go_wp2_with fail
    go_ret
    exact ⟨ret_i1 hv.out.symm, Hb2.out.trans (h9.mono Hb2.out.size)⟩
  · have d1 : decide (x > 0) = false := decide_eq_false x1
    have x2 : x < 0 := by omega
    have d2 : decide (x < 0) = true := decide_eq_true x2
    have n1 : ¬ (x = 0 ∨ 0 < x ∧ (s1 ≠ 0 ∨ s2 ≠ 0 ∨ s3 ≠ 0)) := fun h => by rcases h with h | h <;> omega
    by_cases y1 : h0 < wrap64 (-x)
    · have d3 : decide (wrap64 (-x) > h0) = true := decide_eq_true y1
      have hv := Lib.hid (Hb.out.trans ((if_neg n1).trans (if_pos ⟨x2, y1⟩)))
      go_wp2_with fail
      go_ret
      exact ⟨ret_i1 hv.out.symm, Hb2.out⟩
    · have d3 : decide (wrap64 (-x) > h0) = false := decide_eq_false y1
      have n2 : ¬ (x < 0 ∧ h0 < wrap64 (-x)) := fun h => y1 h.2
      by_cases z1 : wrap64 (-x) < 0
      · have hv := Lib.hid (Hb.out.trans ((if_neg n1).trans ((if_neg n2).trans ((if_neg x1).trans (if_pos z1)))))
        clear n1 n2
        go_wp2_with fail
        have hb3 : Below w2.heap.size w2 w2.drew := (Below.refl _ _).drew
        refine Rest.region follows ?_
        refine Rest.tame 18 (fun W => Below w2.heap.size w2 W) (by kernel_rfl) hb3 ?_
        simp only [Nat.reduceSub, List.drop_zero, List.take_succ_cons, List.take_zero]
        iterate 18 first
          | (refine TW.cons_n rfl _ (by intro wT hT R hR K hK; simp only [Act.put, lsA, lsB, lsC] at hK; have yc := (H2.out.below hT).cell 9 _ (Sc.get9 c); rw [HH0.out] at yc; go_step; first | ((with_reducible refine (HK.out _ _).mono ?_); rintro e w8 ⟨rfl, rfl⟩; exact hK _ _ (hR _ hT)) | ((with_reducible refine (HN.out _ _ _ z1).mono ?_); rintro e w8 ⟨rfl, h8⟩; exact hK _ _ (hR _ (hT.trans (h8.mono hT.size)))) | exact hK _ _ (hR _ hT)) ?_; try simp only [Act.put, lsA, lsB, lsC])
        refine TW.nil fun w9 h9 => ?_
        refine Rest.done ?_
        go_wp2_with fail
        go_ret
        exact ⟨ret_i1 hv.out.symm, Hb2.out.trans (h9.mono Hb2.out.size)⟩
      · have hv := Lib.hid (Hb.out.trans ((if_neg n1).trans ((if_neg n2).trans ((if_neg x1).trans (if_neg z1)))))
        have z2 : 0 ≤ wrap64 (-x) := by omega
        clear n1 n2 z1
        go_wp2_with fail
        have hb3 : Below w2.heap.size w2 w2.drew := (Below.refl _ _).drew
        refine Rest.region follows ?_
        refine Rest.tame 18 (fun W => Below w2.heap.size w2 W) (by kernel_rfl) hb3 ?_
        simp only [Nat.reduceSub, List.drop_zero, List.take_succ_cons, List.take_zero]
        iterate 18 first
          | (refine TW.cons_n rfl _ (by intro wT hT R hR K hK; simp only [Act.put, lsA, lsB, lsC] at hK; have yc := (H2.out.below hT).cell 9 _ (Sc.get9 c); rw [HH0.out] at yc; go_step; first | ((with_reducible refine (HK.out _ _).mono ?_); rintro e w8 ⟨rfl, rfl⟩; exact hK _ _ (hR _ hT)) | ((with_reducible refine (HV.out _ _ _ z2).mono ?_); rintro e w8 ⟨rfl, h8⟩; exact hK _ _ (hR _ (hT.trans (h8.mono hT.size)))) | exact hK _ _ (hR _ hT)) ?_; try simp only [Act.put, lsA, lsB, lsC])
        refine TW.nil fun w9 h9 => ?_
        refine Rest.done ?_
        go_wp2_with fail
        go_ret
        exact ⟨ret_i1 hv.out.symm, Hb2.out.trans (h9.mono Hb2.out.size)⟩
theorem sbad (S : Nat) (c : Sc) (w : World) (h : ScAt w S c) : Calls Tryz.prog 142 #[.pointer (some ⟨S, 0, none⟩)] w fun e w' => e = .returned (.int .i64 (badG c.goal c.t)) ∧ Below w.heap.size w w' := sbad_v _ S c w h rfl
structure CpIn (w : World) (p : Option Addr) (n cap : Nat) (C : List Cp) : Prop where
  len : n = C.length
  cap' : n ≤ cap
  ex : C ≠ [] → ∃ q o, p = some ⟨q, o, none⟩ ∧ q < w.heap.size ∧ ∀ j (h : j < C.length), agg? w q (o + j * 8) 8 = some C[j].arr
structure Gr where
  height : Int
  depth : Int
  top : Gl
  cls : List Cp
structure BcOf (w : World) (b : Bc) (g : Gr) (bot : ByteArray) (W : List Nd) : Prop where
  height : b.height = g.height
  depth : b.depth = g.depth
  top : b.top = g.top
  bot : b.bot = bot
  cls : CpIn w b.clsA b.clsN b.clsC g.cls
  wn : b.waitsN = W.length
  waits : ∃ q o, NIn w b.waitsA q o b.waitsC W ∧ (∀ a, b.waitsA = some a → a = ⟨q, o, none⟩)
structure BdR (w : World) (base B : Nat) (r : Nat → Option Nat) (b : Bc) (c : Sc) (g : Gr) (bot : ByteArray) (W : List Nd) (R : Rw) : Prop where
  sht : Sht w base r b.sheet c R
  at_ : Cb w B b.arr 71
  of : BcOf w b g bot W
  r0 : r 0 = some B
  r3 : r 3 = blkA b.waitsA
  r7 : r 7 = blkA b.clsA
section
variable {w w' : World} {base B : Nat} {r r' : Nat → Option Nat} {b : Bc} {c c' : Sc} {g : Gr} {bot : ByteArray} {W : List Nd} {R R' : Rw}
theorem CpIn.same {p : Option Addr} {n cap : Nat} {C : List Cp} (h : CpIn w p n cap C) (hz : w.heap.size ≤ w'.heap.size) (hs : ∀ q, blkA p = some q → q < w.heap.size → w'.heap[q]? = w.heap[q]?) : CpIn w' p n cap C := by
  refine ⟨h.len, h.cap', fun hne => ?_⟩
  obtain ⟨q, o, rfl, hq, hc⟩ := h.ex hne
  exact ⟨q, o, rfl, Nat.lt_of_lt_of_le hq hz, fun j hj => (agg?_block (hs q rfl hq)).trans (hc j hj)⟩
theorem NIn.same9 {p : Option Addr} {q o cap : Nat} {L : List Nd} (h : NIn w p q o cap L) (hz : w.heap.size ≤ w'.heap.size) (hs : L ≠ [] → w'.heap[q]? = w.heap[q]?) : NIn w' p q o cap L :=
  ⟨h.hp, fun e => Nat.lt_of_lt_of_le (h.hb e) hz, fun j hj => (agg?_block (hs (h.ne hj))).trans (h.nd j hj), h.cap', h.len⟩
theorem BcOf.same (h : BcOf w b g bot W) (hz : w.heap.size ≤ w'.heap.size) (h3 : ∀ q, blkA b.waitsA = some q → q < w.heap.size → w'.heap[q]? = w.heap[q]?) (h7 : ∀ q, blkA b.clsA = some q → q < w.heap.size → w'.heap[q]? = w.heap[q]?) : BcOf w' b g bot W := by
  obtain ⟨q, o, hN, ha⟩ := h.waits
  exact ⟨h.height, h.depth, h.top, h.bot, h.cls.same hz h7, h.wn, q, o, hN.same9 hz (fun e => h3 q (by rw [hN.hp e]; rfl) (hN.hb e)), ha⟩
theorem BdR.sheet (h : BdR w base B r b c g bot W R) (hs : Sht w' base r' b.sheet c' R') (hr : sameR r r') (hf : Frm (shK r) w w') : BdR w' base B r' b c' g bot W R' := by
  have hn : ∀ i q, (i = 0 ∨ i = 3 ∨ i = 7) → r i = some q → ¬ shK r q := fun i q hi e hk => by
    rcases hk with k | k | k | k | k
    · exact h.sht.own.sep i 1 q (by omega) e k
    · exact h.sht.own.sep i 2 q (by omega) e k
    · exact h.sht.own.sep i 4 q (by omega) e k
    · exact h.sht.own.sep i 5 q (by omega) e k
    · exact h.sht.own.sep i 6 q (by omega) e k
  refine ⟨hs, h.at_.frm hf (hn 0 B (.inl rfl) h.r0), h.of.same hf.size (fun q e hq => hf.block q hq (hn 3 q (.inr (.inl rfl)) (by rw [h.r3, e]))) (fun q e hq => hf.block q hq (hn 7 q (.inr (.inr rfl)) (by rw [h.r7, e]))), ?_, ?_, ?_⟩
  · rw [hr 0 (by decide) (by decide)]; exact h.r0
  · rw [hr 3 (by decide) (by decide)]; exact h.r3
  · rw [hr 7 (by decide) (by decide)]; exact h.r7
theorem BdR.frm (h : BdR w base B r b c g bot W R) {K : Nat → Prop} (hf : Frm K w w') (hn : ∀ k, owns r k → ¬ K k) : BdR w' base B r b c g bot W R := by
  refine ⟨h.sht.frm hf fun k hk => hn k ?_, h.at_.frm hf (hn B ⟨0, h.r0⟩), h.of.same hf.size (fun q e hq => hf.block q hq (hn q ⟨3, by rw [h.r3, e]⟩)) (fun q e hq => hf.block q hq (hn q ⟨7, by rw [h.r7, e]⟩)), h.r0, h.r3, h.r7⟩
  rcases hk with k | k | k | k | k
  · exact ⟨1, k⟩
  · exact ⟨2, k⟩
  · exact ⟨4, k⟩
  · exact ⟨5, k⟩
  · exact ⟨6, k⟩
theorem BdR.below (h : BdR w base B r b c g bot W R) (hb : Below w.heap.size w w') : BdR w' base B r b c g bot W R := h.frm (K := fun _ => False) (Frm.of_below hb) (fun _ _ e => e)
theorem shK_owns {r : Nat → Option Nat} {k : Nat} (h : shK r k) : owns r k := by
  rcases h with k | k | k | k | k
  · exact ⟨1, k⟩
  · exact ⟨2, k⟩
  · exact ⟨4, k⟩
  · exact ⟨5, k⟩
  · exact ⟨6, k⟩
end
structure BdGo (w : World) (base B : Nat) (r : Nat → Option Nat) (b : Bc) (g : Gr) (bot : ByteArray) (W : List Nd) (R' : Rw) (w' : World) : Prop where
  ex : ∃ c' r', BdR w' base B r' b c' g bot W R' ∧ sameR r r' ∧ later r r' w
  frm : Frm (shK r) w w'
theorem BdGo.of {w w' : World} {base B : Nat} {r : Nat → Option Nat} {b : Bc} {c : Sc} {g : Gr} {bot : ByteArray} {W : List Nd} {R R' : Rw} {e : Ending} (h : BdR w base B r b c g bot W R) (hg : ShGo w base r b.sheet R' e w') : BdGo w base B r b g bot W R' w' := by
  obtain ⟨he, ⟨c', r', hs, hr, hl⟩, hf⟩ := hg
  exact ⟨⟨c', r', h.sheet hs hr hf, hr, hl⟩, hf⟩
theorem owns_len {w : World} {base : Nat} {e : TypeId} {size : Nat} {p : Option Addr} {n k m : Nat} {xs : List Value} (h : w.ownsRow base e size (.slice p n k) m xs) : n = m := by
  rcases h.2 with ⟨e, h0⟩ | ⟨g, cp, cur, e, _⟩
  · simp only [Value.slice.injEq] at e; omega
  · simp only [Value.slice.injEq] at e; omega
/-! ### A break is tried -/
def costH (R : Rw) (q : Int) : Int :=
  if badG R.goal R.t = 1073741823 ∨ 10000 ≤ R.pens then 1073741823
  else if q ≤ -10000 then q
  else if badG R.goal R.t < 10000 then wrap64 (wrap64 (badG R.goal R.t + q) + R.pens)
  else 100000
def triedR (R : Rw) (q : Int) : Rw :=
  if costH R q ≤ R.bcost ∧ (costH R q < 1073741823 ∨ R.bsome = false) then { R with bat := R.list.length, bcost := costH R q, bsome := true } else { R with bsome := true }
def firesR (R : Rw) (q : Int) : Bool := costH R q == 1073741823 || decide (q ≤ -10000)
theorem btry (w : World) (base B : Nat) (r : Nat → Option Nat) (b : Bc) (c : Sc) (g : Gr) (bot : ByteArray) (W : List Nd) (R : Rw) (q : Int) (h : BdR w base B r b c g bot W R) :
    Calls Tryz.prog 106 #[.pointer (some ⟨B, 0, none⟩), .int .i64 q] w fun e w' => e = .returned (.bool (firesR R q)) ∧ BdGo w base B r b g bot W (triedR R q) w' := by
  have HB := Lib.hid (sbad b.sheet c w h.sht.at_)
  have cs := h.at_.cell 8 _ (Bc.get8 b)
  have H := Lib.hid h
  obtain ⟨V, hV⟩ : ∃ V, badG c.goal c.t = V := ⟨_, rfl⟩
  rw [hV] at HB
  have hV2 : badG R.goal R.t = V := by rw [← h.sht.of.goal, ← h.sht.of.t]; exact hV
  have HV := Lib.hid hV2
  obtain ⟨C, hC⟩ : ∃ C, costH R q = C := ⟨_, rfl⟩
  have HC := Lib.hid hC
  have hcv : C = if V = 1073741823 ∨ 10000 ≤ R.pens then 1073741823 else if q ≤ -10000 then q else if V < 10000 then wrap64 (wrap64 (V + q) + R.pens) else 100000 := by rw [← hC]; unfold costH; rw [hV2]
  have Hcv := Lib.hid hcv
  clear h hV hV2 hC hcv
  go_enter Tryz.func106, Tryz.ntmps106
  go_upto_block 0 with (go_at_call 142; refine HB.out.mono ?_; clear HB; rintro e w1 ⟨rfl, hb1⟩)
  have h1 := H.out.below hb1
  have c17 := h1.sht.at_.cell 17 _ (Sc.get17 c)
  rw [h1.sht.of.pens] at c17
  have H1 := Lib.hid h1
  have HB1 := Lib.hid hb1
  clear h1 hb1 cs
  generalize R.pens = pn at c17 Hcv
  go_cut [7] from 14 to 38 (fun s7 wx => s7 = .int .i64 C ∧ wx = w1)
  case first =>
    by_cases a1 : V = 1073741823
    · have hv := Lib.hid (Hcv.out.trans (if_pos (.inl a1)))
      subst a1
      go_wp2_with fail
      go_meet
      exact ⟨by rw [hv.out], rfl⟩
    have e1 : (V == 1073741823) = false := by simpa using a1
    by_cases a2 : 10000 ≤ pn
    · have hv := Lib.hid (Hcv.out.trans (if_pos (.inr a2)))
      have e2 : decide (pn ≥ 10000) = true := decide_eq_true a2
      go_wp2_with fail
      go_meet
      exact ⟨by rw [hv.out], rfl⟩
    have e2 : decide (pn ≥ 10000) = false := decide_eq_false a2
    have n1 : ¬ (V = 1073741823 ∨ 10000 ≤ pn) := fun h => by rcases h with h | h; exact a1 h; exact a2 h
    by_cases a3 : q ≤ -10000
    · have hv := Lib.hid (Hcv.out.trans ((if_neg n1).trans (if_pos a3)))
      have e3 : decide (q ≤ -10000) = true := decide_eq_true a3
      clear n1
      go_wp2_with fail
      go_meet
      exact ⟨by rw [hv.out], rfl⟩
    have e3 : decide (q ≤ -10000) = false := decide_eq_false a3
    by_cases a4 : V < 10000
    · have hv := Lib.hid (Hcv.out.trans ((if_neg n1).trans ((if_neg a3).trans (if_pos a4))))
      have e4 : decide (V < 10000) = true := decide_eq_true a4
      clear n1
      go_wp2_with fail
      go_meet
      exact ⟨by rw [hv.out], rfl⟩
    · have hv := Lib.hid (Hcv.out.trans ((if_neg n1).trans ((if_neg a3).trans (if_neg a4))))
      have e4 : decide (V < 10000) = false := decide_eq_false a4
      clear n1
      go_wp2_with fail
      go_meet
      exact ⟨by rw [hv.out], rfl⟩
  obtain ⟨rfl, rfl⟩ := hcut
  have hln : c.listN = R.list.length := owns_len H1.out.sht.of.list
  have sc0 := H1.out.sht
  have c0 : wc.cell? ⟨b.sheet, 0, none⟩ = some (.slice c.listA R.list.length c.listC) := by rw [← hln]; exact sc0.at_.cell 0 _ (Sc.get0 c)
  have c18 := sc0.at_.cell 18 _ (Sc.get18 c)
  have f18 := sc0.at_.frozen 18
  have c19 := sc0.at_.cell 19 _ (Sc.get19 c)
  have f19 := sc0.at_.frozen 19
  have c20 := sc0.at_.cell 20 _ (Sc.get20 c)
  have f20 := sc0.at_.frozen 20
  rw [sc0.of.bcost] at c19
  rw [sc0.of.bsome] at c20
  have Hsc := Lib.hid sc0
  clear hln sc0 c17
  obtain ⟨bc, hbc⟩ : ∃ bc, R.bcost = bc := ⟨_, rfl⟩
  obtain ⟨bs, hbs⟩ : ∃ bs, R.bsome = bs := ⟨_, rfl⟩
  rw [hbc] at c19
  rw [hbs] at c20
  have Ht : Hid (triedR R q = if C ≤ bc ∧ (C < 1073741823 ∨ bs = false) then { R with bat := R.list.length, bcost := C, bsome := true } else { R with bsome := true }) := Lib.hid (by unfold triedR; rw [HC.out, hbc, hbs])
  have Hf : Hid (firesR R q = (C == 1073741823 || decide (q ≤ -10000))) := Lib.hid (by unfold firesR; rw [HC.out])
  clear hbc hbs
  obtain ⟨n, hn⟩ : ∃ n, R.list.length = n := ⟨_, rfl⟩
  rw [hn] at c0
  have Hn := Lib.hid hn
  clear hn
  have hend : ∀ w2, Frm (· = b.sheet) wc w2 → Sht w2 base r b.sheet { c with bat := n, bcost := C, bsome := true } { R with bat := n, bcost := C, bsome := true } → BdGo w base B r b g bot W { R with bat := n, bcost := C, bsome := true } w2 := fun w2 hf hs => by
    have hf2 := frm_S Hsc.out hf
    exact ⟨⟨_, r, H1.out.sheet hs (sameR.refl _) hf2, sameR.refl _, later.refl _ _⟩, (Frm.of_below (K := shK r) HB1.out).trans hf2 fun _ _ e => e⟩
  have hend2 : ∀ w2, Frm (· = b.sheet) wc w2 → Sht w2 base r b.sheet { c with bsome := true } { R with bsome := true } → BdGo w base B r b g bot W { R with bsome := true } w2 := fun w2 hf hs => by
    have hf2 := frm_S Hsc.out hf
    exact ⟨⟨_, r, H1.out.sheet hs (sameR.refl _) hf2, sameR.refl _, later.refl _ _⟩, (Frm.of_below (K := shK r) HB1.out).trans hf2 fun _ _ e => e⟩
  have HE1 := Lib.hid hend
  have HE2 := Lib.hid hend2
  clear hend hend2
  by_cases k1 : C ≤ bc ∧ (C < 1073741823 ∨ bs = false)
  · have ht := Lib.hid (Ht.out.trans (if_pos k1))
    obtain ⟨k2, k3⟩ := k1
    have e1 : decide (C ≤ bc) = true := decide_eq_true k2
    by_cases k4 : C < 1073741823
    · have e2 : decide (C < 1073741823) = true := decide_eq_true k4
      go_wp2_with fail
      all_goals
        try (rename_i h9; subst h9)
        go_ret
        refine ⟨ret_bool (by first | (rw [Hf.out]; done) | (rw [Hf.out]; simp_all)), ?_⟩
        rw [ht.out, Hn.out]
        refine (fun F => HE1.out _ F (Hsc.out.nums F (((Hsc.out.at_.set 18 _ (Sc.set18 _ _)).set 19 _ (Sc.set19 _ _)).set 20 _ (Sc.set20 _ _)) ⟨rfl, rfl, rfl⟩ ⟨rfl, rfl, rfl⟩ ⟨rfl, rfl⟩ rfl rfl rfl rfl ⟨Hsc.out.of.body, Hsc.out.of.box, Hsc.out.of.goal, Hsc.out.of.t, Hsc.out.of.depth, Hsc.out.of.pens, rfl, rfl, rfl, Hsc.out.of.last⟩)) ((((Frm.refl _ _).set1 18 _).set1 19 _).set1 20 _)
    · have e2 : decide (C < 1073741823) = false := decide_eq_false k4
      have e3 : bs = false := by rcases k3 with h | h; exact absurd h k4; exact h
      subst e3
      go_wp2_with fail
      all_goals
        try (rename_i h9; subst h9)
        go_ret
        refine ⟨ret_bool (by first | (rw [Hf.out]; done) | (rw [Hf.out]; simp_all)), ?_⟩
        rw [ht.out, Hn.out]
        refine (fun F => HE1.out _ F (Hsc.out.nums F (((Hsc.out.at_.set 18 _ (Sc.set18 _ _)).set 19 _ (Sc.set19 _ _)).set 20 _ (Sc.set20 _ _)) ⟨rfl, rfl, rfl⟩ ⟨rfl, rfl, rfl⟩ ⟨rfl, rfl⟩ rfl rfl rfl rfl ⟨Hsc.out.of.body, Hsc.out.of.box, Hsc.out.of.goal, Hsc.out.of.t, Hsc.out.of.depth, Hsc.out.of.pens, rfl, rfl, rfl, Hsc.out.of.last⟩)) ((((Frm.refl _ _).set1 18 _).set1 19 _).set1 20 _)
  · have ht := Lib.hid (Ht.out.trans (if_neg k1))
    by_cases k2 : C ≤ bc
    · have e1 : decide (C ≤ bc) = true := decide_eq_true k2
      have k4 : ¬ C < 1073741823 := fun h => k1 ⟨k2, .inl h⟩
      have e2 : decide (C < 1073741823) = false := decide_eq_false k4
      have e3 : bs = true := by
        cases bs
        · exact absurd ⟨k2, .inr rfl⟩ k1
        · rfl
      subst e3
      clear k1
      go_wp2_with fail
      all_goals
        try (rename_i h9; subst h9)
        go_ret
        refine ⟨ret_bool (by first | (rw [Hf.out]; done) | (rw [Hf.out]; simp_all)), ?_⟩
        rw [ht.out]
        have F : Frm (· = b.sheet) wc (wc.setCell ⟨b.sheet, 20, none⟩ (.bool true)) := (Frm.refl _ _).set1 20 _
        exact HE2.out _ F (Hsc.out.nums F (Hsc.out.at_.set 20 _ (Sc.set20 _ _)) ⟨rfl, rfl, rfl⟩ ⟨rfl, rfl, rfl⟩ ⟨rfl, rfl⟩ rfl rfl rfl rfl ⟨Hsc.out.of.body, Hsc.out.of.box, Hsc.out.of.goal, Hsc.out.of.t, Hsc.out.of.depth, Hsc.out.of.pens, Hsc.out.of.bat, Hsc.out.of.bcost, rfl, Hsc.out.of.last⟩)
    · have e1 : decide (C ≤ bc) = false := decide_eq_false k2
      clear k1
      go_wp2_with fail
      all_goals
        try (rename_i h9; subst h9)
        go_ret
        refine ⟨ret_bool (by first | (rw [Hf.out]; done) | (rw [Hf.out]; simp_all)), ?_⟩
        rw [ht.out]
        have F : Frm (· = b.sheet) wc (wc.setCell ⟨b.sheet, 20, none⟩ (.bool true)) := (Frm.refl _ _).set1 20 _
        exact HE2.out _ F (Hsc.out.nums F (Hsc.out.at_.set 20 _ (Sc.set20 _ _)) ⟨rfl, rfl, rfl⟩ ⟨rfl, rfl, rfl⟩ ⟨rfl, rfl⟩ rfl rfl rfl rfl ⟨Hsc.out.of.body, Hsc.out.of.box, Hsc.out.of.goal, Hsc.out.of.t, Hsc.out.of.depth, Hsc.out.of.pens, Hsc.out.of.bat, Hsc.out.of.bcost, rfl, Hsc.out.of.last⟩)
theorem not_shK {r r' : Nat → Option Nat} {w : World} {q : Nat} (h : ¬ shK r q) (hs : sameR r r') (hl : later r r' w) (hq : q < w.heap.size) : ¬ shK r' q := by
  intro hk
  refine h ?_
  rcases hk with k | k | k | k | k
  · exact .inl (by rw [← hs 1 (by decide) (by decide)]; exact k)
  · rcases hl 2 q k with h1 | h1
    · exact .inr (.inl h1)
    · omega
  · exact .inr (.inr (.inl (by rw [← hs 4 (by decide) (by decide)]; exact k)))
  · exact .inr (.inr (.inr (.inl (by rw [← hs 5 (by decide) (by decide)]; exact k))))
  · rcases hl 6 q k with h1 | h1
    · exact .inr (.inr (.inr (.inr h1)))
    · omega
theorem new_shK {w : World} {base : Nat} {r : Nat → Option Nat} {q : Nat} (h : Own base r w) (hq : w.heap.size ≤ q) : ¬ shK r q := by
  intro hk
  rcases hk with k | k | k | k | k
  · have := (h.lt 1 q k).2; omega
  · have := (h.lt 2 q k).2; omega
  · have := (h.lt 4 q k).2; omega
  · have := (h.lt 5 q k).2; omega
  · have := (h.lt 6 q k).2; omega
theorem not_owns {r r' : Nat → Option Nat} {w : World} {q : Nat} (h : ¬ owns r q) (hl : later r r' w) (hq : q < w.heap.size) : ¬ owns r' q := fun hk => h (hl.owns q hq hk)
theorem new_owns {w : World} {base : Nat} {r : Nat → Option Nat} {q : Nat} (h : Own base r w) (hq : w.heap.size ≤ q) : ¬ owns r q := fun ⟨i, e⟩ => by have := (h.lt i q e).2; omega
structure BdS (w : World) (base B : Nat) (r : Nat → Option Nat) (b : Bc) (g : Gr) (bot : ByteArray) (W : List Nd) (R1 : Rw) (w1 : World) (c1 : Sc) (r1 : Nat → Option Nat) : Prop where
  bd : BdR w1 base B r1 b c1 g bot W R1
  same : sameR r r1
  lat : later r r1 w
  frm : Frm (shK r) w w1
section
variable {w w1 w2 : World} {base B : Nat} {r r1 r2 : Nat → Option Nat} {b : Bc} {c c1 c2 : Sc} {g : Gr} {bot : ByteArray} {W : List Nd} {R R1 R2 : Rw}
theorem BdS.refl (h : BdR w base B r b c g bot W R) : BdS w base B r b g bot W R w c r := ⟨h, sameR.refl _, later.refl _ _, Frm.refl _ _⟩
theorem BdS.below (h : BdS w base B r b g bot W R1 w1 c1 r1) (hb : Below w1.heap.size w1 w2) : BdS w base B r b g bot W R1 w2 c1 r1 :=
  ⟨h.bd.below hb, h.same, h.lat, h.frm.trans (Frm.of_below (K := fun _ => False) hb) fun _ _ e => e.elim⟩
theorem BdS.step (h : BdS w base B r b g bot W R1 w1 c1 r1) {e : Ending} (hg : ShGo w1 base r1 b.sheet R2 e w2) : ∃ c2 r2, BdS w base B r b g bot W R2 w2 c2 r2 ∧ sameR r1 r2 ∧ later r1 r2 w1 ∧ Frm (shK r1) w1 w2 := by
  obtain ⟨_, ⟨c2, r2, hs, hr, hl⟩, hf⟩ := hg
  refine ⟨c2, r2, ⟨h.bd.sheet hs hr hf, h.same.trans hr, h.lat.trans hl h.frm.size, h.frm.trans hf fun k hk hs => ?_⟩, hr, hl, hf⟩
  by_cases hn : shK r k
  · exact hn
  · exact absurd hs (not_shK hn h.same h.lat hk)
theorem BdS.go (h : BdS w base B r b g bot W R1 w1 c1 r1) : BdGo w base B r b g bot W R1 w1 := ⟨⟨c1, r1, h.bd, h.same, h.lat⟩, h.frm⟩
structure Lc (w1 : World) (r1 : Nat → Option Nat) (N : Nat) (a : Array Value) (t : TypeId) : Prop where
  at_ : Cb w1 N a t
  off : ¬ owns r1 N
theorem Lc.step {N : Nat} {a : Array Value} {t : TypeId} (h : Lc w1 r1 N a t) (hl : later r1 r2 w1) (hf : Frm (shK r1) w1 w2) : Lc w2 r2 N a t := ⟨h.at_.frm hf fun e => h.off (shK_owns e), not_owns h.off hl h.at_.lt⟩
theorem Lc.new (h : Own base r1 w1) (a : Array Value) (t : TypeId) : Lc (w1.alloc (.cells a t)) r1 w1.heap.size a t := ⟨Cb.new _ _ _, new_owns h (Nat.le_refl _)⟩
theorem BdS.loc (h : BdS w base B r b g bot W R1 w1 c1 r1) {N : Nat} (hf : Frm (· = N) w1 w2) (hn : ¬ owns r1 N) (hN : w.heap.size ≤ N) : BdS w base B r b g bot W R1 w2 c1 r1 :=
  ⟨h.bd.frm hf fun k hk e => hn (by rw [← e]; exact hk), h.same, h.lat, h.frm.trans hf fun k hk e => by omega⟩
theorem Lc.below {N : Nat} {a : Array Value} {t : TypeId} (h : Lc w1 r1 N a t) (hb : Below w1.heap.size w1 w2) : Lc w2 r1 N a t := ⟨h.at_.below hb, h.off⟩
structure ItIn (w1 : World) (r1 : Nat → Option Nat) (p : Option Addr) (q o cap : Nat) (X : List Nd) : Prop where
  at_ : NIn w1 p q o cap X
  ne : X ≠ []
  off : ¬ shK r1 q
theorem ItIn.step {p : Option Addr} {q o cap : Nat} {X : List Nd} (h : ItIn w1 r1 p q o cap X) (hr : sameR r1 r2) (hl : later r1 r2 w1) (hf : Frm (shK r1) w1 w2) : ItIn w2 r2 p q o cap X :=
  ⟨h.at_.same9 hf.size fun _ => hf.block q (h.at_.hb h.ne) h.off, h.ne, not_shK h.off hr hl (h.at_.hb h.ne)⟩
theorem ItIn.below {p : Option Addr} {q o cap : Nat} {X : List Nd} (h : ItIn w1 r1 p q o cap X) (hb : Below w1.heap.size w1 w2) : ItIn w2 r1 p q o cap X := ⟨h.at_.below hb, h.ne, h.off⟩
end
theorem put_bd {w w1 : World} {base B : Nat} {r r1 : Nat → Option Nat} {b : Bc} {c1 : Sc} {g : Gr} {bot : ByteArray} {W : List Nd} {R1 : Rw} (h : BdS w base B r b g bot W R1 w1 c1 r1) {p : Option Addr} {q o cap : Nat} {X : List Nd} (hX : ItIn w1 r1 p q o cap X) (hlen : R1.list.length + X.length ≤ 800000000000) :
    Calls Tryz.prog 101 #[.pointer (some ⟨b.sheet, 0, none⟩), .slice p X.length cap] w1 (ShGo w1 base r1 b.sheet (putR R1 X)) :=
  put_any w1 base r1 b.sheet c1 R1 p q o cap X h.bd.sht hX.at_ hX.ne (fun e => hX.off (.inl (by rw [h.bd.sht.ro.r1, e]))) (fun e => hX.off (.inr (.inl e))) hlen
/-! ### Pages as results -/
abbrev Pc.zero : Pc := ⟨none, 0, 0, none, 0, 0, none, 0, 0, 0, 0, ⟨#[]⟩, ⟨#[]⟩, ⟨#[]⟩⟩
def bdPg (parts : Array (Nat × Value)) : Sem Value := Instr.build 46 parts
@[go_sem ↓] theorem execOp_buildPg (ρ : Operand → Value) (dst : Option Tmp) (x : Array (Nat × Operand)) (ty : TypeId) (pos : String) (after : Array Edge) (guard : Option (Nat × Bool)) :
    execOp ρ { dst, op := .build 46 x, type := ty, pos, after, guard } = (do pure (.value (← bdPg (x.map fun (i, y) => (i, ρ y))))) := rfl
@[go_sem] theorem run_bdPg0 (w : World) : (bdPg #[]).run Tryz.prog w = .ok (.agg Pc.zero.arr) w := by kernel_rfl
theorem results_pc2 {fn : Func} {p t : Tmp} (h : fn.results = #[.cell p 46, .tmp t]) (tmps : Array Value) (w : World) (b : Nat) (T : Pc) (hp : tmps.getD p undef = .pointer (some ⟨b, 0, none⟩)) (hc : agg? w b 0 8 = some T.arr) :
    (results fn tmps).run Tryz.prog w = .ok (.tuple #[.agg T.arr, tmps.getD t undef]) w := by
  have hl : (loadVar 46 ⟨b, 0, none⟩).run Tryz.prog w = .ok (.agg T.arr) w := by
    have := run_loadAt_row (P := Tryz.prog) 46 8 _ u_pc rfl i_pc b 0 w
    rw [hc, ldRow_some] at this
    simpa [Instr.loadAt, Instr.sureAddr] using this
  have hp' : tmps[p]?.getD undef = .pointer (some ⟨b, 0, none⟩) := by simpa using hp
  simp [results, h, hp', asAddr, hl]
abbrev PgAt (w : World) (P : Nat) (T : Pc) : Prop := Cb w P T.arr 46
structure NoPg (w : World) (base B : Nat) (r : Nat → Option Nat) (b : Bc) (g : Gr) (bot : ByteArray) (W : List Nd) (R' : Rw) (e : Ending) (w' : World) : Prop where
  ret : e = .returned (.tuple #[.agg Pc.zero.arr, .bool false])
  go : BdGo w base B r b g bot W R' w'
theorem bpassive (w : World) (base B : Nat) (r : Nat → Option Nat) (b : Bc) (c : Sc) (g : Gr) (bot : ByteArray) (W : List Nd) (R : Rw) (p : Option Addr) (q o cap : Nat) (X : List Nd) (h : BdR w base B r b c g bot W R) (hX : ItIn w r p q o cap X) (hlen : R.list.length + X.length ≤ 800000000000) :
    Calls Tryz.prog 89 #[.pointer (some ⟨B, 0, none⟩), .slice p X.length cap] w (NoPg w base B r b g bot W (putR R X)) := by
  have hs := BdS.refl h
  have HO := Lib.hid h.sht.own
  clear h
  go_enter Tryz.func89, Tryz.ntmps89
  go_upto_region 1 with (fail)
  have hb1 : Below w.heap.size w (w.alloc (.cells (Pc.mk none 0 0 none 0 0 none 0 0 0 0 ⟨#[]⟩ ⟨#[]⟩ ⟨#[]⟩).arr 46)) := (Below.refl _ _).alloc (Nat.le_refl _) _
  have hP : Lc (w.alloc (.cells (Pc.mk none 0 0 none 0 0 none 0 0 0 0 ⟨#[]⟩ ⟨#[]⟩ ⟨#[]⟩).arr 46)) r w.heap.size Pc.zero.arr 46 := Lc.new HO.out _ _
  have hs1 := hs.below hb1
  have hX1 := hX.below hb1
  clear hs hX hb1
  generalize w.alloc (.cells (Pc.mk none 0 0 none 0 0 none 0 0 0 0 ⟨#[]⟩ ⟨#[]⟩ ⟨#[]⟩).arr 46) = w1 at hP hs1 hX1 ⊢
  obtain ⟨P, hPz⟩ : ∃ P, w.heap.size = P := ⟨_, rfl⟩
  rw [hPz] at hP ⊢
  have hPle : w.heap.size ≤ P := by omega
  clear hPz
  have cs := hs1.bd.at_.cell 8 _ (Bc.get8 b)
  have HPut := Lib.hid (put_bd hs1 hX1 hlen)
  have HP := Lib.hid hP
  have HS := Lib.hid hs1
  clear hP hs1 hX1
  go_upto_region 2 with (go_at_call 101; refine HPut.out.mono ?_; clear HPut; rintro e w2 hgo; obtain rfl := hgo.ret)
  obtain ⟨c2, r2, hs2, hr2, hl2, hf2⟩ := HS.out.step hgo
  have hP2 := HP.out.step hl2 hf2
  have th := hP2.at_.there 0 8 (by rw [Pc.size_arr]; decide)
  clear cs
  go_wp2_with fail
  have ha : Cb (setAgg w2 P 0 Pc.zero.arr) P Pc.zero.arr 46 := hP2.at_.setAgg 0 _ (setMany_Pc _ _)
  have hf3 : Frm (· = P) w2 (setAgg w2 P 0 Pc.zero.arr) := (Frm.refl _ _).setAgg1 _ _
  exact ⟨rfl, _, results_pc2 rfl _ _ P _ rfl (ha.agg 0 8 (by rw [Pc.size_arr]; decide)), ⟨rfl, (hs2.loc hf3 hP2.off hPle).go⟩⟩
end Go.Proofs.YtomehdepjenilaaGreat
