/-
  The page builder: a page that was fired; the end of fire (what waits, the new page).
-/
import Derived.Test.YtomehdepjenilaaGreatH15b
set_option maxHeartbeats 1000000
namespace Go.Proofs.YtomehdepjenilaaGreat
open Go.ChangeShapes Go.WideShapes Go.ChangeAt Go.RowKit
theorem ap_none9 {P : Program} {w : World} {o : Oper} {a : Act} {K : Act → World → Prop} {Q : Exit → Act → World → Prop} (s x : Operand) (t : TypeId)
    (ho : o.op = .call { callee := .builtin .append, args := #[s, x], argTypes := #[t, t] })
    (base : Nat) (e : TypeId) (i : TypeInfo) (size cc : Nat) (ht : P.underlying t = some (.slice e)) (hi : P.info? e = some i)
    (v : Value) (n : Nat) (xs : List Value) (hs : a.eval s = v) (hown : w.ownsRow base e size v n xs) (hx : a.eval x = .slice none 0 cc) (h : K (a.put o.dst v) w) : o.wp P a w K Q := by
  have hrun : (Builtin.append_ #[t, t] o.type #[v, .slice none 0 cc]).run P w = .ok v w := by
    rcases hown.2 with ⟨rfl, rfl⟩ | ⟨g, cap, cur, rfl, _, _, hnc, _⟩
    · simp [Builtin.append_, run_underlying ht, sizeOf, typeInfo, hi, Builtin.lenOf, Builtin.firstCells]
    · simp [Builtin.append_, run_underlying ht, sizeOf, typeInfo, hi, Builtin.lenOf, Builtin.firstCells, hnc, storeCells]
  unfold Oper.wp
  simp [execOp, ho, resolve, invoke, builtin, hs, hx, hrun, Result.andThen]
  exact h
structure PgP where
  box : List Nd
  held : List Nd
  pen : Int
  cost : Int
  top : ByteArray
  first : ByteArray
  bot : ByteArray
structure PgIn (w : World) (base : Nat) (T : Pc) (p : PgP) : Prop where
  box : w.ownsRow base 49 19 (.slice T.boxA T.boxN T.boxC) p.box.length (p.box.flatMap Nd.cells)
  held : w.ownsRow base 49 19 (.slice T.heldA T.heldN T.heldC) p.held.length (p.held.flatMap Nd.cells)
  pen : T.pen = p.pen
  cost : T.cost = p.cost
  top : T.top = p.top
  first : T.first = p.first
  bot : T.bot = p.bot
def pgK (T : Pc) (k : Nat) : Prop := blkA T.boxA = some k ∨ blkA T.heldA = some k
theorem PgIn.frm {w w' : World} {base : Nat} {T : Pc} {p : PgP} {K : Nat → Prop} (h : PgIn w base T p) (hf : Frm K w w') (hn : ∀ k, pgK T k → ¬ K k) : PgIn w' base T p :=
  ⟨ownsRow_same h.box fun g hg hlt => hf.block g hlt (hn g (.inl (by rw [← hg, ownBlock_sl]))), ownsRow_same h.held fun g hg hlt => hf.block g hlt (hn g (.inr (by rw [← hg, ownBlock_sl]))), h.pen, h.cost, h.top, h.first, h.bot⟩
theorem PgIn.ge {w : World} {base : Nat} {T : Pc} {p : PgP} (h : PgIn w base T p) : ∀ k, pgK T k → base ≤ k ∧ k < w.heap.size := fun k hk => by
  rcases hk with hk | hk
  · exact h.box.lt k (by rw [ownBlock_sl, hk])
  · exact h.held.lt k (by rw [ownBlock_sl, hk])
structure Fired (w : World) (base B : Nat) (r : Nat → Option Nat) (g : Gr) (p : PgP) (W' : List Nd) (T : Pc) (w' : World) : Prop where
  pg : PgIn w' w.heap.size T p
  bd : ∃ b' c' r', BdR w' base B r' b' c' g p.bot W' (freshR g.height) ∧ later r r' w ∧ ∀ k, pgK T k → ¬ owns r' k
  frm : Frm (owns r) w w'
theorem Frm.off {w w' w'' : World} {K : Nat → Prop} {Q : Nat} (h : Frm K w w') (hf : Frm (· = Q) w' w'') (hQ : w.heap.size ≤ Q) : Frm K w w'' := h.trans hf fun k hk e => by omega
theorem fire_end {w w10 w14 w15 w16 : World} {base B Q : Nat} {r r1 : Nat → Option Nat} {b1 : Bc} {c : Sc} {g : Gr} {p : PgP} {W' : List Nd} {R : Rw} {T : Pc} (hOw : Own base r w) (r0 : r 0 = some B) (h10 : Frm (owns r) w w10) (hP : PgIn w10 w.heap.size T p)
    (hf14 : Frm (· = B) w10 w14) (hB14 : BdR w14 base B r1 b1 c g p.bot W' R) (hl : later r r1 w10)
    {S mh mc : Nat} (h1 : w14.heap.size ≤ mh) (h2 : mh < mc) (h3 : mc < S) (h4 : S < w15.heap.size) (m1 : MapF w15 mh (fun _ => none)) (m2 : MapF w15 mc (fun _ => none)) (hs : ScAt w15 S (freshC g.height mh mc)) (hb : Cb w15 B (b1.arr.setIfInBounds 8 (.pointer (some ⟨S, 0, none⟩))) 71) (hf15 : Frm (· = B) w14 w15)
    (hf16 : Frm (· = Q) w15 w16) (hQ : w.heap.size ≤ Q ∧ Q < w10.heap.size ∧ ¬ pgK T Q) :
    Fired w base B r g p W' T w16 := by
  obtain ⟨hB, hl2⟩ := BdR.fresh hB14.sht.own hB14.sht.base hB14.of hB14.r0 hB14.r3 hB14.r7 h1 h2 h3 h4 m1 m2 hs (by rw [Bc.set8] at hb; exact hb) hf15
  have hK : ∀ k, pgK T k → w.heap.size ≤ k ∧ k < w10.heap.size := hP.ge
  have hB0 : B < w.heap.size := (hOw.lt 0 B r0).2
  have hne : ∀ k, pgK T k → ¬ k = B := fun k hk e => by have := (hK k hk).1; omega
  have hneQ : ∀ k, pgK T k → ¬ k = Q := fun k hk e => hQ.2.2 (e ▸ hk)
  have hla : later r (freshRo r1 S mh mc) w10 := hl.trans hl2 hf14.size
  have hoff : ∀ k, w.heap.size ≤ k → k < w10.heap.size → ¬ owns (freshRo r1 S mh mc) k := fun k k1 k2 ho => by
    obtain ⟨i, e⟩ := hla.owns k k2 ho
    have := (hOw.lt i k e).2
    omega
  refine ⟨((hP.frm hf14 hne).frm hf15 hne).frm hf16 hneQ, ⟨_, _, _, hB.frm hf16 fun k hk e => hoff Q hQ.1 hQ.2.1 (e ▸ hk), fun i q e => ?_, fun k hk => hoff k (hK k hk).1 (hK k hk).2⟩, ((h10.trans (hf14.mono (K' := owns r) fun k _ e => ⟨0, by rw [r0, e]⟩) fun _ _ e => e).trans (hf15.mono (K' := owns r) fun k _ e => ⟨0, by rw [r0, e]⟩) fun _ _ e => e).off hf16 hQ.1⟩
  rcases hla i q e with e1 | e1
  · exact .inl e1
  · exact .inr (Nat.le_trans h10.size e1)
theorem results_pc1 {fn : Func} {p : Tmp} (h : fn.results = #[.cell p 46]) (tmps : Array Value) (w : World) (b : Nat) (T : Pc) (hp : tmps.getD p undef = .pointer (some ⟨b, 0, none⟩)) (hc : agg? w b 0 8 = some T.arr) :
    (results fn tmps).run Tryz.prog w = .ok (.agg T.arr) w := by
  have hl : (loadVar 46 ⟨b, 0, none⟩).run Tryz.prog w = .ok (.agg T.arr) w := by
    have := run_loadAt_row (P := Tryz.prog) 46 8 _ u_pc rfl i_pc b 0 w
    rw [hc, ldRow_some] at this
    simpa [Instr.loadAt, Instr.sureAddr] using this
  have hp' : tmps[p]?.getD undef = .pointer (some ⟨b, 0, none⟩) := by simpa using hp
  simp [results, h, hp', asAddr, hl]
section
variable {α : Type} {f : α → List Value} {k : Nat}
theorem flatk_at (hf : ∀ a, (f a).length = k) : ∀ (L : List α) (i : Nat) (hi : i < L.length), ((L.flatMap f).drop (i * k)).take k = f L[i]
  | s :: r, 0, _ => by
    rw [Nat.zero_mul, List.drop_zero, List.flatMap_cons, List.getElem_cons_zero]
    exact List.take_left' (hf s)
  | s :: r, i + 1, hi => by
    rw [List.flatMap_cons, show (i + 1) * k = (f s).length + i * k by rw [hf s, Nat.add_mul]; omega, List.drop_append, List.getElem_cons_succ]
    rw [List.drop_eq_nil_of_le (by omega), List.nil_append, Nat.add_sub_cancel_left]
    exact flatk_at hf r i (by simpa using hi)
theorem ownk_at {w : World} {base : Nat} {e : TypeId} {g n c : Nat} {L : List α} (hf : ∀ a, (f a).length = k) (h : w.ownsRow base e k (.slice (some ⟨g, 0, none⟩) n c) L.length (L.flatMap f)) (i : Nat) (hi : i < L.length) : agg? w g (i * k) k = some (f L[i]).toArray := by
  rcases h.2 with ⟨h', _⟩ | ⟨g', cap', cur, h', _, hg, hn, _, hs, ht⟩
  · simp at h'
  · simp only [Value.slice.injEq, Option.some.injEq, Addr.mk.injEq, and_true] at h'
    obtain ⟨rfl, rfl, rfl⟩ := h'
    have h1 : i * k + k ≤ L.length * k := by rw [← Nat.succ_mul]; exact Nat.mul_le_mul_right _ hi
    have h2 : L.length * k ≤ c * k := Nat.mul_le_mul_right _ hn
    unfold agg?
    rw [hg]
    simp only
    rw [if_pos (by omega)]
    congr 1
    have e := flatk_at hf L i hi
    rw [← ht, List.drop_take, List.take_take, Nat.min_eq_left (by omega)] at e
    rw [← e]
    apply Array.ext'
    simp [List.take_drop]
end
def bsCp0 (parts : Array (Nat × Value)) : Sem Value := Instr.buildSlice 32 0 parts
@[go_sem ↓] theorem execOp_bsCp0 (ρ : Operand → Value) (dst : Option Tmp) (x : Array (Nat × Operand)) (ty : TypeId) (pos : String) (after : Array Edge) (guard : Option (Nat × Bool)) :
    execOp ρ { dst, op := .buildSlice 32 0 x, type := ty, pos, after, guard } = (do pure (.value (← bsCp0 (x.map fun (i, y) => (i, ρ y))))) := rfl
theorem eql_nilC (w : World) (a : Option Addr) (n c : Nat) : (binOp .eql 32 (.slice a n c) (.slice none 0 0)).run Tryz.prog w = .ok (.bool a.isNone) w := Lib.run_eql_slice_nil w _ _ a n c 0 0 Tryz.underlying32
structure Out where
  pg : Option PgP
  bot : ByteArray
  W : List Nd
  R : Rw
structure Went (w : World) (base B : Nat) (r : Nat → Option Nat) (g : Gr) (o : Out) (e : Ending) (w' : World) : Prop where
  ex : ∃ T b' c' r', e = .returned (.tuple #[.agg (Pc.arr T), .bool o.pg.isSome]) ∧ (∀ p, o.pg = some p → PgIn w' w.heap.size T p ∧ ∀ k, pgK T k → ¬ owns r' k) ∧ BdR w' base B r' b' c' g o.bot o.W o.R ∧ later r r' w
  frm : Frm (owns r) w w'
section
variable {w w1 w2 w3 : World} {base B : Nat} {r r1 : Nat → Option Nat} {b : Bc} {c c1 : Sc} {g : Gr} {bot : ByteArray} {W W' : List Nd} {R R1 R2 : Rw} {T : Pc} {p : PgP} {e : Ending}
theorem NoPg.went (h : NoPg w base B r b g bot W R1 e w1) : Went w base B r g ⟨none, bot, W, R1⟩ e w1 := by
  obtain ⟨⟨c1, r1, hB, _, hl⟩, hf⟩ := h.go
  exact ⟨⟨Pc.zero, b, c1, r1, h.ret, fun p e => (by cases e), hB, hl⟩, hf.mono fun k _ e => shK_owns e⟩
theorem BdS.go2 (h : BdS w base B r b g bot W R1 w1 c1 r1) (hg : BdGo w1 base B r1 b g bot W R2 w2) : ∃ c2 r2, BdS w base B r b g bot W R2 w2 c2 r2 ∧ sameR r1 r2 ∧ later r1 r2 w1 ∧ Frm (shK r1) w1 w2 := by
  obtain ⟨⟨c2, r2, hB, hr, hl⟩, hf⟩ := hg
  refine ⟨c2, r2, ⟨hB, h.same.trans hr, h.lat.trans hl h.frm.size, h.frm.trans hf fun k hk hs => ?_⟩, hr, hl, hf⟩
  by_cases hn : shK r k
  · exact hn
  · exact absurd hs (not_shK hn h.same h.lat hk)
theorem BdS.none_end (h : BdS w base B r b g bot W R1 w1 c1 r1) {Q : Nat} (hQ : Lc w1 r1 Q Pc.zero.arr 46) (hQw : w.heap.size ≤ Q) :
    agg? (setAgg w1 Q 0 Pc.zero.arr) Q 0 8 = some Pc.zero.arr ∧ Went w base B r g ⟨none, bot, W, R1⟩ (.returned (.tuple #[.agg Pc.zero.arr, .bool false])) (setAgg w1 Q 0 Pc.zero.arr) := by
  have ha : Cb (setAgg w1 Q 0 Pc.zero.arr) Q Pc.zero.arr 46 := hQ.at_.setAgg 0 _ (setMany_Pc _ _)
  have hf3 : Frm (· = Q) w1 (setAgg w1 Q 0 Pc.zero.arr) := (Frm.refl _ _).setAgg1 _ _
  exact ⟨ha.agg 0 8 (by rw [Pc.size_arr]; decide), NoPg.went ⟨rfl, (h.loc hf3 hQ.off hQw).go⟩⟩
theorem BdS.page_end (h : BdS w base B r b g bot W R1 w1 c1 r1) {Q : Nat} (hQ : Lc w1 r1 Q Pc.zero.arr 46) (hQw : w.heap.size ≤ Q) (hF : Fired w1 base B r1 g p W' T w2) :
    there? w2 Q 0 8 = true ∧ agg? (setAgg w2 Q 0 T.arr) Q 0 8 = some T.arr ∧ Went w base B r g ⟨some p, p.bot, W', freshR g.height⟩ (.returned (.tuple #[.agg T.arr, .bool true])) (setAgg w2 Q 0 T.arr) := by
  obtain ⟨hp, ⟨b', c', r', hB, hl, ho⟩, hf⟩ := hF
  have hQ2 : Cb w2 Q Pc.zero.arr 46 := hQ.at_.frm hf hQ.off
  have ha : Cb (setAgg w2 Q 0 T.arr) Q T.arr 46 := hQ2.setAgg 0 _ (setMany_Pc _ _)
  have hf3 : Frm (· = Q) w2 (setAgg w2 Q 0 T.arr) := (Frm.refl _ _).setAgg1 _ _
  have hQo : ¬ owns r' Q := not_owns hQ.off hl hQ.at_.lt
  have hne : ∀ k, pgK T k → ¬ k = Q := fun k hk e => by
    have h1 := (hp.ge k hk).1
    have h2 := hQ.at_.lt
    omega
  have hp3 := hp.frm hf3 hne
  refine ⟨hQ2.there 0 8 (by rw [Pc.size_arr]; decide), ha.agg 0 8 (by rw [Pc.size_arr]; decide), ⟨T, b', c', r', rfl, fun q hq => ?_, hB.frm hf3 fun k hk e => hQo (e ▸ hk), h.lat.trans hl h.frm.size⟩, (((h.frm.mono fun k _ e => shK_owns e).trans hf fun k hk e => h.lat.owns k hk e)).off hf3 hQw⟩
  cases hq
  exact ⟨⟨ownsRow_base hp3.box h.frm.size, ownsRow_base hp3.held h.frm.size, hp3.pen, hp3.cost, hp3.top, hp3.first, hp3.bot⟩, ho⟩
end
structure LMid (w : World) (base B : Nat) (r : Nat → Option Nat) (b : Bc) (g : Gr) (bot : ByteArray) (W : List Nd) (N Q : Nat) (n : Nd) (p : Option Addr) (q o cap : Nat) (X : List Nd) (R1 : Rw) (w1 : World) (c1 : Sc) (r1 : Nat → Option Nat) : Prop where
  bd : BdS w base B r b g bot W R1 w1 c1 r1
  nb : Lc w1 r1 N n.arr 49
  qb : Lc w1 r1 Q Pc.zero.arr 46
  x : ItIn w1 r1 p q o cap X
section
variable {w w1 w2 : World} {base B N Q q o cap : Nat} {p : Option Addr} {r r1 : Nat → Option Nat} {b : Bc} {c1 : Sc} {g : Gr} {bot : ByteArray} {W X : List Nd} {R1 R2 : Rw} {n : Nd} {e : Ending}
theorem LMid.below (h : LMid w base B r b g bot W N Q n p q o cap X R1 w1 c1 r1) (hb : Below w1.heap.size w1 w2) : LMid w base B r b g bot W N Q n p q o cap X R1 w2 c1 r1 := ⟨h.bd.below hb, h.nb.below hb, h.qb.below hb, h.x.below hb⟩
theorem LMid.go (h : LMid w base B r b g bot W N Q n p q o cap X R1 w1 c1 r1) (hg : BdGo w1 base B r1 b g bot W R2 w2) : ∃ c2 r2, LMid w base B r b g bot W N Q n p q o cap X R2 w2 c2 r2 := by
  obtain ⟨c2, r2, hS, hr, hl, hf⟩ := h.bd.go2 hg
  exact ⟨c2, r2, hS, h.nb.step hl hf, h.qb.step hl hf, h.x.step hr hl hf⟩
theorem LMid.step (h : LMid w base B r b g bot W N Q n p q o cap X R1 w1 c1 r1) (hg : ShGo w1 base r1 b.sheet R2 e w2) : ∃ c2 r2, LMid w base B r b g bot W N Q n p q o cap X R2 w2 c2 r2 := h.go (BdGo.of h.bd.bd hg)
end
theorem pdimen (x : Int) (w : World) : Calls Tryz.prog 29 #[.int .i64 x] w fun e w' => e = .returned (.bool (dimenB x)) ∧ w' = w := by
  by_cases h1 : -1073741823 ≤ x
  · have e1 : decide (x ≥ -1073741823) = true := decide_eq_true h1
    go_enter Tryz.func29, Tryz.ntmps29
    go_wp2_with fail
    all_goals
      go_ret
      refine ⟨ret_bool ?_, rfl⟩
      unfold dimenB
      first | (rw [eq_comm, decide_eq_true_iff]; omega) | (rw [eq_comm, decide_eq_false_iff_not]; omega) | simp_all
  · have e1 : decide (x ≥ -1073741823) = false := decide_eq_false h1
    go_enter Tryz.func29, Tryz.ntmps29
    go_wp2_with fail
    all_goals
      go_ret
      refine ⟨ret_bool ?_, rfl⟩
      unfold dimenB
      first | (rw [eq_comm, decide_eq_true_iff]; omega) | (rw [eq_comm, decide_eq_false_iff_not]; omega) | simp_all
theorem pfirm (g : Gl) (w : World) : Calls Tryz.prog 31 #[.agg g.arr] w fun e w' => e = .returned (.bool (g.shr == 0 || g.ho == 0)) ∧ Below w.heap.size w w' := by
  cases e1 : (g.shr == 0)
  · go_enter Tryz.func31, Tryz.ntmps31
    go_wp2_with fail
    go_ret
    exact ⟨ret_bool (by simp), (Below.refl _ _).alloc (Nat.le_refl _) _⟩
  · go_enter Tryz.func31, Tryz.ntmps31
    go_wp2_with fail
    go_ret
    exact ⟨ret_bool (by simp), (Below.refl _ _).alloc (Nat.le_refl _) _⟩
def NoB (w : World) (v : Value) : Prop := v = .pointer none ∨ ∃ B, v = .pointer (some ⟨B, 0, none⟩) ∧ w.cell? ⟨B, 8, none⟩ = some (.pointer none)
theorem good_no (w : World) (v : Value) (h : NoB w v) : Calls Tryz.prog 39 #[v] w fun e w' => e = .returned (.bool false) ∧ w' = w := by
  rcases h with rfl | ⟨B, rfl, hc⟩
  · go_enter Tryz.func39, Tryz.ntmps39
    go_wp2_with fail
    go_ret
    exact ⟨rfl, rfl⟩
  · go_enter Tryz.func39, Tryz.ntmps39
    go_wp2_with fail
    go_ret
    exact ⟨rfl, rfl⟩
theorem good_ok (w : World) (B S : Nat) (hc : w.cell? ⟨B, 8, none⟩ = some (.pointer (some ⟨S, 0, none⟩))) : Calls Tryz.prog 39 #[.pointer (some ⟨B, 0, none⟩)] w fun e w' => e = .returned (.bool true) ∧ w' = w := by
  go_enter Tryz.func39, Tryz.ntmps39
  go_wp2_with fail
  go_ret
  exact ⟨rfl, rfl⟩
theorem put_no (w : World) (v p : Value) (h : NoB w v) : Calls Tryz.prog 14 #[v, p] w fun e w' => e = .returned (.tuple #[.slice none 0 0, .int .i64 1]) ∧ w' = w := by
  have HG := Lib.hid (good_no w v h)
  clear h
  go_enter Tryz.func14, Tryz.ntmps14
  go_wp2_with (go_at_call 39; refine HG.out.mono ?_; rintro e w2 ⟨rfl, rfl⟩)
  go_ret2
  exact ⟨rfl, rfl⟩
theorem flush_no (w : World) (v : Value) (h : NoB w v) : Calls Tryz.prog 24 #[v] w fun e w' => e = .returned (.tuple #[.slice none 0 0, .int .i64 1]) ∧ w' = w := by
  have HG := Lib.hid (good_no w v h)
  clear h
  go_enter Tryz.func24, Tryz.ntmps24
  go_wp2_with (go_at_call 39; refine HG.out.mono ?_; rintro e w2 ⟨rfl, rfl⟩)
  go_ret2
  exact ⟨rfl, rfl⟩
theorem state_no (w : World) (v : Value) (h : NoB w v) : Calls Tryz.prog 26 #[v] w fun e w' => e = .returned (.tuple #[.slice none 0 0, .slice none 0 0]) ∧ w' = w := by
  have HG := Lib.hid (good_no w v h)
  clear h
  go_enter Tryz.func26, Tryz.ntmps26
  go_wp2_with (go_at_call 39; refine HG.out.mono ?_; rintro e w2 ⟨rfl, rfl⟩)
  go_ret2
  exact ⟨rfl, rfl⟩
theorem results_room {fn : Func} {p t u v : Tmp} (h : fn.results = #[.tmp t, .cell p 57, .tmp u, .tmp v]) (tmps : Array Value) (w : World) (b : Nat) (T : Tt) (hp : tmps.getD p undef = .pointer (some ⟨b, 0, none⟩)) (hc : agg? w b 0 9 = some T.arr) :
    (results fn tmps).run Tryz.prog w = .ok (.tuple #[tmps.getD t undef, .agg T.arr, tmps.getD u undef, tmps.getD v undef]) w := by
  have hl : (loadVar 57 ⟨b, 0, none⟩).run Tryz.prog w = .ok (.agg T.arr) w := by
    have := run_loadAt_row (P := Tryz.prog) 57 9 _ u_tt rfl i_tt b 0 w
    rw [hc, ldRow_some] at this
    simpa [Instr.loadAt, Instr.sureAddr] using this
  have hp' : tmps[p]?.getD undef = .pointer (some ⟨b, 0, none⟩) := by simpa using hp
  simp [results, h, hp', asAddr, hl]
theorem room_no (w : World) (v : Value) (h : NoB w v) : Calls Tryz.prog 28 #[v] w fun e w' => e = .returned (.tuple #[.int .i64 0, .agg Tt.zero.arr, .int .i64 0, .int .i64 0]) ∧ Below w.heap.size w w' := by
  have hN : ∀ W, Below w.heap.size w W → NoB W v := fun W hb => by
    rcases h with rfl | ⟨B, rfl, hc⟩
    · exact .inl rfl
    · refine .inr ⟨B, rfl, ?_⟩
      have hl : B < w.heap.size := by
        cases e : w.heap[B]? with
        | none => simp [World.cell?, e] at hc
        | some o => exact (Array.getElem?_eq_some_iff.1 e).1
      exact (World.cell?_of_block (hb.block B hl)).trans hc
  have HG := Lib.hid fun W hb => good_no W v (hN W hb)
  have hb1 : Below w.heap.size w (w.alloc (.cells Tt.zero.arr 57)) := (Below.refl _ _).alloc (Nat.le_refl _) _
  have Hb := Lib.hid hb1
  clear h hN hb1
  go_enter Tryz.func28, Tryz.ntmps28
  go_wp2_with (go_at_call 39; refine (HG.out _ Hb.out).mono ?_; rintro e w2 ⟨rfl, rfl⟩)
  exact ⟨rfl, _, results_room rfl _ _ _ _ rfl (agg?_Tt _ _ _ _ _ rfl), rfl, Hb.out⟩
end Go.Proofs.YtomehdepjenilaaGreat
