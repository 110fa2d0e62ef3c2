/-
  The page builder: a page that was fired; the end of fire (what waits, the new page).
-/
import Derived.Test.YtomehdepjenilaaGreatH15b
set_option maxHeartbeats 4000000
namespace Go.Proofs.YtomehdepjenilaaGreat
open Go.ChangeShapes Go.WideShapes Go.ChangeAt Go.RowKit
theorem ap_none9 {P : Program} {w : World} {o : Oper} {a : Act} {K : Act → World → Prop} {Q : Exit → Act → World → Prop} (s x : Operand) (t : TypeId)
    (ho : o.op = .call { callee := .builtin .append, args := #[s, x], argTypes := #[t, t] })
    (base : Nat) (e : TypeId) (i : TypeInfo) (size cc : Nat) (ht : P.underlying t = some (.slice e)) (hi : P.info? e = some i)
    (v : Value) (n : Nat) (xs : List Value) (hs : a.eval s = v) (hown : w.ownsRow base e size v n xs) (hx : a.eval x = .slice none 0 cc) (h : K (a.put o.dst v) w) : o.wp P a w K Q := by
  have hrun : (Builtin.append_ #[t, t] o.type #[v, .slice none 0 cc]).run P w = .ok v w := by
    rcases hown.2 with ⟨rfl, rfl⟩ | ⟨g, cap, cur, rfl, _, _, hnc, _⟩
    · simp [Builtin.append_, run_underlying ht, sizeOf, typeInfo, hi, Builtin.lenOf, Builtin.firstCells]
    · simp [Builtin.append_, run_underlying ht, sizeOf, typeInfo, hi, Builtin.lenOf, Builtin.firstCells, hnc, storeCells]
  unfold Oper.wp
  simp [execOp, ho, resolve, invoke, builtin, hs, hx, hrun, Result.andThen]
  exact h
structure PgP where
  box : List Nd
  held : List Nd
  pen : Int
  cost : Int
  top : ByteArray
  first : ByteArray
  bot : ByteArray
structure PgIn (w : World) (base : Nat) (T : Pc) (p : PgP) : Prop where
  box : w.ownsRow base 49 19 (.slice T.boxA T.boxN T.boxC) p.box.length (p.box.flatMap Nd.cells)
  held : w.ownsRow base 49 19 (.slice T.heldA T.heldN T.heldC) p.held.length (p.held.flatMap Nd.cells)
  pen : T.pen = p.pen
  cost : T.cost = p.cost
  top : T.top = p.top
  first : T.first = p.first
  bot : T.bot = p.bot
def pgK (T : Pc) (k : Nat) : Prop := blkA T.boxA = some k ∨ blkA T.heldA = some k
theorem PgIn.frm {w w' : World} {base : Nat} {T : Pc} {p : PgP} {K : Nat → Prop} (h : PgIn w base T p) (hf : Frm K w w') (hn : ∀ k, pgK T k → ¬ K k) : PgIn w' base T p :=
  ⟨ownsRow_same h.box fun g hg hlt => hf.block g hlt (hn g (.inl (by rw [← hg, ownBlock_sl]))), ownsRow_same h.held fun g hg hlt => hf.block g hlt (hn g (.inr (by rw [← hg, ownBlock_sl]))), h.pen, h.cost, h.top, h.first, h.bot⟩
theorem PgIn.ge {w : World} {base : Nat} {T : Pc} {p : PgP} (h : PgIn w base T p) : ∀ k, pgK T k → base ≤ k ∧ k < w.heap.size := fun k hk => by
  rcases hk with hk | hk
  · exact h.box.lt k (by rw [ownBlock_sl, hk])
  · exact h.held.lt k (by rw [ownBlock_sl, hk])
structure Fired (w : World) (base B : Nat) (r : Nat → Option Nat) (g : Gr) (p : PgP) (W' : List Nd) (T : Pc) (w' : World) : Prop where
  pg : PgIn w' w.heap.size T p
  bd : ∃ b' c' r', BdR w' base B r' b' c' g p.bot W' (freshR g.height) ∧ later r r' w ∧ ∀ k, pgK T k → ¬ owns r' k
  frm : Frm (owns r) w w'
theorem Frm.off {w w' w'' : World} {K : Nat → Prop} {Q : Nat} (h : Frm K w w') (hf : Frm (· = Q) w' w'') (hQ : w.heap.size ≤ Q) : Frm K w w'' := h.trans hf fun k hk e => by omega
theorem fire_end {w w10 w14 w15 w16 : World} {base B Q : Nat} {r r1 : Nat → Option Nat} {b1 : Bc} {c : Sc} {g : Gr} {p : PgP} {W' : List Nd} {R : Rw} {T : Pc} (hOw : Own base r w) (r0 : r 0 = some B) (h10 : Frm (owns r) w w10) (hP : PgIn w10 w.heap.size T p)
    (hf14 : Frm (· = B) w10 w14) (hB14 : BdR w14 base B r1 b1 c g p.bot W' R) (hl : later r r1 w10)
    {S mh mc : Nat} (h1 : w14.heap.size ≤ mh) (h2 : mh < mc) (h3 : mc < S) (h4 : S < w15.heap.size) (m1 : MapF w15 mh (fun _ => none)) (m2 : MapF w15 mc (fun _ => none)) (hs : ScAt w15 S (freshC g.height mh mc)) (hb : Cb w15 B (b1.arr.setIfInBounds 8 (.pointer (some ⟨S, 0, none⟩))) 71) (hf15 : Frm (· = B) w14 w15)
    (hf16 : Frm (· = Q) w15 w16) (hQ : w.heap.size ≤ Q ∧ Q < w10.heap.size ∧ ¬ pgK T Q) :
    Fired w base B r g p W' T w16 := by
  obtain ⟨hB, hl2⟩ := BdR.fresh hB14.sht.own hB14.sht.base hB14.of hB14.r0 hB14.r3 hB14.r7 h1 h2 h3 h4 m1 m2 hs (by rw [Bc.set8] at hb; exact hb) hf15
  have hK : ∀ k, pgK T k → w.heap.size ≤ k ∧ k < w10.heap.size := hP.ge
  have hB0 : B < w.heap.size := (hOw.lt 0 B r0).2
  have hne : ∀ k, pgK T k → ¬ k = B := fun k hk e => by have := (hK k hk).1; omega
  have hneQ : ∀ k, pgK T k → ¬ k = Q := fun k hk e => hQ.2.2 (e ▸ hk)
  have hla : later r (freshRo r1 S mh mc) w10 := hl.trans hl2 hf14.size
  have hoff : ∀ k, w.heap.size ≤ k → k < w10.heap.size → ¬ owns (freshRo r1 S mh mc) k := fun k k1 k2 ho => by
    obtain ⟨i, e⟩ := hla.owns k k2 ho
    have := (hOw.lt i k e).2
    omega
  refine ⟨((hP.frm hf14 hne).frm hf15 hne).frm hf16 hneQ, ⟨_, _, _, hB.frm hf16 fun k hk e => hoff Q hQ.1 hQ.2.1 (e ▸ hk), fun i q e => ?_, fun k hk => hoff k (hK k hk).1 (hK k hk).2⟩, ((h10.trans (hf14.mono (K' := owns r) fun k _ e => ⟨0, by rw [r0, e]⟩) fun _ _ e => e).trans (hf15.mono (K' := owns r) fun k _ e => ⟨0, by rw [r0, e]⟩) fun _ _ e => e).off hf16 hQ.1⟩
  rcases hla i q e with e1 | e1
  · exact .inl e1
  · exact .inr (Nat.le_trans h10.size e1)
theorem results_pc1 {fn : Func} {p : Tmp} (h : fn.results = #[.cell p 46]) (tmps : Array Value) (w : World) (b : Nat) (T : Pc) (hp : tmps.getD p undef = .pointer (some ⟨b, 0, none⟩)) (hc : agg? w b 0 8 = some T.arr) :
    (results fn tmps).run Tryz.prog w = .ok (.agg T.arr) w := by
  have hl : (loadVar 46 ⟨b, 0, none⟩).run Tryz.prog w = .ok (.agg T.arr) w := by
    have := run_loadAt_row (P := Tryz.prog) 46 8 _ u_pc rfl i_pc b 0 w
    rw [hc, ldRow_some] at this
    simpa [Instr.loadAt, Instr.sureAddr] using this
  have hp' : tmps[p]?.getD undef = .pointer (some ⟨b, 0, none⟩) := by simpa using hp
  simp [results, h, hp', asAddr, hl]
section
variable {α : Type} {f : α → List Value} {k : Nat}
theorem flatk_at (hf : ∀ a, (f a).length = k) : ∀ (L : List α) (i : Nat) (hi : i < L.length), ((L.flatMap f).drop (i * k)).take k = f L[i]
  | s :: r, 0, _ => by
    rw [Nat.zero_mul, List.drop_zero, List.flatMap_cons, List.getElem_cons_zero]
    exact List.take_left' (hf s)
  | s :: r, i + 1, hi => by
    rw [List.flatMap_cons, show (i + 1) * k = (f s).length + i * k by rw [hf s, Nat.add_mul]; omega, List.drop_append, List.getElem_cons_succ]
    rw [List.drop_eq_nil_of_le (by omega), List.nil_append, Nat.add_sub_cancel_left]
    exact flatk_at hf r i (by simpa using hi)
theorem ownk_at {w : World} {base : Nat} {e : TypeId} {g n c : Nat} {L : List α} (hf : ∀ a, (f a).length = k) (h : w.ownsRow base e k (.slice (some ⟨g, 0, none⟩) n c) L.length (L.flatMap f)) (i : Nat) (hi : i < L.length) : agg? w g (i * k) k = some (f L[i]).toArray := by
  rcases h.2 with ⟨h', _⟩ | ⟨g', cap', cur, h', _, hg, hn, _, hs, ht⟩
  · simp at h'
  · simp only [Value.slice.injEq, Option.some.injEq, Addr.mk.injEq, and_true] at h'
    obtain ⟨rfl, rfl, rfl⟩ := h'
    have h1 : i * k + k ≤ L.length * k := by rw [← Nat.succ_mul]; exact Nat.mul_le_mul_right _ hi
    have h2 : L.length * k ≤ c * k := Nat.mul_le_mul_right _ hn
    unfold agg?
    rw [hg]
    simp only
    rw [if_pos (by omega)]
    congr 1
    have e := flatk_at hf L i hi
    rw [← ht, List.drop_take, List.take_take, Nat.min_eq_left (by omega)] at e
    rw [← e]
    apply Array.ext'
    simp [List.take_drop]
end
def bsCp0 (parts : Array (Nat × Value)) : Sem Value := Instr.buildSlice 32 0 parts
@[go_sem ↓] theorem execOp_bsCp0 (ρ : Operand → Value) (dst : Option Tmp) (x : Array (Nat × Operand)) (ty : TypeId) (pos : String) (after : Array Edge) (guard : Option (Nat × Bool)) :
    execOp ρ { dst, op := .buildSlice 32 0 x, type := ty, pos, after, guard } = (do pure (.value (← bsCp0 (x.map fun (i, y) => (i, ρ y))))) := rfl
theorem eql_nilC (w : World) (a : Option Addr) (n c : Nat) : (binOp .eql 32 (.slice a n c) (.slice none 0 0)).run Tryz.prog w = .ok (.bool a.isNone) w := Lib.run_eql_slice_nil w _ _ a n c 0 0 Tryz.underlying32
structure Out where
  pg : Option PgP
  bot : ByteArray
  W : List Nd
  R : Rw
structure Went (w : World) (base B : Nat) (r : Nat → Option Nat) (g : Gr) (o : Out) (e : Ending) (w' : World) : Prop where
  ex : ∃ T b' c' r', e = .returned (.tuple #[.agg (Pc.arr T), .bool o.pg.isSome]) ∧ (∀ p, o.pg = some p → PgIn w' w.heap.size T p ∧ ∀ k, pgK T k → ¬ owns r' k) ∧ BdR w' base B r' b' c' g o.bot o.W o.R ∧ later r r' w
  frm : Frm (owns r) w w'
section
variable {w w1 w2 w3 : World} {base B : Nat} {r r1 : Nat → Option Nat} {b : Bc} {c c1 : Sc} {g : Gr} {bot : ByteArray} {W W' : List Nd} {R R1 R2 : Rw} {T : Pc} {p : PgP} {e : Ending}
theorem NoPg.went (h : NoPg w base B r b g bot W R1 e w1) : Went w base B r g ⟨none, bot, W, R1⟩ e w1 := by
  obtain ⟨⟨c1, r1, hB, _, hl⟩, hf⟩ := h.go
  exact ⟨⟨Pc.zero, b, c1, r1, h.ret, fun p e => (by cases e), hB, hl⟩, hf.mono fun k _ e => shK_owns e⟩
theorem BdS.go2 (h : BdS w base B r b g bot W R1 w1 c1 r1) (hg : BdGo w1 base B r1 b g bot W R2 w2) : ∃ c2 r2, BdS w base B r b g bot W R2 w2 c2 r2 ∧ sameR r1 r2 ∧ later r1 r2 w1 ∧ Frm (shK r1) w1 w2 := by
  obtain ⟨⟨c2, r2, hB, hr, hl⟩, hf⟩ := hg
  refine ⟨c2, r2, ⟨hB, h.same.trans hr, h.lat.trans hl h.frm.size, h.frm.trans hf fun k hk hs => ?_⟩, hr, hl, hf⟩
  by_cases hn : shK r k
  · exact hn
  · exact absurd hs (not_shK hn h.same h.lat hk)
theorem BdS.none_end (h : BdS w base B r b g bot W R1 w1 c1 r1) {Q : Nat} (hQ : Lc w1 r1 Q Pc.zero.arr 46) (hQw : w.heap.size ≤ Q) :
    agg? (setAgg w1 Q 0 Pc.zero.arr) Q 0 8 = some Pc.zero.arr ∧ Went w base B r g ⟨none, bot, W, R1⟩ (.returned (.tuple #[.agg Pc.zero.arr, .bool false])) (setAgg w1 Q 0 Pc.zero.arr) := by
  have ha : Cb (setAgg w1 Q 0 Pc.zero.arr) Q Pc.zero.arr 46 := hQ.at_.setAgg 0 _ (setMany_Pc _ _)
  have hf3 : Frm (· = Q) w1 (setAgg w1 Q 0 Pc.zero.arr) := (Frm.refl _ _).setAgg1 _ _
  exact ⟨ha.agg 0 8 (by rw [Pc.size_arr]; decide), NoPg.went ⟨rfl, (h.loc hf3 hQ.off hQw).go⟩⟩
theorem BdS.page_end (h : BdS w base B r b g bot W R1 w1 c1 r1) {Q : Nat} (hQ : Lc w1 r1 Q Pc.zero.arr 46) (hQw : w.heap.size ≤ Q) (hF : Fired w1 base B r1 g p W' T w2) :
    there? w2 Q 0 8 = true ∧ agg? (setAgg w2 Q 0 T.arr) Q 0 8 = some T.arr ∧ Went w base B r g ⟨some p, p.bot, W', freshR g.height⟩ (.returned (.tuple #[.agg T.arr, .bool true])) (setAgg w2 Q 0 T.arr) := by
  obtain ⟨hp, ⟨b', c', r', hB, hl, ho⟩, hf⟩ := hF
  have hQ2 : Cb w2 Q Pc.zero.arr 46 := hQ.at_.frm hf hQ.off
  have ha : Cb (setAgg w2 Q 0 T.arr) Q T.arr 46 := hQ2.setAgg 0 _ (setMany_Pc _ _)
  have hf3 : Frm (· = Q) w2 (setAgg w2 Q 0 T.arr) := (Frm.refl _ _).setAgg1 _ _
  have hQo : ¬ owns r' Q := not_owns hQ.off hl hQ.at_.lt
  have hne : ∀ k, pgK T k → ¬ k = Q := fun k hk e => by
    have h1 := (hp.ge k hk).1
    have h2 := hQ.at_.lt
    omega
  have hp3 := hp.frm hf3 hne
  refine ⟨hQ2.there 0 8 (by rw [Pc.size_arr]; decide), ha.agg 0 8 (by rw [Pc.size_arr]; decide), ⟨T, b', c', r', rfl, fun q hq => ?_, hB.frm hf3 fun k hk e => hQo (e ▸ hk), h.lat.trans hl h.frm.size⟩, (((h.frm.mono fun k _ e => shK_owns e).trans hf fun k hk e => h.lat.owns k hk e)).off hf3 hQw⟩
  cases hq
  exact ⟨⟨ownsRow_base hp3.box h.frm.size, ownsRow_base hp3.held h.frm.size, hp3.pen, hp3.cost, hp3.top, hp3.first, hp3.bot⟩, ho⟩
end
structure LMid (w : World) (base B : Nat) (r : Nat → Option Nat) (b : Bc) (g : Gr) (bot : ByteArray) (W : List Nd) (N Q : Nat) (n : Nd) (p : Option Addr) (q o cap : Nat) (X : List Nd) (R1 : Rw) (w1 : World) (c1 : Sc) (r1 : Nat → Option Nat) : Prop where
  bd : BdS w base B r b g bot W R1 w1 c1 r1
  nb : Lc w1 r1 N n.arr 49
  qb : Lc w1 r1 Q Pc.zero.arr 46
  x : ItIn w1 r1 p q o cap X
section
variable {w w1 w2 : World} {base B N Q q o cap : Nat} {p : Option Addr} {r r1 : Nat → Option Nat} {b : Bc} {c1 : Sc} {g : Gr} {bot : ByteArray} {W X : List Nd} {R1 R2 : Rw} {n : Nd} {e : Ending}
theorem LMid.below (h : LMid w base B r b g bot W N Q n p q o cap X R1 w1 c1 r1) (hb : Below w1.heap.size w1 w2) : LMid w base B r b g bot W N Q n p q o cap X R1 w2 c1 r1 := ⟨h.bd.below hb, h.nb.below hb, h.qb.below hb, h.x.below hb⟩
theorem LMid.go (h : LMid w base B r b g bot W N Q n p q o cap X R1 w1 c1 r1) (hg : BdGo w1 base B r1 b g bot W R2 w2) : ∃ c2 r2, LMid w base B r b g bot W N Q n p q o cap X R2 w2 c2 r2 := by
  obtain ⟨c2, r2, hS, hr, hl, hf⟩ := h.bd.go2 hg
  exact ⟨c2, r2, hS, h.nb.step hl hf, h.qb.step hl hf, h.x.step hr hl hf⟩
theorem LMid.step (h : LMid w base B r b g bot W N Q n p q o cap X R1 w1 c1 r1) (hg : ShGo w1 base r1 b.sheet R2 e w2) : ∃ c2 r2, LMid w base B r b g bot W N Q n p q o cap X R2 w2 c2 r2 := h.go (BdGo.of h.bd.bd hg)
end
theorem pdimen (x : Int) (w : World) : Calls Tryz.prog 29 #[.int .i64 x] w fun e w' => e = .returned (.bool (dimenB x)) ∧ w' = w := by
  by_cases h1 : -1073741823 ≤ x
  · have e1 : decide (x ≥ -1073741823) = true := decide_eq_true h1
    go_enter Tryz.func29, Tryz.ntmps29
    go_wp2_with fail
    all_goals
      go_ret
      refine ⟨ret_bool ?_, rfl⟩
      unfold dimenB
      first | (rw [eq_comm, decide_eq_true_iff]; omega) | (rw [eq_comm, decide_eq_false_iff_not]; omega) | simp_all
  · have e1 : decide (x ≥ -1073741823) = false := decide_eq_false h1
    go_enter Tryz.func29, Tryz.ntmps29
    go_wp2_with fail
    all_goals
      go_ret
      refine ⟨ret_bool ?_, rfl⟩
      unfold dimenB
      first | (rw [eq_comm, decide_eq_true_iff]; omega) | (rw [eq_comm, decide_eq_false_iff_not]; omega) | simp_all
theorem pfirm (g : Gl) (w : World) : Calls Tryz.prog 31 #[.agg g.arr] w fun e w' => e = .returned (.bool (g.shr == 0 || g.ho == 0)) ∧ Below w.heap.size w w' := by
  cases e1 : (g.shr == 0)
  · go_enter Tryz.func31, Tryz.ntmps31
    go_wp2_with fail
    go_ret
    exact ⟨ret_bool (by simp), (Below.refl _ _).alloc (Nat.le_refl _) _⟩
  · go_enter Tryz.func31, Tryz.ntmps31
    go_wp2_with fail
    go_ret
    exact ⟨ret_bool (by simp), (Below.refl _ _).alloc (Nat.le_refl _) _⟩
theorem good_ok (w : World) (B S : Nat) (hc : w.cell? ⟨B, 8, none⟩ = some (.pointer (some ⟨S, 0, none⟩))) : Calls Tryz.prog 39 #[.pointer (some ⟨B, 0, none⟩)] w fun e w' => e = .returned (.bool true) ∧ w' = w := by
  go_enter Tryz.func39, Tryz.ntmps39
  go_wp2_with fail
  go_ret
  exact ⟨rfl, rfl⟩
set_option maxRecDepth 10000
abbrev wSolid : Value := .func (.func 88) #[] #[]
abbrev wPass : Value := .func (.func 89) #[] #[]
abbrev wLoose : Value := .func (.func 90) #[] #[]
abbrev wIns : Value := .func (.func 91) #[] #[]
def waysA : Array Value := #[.nilFunc, .nilFunc, .nilFunc, wSolid, wSolid, wSolid, .nilFunc, wLoose, wLoose, wLoose, .nilFunc, .nilFunc, wPass, wIns, wPass, .nilFunc, .nilFunc, .nilFunc]
abbrev nilsA : Array Value := #[.nilFunc, .nilFunc, .nilFunc, .nilFunc, .nilFunc, .nilFunc, .nilFunc, .nilFunc, .nilFunc, .nilFunc, .nilFunc, .nilFunc, .nilFunc, .nilFunc, .nilFunc, .nilFunc, .nilFunc, .nilFunc]
theorem waysA_one : waysA.all (·.oneCell') = true := by kernel_rfl
theorem u_wy : Tryz.prog.underlying 125 = some (.array 18 124) := by kernel_rfl
theorem i_wy : (Tryz.prog.info? 125).map (·.size) = some 18 := by kernel_rfl
def bdWy (parts : Array (Nat × Value)) : Sem Value := Instr.build 125 parts
@[go_sem ↓] theorem execOp_buildWy (ρ : Operand → Value) (dst : Option Tmp) (x : Array (Nat × Operand)) (ty : TypeId) (pos : String) (after : Array Edge) (guard : Option (Nat × Bool)) :
    execOp ρ { dst, op := .build 125 x, type := ty, pos, after, guard } = (do pure (.value (← bdWy (x.map fun (i, y) => (i, ρ y))))) := rfl
@[go_sem] theorem run_bdWy (w : World) : (bdWy #[(4, wSolid), (5, wSolid), (3, wSolid), (12, wPass), (14, wPass), (7, wLoose), (8, wLoose), (9, wLoose), (13, wIns)]).run Tryz.prog w = .ok (.agg waysA) w := by kernel_rfl
@[go_sem ↓] theorem execOp_storewy (ρ : Operand → Value) (dst : Option Tmp) (x y : Operand) (ty : TypeId) (pos : String) (after : Array Edge) (guard : Option (Nat × Bool)) :
    execOp ρ { dst, op := .store 125 x y, type := ty, pos, after, guard } = (do stOp 125 (ρ x) (ρ y); pure .skip) := rfl
@[go_sem] theorem run_storewy (b o : Nat) (w : World) : (stOp 125 (.pointer (some ⟨b, o, none⟩)) (.agg waysA)).run Tryz.prog w = stRow Tryz.prog 125 b o waysA w (there? w b o 18) := run_storeAt_row _ _ i_wy b o _ rfl waysA_one w
theorem setMany_wy : setMany nilsA 0 waysA.toList = waysA := by kernel_rfl
@[go_sem] theorem setAgg_wy (w : World) (t : TypeId) (b : Nat) (h : b = w.heap.size) : setAgg (w.alloc (.cells nilsA t)) b 0 waysA = w.alloc (.cells waysA t) := by
  subst h
  unfold setAgg
  rw [setCells_alloc_at, setMany_wy]
theorem ret_wy {fn : Func} {R : Ending → World → Prop} {a : Act} {w : World} {p : Tmp} (h : fn.results = #[.cell p 125]) (b o : Nat) (hp : a.tmps.getD p undef = .pointer (some ⟨b, o, none⟩)) (hc : agg? w b o 18 = some waysA) (hdf : a.defers = []) (hR : R (.returned (.agg waysA)) w) : bodyPost Tryz.prog fn R .ret a w :=
  ret_row _ _ _ u_wy rfl i_wy h b o _ hp hc hdf hR
theorem ways_any (w : World) : Calls Tryz.prog 65 #[] w fun e w' => e = .returned (.agg waysA) ∧ Below w.heap.size w w' := by
  go_enter Tryz.func65, Tryz.ntmps65
  go_wp2_with fail
  refine ret_wy rfl _ 0 rfl ?_ rfl ⟨rfl, (Below.refl _ _).alloc (Nat.le_refl _) _⟩
  have := (Cb.new w waysA 125).agg 0 18 (by show 0 + 18 ≤ 18; decide)
  rw [this]
  exact congrArg some (show waysA.extract 0 (0 + 18) = waysA by kernel_rfl)
/-! ### Rows of pages -/
def bsPg1 (parts : Array (Nat × Value)) : Sem Value := Instr.buildSlice 39 1 parts
@[go_sem ↓] theorem execOp_bsPg1 (ρ : Operand → Value) (dst : Option Tmp) (x : Array (Nat × Operand)) (ty : TypeId) (pos : String) (after : Array Edge) (guard : Option (Nat × Bool)) :
    execOp ρ { dst, op := .buildSlice 39 1 x, type := ty, pos, after, guard } = (do pure (.value (← bsPg1 (x.map fun (i, y) => (i, ρ y))))) := rfl
theorem fill_pg1 (n : Pc) : Instr.fill (fun i => some (i * 8, 8)) ((Array.range (1 * 8)).map ((Value.agg Pc.zero.arr).cells[· % (Value.agg Pc.zero.arr).cells.size]!)) [(0, .agg n.arr)] = some n.arr := by kernel_rfl
theorem info_pg : (Tryz.prog.info? 46).map (fun i => (i.zero, i.size, i.bytes)) = some (some (.agg Pc.zero.arr), 8, 136) := by kernel_rfl
@[go_sem] theorem run_bsPg1 (n : Pc) (w : World) : (bsPg1 #[(0, .agg n.arr)]).run Tryz.prog w = .ok (.slice (some ⟨w.heap.size, 0, none⟩) 1 1) (w.alloc (.cells n.arr 46)) := by
  obtain ⟨i, hi, hz, hs, hb⟩ := info_parts info_pg
  refine run_buildSlice w _ 46 1 _ n.arr i (.agg Pc.zero.arr) Tryz.underlying39 hi hz (by rw [hs]; decide) (by rw [hs]; decide) ?_
  rw [hs]
  exact fill_pg1 n
theorem pc_len (c : Pc) : c.cells.length = 8 := rfl
theorem pc_one (T : Pc) : ∀ u ∈ T.cells, u.oneCell' = true := fun u hu => by
  have := Pc.one T
  simp only [Pc.arr] at this
  exact List.all_eq_true.1 (by simpa using this) u hu
structure PgRow (w : World) (base : Nat) (v : Value) (out : List PgP) (Ts : List Pc) (own : Nat → Prop) : Prop where
  len : Ts.length = out.length
  row : w.ownsRow base 46 8 v Ts.length (Ts.flatMap Pc.cells)
  pg : ∀ (i : Nat) (T : Pc) (p : PgP), Ts[i]? = some T → out[i]? = some p → PgIn w base T p
  sep : ∀ T ∈ Ts, ∀ k, pgK T k → v.ownBlock ≠ some k ∧ ¬ own k
  off : ∀ k, v.ownBlock = some k → ¬ own k
theorem PgRow.nil (w : World) (base : Nat) (own : Nat → Prop) : PgRow w base (.slice none 0 0) [] [] own :=
  ⟨rfl, World.ownsRow_nil _ _ _ _, fun i T p h => by simp at h, fun T h => (by cases h), fun k h => (by cases h)⟩
theorem PgRow.at_ {w : World} {base : Nat} {v : Value} {out : List PgP} {Ts : List Pc} {own : Nat → Prop} (h : PgRow w base v out Ts own) {T : Pc} (hT : T ∈ Ts) : ∃ p, PgIn w base T p := by
  obtain ⟨i, hi, hiT⟩ := List.getElem_of_mem hT
  exact ⟨_, h.pg i T (out[i]'(by rw [← h.len]; exact hi)) (by rw [List.getElem?_eq_getElem hi, hiT]) (List.getElem?_eq_getElem _)⟩
theorem PgRow.frm {w w' : World} {base : Nat} {v : Value} {out : List PgP} {Ts : List Pc} {r r' : Nat → Option Nat} (h : PgRow w base v out Ts (owns r)) (hf : Frm (owns r) w w') (hl : later r r' w) : PgRow w' base v out Ts (owns r') := by
  refine ⟨h.len, ownsRow_same h.row fun g hg hlt => hf.block g hlt (h.off g hg), fun i T p h1 h2 => (h.pg i T p h1 h2).frm hf fun k hk9 => (h.sep T (List.mem_of_getElem? h1) k hk9).2, fun T hT k hk9 => ⟨(h.sep T hT k hk9).1, fun e => ?_⟩, fun k hk9 e => h.off k hk9 (hl.owns k (h.row.lt k hk9).2 e)⟩
  obtain ⟨p, hp⟩ := h.at_ hT
  exact (h.sep T hT k hk9).2 (hl.owns k (hp.ge k hk9).2 e)
theorem PgRow.below {w w' : World} {base : Nat} {v : Value} {out : List PgP} {Ts : List Pc} {own : Nat → Prop} (h : PgRow w base v out Ts own) (hb : Below w.heap.size w w') : PgRow w' base v out Ts own :=
  ⟨h.len, ownsRow_below h.row hb, fun i T p h1 h2 => (h.pg i T p h1 h2).frm (Frm.of_below (K := fun _ => False) hb) fun _ _ e => e, h.sep, h.off⟩
theorem PgRow.push {w w' : World} {base g cap : Nat} {v : Value} {out : List PgP} {Ts : List Pc} {own : Nat → Prop} {T : Pc} {p : PgP} (h : PgRow w base v out Ts own) (hT : PgIn w base T p) (hk : ∀ k, pgK T k → v.ownBlock ≠ some k ∧ ¬ own k) (hown : ∀ k, own k → k < w.heap.size)
    (ho : w'.ownsRow base 46 8 (.slice (some ⟨g, 0, none⟩) (Ts.length + 1) cap) (Ts.length + 1) (Ts.flatMap Pc.cells ++ T.cells)) (hg : (w.alloc (.cells T.arr 46)).grownBy w' v.ownBlock) (hat : v.ownBlock = some g ∨ g = (w.alloc (.cells T.arr 46)).heap.size) :
    PgRow w' base (.slice (some ⟨g, 0, none⟩) (Ts.length + 1) cap) (out ++ [p]) (Ts ++ [T]) own := by
  have hf : Frm (fun k => v.ownBlock = some k) w w' := ((Frm.refl _ _).alloc _).grown hg fun k e _ => e
  have hz : (w.alloc (.cells T.arr 46)).heap.size = w.heap.size + 1 := by simp
  have hgk : ∀ k, k < w.heap.size → v.ownBlock ≠ some k → k ≠ g := fun k h1 h2 e => by
    subst e
    rcases hat with h3 | h3
    · exact h2 h3
    · omega
  refine ⟨by simp [h.len], ?_, fun i X q h1 h2 => ?_, fun X hX k hk9 => ?_, fun k e => ?_⟩
  · rw [List.flatMap_append, List.flatMap_cons, List.flatMap_nil, List.append_nil, List.length_append, List.length_singleton]
    exact ho
  · by_cases hi : i < Ts.length
    · rw [List.getElem?_append_left hi] at h1
      rw [List.getElem?_append_left (by rw [← h.len]; exact hi)] at h2
      exact (h.pg i X q h1 h2).frm hf fun k hk9 e => (h.sep X (List.mem_of_getElem? h1) k hk9).1 e
    · have hi2 : i = Ts.length := by have := (List.getElem?_eq_some_iff.1 h1).1; simp at this; omega
      subst hi2
      rw [List.getElem?_append_right (Nat.le_refl _)] at h1
      rw [h.len, List.getElem?_append_right (Nat.le_refl _)] at h2
      simp only [Nat.sub_self, List.getElem?_cons_zero, Option.some.injEq] at h1 h2
      subst h1
      subst h2
      exact hT.frm hf fun k hk9 e => (hk k hk9).1 e
  · rcases List.mem_append.1 hX with hX | hX
    · obtain ⟨q, hq⟩ := h.at_ hX
      refine ⟨fun e => ?_, (h.sep X hX k hk9).2⟩
      simp only [Value.ownBlock, Option.some.injEq] at e
      exact hgk k (hq.ge k hk9).2 (h.sep X hX k hk9).1 e.symm
    · simp only [List.mem_singleton] at hX
      subst hX
      refine ⟨fun e => ?_, (hk k hk9).2⟩
      simp only [Value.ownBlock, Option.some.injEq] at e
      exact hgk k (hT.ge k hk9).2 (hk k hk9).1 e.symm
  · simp only [Value.ownBlock, Option.some.injEq] at e
    subst e
    rcases hat with h3 | h3
    · exact h.off g h3
    · intro ho9
      have := hown g ho9
      omega
end Go.Proofs.YtomehdepjenilaaGreat
