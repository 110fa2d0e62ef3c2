/-
  The page builder: contributions are put.
-/
import Derived.Test.YtomehdepjenilaaGreatH22
import Derived.Test.YtomehdepjenilaaGreatL5
import Derived.Test.YtomehdepjenilaaGreatH21
import Derived.BigQuiet
set_option maxRecDepth 100000
set_option maxHeartbeats 16000000
namespace Go.Proofs.YtomehdepjenilaaGreat
open Go.ChangeShapes Go.WideShapes Go.ChangeAt Go.RowKit
theorem its_ok (L : List Nd) : checkC L = 0 → Items L 0 (itsP L) := fun h => by rw [itsP_eq (itemsP_spec h)]; exact itemsP_spec h
theorem items_all {A : List Nd} {i : Nat} {s : List Nat} (h : Items A i s) : (s.map (itemN A)).flatten = A.drop i := by
  induction h with
  | done => simp
  | step hi hm hs ih =>
    rw [List.map_cons, List.flatten_cons, ih]
    unfold itemN
    rw [hm, Option.getD_some, ← List.drop_drop, List.take_append_drop]
theorem itemsOf_flat {L : List Nd} (h : colP L (itsP L) = 0) : flatI (itemsOf L) = L := by
  have hc : checkC L = 0 := by
    refine Classical.byContradiction fun hn => ?_
    unfold colP at h
    rw [if_neg hn] at h
    exact hn h
  unfold flatI itemsOf
  rw [items_all (its_ok L hc)]
  rfl
theorem clone_nil9 (n c : Nat) (w : World) : Calls Tryz.prog 41 #[.slice none n c] w fun e w' => e = .returned (.slice none 0 0) ∧ w' = w := by
  have hq := eql_nil
  go_enter Tryz.func41, Tryz.ntmps41
  go_wp2_with fail
  go_ret
  exact ⟨rfl, rfl⟩
theorem clone_w (A : Option Addr) (q o c : Nat) (W : List Nd) (w : World) (hN : NIn w A q o c W) (hlen : W.length ≤ 800000000000) : Calls Tryz.prog 41 #[.slice A W.length c] w fun e w' => (∃ v, e = .returned v ∧ NRow w v W w') ∧ Below w.heap.size w w' := by
  cases A with
  | none =>
    have hW : W = [] := Classical.byContradiction fun h => by have := hN.hp h; cases this
    subst hW
    refine (clone_nil9 _ _ w).mono ?_
    rintro e w' ⟨rfl, rfl⟩
    exact ⟨⟨_, rfl, World.ownsRow_nil _ _ _ _⟩, Below.refl _ _⟩
  | some a =>
    by_cases hne : W = []
    · subst hne
      exact clone_some a q o c [] w hN hlen
    · obtain rfl := Option.some.inj (hN.hp hne)
      exact clone_some _ q o c W w hN hlen
theorem BdR.wait2 {w w' : World} {base B : Nat} {r : Nat → Option Nat} {b : Bc} {c : Sc} {g : Gr} {bot : ByteArray} {W W' : List Nd} {R : Rw} {v : Value} (h : BdR w base B r b c g bot W R) (hf : Frm (· = B) w w') (hv : w'.ownsRow w.heap.size 49 19 v W'.length (W'.flatMap Nd.cells)) (hlen : W'.length * 160 ≤ 140737488351232)
    (hb : Cb w' B (b.arr.setIfInBounds 9 v) 71) : ∃ b' r', BdR w' base B r' b' c g bot W' R ∧ later r r' w := by
  have hn : ∀ i q, i ≠ 0 → r i = some q → q ≠ B := fun i q hi e e2 => h.sht.own.sep i 0 q hi e (by rw [h.r0, e2])
  have hs := h.sht.frm hf fun k hk e => by
    rcases hk with k1 | k1 | k1 | k1 | k1 <;> exact hn _ _ (by decide) k1 e
  have ho := h.of.same hf.size (fun q e hq => hf.block q hq (hn 3 q (by decide) (by rw [h.r3, e]))) (fun q e hq => hf.block q hq (hn 7 q (by decide) (by rw [h.r7, e])))
  obtain ⟨A, cap, q, e, hN, hA, hq⟩ : ∃ A cap q, v = .slice A W'.length cap ∧ NIn w' A q 0 cap W' ∧ (∀ a, A = some a → a = ⟨q, 0, none⟩) ∧ (∀ x, blkA A = some x → w.heap.size ≤ x ∧ x < w'.heap.size) := by
    obtain ⟨_, p, q0, cap0, e0, hN0, _⟩ := row_nodes hv hlen
    rcases hv.2 with ⟨e1, _⟩ | ⟨g9, cap9, cur9, e1, hb9, hg9, _⟩
    · rw [e1] at e0
      simp only [Value.slice.injEq] at e0
      obtain ⟨rfl, h0, rfl⟩ := e0
      exact ⟨none, 0, q0, by rw [e1, ← h0], hN0, fun a ea => (by cases ea), fun x ex => (by cases ex)⟩
    · rw [e1] at e0
      simp only [Value.slice.injEq] at e0
      obtain ⟨rfl, h0, rfl⟩ := e0
      refine ⟨some ⟨g9, 0, none⟩, cap9, g9, e1, ⟨fun _ => rfl, fun _ => (Array.getElem?_eq_some_iff.1 hg9).1, fun j hj => ?_, hN0.cap', hN0.len⟩, fun a ea => (Option.some.inj ea).symm, fun x ex => ?_⟩
      · have hne : W' ≠ [] := fun e => by rw [e] at hj; simp at hj
        have := hN0.hp hne
        simp only [Option.some.injEq, Addr.mk.injEq, and_true] at this
        rw [this]
        exact hN0.nd j hj
      · simp only [blkA, Option.map_some, Option.some.injEq] at ex
        subst ex
        exact ⟨hb9, (Array.getElem?_eq_some_iff.1 hg9).1⟩
  have o1 : ∀ j, j ≠ 3 → setR r 3 (blkA A) j = r j := fun j hj => setR_other _ _ hj
  rw [e, Bc.set9] at hb
  have hOw : Own base (setR r 3 (blkA A)) w' := h.sht.own.set h.sht.base hf.size 3 (blkA A) fun x ex => .inr (hq x ex)
  refine ⟨{ b with waitsA := A, waitsN := W'.length, waitsC := cap }, setR r 3 (blkA A), ⟨⟨hs.at_, hs.of, hOw, ⟨by rw [o1 1 (by decide)]; exact hs.ro.r1, by rw [o1 2 (by decide)]; exact hs.ro.r2, by rw [o1 4 (by decide)]; exact hs.ro.r4, by rw [o1 5 (by decide)]; exact hs.ro.r5, by rw [o1 6 (by decide)]; exact hs.ro.r6⟩, hs.base⟩, hb, ⟨ho.height, ho.depth, ho.top, ho.bot, ho.cls, rfl, q, 0, hN, hA⟩, by rw [o1 0 (by decide)]; exact h.r0, setR_same _ _ _, by rw [o1 7 (by decide)]; exact h.r7⟩, fun i x ex => ?_⟩
  by_cases hi : i = 3
  · subst hi
    rw [setR_same] at ex
    exact .inr (hq x ex).1
  · rw [o1 i hi] at ex
    exact .inl ex
theorem wpList_append_none9 {P : Program} {w : World} {ops : Array Oper} {rest : List Oper} {o : Oper} {a : Act} {Q : Exit → Act → World → Prop} (hgd : o.guard = none) (s x : Operand) (t : TypeId)
    (ho : o.op = .call { callee := .builtin .append, args := #[s, x], argTypes := #[t, t] })
    (base : Nat) (e : TypeId) (i : TypeInfo) (size cc : Nat) (ht : P.underlying t = some (.slice e)) (hi : P.info? e = some i)
    (v : Value) (n : Nat) (xs : List Value) (hs : a.eval s = v) (hown : w.ownsRow base e size v n xs) (m : Nat) (hm : m = 0) (hx : a.eval x = .slice none m cc)
    (h : wpList P ops Q rest (a.put o.dst v) w) : wpList P ops Q (o :: rest) a w :=
  wpList_plain hgd fun _ hK => ap_none9 s x t ho base e i size cc ht hi v n xs hs hown (by rw [hx, hm]) (hK _ _ h)
theorem later.mono {r r' : Nat → Option Nat} {w w' : World} (h : later r r' w') (hs : w.heap.size ≤ w'.heap.size) : later r r' w := fun i q e => by
  rcases h i q e with h1 | h1
  · exact .inl h1
  · exact .inr (Nat.le_trans hs h1)
theorem PgRow.base9 {w : World} {base base' : Nat} {v : Value} {out : List PgP} {Ts : List Pc} {own : Nat → Prop} (h : PgRow w base v out Ts own) (hb : base' ≤ base) : PgRow w base' v out Ts own :=
  ⟨h.len, ownsRow_base h.row hb, fun i T p h1 h2 => (h.pg i T p h1 h2).base9 hb, h.sep, h.off⟩
theorem ComeR.back {w w9 w7 : World} {base B : Nat} {r r9 : Nat → Option Nat} {g : Gr} {σ : St} {v : Value} {out : List PgP} (h : ComeR w9 base B r9 g σ v out w7) (hl : later r r9 w) (hf : Frm (owns r) w w9) : ComeR w base B r g σ v out w7 := by
  obtain ⟨⟨b7, c7, r7, Ts, h1, h2, h3⟩, h4⟩ := h
  exact ⟨⟨b7, c7, r7, Ts, h1, hl.trans h2 hf.size, h3.base9 hf.size⟩, hf.trans h4 fun k hk e => hl.owns k hk e⟩
structure PutPost (Inv : Nat → St → Prop) (w : World) (base B : Nat) (r : Nat → Option Nat) (g : Gr) (σ : St) (L : List Nd) (e : Ending) (w' : World) : Prop where
  ex : ∃ v, e = .returned (.tuple #[v, .int .i64 (putC L σ)]) ∧ ((putC L σ ≠ 0 ∧ v = .slice none 0 0 ∧ ComeR w base B r g σ v [] w') ∨ (putC L σ = 0 ∧ ∃ σ' out, ComeTo g false { σ with waits := σ.waits ++ itemsOf L } [] σ' out ∧ Inv out.length σ' ∧ ComeR w base B r g σ' v out w'))
theorem put_ok (g : Gr) (Inv : Nat → St → Prop) (hI : Run9 g false Inv) (w : World) (base B : Nat) (r : Nat → Option Nat) (b : Bc) (c : Sc) (σ : St) (h : BdR w base B r b c g σ.bot (flatI σ.waits) (toRw σ.s)) (p : Option Addr) (q o cap : Nat) (L : List Nd) (hN : NIn w p q o cap L) (hW : (flatI σ.waits).length ≤ 700000000000) (hS : (flatS σ.s).length ≤ 700000000000)
    (hInv : putC L σ = 0 → Inv 0 { σ with waits := σ.waits ++ itemsOf L }) :
    Calls Tryz.prog 14 #[.pointer (some ⟨B, 0, none⟩), .slice p L.length cap] w (PutPost Inv w base B r g σ L) := by
  have HI := Lib.hid hI
  have HInv := Lib.hid hInv
  have HB := Lib.hid h
  have HN := Lib.hid hN
  have HOw := Lib.hid (And.intro h.sht.own h.r0)
  have HG := Lib.hid (good_ok w B b.sheet (h.at_.cell 8 _ (Bc.get8 b)))
  have HL := Lib.hid (vlegal p q o cap L (itsP L) (its_ok L) w hN)
  have Hput : Hid (putC L σ = if colP L (itsP L) = 0 then (if 2000 < L.length + ((flatI σ.waits).length + (flatS σ.s).length) then 6 else 0) else colP L (itsP L)) := Lib.hid rfl
  obtain ⟨E, hE⟩ : ∃ E, colP L (itsP L) = E := ⟨_, rfl⟩
  rw [hE] at Hput
  have HE := Lib.hid hE
  clear h hN hI hInv hE
  go_enter Tryz.func14, Tryz.ntmps14
  go_upto_region 3 with (go_at_call 39; refine HG.out.mono ?_; rintro e w2 ⟨rfl, rfl⟩)
  have hwn : b.waitsN = (flatI σ.waits).length := HB.out.of.wn
  go_upto_region 4 with (go_at_call 40; refine HL.out.mono ?_; rintro e w3 ⟨⟨v3, u3, rfl, _, _, _⟩, hb3⟩; rw [HE.out])
  have HB3 := Lib.hid (HB.out.below hb3)
  have HN3 := Lib.hid (HN.out.below hb3)
  have Hb3 := Lib.hid hb3
  clear hb3 HL HG
  by_cases hE0 : E = 0
  · subst hE0
    have cw : w3.cell? ⟨B, 9, none⟩ = some (.slice b.waitsA (flatI σ.waits).length b.waitsC) := by rw [← hwn]; exact HB3.out.at_.cell 9 _ (Bc.get9 b)
    have cs := HB3.out.at_.cell 8 _ (Bc.get8 b)
    have c0 : w3.cell? ⟨b.sheet, 0, none⟩ = some (.slice c.listA (flatS σ.s).length c.listC) := by
      rw [show (flatS σ.s).length = (toRw σ.s).list.length from rfl, ← owns_len HB3.out.sht.of.list]
      exact HB3.out.sht.at_.cell 0 _ (Sc.get0 c)
    have hll := HN.out.len
    obtain ⟨nl, hnl⟩ : ∃ n, L.length = n := ⟨_, rfl⟩
    obtain ⟨nw, hnw⟩ : ∃ n, (flatI σ.waits).length = n := ⟨_, rfl⟩
    obtain ⟨ns, hns⟩ : ∃ n, (flatS σ.s).length = n := ⟨_, rfl⟩
    rw [hnl, hnw, hns, if_pos rfl] at Hput
    rw [hnw] at cw hW
    rw [hns] at c0 hS
    rw [hnl] at hll
    simp only [hnl]
    have Hnn := Lib.hid (And.intro hnl (And.intro hnw (And.intro hns hwn)))
    clear hnl hnw hns hwn
    go_upto_region 6 with (fail)
    go_quiet (fail)
    have hbq : Below w3.heap.size w3 (w3.drewN nq) := below_drewN_refl _ _ _
    have HB4 := Lib.hid (HB3.out.below hbq)
    have HN4 := Lib.hid (HN3.out.below hbq)
    have Hb4 := Lib.hid (Hb3.out.trans (hbq.mono Hb3.out.size))
    clear hbq cw cs c0 HB3 HN3 Hb3
    generalize w3.drewN nq = w4 at HB4 HN4 Hb4 ⊢
    by_cases hbig : 2000 < nl + nw + ns
    · have hpc : Hid (putC L σ = 6) := Lib.hid (Hput.out.trans (if_pos (by omega)))
      go_wp2_with fail
      go_ret2
      exact ⟨_, by rw [hpc.out]; rfl, .inl ⟨by rw [hpc.out]; decide, rfl, ⟨⟨_, _, _, [], HB4.out, later.refl _ _, PgRow.nil _ _ _⟩, Frm.of_below Hb4.out⟩⟩⟩
    · have hpc : Hid (putC L σ = 0) := Lib.hid (Hput.out.trans (if_neg (by omega)))
      have cw : w4.cell? ⟨B, 9, none⟩ = some (.slice b.waitsA nw b.waitsC) := by rw [← Hnn.out.2.1, ← Hnn.out.2.2.2]; exact HB4.out.at_.cell 9 _ (Bc.get9 b)
      have f9 := HB4.out.at_.frozen 9
      obtain ⟨wq, wo, hWN, _⟩ := HB4.out.of.waits
      have hcl := clone_w b.waitsA wq wo b.waitsC (flatI σ.waits) w4 hWN (by rw [Hnn.out.2.1]; omega)
      rw [Hnn.out.2.1] at hcl
      have HCl := Lib.hid hcl
      clear hcl hWN
      obtain ⟨i0, hi0', hz0, hz1, hz2'⟩ := info_parts info_node
      go_upto_region 8 with (fail)
      have hBl : B < w4.heap.size := HB4.out.at_.lt
      have hLs : ∀ (v : Value) (wx : World), Below w4.heap.size w4 wx → wx.ownsRow w4.heap.size 49 19 v (nw + nl) ((flatI σ.waits).flatMap Nd.cells ++ L.flatMap Nd.cells) → Frm (· = B) w4 (wx.setCell ⟨B, 9, none⟩ v) ∧ (wx.setCell ⟨B, 9, none⟩ v).ownsRow w4.heap.size 49 19 v (flatI σ.waits ++ L).length ((flatI σ.waits ++ L).flatMap Nd.cells) ∧ Cb (wx.setCell ⟨B, 9, none⟩ v) B (b.arr.setIfInBounds 9 v) 71 := fun v wx hb ho => by
        refine ⟨(Frm.of_below (K := (· = B)) hb).set1 9 v, ?_, (HB4.out.at_.below hb).set 9 v rfl⟩
        rw [List.length_append, Hnn.out.1, Hnn.out.2.1, List.flatMap_append]
        exact ownsRow_setCell_other (a := ⟨B, 9, none⟩) ho (fun e => by have := (ho.lt B e).1; omega) v
      have HLs := Lib.hid hLs
      clear hLs
      go_cut [] from 39 to 48 (fun wx => ∃ v, Frm (· = B) w4 wx ∧ wx.ownsRow w4.heap.size 49 19 v (flatI σ.waits ++ L).length ((flatI σ.waits ++ L).flatMap Nd.cells) ∧ Cb wx B (b.arr.setIfInBounds 9 v) 71)
      case first =>
        cases p with
        | none =>
          have hL : L = [] := Classical.byContradiction fun h => by have := HN4.out.hp h; cases this
          have hnl0 : nl = 0 := by rw [← Hnn.out.1, hL]; rfl
          have Hnl0 := Lib.hid hnl0
          clear hnl0
          have HL0 := Lib.hid hL
          clear hL
          go_wp2_with (first | (go_at_call 41; refine HCl.out.mono ?_; clear HCl; rintro e w5 ⟨⟨v1, rfl, hv1⟩, hb5⟩; unfold NRow at hv1; rw [Hnn.out.2.1] at hv1; obtain ⟨pv, cv, rfl⟩ := owns_form hv1; have f5 : w5.frozen? ⟨B, 9, none⟩ = false := (HB4.out.at_.below hb5).frozen 9; have c5 := (HB4.out.at_.below hb5).cell 9 _ (Bc.get9 b)) | (at_builtin; refine wpList_append_none9 rfl _ _ _ rfl w4.heap.size 49 i0 19 _ Tryz.underlying27 hi0' (.slice pv nw cv) nw ((flatI σ.waits).flatMap Nd.cells) rfl hv1 nl Hnl0.out rfl ?_))
          go_meet
          exact ⟨_, HLs.out _ _ hb5 (by rw [HL0.out, Hnl0.out]; simpa using hv1)⟩
        | some a =>
          have hnews : ∀ w5, Below w4.heap.size w4 w5 → ∀ j u, (L.flatMap Nd.cells)[j]? = some u → w5.cell? (a.add j) = some u := fun w5 hb j u hu => by
            have hne : L ≠ [] := fun e => by rw [e] at hu; simp at hu
            have := (HN4.out.below hb).news j u hu
            rw [Option.some.inj (HN4.out.hp hne)]
            exact this
          have Hnews := Lib.hid hnews
          clear hnews
          go_wp2_with (first | (go_at_call 41; refine HCl.out.mono ?_; clear HCl; rintro e w5 ⟨⟨v1, rfl, hv1⟩, hb5⟩; unfold NRow at hv1; rw [Hnn.out.2.1] at hv1; obtain ⟨pv, cv, rfl⟩ := owns_form hv1) | (at_builtin; refine wpList_append_own _ rfl _ _ _ rfl w4.heap.size 49 i0 (.agg Nd.zero.arr) 19 160 Tryz.underlying27 hi0' hz0 hz1 hz2' rfl (by decide) (.slice pv nw cv) nw ((flatI σ.waits).flatMap Nd.cells) rfl hv1 a nl cap (L.flatMap Nd.cells) rfl (by rw [flat_len, Hnn.out.1]) (Hnews.out _ hb5) (nodes_one L) (by unfold maxLen; omega) (by omega) hb5.size ?_; intro v7 w7 hown7 hgrow7 hw7; obtain ⟨pv7, cv7, rfl⟩ := owns_form hown7; have hb7 : Below w4.heap.size w4 w7 := hb5.grown hgrow7 hb5.size (fun k hk => (hv1.lt k hk).1); have f5 : w7.frozen? ⟨B, 9, none⟩ = false := (HB4.out.at_.below hb7).frozen 9; have c5 := (HB4.out.at_.below hb7).cell 9 _ (Bc.get9 b)))
          go_meet
          exact ⟨_, HLs.out _ _ hb7 hown7⟩
      case rest =>
        obtain ⟨v9, hf9, hv9, hb9⟩ := hcut
        have hlen9 : (flatI σ.waits ++ L).length * 160 ≤ 140737488351232 := by rw [List.length_append, Hnn.out.1, Hnn.out.2.1]; omega
        obtain ⟨b9, r9, hB9, hl9⟩ := HB4.out.wait2 hf9 hv9 hlen9 hb9
        have hcol : colP L (itsP L) = 0 := HE.out
        have hflat : flatI (σ.waits ++ itemsOf L) = flatI σ.waits ++ L := by
          unfold flatI
          rw [List.flatten_append]
          congr 1
          exact itemsOf_flat hcol
        rw [← hflat] at hB9
        have hfr9 : Frm (owns r) w2 wc := (Frm.of_below (K := owns r) Hb4.out).trans hf9 fun k hk e => ⟨0, by rw [HOw.out.2, e]⟩
        have HCo := Lib.hid (come_any g false Inv HI.out wc base B r9 b9 c { σ with waits := σ.waits ++ itemsOf L } hB9 (HInv.out hpc.out))
        have Hl9 := Lib.hid (And.intro hl9 hfr9)
        clear hf9 hv9 hb9 hB9 hl9 hfr9 hflat hcol hlen9 HCl cw f9
        go_wp2_with (go_at_call 42; refine HCo.out.mono ?_; clear HCo; rintro e w7 ⟨σ', v7, out, rfl, hct, hin, hcr⟩)
        go_ret2
        exact ⟨_, by rw [hpc.out]; rfl, .inr ⟨hpc.out, σ', out, hct, hin, hcr.back (Hl9.out.1.mono Hb4.out.size) Hl9.out.2⟩⟩
  · have hne : (E == 0) = false := by simpa using hE0
    have hpc : Hid (putC L σ = E) := Lib.hid (Hput.out.trans (if_neg hE0))
    go_wp2_with fail
    go_ret2
    exact ⟨_, by rw [hpc.out]; rfl, .inl ⟨by rw [hpc.out]; exact hE0, rfl, ⟨⟨_, _, _, [], HB3.out, later.refl _ _, PgRow.nil _ _ _⟩, Frm.of_below Hb3.out⟩⟩⟩
end Go.Proofs.YtomehdepjenilaaGreat
