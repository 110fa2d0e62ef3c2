/-
  The page builder: contributions are put.
-/
import Derived.Test.YtomehdepjenilaaGreatH2
import Derived.Test.YtomehdepjenilaaGreatL4
import Derived.Test.YtomehdepjenilaaGreatH19a
import Derived.Test.YtomehdepjenilaaGreatH32
import Derived.Test.YtomehdepjenilaaGreatH23
import Derived.Test.YtomehdepjenilaaGreatK3
import Derived.BigQuiet
set_option maxRecDepth 100000
set_option maxHeartbeats 16000000
namespace Go.Proofs.YtomehdepjenilaaGreat
open Go.ChangeShapes Go.WideShapes Go.ChangeAt Go.RowKit
theorem its_ok (L : List Nd) : checkC L = 0 → Items L 0 (itsP L) := fun h => by rw [itsP_eq (itemsP_spec h)]; exact itemsP_spec h
theorem items_all {A : List Nd} {i : Nat} {s : List Nat} (h : Items A i s) : (s.map (itemN A)).flatten = A.drop i := by
  induction h with
  | done => simp
  | step hi hm hs ih =>
    rw [List.map_cons, List.flatten_cons, ih]
    unfold itemN
    rw [hm, Option.getD_some, ← List.drop_drop, List.take_append_drop]
theorem itemsOf_flat {L : List Nd} (h : colP L (itsP L) = 0) : flatI (itemsOf L) = L := by
  have hc : checkC L = 0 := by
    refine Classical.byContradiction fun hn => ?_
    unfold colP at h
    rw [if_neg hn] at h
    exact hn h
  unfold flatI itemsOf
  rw [items_all (its_ok L hc)]
  rfl
theorem clone_nil9 (n c : Nat) (w : World) : Calls Tryz.prog 41 #[.slice none n c] w fun e w' => e = .returned (.slice none 0 0) ∧ w' = w := by
  have hq := eql_nil
  go_enter Tryz.func41, Tryz.ntmps41
  go_wp2_with fail
  go_ret
  exact ⟨rfl, rfl⟩
theorem clone_w (A : Option Addr) (q o c : Nat) (W : List Nd) (w : World) (hN : NIn w A q o c W) (hlen : W.length ≤ 800000000000) : Calls Tryz.prog 41 #[.slice A W.length c] w fun e w' => (∃ v, e = .returned v ∧ NRow w v W w') ∧ Below w.heap.size w w' := by
  cases A with
  | none =>
    have hW : W = [] := Classical.byContradiction fun h => by have := hN.hp h; cases this
    subst hW
    refine (clone_nil9 _ _ w).mono ?_
    rintro e w' ⟨rfl, rfl⟩
    exact ⟨⟨_, rfl, World.ownsRow_nil _ _ _ _⟩, Below.refl _ _⟩
  | some a =>
    by_cases hne : W = []
    · subst hne
      exact clone_some a q o c [] w hN hlen
    · obtain rfl := Option.some.inj (hN.hp hne)
      exact clone_some _ q o c W w hN hlen
theorem BdR.wait2 {w w' : World} {base B : Nat} {r : Nat → Option Nat} {b : Bc} {c : Sc} {g : Gr} {bot : ByteArray} {W W' : List Nd} {R : Rw} {v : Value} (h : BdR w base B r b c g bot W R) (hf : Frm (· = B) w w') (hv : w'.ownsRow w.heap.size 49 19 v W'.length (W'.flatMap Nd.cells)) (hlen : W'.length * 160 ≤ 140737488351232)
    (hb : Cb w' B (b.arr.setIfInBounds 9 v) 71) : ∃ b' r', BdR w' base B r' b' c g bot W' R ∧ later r r' w := by
  have hn : ∀ i q, i ≠ 0 → r i = some q → q ≠ B := fun i q hi e e2 => h.sht.own.sep i 0 q hi e (by rw [h.r0, e2])
  have hs := h.sht.frm hf fun k hk e => by
    rcases hk with k1 | k1 | k1 | k1 | k1 <;> exact hn _ _ (by decide) k1 e
  have ho := h.of.same hf.size (fun q e hq => hf.block q hq (hn 3 q (by decide) (by rw [h.r3, e]))) (fun q e hq => hf.block q hq (hn 7 q (by decide) (by rw [h.r7, e])))
  obtain ⟨A, cap, q, e, hN, hA, hq⟩ : ∃ A cap q, v = .slice A W'.length cap ∧ NIn w' A q 0 cap W' ∧ (∀ a, A = some a → a = ⟨q, 0, none⟩) ∧ (∀ x, blkA A = some x → w.heap.size ≤ x ∧ x < w'.heap.size) := by
    obtain ⟨_, p, q0, cap0, e0, hN0, _⟩ := row_nodes hv hlen
    rcases hv.2 with ⟨e1, _⟩ | ⟨g9, cap9, cur9, e1, hb9, hg9, _⟩
    · rw [e1] at e0
      simp only [Value.slice.injEq] at e0
      obtain ⟨rfl, h0, rfl⟩ := e0
      exact ⟨none, 0, q0, by rw [e1, ← h0], hN0, fun a ea => (by cases ea), fun x ex => (by cases ex)⟩
    · rw [e1] at e0
      simp only [Value.slice.injEq] at e0
      obtain ⟨rfl, h0, rfl⟩ := e0
      refine ⟨some ⟨g9, 0, none⟩, cap9, g9, e1, ⟨fun _ => rfl, fun _ => (Array.getElem?_eq_some_iff.1 hg9).1, fun j hj => ?_, hN0.cap', hN0.len⟩, fun a ea => (Option.some.inj ea).symm, fun x ex => ?_⟩
      · have hne : W' ≠ [] := fun e => by rw [e] at hj; simp at hj
        have := hN0.hp hne
        simp only [Option.some.injEq, Addr.mk.injEq, and_true] at this
        rw [this]
        exact hN0.nd j hj
      · simp only [blkA, Option.map_some, Option.some.injEq] at ex
        subst ex
        exact ⟨hb9, (Array.getElem?_eq_some_iff.1 hg9).1⟩
  have o1 : ∀ j, j ≠ 3 → setR r 3 (blkA A) j = r j := fun j hj => setR_other _ _ hj
  rw [e, Bc.set9] at hb
  have hOw : Own base (setR r 3 (blkA A)) w' := h.sht.own.set h.sht.base hf.size 3 (blkA A) fun x ex => .inr (hq x ex)
  refine ⟨{ b with waitsA := A, waitsN := W'.length, waitsC := cap }, setR r 3 (blkA A), ⟨⟨hs.at_, hs.of, hOw, ⟨by rw [o1 1 (by decide)]; exact hs.ro.r1, by rw [o1 2 (by decide)]; exact hs.ro.r2, by rw [o1 4 (by decide)]; exact hs.ro.r4, by rw [o1 5 (by decide)]; exact hs.ro.r5, by rw [o1 6 (by decide)]; exact hs.ro.r6⟩, hs.base⟩, hb, ⟨ho.height, ho.depth, ho.top, ho.bot, ho.cls, rfl, q, 0, hN, hA⟩, by rw [o1 0 (by decide)]; exact h.r0, setR_same _ _ _, by rw [o1 7 (by decide)]; exact h.r7⟩, fun i x ex => ?_⟩
  by_cases hi : i = 3
  · subst hi
    rw [setR_same] at ex
    exact .inr (hq x ex).1
  · rw [o1 i hi] at ex
    exact .inl ex
theorem wpList_append_none9 {P : Program} {w : World} {ops : Array Oper} {rest : List Oper} {o : Oper} {a : Act} {Q : Exit → Act → World → Prop} (hgd : o.guard = none) (s x : Operand) (t : TypeId)
    (ho : o.op = .call { callee := .builtin .append, args := #[s, x], argTypes := #[t, t] })
    (base : Nat) (e : TypeId) (i : TypeInfo) (size cc : Nat) (ht : P.underlying t = some (.slice e)) (hi : P.info? e = some i)
    (v : Value) (n : Nat) (xs : List Value) (hs : a.eval s = v) (hown : w.ownsRow base e size v n xs) (m : Nat) (hm : m = 0) (hx : a.eval x = .slice none m cc)
    (h : wpList P ops Q rest (a.put o.dst v) w) : wpList P ops Q (o :: rest) a w :=
  wpList_plain hgd fun _ hK => ap_none9 s x t ho base e i size cc ht hi v n xs hs hown (by rw [hx, hm]) (hK _ _ h)
theorem later.mono {r r' : Nat → Option Nat} {w w' : World} (h : later r r' w') (hs : w.heap.size ≤ w'.heap.size) : later r r' w := fun i q e => by
  rcases h i q e with h1 | h1
  · exact .inl h1
  · exact .inr (Nat.le_trans hs h1)
theorem PgRow.base9 {w : World} {base base' : Nat} {v : Value} {out : List PgP} {Ts : List Pc} {own : Nat → Prop} (h : PgRow w base v out Ts own) (hb : base' ≤ base) : PgRow w base' v out Ts own :=
  ⟨h.len, ownsRow_base h.row hb, fun i T p h1 h2 => (h.pg i T p h1 h2).base9 hb, h.sep, h.off⟩
theorem ComeR.back {w w9 w7 : World} {base B : Nat} {r r9 : Nat → Option Nat} {g : Gr} {σ : St} {v : Value} {out : List PgP} (h : ComeR w9 base B r9 g σ v out w7) (hl : later r r9 w) (hf : Frm (owns r) w w9) : ComeR w base B r g σ v out w7 := by
  obtain ⟨⟨b7, c7, r7, Ts, h1, h2, h3⟩, h4⟩ := h
  exact ⟨⟨b7, c7, r7, Ts, h1, hl.trans h2 hf.size, h3.base9 hf.size⟩, hf.trans h4 fun k hk e => hl.owns k hk e⟩
structure PutPost (Inv : Nat → St → Prop) (w : World) (base B : Nat) (r : Nat → Option Nat) (g : Gr) (σ : St) (L : List Nd) (e : Ending) (w' : World) : Prop where
  ex : ∃ v, e = .returned (.tuple #[v, .int .i64 (putC L σ)]) ∧ ((putC L σ ≠ 0 ∧ v = .slice none 0 0 ∧ ComeR w base B r g σ v [] w') ∨ (putC L σ = 0 ∧ ∃ σ' out, ComeTo g false { σ with waits := σ.waits ++ itemsOf L } [] σ' out ∧ Inv out.length σ' ∧ ComeR w base B r g σ' v out w'))
theorem put_ok (g : Gr) (Inv : Nat → St → Prop) (hI : Run9 g false Inv) (w : World) (base B : Nat) (r : Nat → Option Nat) (b : Bc) (c : Sc) (σ : St) (h : BdR w base B r b c g σ.bot (flatI σ.waits) (toRw σ.s)) (p : Option Addr) (q o cap : Nat) (L : List Nd) (hN : NIn w p q o cap L) (hW : (flatI σ.waits).length ≤ 700000000000) (hS : (flatS σ.s).length ≤ 700000000000)
    (hInv : putC L σ = 0 → Inv 0 { σ with waits := σ.waits ++ itemsOf L }) :
    Calls Tryz.prog 14 #[.pointer (some ⟨B, 0, none⟩), .slice p L.length cap] w (PutPost Inv w base B r g σ L) := by
  have HI := Lib.hid hI
  have HInv := Lib.hid hInv
  have HB := Lib.hid h
  have HN := Lib.hid hN
  have HOw := Lib.hid (And.intro h.sht.own h.r0)
  have HG := Lib.hid (good_ok w B b.sheet (h.at_.cell 8 _ (Bc.get8 b)))
  have HL := Lib.hid (vlegal p q o cap L (itsP L) (its_ok L) w hN)
  have Hput : Hid (putC L σ = if colP L (itsP L) = 0 then (if 2000 < L.length + ((flatI σ.waits).length + (flatS σ.s).length) then 6 else 0) else colP L (itsP L)) := Lib.hid rfl
  obtain ⟨E, hE⟩ : ∃ E, colP L (itsP L) = E := ⟨_, rfl⟩
  rw [hE] at Hput
  have HE := Lib.hid hE
  clear h hN hI hInv hE
  go_enter Tryz.func14, Tryz.ntmps14
  go_upto_region 3 with (go_at_call 39; refine HG.out.mono ?_; rintro e w2 ⟨rfl, rfl⟩)
  have hwn : b.waitsN = (flatI σ.waits).length := HB.out.of.wn
  go_upto_region 4 with (go_at_call 40; refine HL.out.mono ?_; rintro e w3 ⟨⟨v3, u3, rfl, _, _, _⟩, hb3⟩; rw [HE.out])
  have HB3 := Lib.hid (HB.out.below hb3)
  have HN3 := Lib.hid (HN.out.below hb3)
  have Hb3 := Lib.hid hb3
  clear hb3 HL HG
  by_cases hE0 : E = 0
  · subst hE0
    have cw : w3.cell? ⟨B, 9, none⟩ = some (.slice b.waitsA (flatI σ.waits).length b.waitsC) := by rw [← hwn]; exact HB3.out.at_.cell 9 _ (Bc.get9 b)
    have cs := HB3.out.at_.cell 8 _ (Bc.get8 b)
    have c0 : w3.cell? ⟨b.sheet, 0, none⟩ = some (.slice c.listA (flatS σ.s).length c.listC) := by
      rw [show (flatS σ.s).length = (toRw σ.s).list.length from rfl, ← owns_len HB3.out.sht.of.list]
      exact HB3.out.sht.at_.cell 0 _ (Sc.get0 c)
    have hll := HN.out.len
    obtain ⟨nl, hnl⟩ : ∃ n, L.length = n := ⟨_, rfl⟩
    obtain ⟨nw, hnw⟩ : ∃ n, (flatI σ.waits).length = n := ⟨_, rfl⟩
    obtain ⟨ns, hns⟩ : ∃ n, (flatS σ.s).length = n := ⟨_, rfl⟩
    rw [hnl, hnw, hns, if_pos rfl] at Hput
    rw [hnw] at cw hW
    rw [hns] at c0 hS
    rw [hnl] at hll
    simp only [hnl]
    have Hnn := Lib.hid (And.intro hnl (And.intro hnw (And.intro hns hwn)))
    clear hnl hnw hns hwn
    go_upto_region 6 with (fail)
    go_quiet (fail)
    have hbq : Below w3.heap.size w3 (w3.drewN nq) := below_drewN_refl _ _ _
    have HB4 := Lib.hid (HB3.out.below hbq)
    have HN4 := Lib.hid (HN3.out.below hbq)
    have Hb4 := Lib.hid (Hb3.out.trans (hbq.mono Hb3.out.size))
    clear hbq cw cs c0 HB3 HN3 Hb3
    generalize w3.drewN nq = w4 at HB4 HN4 Hb4 ⊢
    by_cases hbig : 2000 < nl + nw + ns
    · have hpc : Hid (putC L σ = 6) := Lib.hid (Hput.out.trans (if_pos (by omega)))
      go_wp2_with fail
      go_ret2
      exact ⟨_, by rw [hpc.out]; rfl, .inl ⟨by rw [hpc.out]; decide, rfl, ⟨⟨_, _, _, [], HB4.out, later.refl _ _, PgRow.nil _ _ _⟩, Frm.of_below Hb4.out⟩⟩⟩
    · have hpc : Hid (putC L σ = 0) := Lib.hid (Hput.out.trans (if_neg (by omega)))
      have cw : w4.cell? ⟨B, 9, none⟩ = some (.slice b.waitsA nw b.waitsC) := by rw [← Hnn.out.2.1, ← Hnn.out.2.2.2]; exact HB4.out.at_.cell 9 _ (Bc.get9 b)
      have f9 := HB4.out.at_.frozen 9
      obtain ⟨wq, wo, hWN, _⟩ := HB4.out.of.waits
      have hcl := clone_w b.waitsA wq wo b.waitsC (flatI σ.waits) w4 hWN (by rw [Hnn.out.2.1]; omega)
      rw [Hnn.out.2.1] at hcl
      have HCl := Lib.hid hcl
      clear hcl hWN
      obtain ⟨i0, hi0', hz0, hz1, hz2'⟩ := info_parts info_node
      go_upto_region 8 with (fail)
      have hBl : B < w4.heap.size := HB4.out.at_.lt
      have hLs : ∀ (v : Value) (wx : World), Below w4.heap.size w4 wx → wx.ownsRow w4.heap.size 49 19 v (nw + nl) ((flatI σ.waits).flatMap Nd.cells ++ L.flatMap Nd.cells) → Frm (· = B) w4 (wx.setCell ⟨B, 9, none⟩ v) ∧ (wx.setCell ⟨B, 9, none⟩ v).ownsRow w4.heap.size 49 19 v (flatI σ.waits ++ L).length ((flatI σ.waits ++ L).flatMap Nd.cells) ∧ Cb (wx.setCell ⟨B, 9, none⟩ v) B (b.arr.setIfInBounds 9 v) 71 := fun v wx hb ho => by
        refine ⟨(Frm.of_below (K := (· = B)) hb).set1 9 v, ?_, (HB4.out.at_.below hb).set 9 v rfl⟩
        rw [List.length_append, Hnn.out.1, Hnn.out.2.1, List.flatMap_append]
        exact ownsRow_setCell_other (a := ⟨B, 9, none⟩) ho (fun e => by have := (ho.lt B e).1; omega) v
      have HLs := Lib.hid hLs
      clear hLs
      go_cut [] from 39 to 48 (fun wx => ∃ v, Frm (· = B) w4 wx ∧ wx.ownsRow w4.heap.size 49 19 v (flatI σ.waits ++ L).length ((flatI σ.waits ++ L).flatMap Nd.cells) ∧ Cb wx B (b.arr.setIfInBounds 9 v) 71)
      case first =>
        cases p with
        | none =>
          have hL : L = [] := Classical.byContradiction fun h => by have := HN4.out.hp h; cases this
          have hnl0 : nl = 0 := by rw [← Hnn.out.1, hL]; rfl
          have Hnl0 := Lib.hid hnl0
          clear hnl0
          have HL0 := Lib.hid hL
          clear hL
          go_wp2_with (first | (go_at_call 41; refine HCl.out.mono ?_; clear HCl; rintro e w5 ⟨⟨v1, rfl, hv1⟩, hb5⟩; unfold NRow at hv1; rw [Hnn.out.2.1] at hv1; obtain ⟨pv, cv, rfl⟩ := owns_form hv1; have f5 : w5.frozen? ⟨B, 9, none⟩ = false := (HB4.out.at_.below hb5).frozen 9; have c5 := (HB4.out.at_.below hb5).cell 9 _ (Bc.get9 b)) | (at_builtin; refine wpList_append_none9 rfl _ _ _ rfl w4.heap.size 49 i0 19 _ Tryz.underlying27 hi0' (.slice pv nw cv) nw ((flatI σ.waits).flatMap Nd.cells) rfl hv1 nl Hnl0.out rfl ?_))
          go_meet
          exact ⟨_, HLs.out _ _ hb5 (by rw [HL0.out, Hnl0.out]; simpa using hv1)⟩
        | some a =>
          have hnews : ∀ w5, Below w4.heap.size w4 w5 → ∀ j u, (L.flatMap Nd.cells)[j]? = some u → w5.cell? (a.add j) = some u := fun w5 hb j u hu => by
            have hne : L ≠ [] := fun e => by rw [e] at hu; simp at hu
            have := (HN4.out.below hb).news j u hu
            rw [Option.some.inj (HN4.out.hp hne)]
            exact this
          have Hnews := Lib.hid hnews
          clear hnews
          go_wp2_with (first | (go_at_call 41; refine HCl.out.mono ?_; clear HCl; rintro e w5 ⟨⟨v1, rfl, hv1⟩, hb5⟩; unfold NRow at hv1; rw [Hnn.out.2.1] at hv1; obtain ⟨pv, cv, rfl⟩ := owns_form hv1) | (at_builtin; refine wpList_append_own _ rfl _ _ _ rfl w4.heap.size 49 i0 (.agg Nd.zero.arr) 19 160 Tryz.underlying27 hi0' hz0 hz1 hz2' rfl (by decide) (.slice pv nw cv) nw ((flatI σ.waits).flatMap Nd.cells) rfl hv1 a nl cap (L.flatMap Nd.cells) rfl (by rw [flat_len, Hnn.out.1]) (Hnews.out _ hb5) (nodes_one L) (by unfold maxLen; omega) (by omega) hb5.size ?_; intro v7 w7 hown7 hgrow7 hw7; obtain ⟨pv7, cv7, rfl⟩ := owns_form hown7; have hb7 : Below w4.heap.size w4 w7 := hb5.grown hgrow7 hb5.size (fun k hk => (hv1.lt k hk).1); have f5 : w7.frozen? ⟨B, 9, none⟩ = false := (HB4.out.at_.below hb7).frozen 9; have c5 := (HB4.out.at_.below hb7).cell 9 _ (Bc.get9 b)))
          go_meet
          exact ⟨_, HLs.out _ _ hb7 hown7⟩
      case rest =>
        obtain ⟨v9, hf9, hv9, hb9⟩ := hcut
        have hlen9 : (flatI σ.waits ++ L).length * 160 ≤ 140737488351232 := by rw [List.length_append, Hnn.out.1, Hnn.out.2.1]; omega
        obtain ⟨b9, r9, hB9, hl9⟩ := HB4.out.wait2 hf9 hv9 hlen9 hb9
        have hcol : colP L (itsP L) = 0 := HE.out
        have hflat : flatI (σ.waits ++ itemsOf L) = flatI σ.waits ++ L := by
          unfold flatI
          rw [List.flatten_append]
          congr 1
          exact itemsOf_flat hcol
        rw [← hflat] at hB9
        have hfr9 : Frm (owns r) w2 wc := (Frm.of_below (K := owns r) Hb4.out).trans hf9 fun k hk e => ⟨0, by rw [HOw.out.2, e]⟩
        have HCo := Lib.hid (come_any g false Inv HI.out wc base B r9 b9 c { σ with waits := σ.waits ++ itemsOf L } hB9 (HInv.out hpc.out))
        have Hl9 := Lib.hid (And.intro hl9 hfr9)
        clear hf9 hv9 hb9 hB9 hl9 hfr9 hflat hcol hlen9 HCl cw f9
        go_wp2_with (go_at_call 42; refine HCo.out.mono ?_; clear HCo; rintro e w7 ⟨σ', v7, out, rfl, hct, hin, hcr⟩)
        go_ret2
        exact ⟨_, by rw [hpc.out]; rfl, .inr ⟨hpc.out, σ', out, hct, hin, hcr.back (Hl9.out.1.mono Hb4.out.size) Hl9.out.2⟩⟩
  · have hne : (E == 0) = false := by simpa using hE0
    have hpc : Hid (putC L σ = E) := Lib.hid (Hput.out.trans (if_neg hE0))
    go_wp2_with fail
    go_ret2
    exact ⟨_, by rw [hpc.out]; rfl, .inl ⟨by rw [hpc.out]; exact hE0, rfl, ⟨⟨_, _, _, [], HB3.out, later.refl _ _, PgRow.nil _ _ _⟩, Frm.of_below Hb3.out⟩⟩⟩
theorem pt13 (n : Int) (hn : 0 ≤ n ∧ n ≤ 1000) (w : World) : Calls Tryz.prog 36 #[.int .i64 n] w fun e w' => e = .returned (.int .i64 (n * 65536)) ∧ w' = w := by
  go_enter Tryz.func36, Tryz.ntmps36
  go_wp2_with fail
  go_ret
  exact ⟨rfl, rfl⟩
theorem num13 (n : Int) (w : World) : Calls Tryz.prog 11 #[.int .i64 n] w fun e w' => e = .returned (.int .i64 n) ∧ w' = w := by
  go_enter Tryz.func11, Tryz.ntmps11
  go_wp2_with fail
  go_ret
  exact ⟨rfl, rfl⟩
@[go_sem] theorem run_bdKbox (h : Int) (w : World) : (bdNd #[(0, .int .i64 4), (4, .int .i64 h)]).run Tryz.prog w = .ok (.agg ({ Nd.zero with kind := 4, h := h } : Nd).arr) w := by kernel_rfl
@[go_sem] theorem run_bdKskip (g : Gl) (w : World) : (bdNd #[(0, .int .i64 7), (7, .agg g.arr)]).run Tryz.prog w = .ok (.agg ({ Nd.zero with kind := 7, glue := g } : Nd).arr) w := by kernel_rfl
def bdGlK (parts : Array (Nat × Value)) : Sem Value := Instr.build 23 parts
@[go_sem ↓] theorem execOp_buildGlK (ρ : Operand → Value) (dst : Option Tmp) (x : Array (Nat × Operand)) (ty : TypeId) (pos : String) (after : Array Edge) (guard : Option (Nat × Bool)) :
    execOp ρ { dst, op := .build 23 x, type := ty, pos, after, guard } = (do pure (.value (← bdGlK (x.map fun (i, y) => (i, ρ y))))) := rfl
@[go_sem] theorem run_bdGlK (a b : Int) (w : World) : (bdGlK #[(0, .int .i64 a), (1, .int .i64 b)]).run Tryz.prog w = .ok (.agg (Gl.mk a b 0 0 0).arr) w := by kernel_rfl
def bdGpK (parts : Array (Nat × Value)) : Sem Value := Instr.build 34 parts
@[go_sem ↓] theorem execOp_buildGpK (ρ : Operand → Value) (dst : Option Tmp) (x : Array (Nat × Operand)) (ty : TypeId) (pos : String) (after : Array Edge) (guard : Option (Nat × Bool)) :
    execOp ρ { dst, op := .build 34 x, type := ty, pos, after, guard } = (do pure (.value (← bdGpK (x.map fun (i, y) => (i, ρ y))))) := rfl
@[go_sem] theorem run_bdGpK (a b : Int) (w : World) : (bdGpK #[(0, .int .i64 a), (1, .int .i64 b)]).run Tryz.prog w = .ok (.agg (Gp.mk a b ⟨0, 0, 0, 0, 0⟩ none 0 0).arr) w := by kernel_rfl
theorem box13 (n : Int) (hn : 0 ≤ n ∧ n ≤ 1000) (w : World) : Calls Tryz.prog 37 #[.int .i64 n] w fun e w' => e = .returned (.slice (some ⟨w.heap.size, 0, none⟩) 2 2) ∧ w' = w.alloc (.cells ((kBox n).flatMap Nd.cells).toArray 49) := by
  have HP := Lib.hid (pt13 n hn)
  go_enter Tryz.func37, Tryz.ntmps37
  go_wp2_with (go_at_call 36; refine (HP.out _).mono ?_; rintro e w2 ⟨rfl, rfl⟩)
  go_ret
  exact ⟨rfl, congrArg (fun c => w2.alloc (.cells c 49)) rfl⟩
theorem skip13 (w : World) : Calls Tryz.prog 38 #[] w fun e w' => e = .returned (.agg kSkip.arr) ∧ Below w.heap.size w w' := by
  have HP := Lib.hid pt13
  go_enter Tryz.func38, Tryz.ntmps38
  go_wp2_with (go_at_call 36; refine (HP.out _ (by decide) _).mono ?_; rintro e w2 ⟨rfl, rfl⟩)
  exact ret_nd rfl w.heap.size 0 _ rfl (agg?_nd _ _ _ _ _ rfl) rfl ⟨rfl, (Below.refl _ _).alloc (Nat.le_refl _) _⟩
theorem come_F {g : Gr} {all : Bool} {σ σ' : St} {out out' : List PgP} (h : ComeTo g all σ out σ' out') : ∀ {n : Nat} {σ2 : St} {out2 : List PgP}, comeF g all n σ out = some (σ2, out2) → σ' = σ2 ∧ out' = out2 := by
  induction h with
  | nil hw =>
    intro n σ2 out2 hc
    cases n with
    | zero => cases hc
    | succ n =>
      rw [comeF, hw] at hc
      simp only [Option.some.injEq, Prod.mk.injEq] at hc
      exact hc
  | stop hw hs =>
    intro n σ2 out2 hc
    cases n with
    | zero => cases hc
    | succ n =>
      rw [comeF, hw] at hc
      simp only [hs, if_true, Option.some.injEq, Prod.mk.injEq] at hc
      exact hc
  | step hw hs hp _ ih =>
    intro n σ2 out2 hc
    cases n with
    | zero => cases hc
    | succ n =>
      rw [comeF, hw] at hc
      simp only [hs, hp] at hc
      exact ih hc
  | page hw hs hp hl _ ih =>
    intro n σ2 out2 hc
    cases n with
    | zero => cases hc
    | succ n =>
      rw [comeF, hw] at hc
      simp only [hs, hp] at hc
      rw [if_neg (by decide), if_neg (by omega)] at hc
      exact ih hc
  | full hw hs hp hl =>
    intro n σ2 out2 hc
    cases n with
    | zero => cases hc
    | succ n =>
      rw [comeF, hw] at hc
      simp only [hs, hp] at hc
      rw [if_neg (by decide), if_pos (by omega)] at hc
      simp only [Option.some.injEq, Prod.mk.injEq] at hc
      exact hc
theorem knows_put : putC kList ⟨freshS kGoal, [], ⟨#[]⟩⟩ = 0 ∧ ∃ σ2 out2, comeF kGoal false 40 ⟨freshS kGoal, [] ++ itemsOf kList, ⟨#[]⟩⟩ [] = some (σ2, out2) ∧ out2.map (fun p => (p.box.length, p.cost)) = [(6, 0), (3, -10000)] := by
  have h := knows_run
  unfold putF at h
  by_cases hp : putC kList ⟨freshS kGoal, [], ⟨#[]⟩⟩ = 0
  · refine ⟨hp, ?_⟩
    rw [if_pos hp] at h
    cases hc : comeF kGoal false 40 ⟨freshS kGoal, [] ++ itemsOf kList, ⟨#[]⟩⟩ [] with
    | none =>
      have hc2 : comeF kGoal false 40 { s := freshS kGoal, waits := (⟨freshS kGoal, [], ⟨#[]⟩⟩ : St).waits ++ itemsOf kList, bot := ⟨#[]⟩ } [] = none := hc
      rw [hc2] at h
      cases h
    | some x =>
      have hc2 : comeF kGoal false 40 { s := freshS kGoal, waits := (⟨freshS kGoal, [], ⟨#[]⟩⟩ : St).waits ++ itemsOf kList, bot := ⟨#[]⟩ } [] = some x := hc
      rw [hc2] at h
      simp only [Option.map_some, Option.some.injEq, Prod.mk.injEq] at h
      exact ⟨x.1, x.2, rfl, h.1⟩
  · rw [if_neg hp] at h
    simp only [Option.map_some, Option.some.injEq, Prod.mk.injEq, List.map_nil] at h
    cases h.1
theorem kItems : itemsOf kList = [kBox 60, [kSkip], kBox 30, [kSkip], kBox 30, [ejectN]] := by kernel_rfl
theorem kInv : Inv0 600000000000 0 ⟨freshS kGoal, [] ++ itemsOf kList, ⟨#[]⟩⟩ := by
  have hb : ∀ n, Item0 (kBox n) := fun n => ⟨rfl, .inr (.inl rfl), (by show (0 : Int) ≤ 0 ∧ (0 : Int) ≤ 3; decide), (by show (0 : Int) ≤ 0 ∧ (0 : Int) ≤ 3; decide)⟩
  have hk : Item0 [kSkip] := ⟨rfl, by decide, by decide, by decide⟩
  have he : Item0 [ejectN] := ⟨rfl, by decide, by decide, by decide⟩
  rw [List.nil_append, kItems]
  refine ⟨fun x hx => ?_, fun x hx => (by cases hx), Nat.le_refl _, fun e => (by cases e), fun _ => rfl, fun e => (by cases e), rfl, rfl, by decide⟩
  simp only [List.mem_cons, List.not_mem_nil, or_false] at hx
  rcases hx with rfl | rfl | rfl | rfl | rfl | rfl
  · exact hb 60
  · exact hk
  · exact hb 30
  · exact hk
  · exact hb 30
  · exact he
structure KRow (w1 : World) (L : List Nd) (v : Value) (W : World) : Prop where
  below : Below w1.heap.size w1 W
  row : W.ownsRow w1.heap.size 49 19 v L.length (L.flatMap Nd.cells)
theorem KRow.lit (w1 : World) (L : List Nd) (n : Nat) (hn : n = L.length) (hm : n ≤ 1000) : KRow w1 L (.slice (some ⟨w1.heap.size, 0, none⟩) n n) (w1.alloc (.cells (L.flatMap Nd.cells).toArray 49)) := by
  subst hn
  exact ⟨(Below.refl _ _).alloc (Nat.le_refl _) _, World.ownsRow_lit (base := w1.heap.size) (e := 49) (size := 19) w1 (L.flatMap Nd.cells).toArray L.length (Nat.le_refl _) (by unfold maxLen; omega) (by rw [List.size_toArray, flat_len])⟩
theorem KRow.still {w1 W W' : World} {L : List Nd} {v : Value} (h : KRow w1 L v W) (hb : Below W.heap.size W W') : KRow w1 L v W' := ⟨h.below.trans (hb.mono h.below.size), ownsRow_below h.row hb⟩
theorem KRow.app {w1 W w' : World} {L M : List Nd} {v : Value} {g cap n m : Nat} {o : Obj} {xs : List Value} (h : KRow w1 L v W) (hn : n = L.length) (hm : m = M.length) (hx : xs = L.flatMap Nd.cells ++ M.flatMap Nd.cells)
    (hown : w'.ownsRow w1.heap.size 49 19 (.slice (some ⟨g, 0, none⟩) (n + m) cap) (n + m) xs) (hg : (W.alloc o).grownBy w' v.ownBlock) : KRow w1 (L ++ M) (.slice (some ⟨g, 0, none⟩) (n + m) cap) w' := by
  refine ⟨(h.below.alloc h.below.size o).grown hg (by rw [World.size_alloc]; have := h.below.size; omega) fun k hk => (h.row.lt k hk).1, ?_⟩
  rw [List.length_append, ← hn, ← hm, List.flatMap_append, ← hx]
  exact hown
theorem kTwo {w : World} {base : Nat} {v : Value} {out : List PgP} {Ts : List Pc} {own : Nat → Prop} (h : PgRow w base v out Ts own) (hm : out.map (fun p => (p.box.length, p.cost)) = [(6, 0), (3, -10000)]) :
    ∃ g c A C, v = .slice (some ⟨g, 0, none⟩) 2 c ∧ w.cell? ⟨g, 0, none⟩ = some (.slice A 6 C) ∧ w.cell? ⟨g, 4, none⟩ = some (.int .i64 0) ∧ w.cell? ⟨g, 12, none⟩ = some (.int .i64 (-10000)) := by
  obtain ⟨p0, p1, rfl⟩ : ∃ p0 p1, out = [p0, p1] := by
    have hl : out.length = 2 := by have := congrArg List.length hm; simpa using this
    cases out with
    | nil => cases hl
    | cons a l =>
      cases l with
      | nil => cases hl
      | cons b r =>
        cases r with
        | nil => exact ⟨a, b, rfl⟩
        | cons _ _ => simp at hl
  obtain ⟨T0, T1, rfl⟩ : ∃ T0 T1, Ts = [T0, T1] := by
    have hl : Ts.length = 2 := h.len
    cases Ts with
    | nil => cases hl
    | cons a l =>
      cases l with
      | nil => cases hl
      | cons b r =>
        cases r with
        | nil => exact ⟨a, b, rfl⟩
        | cons _ _ => simp at hl
  simp only [List.map_cons, List.map_nil, List.cons.injEq, Prod.mk.injEq, and_true] at hm
  obtain ⟨⟨m1, m2⟩, m3, m4⟩ := hm
  have p0' := h.pg 0 T0 p0 rfl rfl
  have p1' := h.pg 1 T1 p1 rfl rfl
  rcases h.row.2 with ⟨_, h0⟩ | ⟨g, cap, cur, e, _⟩
  · cases h0
  · subst e
    have a0 := ownk_at pc_len h.row 0 (Nat.zero_lt_succ _)
    have a1 := ownk_at pc_len h.row 1 (Nat.lt_succ_self _)
    have e0 := owns_len p0'.box
    refine ⟨g, cap, T0.boxA, T0.boxC, rfl, ?_, ?_, ?_⟩
    · have := agg_cell a0 0 _ (Pc.get0 T0)
      rw [e0, m1] at this
      exact this
    · have := agg_cell a0 4 _ (Pc.get4 T0)
      rw [p0'.cost, m2] at this
      exact this
    · have := agg_cell a1 4 _ (Pc.get4 T1)
      rw [p1'.cost, m4] at this
      exact this
theorem kGoal_ok : goalC kGoal = 0 := by decide +kernel
theorem knows13 (w : World) : Calls Tryz.prog 13 #[] w fun e w' => e = .returned (.bool true) ∧ Below w.heap.size w w' := by
  have HP := Lib.hid pt13
  have HX := Lib.hid box13
  have HK := Lib.hid skip13
  have HNew := Lib.hid new_none
  obtain ⟨i0, hi0', hz0, hz1, hz2'⟩ := info_parts info_node
  go_enter Tryz.func13, Tryz.ntmps13
  go_upto_region 2 with (first | (go_at_call 36; refine (HP.out _ (by decide) _).mono ?_; rintro e wp ⟨rfl, hwp⟩; rw [hwp]; clear hwp) | (go_at_call 9; refine (HNew.out _ _ _ _).mono ?_; rintro e w1 hN; obtain ⟨B, b, c, r, rfl, hB⟩ := hN.good kGoal_ok; have hb1 := hN.below; clear hN))
  have HB := Lib.hid hB
  have Hb1 := Lib.hid hb1
  clear hB hb1 HNew HP
  have hK0 := KRow.lit w1 (kBox 60) 2 rfl (by decide)
  go_upto_region 3 with (first
    | (go_at_call 37; refine (HX.out _ (by decide) _).mono ?_; rintro e wb ⟨rfl, rfl⟩)
    | (go_at_call 38; refine (HK.out _).mono ?_; rintro e w2 ⟨rfl, hbs⟩; have hK1 := KRow.still hK0 hbs; clear hbs)
    | (at_builtin; refine wpList_append_lies _ rfl _ _ _ rfl w1.heap.size 49 i0 (.agg Nd.zero.arr) 19 160 Tryz.underlying27 hi0' hz0 hz1 hz2' rfl (by decide) _ 2 _ rfl (hK1.row.alloc _) ⟨w2.heap.size, 0, none⟩ 1 1 ([kSkip].flatMap Nd.cells) rfl rfl (World.news_of_block (cs := ([kSkip].flatMap Nd.cells).toArray) (heap_alloc_new _ _)) (nodes_one _) (by decide) (by decide) (by decide) (by have := hK1.below.size; simp; omega) _ rfl ?_; intro g3 cap3 w3 hown3 hgrow3 hat3 hlt3; have hK2 := hK1.app (M := [kSkip]) rfl rfl rfl hown3 hgrow3; clear hK1 hown3 hgrow3 hat3 hlt3)
    | (at_builtin; refine wpList_append_lies _ rfl _ _ _ rfl w1.heap.size 49 i0 (.agg Nd.zero.arr) 19 160 Tryz.underlying27 hi0' hz0 hz1 hz2' rfl (by decide) _ 3 _ rfl (hK2.row.alloc _) ⟨w3.heap.size, 0, none⟩ 2 2 ((kBox 30).flatMap Nd.cells) rfl rfl (World.news_of_block (cs := ((kBox 30).flatMap Nd.cells).toArray) (heap_alloc_new _ _)) (nodes_one _) (by decide) (by decide) (by decide) (by have := hK2.below.size; simp; omega) _ rfl ?_; intro g4 cap4 w4 hown4 hgrow4 hat4 hlt4; have hK3 := hK2.app (M := (kBox 30)) rfl rfl rfl hown4 hgrow4; clear hK2 hown4 hgrow4 hat4 hlt4))
  go_upto_region 4 with (first
    | (go_at_call 37; refine (HX.out _ (by decide) _).mono ?_; rintro e wb ⟨rfl, rfl⟩)
    | (go_at_call 38; refine (HK.out _).mono ?_; rintro e w5 ⟨rfl, hbs⟩; have hK4 := KRow.still hK3 hbs; clear hbs)
    | (at_builtin; refine wpList_append_lies _ rfl _ _ _ rfl w1.heap.size 49 i0 (.agg Nd.zero.arr) 19 160 Tryz.underlying27 hi0' hz0 hz1 hz2' rfl (by decide) _ 5 _ rfl (hK4.row.alloc _) ⟨w5.heap.size, 0, none⟩ 1 1 ([kSkip].flatMap Nd.cells) rfl rfl (World.news_of_block (cs := ([kSkip].flatMap Nd.cells).toArray) (heap_alloc_new _ _)) (nodes_one _) (by decide) (by decide) (by decide) (by have := hK4.below.size; simp; omega) _ rfl ?_; intro g6 cap6 w6 hown6 hgrow6 hat6 hlt6; have hK5 := hK4.app (M := [kSkip]) rfl rfl rfl hown6 hgrow6; clear hK4 hown6 hgrow6 hat6 hlt6)
    | (at_builtin; refine wpList_append_lies _ rfl _ _ _ rfl w1.heap.size 49 i0 (.agg Nd.zero.arr) 19 160 Tryz.underlying27 hi0' hz0 hz1 hz2' rfl (by decide) _ 6 _ rfl (hK5.row.alloc _) ⟨w6.heap.size, 0, none⟩ 2 2 ((kBox 30).flatMap Nd.cells) rfl rfl (World.news_of_block (cs := ((kBox 30).flatMap Nd.cells).toArray) (heap_alloc_new _ _)) (nodes_one _) (by decide) (by decide) (by decide) (by have := hK5.below.size; simp; omega) _ rfl ?_; intro g7 cap7 w7 hown7 hgrow7 hat7 hlt7; have hK6 := hK5.app (M := (kBox 30)) rfl rfl rfl hown7 hgrow7; clear hK5 hown7 hgrow7 hat7 hlt7))
  go_upto_region 5 with (at_builtin; refine wpList_append_lies _ rfl _ _ _ rfl w1.heap.size 49 i0 (.agg Nd.zero.arr) 19 160 Tryz.underlying27 hi0' hz0 hz1 hz2' rfl (by decide) _ 8 _ rfl (hK6.row.alloc _) ⟨w7.heap.size, 0, none⟩ 1 1 ([ejectN].flatMap Nd.cells) rfl rfl (World.news_of_block (cs := ([ejectN].flatMap Nd.cells).toArray) (heap_alloc_new _ _)) (nodes_one _) (by decide) (by decide) (by decide) (by have := hK6.below.size; simp; omega) _ rfl ?_; intro g8 cap8 w8 hown8 hgrow8 hat8 hlt8; have hK7 := hK6.app (M := [ejectN]) rfl rfl rfl hown8 hgrow8; clear hK6 hown8 hgrow8 hat8 hlt8)
  have hK : KRow w1 kList (.slice (some ⟨g8, 0, none⟩) 9 cap8) w8 := hK7
  obtain ⟨_, p9, q9, c9, e9, hN9, _⟩ := row_nodes hK.row (by decide)
  simp only [Value.slice.injEq] at e9
  obtain ⟨ea, _, ec⟩ := e9
  rw [← ea, ← ec] at hN9
  have HPut : Hid (Calls Tryz.prog 14 #[.pointer (some ⟨B, 0, none⟩), .slice (some ⟨g8, 0, none⟩) 9 cap8] w8 (PutPost (Inv0 600000000000) w8 w.heap.size B r kGoal ⟨freshS kGoal, [], ⟨#[]⟩⟩ kList)) :=
    Lib.hid (put_ok kGoal (Inv0 600000000000) (run_zero ⟨by decide, by decide⟩ false (Nat.le_refl _)) w8 w.heap.size B r b c ⟨freshS kGoal, [], ⟨#[]⟩⟩ (HB.out.below hK.below) (some ⟨g8, 0, none⟩) q9 0 cap8 kList hN9 (by decide) (by decide) fun _ => kInv)
  have Hb8 := Lib.hid (Hb1.out.trans (hK.below.mono Hb1.out.size))
  clear hK hK0 hK3 hK7 hN9 ea ec c9 p9 HX HK hi0' hz0 hz1 hz2' Hb1
  go_upto_region 6 with (go_at_call 14; refine HPut.out.mono ?_; clear HPut; rintro e w9 ⟨v9, rfl, hcase⟩; rw [knows_put.1])
  have hx : ∃ σ' out, ComeTo kGoal false ⟨freshS kGoal, [] ++ itemsOf kList, ⟨#[]⟩⟩ [] σ' out ∧ ComeR w8 w.heap.size B r kGoal σ' v9 out w9 := by
    rcases hcase with ⟨h1, _⟩ | ⟨_, σ', out, h2, _, h3⟩
    · exact absurd knows_put.1 h1
    · exact ⟨σ', out, h2, h3⟩
  obtain ⟨σ', out, hct, hcr⟩ := hx
  obtain ⟨σ2, out2, hcF, hmap⟩ := knows_put.2
  obtain ⟨_, rfl⟩ := come_F hct hcF
  obtain ⟨⟨b9, c9, r9, Ts, _, _, hP9⟩, hf9⟩ := hcr
  obtain ⟨g, cc, A, C, rfl, y0, y4, y12⟩ := kTwo hP9 hmap
  have hb9 : Below w.heap.size w w9 := Hb8.out.trans (hf9.below Hb8.out.size fun k ⟨i, e⟩ => (HB.out.sht.own.lt i k e).1)
  have Hb9 := Lib.hid hb9
  have HNum := Lib.hid num13
  clear hb9 hP9 hf9 hct hcF hmap hcase HB Hb8
  go_wp2_with (go_at_call 11; refine (HNum.out _ _).mono ?_; rintro e w10 ⟨rfl, rfl⟩)
  go_ret
  exact ⟨rfl, Hb9.out⟩
end Go.Proofs.YtomehdepjenilaaGreat

