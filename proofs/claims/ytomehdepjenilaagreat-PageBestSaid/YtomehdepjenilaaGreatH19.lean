/-
  The page builder: what waits comes.
-/
import Derived.Test.YtomehdepjenilaaGreatH19a
import Derived.Test.YtomehdepjenilaaGreatH23
namespace Go.Proofs.YtomehdepjenilaaGreat
open Go.ChangeShapes Go.WideShapes Go.ChangeAt Go.RowKit
noncomputable def outI (res : Option PgP × St) : Out := ⟨res.1, res.2.bot, flatI res.2.waits, toRw res.2.s⟩
inductive ComeTo (g : Gr) (all : Bool) : St → List PgP → St → List PgP → Prop
  | nil {σ : St} {out : List PgP} : σ.waits = [] → ComeTo g all σ out σ out
  | stop {σ : St} {out : List PgP} {x : It} {l : List It} : σ.waits = x :: l → stopsB all σ.s x l = true → ComeTo g all σ out σ out
  | step {σ τ σ' : St} {out out' : List PgP} {x : It} {l : List It} : σ.waits = x :: l → stopsB all σ.s x l = false → stepP g σ.s x l σ.bot = (none, τ) → ComeTo g all τ out σ' out' → ComeTo g all σ out σ' out'
  | page {σ τ σ' : St} {out out' : List PgP} {x : It} {l : List It} {p : PgP} : σ.waits = x :: l → stopsB all σ.s x l = false → stepP g σ.s x l σ.bot = (some p, τ) → out.length + 1 ≤ 2000 → ComeTo g all τ (out ++ [p]) σ' out' → ComeTo g all σ out σ' out'
  | full {σ τ : St} {out : List PgP} {x : It} {l : List It} {p : PgP} : σ.waits = x :: l → stopsB all σ.s x l = false → stepP g σ.s x l σ.bot = (some p, τ) → 2000 < out.length + 1 → ComeTo g all σ out τ (out ++ [p])
def WayOf (g : Gr) (σ : St) (x : It) (l : List It) : Prop :=
  ∃ f, waysA[((hd x).kind).toNat]? = some (.func (.func f) #[] #[]) ∧ 0 ≤ (hd x).kind ∧ ∀ (w : World) (base B : Nat) (r : Nat → Option Nat) (b : Bc) (c : Sc) (q o cap : Nat), BdR w base B r b c g σ.bot (flatI l) (toRw σ.s) → ItIn w r (some ⟨q, o, none⟩) q o cap x →
    Calls Tryz.prog f #[.pointer (some ⟨B, 0, none⟩), .slice (some ⟨q, o, none⟩) x.length cap] w (Went w base B r g (outI (stepP g σ.s x l σ.bot)))
structure Run9 (g : Gr) (all : Bool) (Inv : Nat → St → Prop) : Prop where
  item : ∀ k σ x l, Inv k σ → σ.waits = x :: l → fullI (x :: l) ∧ behC (flatI (x :: l)) 0 = some x.length
  none : ∀ k σ x l τ, Inv k σ → σ.waits = x :: l → stopsB all σ.s x l = false → stepP g σ.s x l σ.bot = (none, τ) → Inv k τ ∧ τ.waits.length < σ.waits.length
  page : ∀ k σ x l p τ, Inv k σ → σ.waits = x :: l → stopsB all σ.s x l = false → stepP g σ.s x l σ.bot = (some p, τ) → Inv (k + 1) τ
  size : ∀ k σ, Inv k σ → k ≤ 2001 → (flatI σ.waits).length ≤ 700000000000 ∧ σ.waits.length ≤ 700000000000
  way : ∀ k σ x l, Inv k σ → k ≤ 2000 → σ.waits = x :: l → stopsB all σ.s x l = false → WayOf g σ x l
structure ComeR (w : World) (base B : Nat) (r : Nat → Option Nat) (g : Gr) (σ : St) (v : Value) (out : List PgP) (w1 : World) : Prop where
  ex : ∃ b c r1 Ts, BdR w1 base B r1 b c g σ.bot (flatI σ.waits) (toRw σ.s) ∧ later r r1 w ∧ PgRow w1 w.heap.size v out Ts (owns r1)
  frm : Frm (owns r) w w1
structure LoopR (w : World) (base B : Nat) (r : Nat → Option Nat) (g : Gr) (Z : Nat) (σ : St) (v : Value) (out : List PgP) (w1 : World) : Prop where
  ex : ∃ b c r1 Ts, BdR w1 base B r1 b c g σ.bot (flatI σ.waits) (toRw σ.s) ∧ later r r1 w ∧ PgRow w1 w.heap.size v out Ts (owns r1) ∧ ¬ owns r1 Z
  frm : Frm (owns r) w w1
  tab : Cb w1 Z waysA 125
  zl : w.heap.size ≤ Z
  vz : ∀ k, v.ownBlock = some k → k ≠ Z
theorem LoopR.come {w w1 : World} {base B Z : Nat} {r : Nat → Option Nat} {g : Gr} {σ : St} {v : Value} {out : List PgP} (h : LoopR w base B r g Z σ v out w1) : ComeR w base B r g σ v out w1 := by
  obtain ⟨b, c, r1, Ts, h1, h2, h3, _⟩ := h.ex
  exact ⟨⟨b, c, r1, Ts, h1, h2, h3⟩, h.frm⟩
theorem LoopR.below {w w1 w2 : World} {base B Z : Nat} {r : Nat → Option Nat} {g : Gr} {σ : St} {v : Value} {out : List PgP} (h : LoopR w base B r g Z σ v out w1) (hb : Below w1.heap.size w1 w2) : LoopR w base B r g Z σ v out w2 := by
  obtain ⟨b, c, r1, Ts, h1, h2, h3, h4⟩ := h.ex
  exact ⟨⟨b, c, r1, Ts, h1.below hb, h2, h3.below hb, h4⟩, h.frm.trans (Frm.of_below (K := fun _ => False) hb) (fun _ _ e => e.elim), h.tab.below hb, h.zl, h.vz⟩
theorem PgIn.base9 {w : World} {base base' : Nat} {T : Pc} {p : PgP} (h : PgIn w base T p) (hb : base' ≤ base) : PgIn w base' T p := ⟨ownsRow_base h.box hb, ownsRow_base h.held hb, h.pen, h.cost, h.top, h.first, h.bot⟩
theorem ways_four {i f : Nat} (h : waysA[i]? = some (.func (.func f) #[] #[])) : f = 88 ∨ f = 89 ∨ f = 90 ∨ f = 91 := by
  have hi : i < 18 := (Array.getElem?_eq_some_iff.1 h).1
  have key : ∀ j, j < 18 → waysA[j]? = some .nilFunc ∨ waysA[j]? = some wSolid ∨ waysA[j]? = some wPass ∨ waysA[j]? = some wLoose ∨ waysA[j]? = some wIns := by
    intro j hj
    have : j = 0 ∨ j = 1 ∨ j = 2 ∨ j = 3 ∨ j = 4 ∨ j = 5 ∨ j = 6 ∨ j = 7 ∨ j = 8 ∨ j = 9 ∨ j = 10 ∨ j = 11 ∨ j = 12 ∨ j = 13 ∨ j = 14 ∨ j = 15 ∨ j = 16 ∨ j = 17 := by omega
    rcases this with rfl | rfl | rfl | rfl | rfl | rfl | rfl | rfl | rfl | rfl | rfl | rfl | rfl | rfl | rfl | rfl | rfl | rfl <;> simp [waysA]
  rcases key i hi with e | e | e | e | e <;> rw [h] at e <;> simp at e
  · exact .inl e
  · exact .inr (.inl e)
  · exact .inr (.inr (.inl e))
  · exact .inr (.inr (.inr e))
structure WMid (w : World) (base B : Nat) (r : Nat → Option Nat) (g : Gr) (o : Out) (s9 s10 : Value) (wx : World) : Prop where
  ex : ∃ (T : Pc) (P9 : Nat) (b' : Bc) (c' : Sc) (r' : Nat → Option Nat), s9 = .pointer (some ⟨P9, 0, none⟩) ∧ s10 = .bool o.pg.isSome ∧ Cb wx P9 T.arr 46 ∧ (∀ p, o.pg = some p → PgIn wx w.heap.size T p ∧ ∀ k, pgK T k → ¬ owns r' k) ∧ BdR wx base B r' b' c' g o.bot o.W o.R ∧ later r r' w
  frm : Frm (owns r) w wx
theorem Went.mid {w w5 : World} {base B : Nat} {r : Nat → Option Nat} {g : Gr} {o : Out} {e : Ending} (h : Went w base B r g o e w5) : ∃ T : Pc, e = .returned (.tuple #[.agg T.arr, .bool o.pg.isSome]) ∧ WMid w base B r g o (.pointer (some ⟨w5.heap.size, 0, none⟩)) (.bool o.pg.isSome) (w5.alloc (.cells T.arr 46)) := by
  obtain ⟨⟨T, b', c', r', he, hp, hB, hl⟩, hf⟩ := h
  have hb : Below w5.heap.size w5 (w5.alloc (.cells T.arr 46)) := (Below.refl _ _).alloc (Nat.le_refl _) _
  exact ⟨T, he, ⟨T, _, b', c', r', rfl, rfl, Cb.new _ _ _, fun p hp9 => ⟨(hp p hp9).1.frm (Frm.of_below (K := fun _ => False) hb) (fun _ _ e => e), (hp p hp9).2⟩, hB.below hb, hl⟩, hf.alloc _⟩
theorem BdR.moved {w w' : World} {base B : Nat} {r : Nat → Option Nat} {b : Bc} {c : Sc} {g : Gr} {bot : ByteArray} {W W' : List Nd} {R : Rw} {q o n' c' : Nat} (h : BdR w base B r b c g bot W R) (hb : Cb w' B ({ b with waitsA := some ⟨q, o, none⟩, waitsN := n', waitsC := c' } : Bc).arr 71) (hf : Frm (· = B) w w')
    (hq : blkA b.waitsA = some q) (hn : n' = W'.length) (hN : NIn w (some ⟨q, o, none⟩) q o c' W') : BdR w' base B r { b with waitsA := some ⟨q, o, none⟩, waitsN := n', waitsC := c' } c g bot W' R := by
  have hne : ∀ i q, i ≠ 0 → r i = some q → q ≠ B := fun i q hi e e2 => h.sht.own.sep i 0 q hi e (by rw [h.r0, e2])
  have hs := h.sht.frm hf fun k hk e => by
    rcases hk with k1 | k1 | k1 | k1 | k1 <;> exact hne _ _ (by decide) k1 e
  have ho := h.of.same hf.size (fun q e hq => hf.block q hq (hne 3 q (by decide) (by rw [h.r3, e]))) (fun q e hq => hf.block q hq (hne 7 q (by decide) (by rw [h.r7, e])))
  refine ⟨hs, hb, ⟨ho.height, ho.depth, ho.top, ho.bot, ho.cls, hn, q, o, hN.same9 hf.size fun e => hf.block q (hN.hb e) (hne 3 q (by decide) (by rw [h.r3, hq])), fun a ea => by simpa using ea.symm⟩, h.r0, by rw [h.r3, hq]; rfl, h.r7⟩
set_option maxRecDepth 100000 in
set_option maxHeartbeats 16000000 in
theorem come_any (g : Gr) (all : Bool) (Inv : Nat → St → Prop) (hI : Run9 g all Inv) (w : World) (base B : Nat) (r : Nat → Option Nat) (b : Bc) (c : Sc) (σ : St) (h : BdR w base B r b c g σ.bot (flatI σ.waits) (toRw σ.s)) (h0 : Inv 0 σ) :
    Calls Tryz.prog 42 #[.pointer (some ⟨B, 0, none⟩), .bool all] w fun e w' => ∃ σ' v out, e = .returned v ∧ ComeTo g all σ [] σ' out ∧ Inv out.length σ' ∧ ComeR w base B r g σ' v out w' := by
  have HOw := Lib.hid h.sht.own
  have HB0 := Lib.hid h
  have HI := Lib.hid hI
  have H0 := Lib.hid h0
  clear h h0 hI
  go_enter Tryz.func42, Tryz.ntmps42
  go_wp2_with fail
  first | apply wp_scope_straight | skip
  go_upto_region 2 with (fail)
  go_upto_region 3 with (go_at_call 65; refine (ways_any _).mono ?_; rintro e w1 ⟨rfl, hb1⟩)
  have hb2 : Below w.heap.size w (w1.alloc (.cells waysA 125)) := hb1.alloc hb1.size _
  have hL := Lib.hid (show LoopR w base B r g w1.heap.size σ (.slice none 0 0) [] (w1.alloc (.cells waysA 125)) from ⟨⟨b, c, r, [], HB0.out.below hb2, later.refl _ _, PgRow.nil _ _ _, new_owns HOw.out hb1.size⟩, Frm.of_below hb2, Cb.new _ _ _, hb1.size, fun k h => by cases h⟩)
  clear hb1 hb2 HB0
  generalize w1.alloc (.cells waysA 125) = w2 at hL ⊢
  generalize w1.heap.size = Z at hL ⊢
  apply wp_label
  go_wp2_with fail
  go_loopg [5] (2001 * 700000000001 + σ.waits.length + 1) (fun gg t5 wr => ∃ (τ : St) (v : Value) (out : List PgP), gg = (2001 - out.length) * 700000000001 + τ.waits.length + 1 ∧ t5 = v ∧ Inv out.length τ ∧ out.length ≤ 2000 ∧ (∀ σ' out', ComeTo g all τ out σ' out' → ComeTo g all σ [] σ' out') ∧ LoopR w base B r g Z τ v out wr)
  case atStart => exact ⟨σ, _, [], rfl, rfl, H0.out, Nat.zero_le _, fun _ _ h => h, hL.out⟩
  case round =>
    clear hL
    obtain ⟨τ, v, out, rfl, rfl, hInv, hout, hcome, hL⟩ := hrel
    obtain ⟨b1, c1, r1, Ts, hB, hl, hP, hZ⟩ := hL.ex
    have HL := Lib.hid hL
    have HP := Lib.hid hP
    have Hl := Lib.hid hl
    have HZ := Lib.hid hZ
    obtain ⟨wq, wo, hWN, hWa⟩ := hB.of.waits
    have hwn : b1.waitsN = (flatI τ.waits).length := hB.of.wn
    have cw : wr.cell? ⟨B, 9, none⟩ = some (.slice b1.waitsA (flatI τ.waits).length b1.waitsC) := by rw [← hwn]; exact hB.at_.cell 9 _ (Bc.get9 b1)
    have HB := Lib.hid hB
    have HC := Lib.hid hcome
    have HInv := Lib.hid hInv
    have HWN := Lib.hid hWN
    clear hL hP hl hZ hB hcome hInv hWN hWa hwn
    obtain ⟨WS, hWS⟩ : ∃ WS, τ.waits = WS := ⟨_, rfl⟩
    have HWS := Lib.hid hWS
    cases WS with
    | nil =>
      have hz : (flatI τ.waits).length = 0 := by rw [hWS]; rfl
      rw [hz] at cw
      clear hWS
      go_wp2_with fail
      rw [Exit.noGoto_ret]
      go_ret
      exact ⟨τ, _, out, rfl, HC.out _ _ (.nil HWS.out), HInv.out, HL.out.come⟩
    | cons x l =>
      obtain ⟨hfull, hbeh⟩ := HI.out.item _ _ x l HInv.out hWS
      have hxne : x ≠ [] := hfull x (by simp)
      have hlne : (flatI l).length = 0 ↔ l = [] := by
        have := flat_pos (r := l) fun y hy => hfull y (by simp [hy])
        constructor
        · intro e
          refine Classical.byContradiction fun h => ?_
          have := this.2 h
          omega
        · intro e
          rw [e]
          rfl
      have hflat : flatI τ.waits = x ++ flatI l := by rw [hWS]; simp [flatI]
      have hxp : 0 < x.length := by cases x with | nil => exact absurd rfl hxne | cons => simp
      have hne : flatI τ.waits ≠ [] := by rw [hflat]; simp [hxne]
      have hfl : (flatI τ.waits).length = x.length + (flatI l).length := by rw [hflat, List.length_append]
      have hsz := (HI.out.size _ _ HInv.out (by omega)).1
      rw [HWN.out.hp hne] at cw
      have hcap := HWN.out.cap'
      rw [hfl] at cw hcap hsz
      have HE := Lib.hid (pend (some ⟨wq, wo, none⟩) wq wo b1.waitsC (flatI τ.waits) x.length wr (by rw [← HWN.out.hp hne]; exact HWN.out) (by rw [hWS]; exact hbeh))
      rw [hfl] at HE
      have Hne := Lib.hid (And.intro hne hxne)
      have Hfl := Lib.hid (And.intro hflat hfl)
      clear hWS hbeh hflat hne hxne hfl
      obtain ⟨n, hn⟩ : ∃ n, x.length = n := ⟨_, rfl⟩
      obtain ⟨m, hm⟩ : ∃ m, (flatI l).length = m := ⟨_, rfl⟩
      rw [hn, hm] at cw hcap hsz HE
      rw [hn] at hxp
      have Hnm := Lib.hid (And.intro hn hm)
      clear hn hm
      have hpos : decide (((n + m : Nat) : Int) > 0) = true := decide_eq_true (by omega)
      go_upto_region 5 with (go_at_call 66; refine HE.out.mono ?_; clear HE; rintro e w3 ⟨rfl, hb3⟩)
      have hB3 := HB.out.below hb3
      have hN3 := HWN.out.below hb3
      rw [HWN.out.hp Hne.out.1] at hN3
      have cw3 : w3.cell? ⟨B, 9, none⟩ = some (.slice (some ⟨wq, wo, none⟩) (n + m) b1.waitsC) := (World.cell?_of_block (hb3.block B HB.out.at_.lt)).trans cw
      have cs3 := hB3.at_.cell 8 _ (Bc.get8 b1)
      have f9 := hB3.at_.frozen 9
      have cb3 : w3.cell? ⟨b1.sheet, 1, none⟩ = some (.bool τ.s.body) := by rw [show τ.s.body = (toRw τ.s).body from rfl, ← hB3.sht.of.body]; exact hB3.sht.at_.cell 1 _ (Sc.get1 c1)
      have xk := agg_cell (head_agg hN3 Hne.out.1) 0 _ (Nd.get0 _)
      have hhd : (flatI τ.waits).headD Nd.zero = hd x := by
        rw [Hfl.out.1]
        cases x with
        | nil => exact absurd rfl Hne.out.2
        | cons y z => rfl
      rw [hhd, Nat.add_zero] at xk
      obtain ⟨kd, hkd⟩ : ∃ kd, (hd x).kind = kd := ⟨_, rfl⟩
      rw [hkd] at xk
      have Hkd := Lib.hid hkd
      have HB3 := Lib.hid hB3
      have HN3 := Lib.hid hN3
      have Hb3 := Lib.hid hb3
      have Hm0 : Hid (m = 0 ↔ l = []) := Lib.hid (by rw [← Hnm.out.2]; exact hlne)
      have hn0 : (0 : Int) ≤ (n : Int) := by omega
      have hn1 : (n : Int) ≤ (n : Int) + (m : Int) := by omega
      have hn2 : (n : Int) ≤ (b1.waitsC : Int) := by omega
      have hn3 : (n : Int) + (m : Int) ≤ (b1.waitsC : Int) := by omega
      clear hB3 hN3 hb3 hhd hkd cw hpos hlne
      go_upto_region 6 with (fail)
      obtain ⟨sb, hsb⟩ : ∃ sb, stopsB all τ.s x l = sb := ⟨_, rfl⟩
      have Hsb := Lib.hid hsb
      clear hsb
      obtain ⟨bd, hbd⟩ : ∃ bd, τ.s.body = bd := ⟨_, rfl⟩
      rw [hbd] at cb3
      have Hbd := Lib.hid hbd
      clear hbd
      go_cut [56] from 30 to 56 (fun s56 wx => s56 = .bool sb ∧ wx = w3)
      case first =>
        have hsv : Hid (((kd == 8) && bd && l.isEmpty && !all) = sb) := Lib.hid (by rw [← Hsb.out, ← Hkd.out, ← Hbd.out]; rfl)
        cases e8 : (kd == 8)
        · have hv : Hid (sb = false) := Lib.hid (by rw [← hsv.out, e8]; rfl)
          go_wp2_with fail
          go_meet
          exact ⟨by rw [hv.out], rfl⟩
        · cases bd
          · have hv : Hid (sb = false) := Lib.hid (by rw [← hsv.out, Bool.and_false, Bool.false_and, Bool.false_and])
            go_wp2_with fail
            go_meet
            exact ⟨by rw [hv.out], rfl⟩
          · by_cases hm0 : m = 0
            · subst hm0
              have hl : Hid (l = []) := Lib.hid (Hm0.out.1 rfl)
              have hv : Hid (sb = !all) := Lib.hid (by rw [← hsv.out, e8, hl.out]; rfl)
              cases all
              · go_wp2_with fail
                go_meet
                exact ⟨by rw [hv.out]; rfl, rfl⟩
              · go_wp2_with fail
                go_meet
                exact ⟨by rw [hv.out]; rfl, rfl⟩
            · have hl : l.isEmpty = false := by
                cases l with
                | nil => exact absurd (Hm0.out.2 rfl) hm0
                | cons y z => rfl
              have hv : Hid (sb = false) := Lib.hid (by rw [← hsv.out, hl, Bool.and_false, Bool.false_and])
              have em : decide ((n : Int) = (n : Int) + (m : Int)) = false := decide_eq_false (by omega)
              have em2 : ((n : Int) == (n : Int) + (m : Int)) = false := by simpa using (show ¬ ((n : Int) = (n : Int) + (m : Int)) by omega)
              clear hl
              go_wp2_with fail
              go_meet
              exact ⟨by rw [hv.out], rfl⟩
      case rest =>
        obtain ⟨rfl, rfl⟩ := hcut
        cases sb
        · obtain ⟨o', ho', hN4⟩ : ∃ o', (if b1.waitsC = n then (some ⟨wq, wo, none⟩ : Option Addr) else some ⟨wq, wo + n * 19, none⟩) = some ⟨wq, o', none⟩ ∧ NIn wc (some ⟨wq, o', none⟩) wq o' (b1.waitsC - n) (flatI l) := by
            have hd := HN3.out.drop n (by rw [Hfl.out.2, Hnm.out.1]; omega)
            have e1 : (flatI τ.waits).drop n = flatI l := by rw [Hfl.out.1, ← Hnm.out.1, List.drop_left]
            rw [e1] at hd
            by_cases e : b1.waitsC = n
            · have hz : flatI l = [] := List.length_eq_zero_iff.1 (by rw [Hnm.out.2]; omega)
              refine ⟨wo, if_pos e, fun h => absurd hz h, fun h => absurd hz h, fun j hj => absurd hj (by rw [hz]; simp), by rw [hz]; simp, by rw [hz]; simp⟩
            · exact ⟨wo + n * 19, if_neg e, hd⟩
          have HN4 := Lib.hid hN4
          have Hof := Lib.hid ho'
          clear hN4 ho'
          go_upto_region 8 with (fail)
          rw [Hof.out]
          have hf4 : Frm (· = B) wc (wc.setCell ⟨B, 9, none⟩ (.slice (some ⟨wq, o', none⟩) m (b1.waitsC - n))) := (Frm.refl _ _).set1 9 _
          have hq3 : r1 3 = some wq := by rw [HB3.out.r3, HWN.out.hp Hne.out.1]; rfl
          have hB4 := HB3.out.moved (HB3.out.at_.set 9 _ (Bc.set9 b1 (some ⟨wq, o', none⟩) m (b1.waitsC - n))) hf4 (by rw [HWN.out.hp Hne.out.1]; rfl) Hnm.out.2.symm HN4.out
          have hoB : owns r1 B := ⟨0, HB3.out.r0⟩
          have hf5 : Frm (owns r1) wc (wc.setCell ⟨B, 9, none⟩ (.slice (some ⟨wq, o', none⟩) m (b1.waitsC - n))) := hf4.mono fun k _ e => by rw [e]; exact hoB
          have hP4 := (HP.out.below Hb3.out).frm hf5 (later.refl r1 wc)
          have hT4 := (HL.out.tab.below Hb3.out).frm hf5 HZ.out
          have hqB : wq ≠ B := fun e => HB3.out.sht.own.sep 3 0 wq (by decide) hq3 (by rw [HB3.out.r0, e])
          have hX4 : ItIn (wc.setCell ⟨B, 9, none⟩ (.slice (some ⟨wq, o', none⟩) m (b1.waitsC - n))) r1 (some ⟨wq, wo, none⟩) wq wo n x := by
            have ht := HN3.out.take n
            rw [show (flatI τ.waits).take n = x by rw [Hfl.out.1, ← Hnm.out.1, List.take_left]] at ht
            refine ⟨⟨fun _ => rfl, fun _ => Nat.lt_of_lt_of_le (ht.hb Hne.out.2) hf4.size, fun j hj => (agg?_block (hf4.block wq (ht.hb Hne.out.2) hqB)).trans (ht.nd j hj), by rw [Hnm.out.1]; exact Nat.le_refl _, ht.len⟩, Hne.out.2, fun hk => ?_⟩
            rcases hk with hk | hk | hk | hk | hk
            · exact HB3.out.sht.own.sep 3 1 wq (by decide) hq3 hk
            · exact HB3.out.sht.own.sep 3 2 wq (by decide) hq3 hk
            · exact HB3.out.sht.own.sep 3 4 wq (by decide) hq3 hk
            · exact HB3.out.sht.own.sep 3 5 wq (by decide) hq3 hk
            · exact HB3.out.sht.own.sep 3 6 wq (by decide) hq3 hk
          have hFr4 : Frm (owns r) w (wc.setCell ⟨B, 9, none⟩ (.slice (some ⟨wq, o', none⟩) m (b1.waitsC - n))) := (HL.out.below Hb3.out).frm.trans hf5 fun k hk e => Hl.out.owns k hk e
          have hvz : ∀ k, u5.ownBlock = some k → k ≠ Z := HL.out.vz
          have hZl := HL.out.zl
          clear hf4 hq3 hoB hf5 hqB HL HP HB3 HN3 HN4 Hb3 HB HWN f9 cw3 cs3 cb3 xk hcap hn1 hn2 hn3 hn0
          generalize wc.setCell ⟨B, 9, none⟩ (.slice (some ⟨wq, o', none⟩) m (b1.waitsC - n)) = w4 at hB4 hP4 hT4 hX4 hFr4 ⊢
          generalize { b1 with waitsA := some ⟨wq, o', none⟩, waitsN := m, waitsC := b1.waitsC - n } = b2 at hB4
          obtain ⟨f, hfn, hk0, hway⟩ := HI.out.way _ _ x l HInv.out hout HWS.out Hsb.out
          rw [Hkd.out] at hfn hk0
          have hk18 : kd.toNat < 18 := (Array.getElem?_eq_some_iff.1 hfn).1
          have hk19 : kd < 18 := by omega
          have cz : w4.cell? ⟨Z, kd.toNat, none⟩ = some (.func (.func f) #[] #[]) := hT4.cell _ _ hfn
          have xk : w4.cell? ⟨wq, wo, none⟩ = some (.int .i64 kd) := by
            have := agg_cell (head_agg hX4.at_ hX4.ne) 0 _ (Nd.get0 _)
            rw [show x.headD Nd.zero = hd x from rfl, Hkd.out, Nat.add_zero] at this
            exact this
          have hW0 := hway w4 base B r1 b2 c1 wq wo n hB4 hX4
          rw [Hnm.out.1] at hW0
          have hW := Lib.hid hW0
          have hff := ways_four hfn
          have hok : Own base r1 w4 := hB4.sht.own
          have HOk := Lib.hid hok
          clear hW0 hway hfn hB4 hX4 hok
          obtain ⟨res, hres⟩ : ∃ res, stepP g τ.s x l τ.bot = res := ⟨_, rfl⟩
          rw [hres] at hW
          have Hres := Lib.hid hres
          clear hres
          go_cut [9, 10] from 67 to 77 (fun s9 s10 wx => WMid w4 base B r1 g (outI res) s9 s10 wx)
          case first =>
            rcases hff with rfl | rfl | rfl | rfl
            · go_wp2_with (go_at_call 88; refine hW.out.mono ?_; clear hW; rintro e w5 hw; obtain ⟨T, rfl, hm⟩ := hw.mid; clear hw)
              go_meet
              exact hm
            · go_wp2_with (go_at_call 89; refine hW.out.mono ?_; clear hW; rintro e w5 hw; obtain ⟨T, rfl, hm⟩ := hw.mid; clear hw)
              go_meet
              exact hm
            · go_wp2_with (go_at_call 90; refine hW.out.mono ?_; clear hW; rintro e w5 hw; obtain ⟨T, rfl, hm⟩ := hw.mid; clear hw)
              go_meet
              exact hm
            · go_wp2_with (go_at_call 91; refine hW.out.mono ?_; clear hW; rintro e w5 hw; obtain ⟨T, rfl, hm⟩ := hw.mid; clear hw)
              go_meet
              exact hm
          case rest =>
            clear hW hff xk cz
            obtain ⟨⟨T, P9, b5, c5, r5, rfl, rfl, hC9, hpg, hB5, hl5⟩, hf5⟩ := hcut
            have hP5 := hP4.frm hf5 hl5
            have hf9 : Frm (owns r) w wc := hFr4.trans hf5 fun k hk e => Hl.out.owns k hk e
            have hl9 : later r r5 w := Hl.out.trans hl5 hFr4.size
            have hT5 := hT4.frm hf5 HZ.out
            have hZ5 : ¬ owns r5 Z := not_owns HZ.out hl5 hT4.lt
            have hv5 : ∀ k, u5.ownBlock = some k → k < w4.heap.size := fun k hk => (hP4.row.lt k hk).2
            have hT4l := hT4.lt
            have hw4 := hFr4.size
            clear hP4 hFr4 hT4 hf5
            obtain ⟨op, τ'⟩ := res
            cases op with
            | none =>
              have hn9 := HI.out.none _ _ x l τ' HInv.out HWS.out Hsb.out Hres.out
              have HR := Lib.hid (show LoopR w base B r g Z τ' u5 out wc from ⟨⟨b5, c5, r5, Ts, hB5, hl9, hP5, hZ5⟩, hf9, hT5, hZl, hvz⟩)
              have HN := Lib.hid hn9
              clear hB5 hl9 hP5 hZ5 hf9 hT5 hZl hvz hpg hC9 hl5 hn9
              simp only [outI, Option.isSome_none]
              go_wp2_with fail
              go_roundg ((2001 - out.length) * 700000000001 + τ'.waits.length + 1)
              case measure => have := HN.out.2; omega
              case rel => exact ⟨τ', _, out, rfl, rfl, HN.out.1, hout, fun σ' out' hct => HC.out _ _ (.step HWS.out Hsb.out Hres.out hct), HR.out⟩
            | some p =>
              have hn9 := HI.out.page _ _ x l p τ' HInv.out HWS.out Hsb.out Hres.out
              obtain ⟨hp1, hp2⟩ := hpg p rfl
              have HB5 := Lib.hid hB5
              have HIn := Lib.hid hn9
              have hB0 : w.heap.size ≤ w4.heap.size := hw4
              simp only [outI, Option.isSome_some]
              obtain ⟨i0, hi0', hz0, hz1, hz2'⟩ := info_parts info_pg
              have a9 : agg? wc P9 0 8 = some T.arr := hC9.agg 0 8 (by rw [Pc.size_arr]; decide)
              have HTl := Lib.hid hP5.len
              have hwz := hf9.size
              have hP5r := hP5.row
              go_upto_region 11 with (at_builtin; refine wpList_append_lies _ rfl _ _ _ rfl w.heap.size 46 i0 (.agg Pc.zero.arr) 8 136 Tryz.underlying39 hi0' hz0 hz1 hz2' rfl (by decide) u5 Ts.length (Ts.flatMap Pc.cells) rfl (hP5r.alloc _) ⟨wc.heap.size, 0, none⟩ 1 1 T.cells rfl rfl (World.news_of_block (cs := T.arr) (heap_alloc_new _ _)) (pc_one T) (by decide) (by have := HTl.out; unfold maxLen; omega) (by have := HTl.out; omega) (by simp; omega) _ rfl ?_; intro g7 cap7 w7 hown7 hgrow7 hat7 hlt7)
              have hfx : Frm (fun k => u5.ownBlock = some k) wc w7 := ((Frm.refl _ _).alloc _).grown hgrow7 fun k e _ => e
              have hP7 := hP5.push (hp1.base9 hB0) (fun k hk => ⟨fun e => by have h1 := hv5 k e; have h2 := (hp1.ge k hk).1; omega, hp2 k hk⟩) (fun k ⟨i, e⟩ => (HB5.out.sht.own.lt i k e).2) hown7 hgrow7 hat7
              have hR : LoopR w base B r g Z τ' (.slice (some ⟨g7, 0, none⟩) (Ts.length + 1) cap7) (out ++ [p]) w7 := by
                refine ⟨⟨b5, c5, r5, Ts ++ [T], HB5.out.frm hfx fun k hk e => hP5.off k e hk, hl9, hP7, hZ5⟩, hf9.trans hfx fun k hk e => ?_, hT5.frm hfx fun e => hvz Z e rfl, hZl, fun k hk => ?_⟩
                · have := (hP5r.lt k e).1
                  omega
                · simp only [Value.ownBlock, Option.some.injEq] at hk
                  subst hk
                  rcases hat7 with e | e
                  · exact hvz _ e
                  · have h1 : (wc.alloc (.cells T.arr 46)).heap.size = wc.heap.size + 1 := by simp
                    have h2 := hT5.lt
                    omega
              have HR := Lib.hid hR
              clear hR hP7 hfx hown7 hgrow7 hat7 hlt7 hP5 hP5r HB5 a9 hi0' hz0 hz1 hz2' hp1 hp2 hn9 hT5 hC9 hpg hB5 hl9 hf9
              by_cases hful : 2000 < out.length + 1
              · have hd : 2000 < Ts.length + 1 := by have := HTl.out; omega
                go_wp2_with fail
                rw [Exit.noGoto_ret]
                go_ret
                exact ⟨τ', _, out ++ [p], rfl, HC.out _ _ (.full HWS.out Hsb.out Hres.out hful), by rw [List.length_append]; exact HIn.out, HR.out.come⟩
              · have hd : Ts.length + 1 ≤ 2000 := by have := HTl.out; omega
                have hsw := (HI.out.size _ _ HIn.out (by omega)).2
                go_wp2_with fail
                go_roundg ((2001 - (out ++ [p]).length) * 700000000001 + τ'.waits.length + 1)
                case measure => rw [List.length_append, List.length_singleton]; omega
                case rel => exact ⟨τ', _, out ++ [p], rfl, rfl, by rw [List.length_append]; exact HIn.out, by rw [List.length_append, List.length_singleton]; omega, fun σ' out' hct => HC.out _ _ (.page HWS.out Hsb.out Hres.out (by omega) hct), HR.out⟩
        · go_wp2_with fail
          rw [Exit.noGoto_ret]
          go_ret
          exact ⟨τ, _, out, rfl, HC.out _ _ (.stop HWS.out Hsb.out), HInv.out, (HL.out.below Hb3.out).come⟩
end Go.Proofs.YtomehdepjenilaaGreat
