/-
  Layer 20, the document's side: a field is read: the loop over its items.
-/
import Derived.Test.YtkkdopfdoommnaaR9
namespace Go.Proofs.Ytkkdopfdoommnaa
open Go.ChangeShapes Go.WideShapes Go.ChangeAt Go.RowKit
attribute [local go_sem ↓] Go.wp_at_zero Go.wp_at_succ

/-- at the head of the loop -/
def LoopF (w : World) (R b off cap : Nat) (p : Option Addr) (L : List Sn) (deep : Nat) (f : List Sn → Option (List Sn)) (r0 : Option (List Int × List Sn)) (r : Option (List Sn)) (g : Nat) (wl : World) : Prop :=
  (∃ j ks, g = L.length + 2 - j ∧ j ≤ L.length ∧ FdSt w R b off cap p L j deep false wl ∧ r0 = addK ks (fmlaP f (L.length - j) (L.drop j))) ∨
  (g = 1 ∧ r = none ∧ ∃ j, j + deep ≤ L.length + 20 ∧ FdSt w R b off cap p L j deep true wl)
theorem FdSt.item {w wr w' : World} {R b off cap j deep : Nat} {p : Option Addr} {L : List Sn} {r1 : Option (List Sn)} {e : Ending} (h : FdSt w R b off cap p L j deep false wr) (hp : ItemPost wr R b off cap p L j deep r1 e w') :
    (∀ l, r1 = some l → ∃ j', j' ≤ L.length ∧ l = L.drop j' ∧ FdSt w R b off cap p L j' deep false w') ∧ (r1 = none → ∃ j', j' + deep ≤ L.length + 20 ∧ FdSt w R b off cap p L j' deep true w') := by
  refine ⟨fun l e => ?_, fun e => ?_⟩
  · obtain ⟨j', h1, h2, h3⟩ := hp.rd.yes l e
    exact ⟨j', h1, h2, h.call hp.rd.turned h3⟩
  · obtain ⟨j', h1, h2⟩ := hp.rd.no e
    exact ⟨j', h1, h.call hp.rd.turned h2⟩
theorem plain_end {s : Sn} (hk : s.kind = 22) : eqSn s endS = plainB s false false := by rw [plain_only, hk]; rfl
theorem plain_begin {s : Sn} (hk : s.kind = 21) : eqSn s beginS = plainB s false false := by rw [plain_only, hk]; rfl

set_option maxRecDepth 100000 in
set_option maxHeartbeats 8000000 in
theorem rfield_d {D : Nat} (hF : RFieldOK D) (R b off cap i deep : Nat) (p : Option Addr) (L : List Sn) (w : World) (h : RRdr w R b off cap p L i deep false) (hi : i < L.length) (hD : deep + 1 + D = 20) (s : Sn) (hs : L[i] = s) (hk : s.kind = 21) (hg : plainB s false false = true)
    (r0 : Option (List Int × List Sn)) (hr0 : fmlaP (fieldP D) (L.length - (i + 1)) (L.drop (i + 1)) = r0) (r : Option (List Sn)) (hr : (r0.bind fun x => closeP x.2) = r) :
    Calls Try.prog 131 #[.pointer (some ⟨R, 0, none⟩)] w (FieldC w R b off cap p L deep r) := by
  have h1 := FdSt.of h
  have KK : Hid (KindF w R b off cap p L i deep false 21) := Lib.hid fun W h => h.kind (by simp [kindAt, hi, hs, hk])
  have KP : Hid (PlainF w R b off cap p L i deep false s true) := Lib.hid fun W h => h.plain s hg
  have Hs : Hid (L[i]? = some s) := Lib.hid (by rw [List.getElem?_eq_getElem hi, hs])
  have Hr0 := Lib.hid hr0
  have Hr := Lib.hid hr
  have hcap := h.cap'
  have hl := h.len
  have hi1 : (0 : Int) ≤ (i : Int) := by omega
  have hi2 : (i : Int) < (L.length : Int) := by omega
  have hd1 : (0 : Int) ≤ (deep : Int) := by omega
  have hd2 : (deep : Int) < 20 := by omega
  have hd3 : ((deep : Int) == 20) = false := by simp; omega
  clear hs hk hg hr0 hr
  go_enter Try.func131, Try.ntmps131
  go_wp2_with fail
  generalize w.alloc (.cells (Pr.mk 0 0).arr 150) = w1 at h1 ⊢
  go_region_held3 (fun w' => FdSt w R b off cap p L i deep false w' ∧ w'.cell? ⟨R, 0, none⟩ = some (.slice (some ⟨b, off, none⟩) L.length cap) ∧ w'.cell? ⟨R, 1, none⟩ = some (.int .i64 i) ∧ w'.cell? ⟨R, 2, none⟩ = some (.int .i64 deep) ∧ w'.cell? ⟨R, 3, none⟩ = some (.bool false) ∧ agg? w' b (off + i * 9) 9 = some s.arr)
    ((refine FdSt.seen ?_ Hs; first | assumption | exact h1.drewN 1 | exact h1.drewN _))
    (first | (go_at_call 129; refine (KK.out _ (And.left (by assumption))).mono ?_; rintro e w8 ⟨rfl, h8⟩) | (go_at_call 144; refine (KP.out _ (And.left (by assumption))).mono ?_; rintro e w9 ⟨rfl, h9⟩))
  clear h1 h8 KK KP
  have c1 := h9.rd.c1
  have cf1 := h9.rd.fr 1
  have h10 := h9.next
  have c2 := h10.rd.c2
  have cf2 := h10.rd.fr 2
  have h11 := h10.down
  have c3 : ((w9.setCell ⟨R, 1, none⟩ (.int .i64 ((i : Int) + 1))).setCell ⟨R, 2, none⟩ (.int .i64 ((deep : Int) + 1))).cell? ⟨R, 1, none⟩ = some (.int .i64 ((i : Int) + 1)) := h11.rd.c1
  clear h9 h10
  go_wp2_with fail
  go_loopg [] (L.length + 2 - (i + 1)) (fun g wl => LoopF w R b off cap p L (deep + 1) (fieldP D) r0 r g wl)
  case atStart => exact .inl ⟨i + 1, [], rfl, hi, h11, by rw [Hr0.out]; exact (addK_nil _).symm⟩
  case round =>
    clear h11 c1 c2 c3 cf1 cf2 Hs
    obtain ⟨j, ks, rfl, hj, h2, hres⟩ | ⟨rfl, hrn, j, hj, h2⟩ := hrel
    · have Hres := Lib.hid hres
      have HI : Hid (∀ W, FdSt w R b off cap p L j (deep + 1) false W → Calls Try.prog 83 #[.pointer (some ⟨R, 0, none⟩)] W (ItemPost W R b off cap p L j (deep + 1) (itemR (fieldP D) (L.drop j)))) := Lib.hid fun W h => ritem_any hF R b off cap j (deep + 1) p L W h.rd hj hD
      have c3 := h2.rd.c3
      clear hres
      by_cases hk : kindAt L j = 22
      · have hlt : j < L.length := by
          apply Decidable.byContradiction
          intro hn
          rw [kindAt, show L[j]? = none by simp; omega] at hk
          cases hk
        have hk2 : L[j].kind = 22 := by simpa [kindAt, hlt] using hk
        have Hrs := Lib.hid (Hres.out.trans (congrArg (addK ks) (fmla_stop hj fun _ => hk2)))
        have Hcl := Lib.hid (show closeP (L.drop j) = if plainB L[j] false false then some (L.drop (j + 1)) else none by rw [List.drop_eq_getElem_cons hlt, closeP, plain_end hk2])
        have Hs : Hid (L[j]? = some L[j]) := Lib.hid (List.getElem?_eq_getElem hlt)
        have KK : Hid (KindF w R b off cap p L j (deep + 1) false 22) := Lib.hid fun W h => h.kind hk
        have hj1 : (0 : Int) ≤ (j : Int) := by omega
        have hj2 : (j : Int) < (L.length : Int) := by omega
        have Hpl : Hid (∀ v, plainB L[j] false false = v → PlainF w R b off cap p L j (deep + 1) false L[j] v) := Lib.hid fun v hv W h => h.plain _ hv
        clear hk hk2 HI
        generalize L[j] = s2 at Hcl Hs Hpl
        go_wp2_with fail
        refine (KK.out _ h2).mono ?_
        rintro e w3 ⟨rfl, h3⟩
        clear h2 c3 KK
        have c1 := h3.rd.c1
        cases hg : plainB s2 false false
        · have KP := Lib.hid (Hpl.out false hg)
          have Hrn := Lib.hid (show r = none by rw [← Hr.out, Hrs.out]; show closeP (L.drop j) = none; rw [Hcl.out, hg]; rfl)
          clear hg
          go_wp2_with fail
          go_region_held3 (fun w' => FdSt w R b off cap p L j (deep + 1) false w' ∧ w'.cell? ⟨R, 0, none⟩ = some (.slice (some ⟨b, off, none⟩) L.length cap) ∧ w'.cell? ⟨R, 1, none⟩ = some (.int .i64 j) ∧ w'.cell? ⟨R, 2, none⟩ = some (.int .i64 ((deep + 1 : Nat) : Int)) ∧ w'.cell? ⟨R, 3, none⟩ = some (.bool false) ∧ agg? w' b (off + j * 9) 9 = some s2.arr)
            ((refine FdSt.seen ?_ Hs; first | assumption | exact h3.drewN 1 | exact h3.drewN _))
            (first | (go_at_call 144; refine (KP.out _ (And.left (by assumption))).mono ?_; rintro e w9 ⟨rfl, h9⟩))
          clear h3 c1
          have c3 := h9.rd.c3
          have cf3 := h9.rd.fr 3
          have h10 := h9.brk
          have c1 := h10.rd.c1
          have cf1 := h10.rd.fr 1
          have h11 := h10.next
          have c2 : ((w9.setCell ⟨R, 3, none⟩ (.bool true)).setCell ⟨R, 1, none⟩ (.int .i64 ((j : Int) + 1))).cell? ⟨R, 2, none⟩ = some (.int .i64 ((deep : Int) + 1)) := h11.rd.c2
          have cf2 := h11.rd.fr 2
          have h12 := h11.up
          have hth := h12.thereQ
          clear h9 h10 h11
          go_wp2_with fail
          exact ret_Pr rfl w.heap.size 0 _ rfl (agg?_setAgg_same (c := Pr.arr _) hth) rfl ⟨⟨_, rfl⟩, h12.no (by omega) Hrn.out _⟩
        · have KP := Lib.hid (Hpl.out true hg)
          have Hry := Lib.hid (show r = some (L.drop (j + 1)) by rw [← Hr.out, Hrs.out]; show closeP (L.drop j) = _; rw [Hcl.out, hg]; rfl)
          clear hg
          go_wp2_with fail
          go_region_held3 (fun w' => FdSt w R b off cap p L j (deep + 1) false w' ∧ w'.cell? ⟨R, 0, none⟩ = some (.slice (some ⟨b, off, none⟩) L.length cap) ∧ w'.cell? ⟨R, 1, none⟩ = some (.int .i64 j) ∧ w'.cell? ⟨R, 2, none⟩ = some (.int .i64 ((deep + 1 : Nat) : Int)) ∧ w'.cell? ⟨R, 3, none⟩ = some (.bool false) ∧ agg? w' b (off + j * 9) 9 = some s2.arr)
            ((refine FdSt.seen ?_ Hs; first | assumption | exact h3.drewN 1 | exact h3.drewN _))
            (first | (go_at_call 144; refine (KP.out _ (And.left (by assumption))).mono ?_; rintro e w9 ⟨rfl, h9⟩))
          clear h3 c1
          have c1 := h9.rd.c1
          have cf1 := h9.rd.fr 1
          have h11 := h9.next
          have c2 : (w9.setCell ⟨R, 1, none⟩ (.int .i64 ((j : Int) + 1))).cell? ⟨R, 2, none⟩ = some (.int .i64 ((deep : Int) + 1)) := h11.rd.c2
          have cf2 := h11.rd.fr 2
          have h12 := h11.up
          have hth := h12.thereQ
          clear h9 h11
          go_wp2_with fail
          exact ret_Pr rfl w.heap.size 0 _ rfl (agg?_setAgg_same (c := Pr.arr _) hth) rfl ⟨⟨_, rfl⟩, (h12.yes hlt Hry.out _).2⟩
      · have KK : Hid (∀ W, FdSt w R b off cap p L j (deep + 1) false W → Calls Try.prog 129 #[.pointer (some ⟨R, 0, none⟩)] W fun e w' => e = .returned (.int .i64 (kindAt L j)) ∧ FdSt w R b off cap p L j (deep + 1) false w') := Lib.hid fun W h => h.kind rfl
        have HR : Hid ((itemR (fieldP D) (L.drop j) = none → r = none) ∧ ∀ j', j' ≤ L.length → itemR (fieldP D) (L.drop j) = some (L.drop j') → j < j' ∧ ∃ ks', r0 = addK ks' (fmlaP (fieldP D) (L.length - j') (L.drop j'))) := Lib.hid (by
          by_cases hlt : j < L.length
          · have hk2 : L[j].kind ≠ 22 := by simpa [kindAt, hlt] using hk
            obtain ⟨g1, g2⟩ := fmla_item (field_ends D) hlt hk2 Hres.out
            rw [List.drop_eq_getElem_cons hlt]
            refine ⟨fun e => by rw [← Hr.out, g1 e]; rfl, fun j' hj' e => ?_⟩
            obtain ⟨g3, g4⟩ := g2 j' hj' e
            exact ⟨g3, _, g4⟩
          · rw [List.drop_eq_nil_iff.2 (by omega)]
            refine ⟨fun _ => ?_, fun j' _ e => by cases e⟩
            have e := Hres.out
            rw [fmla_stop hj (fun h => absurd h hlt), List.drop_eq_nil_iff.2 (by omega)] at e
            rw [← Hr.out, e]; rfl)
        have hk22 : ((kindAt L j : Int) != 22) = true := by simpa using hk
        clear hk Hres
        generalize kindAt L j = kj at KK hk22
        generalize itemR (fieldP D) (L.drop j) = r1 at HI HR
        go_wp2_with fail
        refine (KK.out _ h2).mono ?_
        rintro e w3 ⟨rfl, h3⟩
        clear h2 c3 KK
        go_wp2_with fail
        refine (HI.out _ h3).mono ?_
        rintro e w4 hp
        obtain ⟨it, rfl, _⟩ := hp.ex
        have HG := Lib.hid (h3.item hp)
        clear h3 hp HI hk22
        cases r1 with
        | none =>
          obtain ⟨j', hj', h4⟩ := HG.out.2 rfl
          have Hrn := Lib.hid (HR.out.1 rfl)
          clear HR HG
          go_wp2_with fail
          go_roundg 1
          case measure => omega
          case rel => exact .inr ⟨rfl, Hrn.out, j', hj', h4⟩
        | some l =>
          obtain ⟨j', hj', e, h4⟩ := HG.out.1 l rfl
          obtain ⟨hlt, ks', hr'⟩ := HR.out.2 j' hj' (by rw [← e])
          have Hr' := Lib.hid hr'
          clear e hr'
          go_wp2_with fail
          go_roundg (L.length + 2 - j')
          case measure => omega
          case rel => exact .inl ⟨j', ks', rfl, hj', h4, Hr'.out⟩
    · have Hrn := Lib.hid hrn
      have c3 := h2.rd.c3
      have c1 := h2.rd.c1
      have hj1 : (0 : Int) ≤ (j : Int) := by omega
      have hj2 : (j : Int) ≤ 2020 := by omega
      clear hrn
      go_wp2_with fail
      go_quiet (fail)
      have h3 := h2.drewN nq
      clear h2 c3 c1
      generalize wr.drewN nq = w3 at h3 ⊢
      have c1 := h3.rd.c1
      have cf1 := h3.rd.fr 1
      have h11 := h3.next
      have c2 : (w3.setCell ⟨R, 1, none⟩ (.int .i64 ((j : Int) + 1))).cell? ⟨R, 2, none⟩ = some (.int .i64 ((deep : Int) + 1)) := h11.rd.c2
      have cf2 := h11.rd.fr 2
      have h12 := h11.up
      have hth := h12.thereQ
      clear h3 h11
      go_wp2_with fail
      exact ret_Pr rfl w.heap.size 0 _ rfl (agg?_setAgg_same (c := Pr.arr _) hth) rfl ⟨⟨_, rfl⟩, h12.no (by omega) Hrn.out _⟩

theorem rfield_of (D : Nat) (hF : ∀ D', D' + 1 = D → RFieldOK D') (hD20 : D ≤ 20) : RFieldOK D := by
  intro R b off cap i deep p L w hD h hi
  by_cases hk : kindAt L i = 21
  · have hlt : i < L.length := by
      apply Decidable.byContradiction
      intro hn
      rw [kindAt, show L[i]? = none by simp; omega] at hk
      cases hk
    have hk2 : L[i].kind = 21 := by simpa [kindAt, hlt] using hk
    cases hg : plainB L[i] false false
    · have : fieldP D (L.drop i) = none := by
        cases D with
        | zero => cases L.drop i <;> rfl
        | succ D => rw [List.drop_eq_getElem_cons hlt, fieldP, plain_begin hk2, hg]; rfl
      rw [this]
      exact rfield_b R b off cap i deep p L w h hlt (by omega) _ rfl hk2 hg
    · cases D with
      | zero =>
        obtain rfl : deep = 20 := by omega
        have : fieldP 0 (L.drop i) = none := by cases L.drop i <;> rfl
        rw [this]
        exact rfield_c R b off cap i p L w h hlt _ rfl hk2 hg
      | succ D =>
        have : fieldP (D + 1) (L.drop i) = (fmlaP (fieldP D) (L.length - (i + 1)) (L.drop (i + 1))).bind fun x => closeP x.2 := by
          rw [List.drop_eq_getElem_cons hlt, fieldP, plain_begin hk2, hg, if_pos rfl, show (L.drop (i + 1)).length = L.length - (i + 1) by simp]
        rw [this]
        exact rfield_d (hF D rfl) R b off cap i deep p L w h hlt (by omega) _ rfl hk2 hg _ rfl _ rfl
  · have : fieldP D (L.drop i) = none := by
      cases D with
      | zero => cases L.drop i <;> rfl
      | succ D =>
        by_cases hlt : i < L.length
        · rw [List.drop_eq_getElem_cons hlt, fieldP, if_neg]
          intro e
          exact hk (by simp [kindAt, hlt, eqSn_iff.1 e, beginS])
        · rw [List.drop_eq_nil_iff.2 (by omega)]; rfl
    rw [this]
    exact rfield_a R b off cap i deep p L w h hi (by omega) _ rfl (by simpa using hk)
theorem rfield_ok : ∀ D, D ≤ 20 → RFieldOK D
  | 0, h => rfield_of 0 (fun _ e => by omega) h
  | D + 1, h => rfield_of (D + 1) (fun D' e => by obtain rfl : D' = D := by omega
                                                  exact rfield_ok D' (by omega)) h
end Go.Proofs.Ytkkdopfdoommnaa
