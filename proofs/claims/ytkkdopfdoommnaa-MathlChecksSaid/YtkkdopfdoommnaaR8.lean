/-
  Layer 20, the document's side: an item is read: the walk, where one begins.
-/
import Derived.Test.YtkkdopfdoommnaaR7
namespace Go.Proofs.Ytkkdopfdoommnaa
open Go.ChangeShapes Go.WideShapes Go.ChangeAt Go.RowKit
attribute [local go_sem ↓] Go.wp_at_zero Go.wp_at_succ

def MidIt (w : World) (R b off cap : Nat) (p : Option Addr) (L : List Sn) (deep X : Nat) (s : Sn) (r : Option (List Sn)) (E : List Sn → Option (List Sn)) (wx : World) : Prop :=
  (∃ j it, InIt w R b off cap p L deep X s r E j it wx) ∨ (∃ it, OutIt w R b off cap p L deep X r it wx)
theorem InIt.kind {w wr : World} {R b off cap j deep X : Nat} {p : Option Addr} {L : List Sn} {it : RIt} {s : Sn} {r : Option (List Sn)} {E : List Sn → Option (List Sn)} (h : InIt w R b off cap p L deep X s r E j it wr) :
    Calls Try.prog 129 #[.pointer (some ⟨R, 0, none⟩)] wr fun e w' => e = .returned (.int .i64 (kindAt L j)) ∧ InIt w R b off cap p L deep X s r E j it w' :=
  (rkind_any R b off cap j deep p L false wr h.rd).mono fun _ _ ⟨h1, n, h2⟩ => ⟨h1, h2 ▸ h.drewN n⟩
theorem script_not {f : List Sn → Option (List Sn)} {k : Int} {L : List Sn} {j : Nat} (h : ((kindAt L j : Int) == k) = false) : scriptP f k (L.drop j) = some (L.drop j) := by
  by_cases hlt : j < L.length
  · rw [List.drop_eq_getElem_cons hlt, scriptP, if_neg]
    simpa [kindAt, hlt] using h
  · rw [List.drop_eq_nil_iff.2 (by omega)]; rfl
theorem left_res {f : List Sn → Option (List Sn)} {L : List Sn} {i : Nat} {s : Sn} (hi : i < L.length) (hs : L[i] = s) (h13 : s.kind = 13) : itemP f s (L.drop (i + 1)) = (fenceP 13 (L.drop i)).bind fun l => (f l).bind (e2 f s) := by
  rw [List.drop_eq_getElem_cons hi, hs, fenceP]
  cases hg : goodB s
  · rw [item_bad (.inl hg), if_neg (by simp)]; rfl
  · rw [item_good hg (by omega) (by omega), show partsI s = 1 by unfold partsI; rw [if_neg (by omega), if_pos (by omega)], if_pos ⟨h13, rfl⟩]
    exact e1_succ f s 0 _
theorem other_res {f : List Sn → Option (List Sn)} {s : Sn} (h14 : s.kind ≠ 14) (h18 : s.kind ≤ 18) (h13 : s.kind ≠ 13) (l : List Sn) : itemP f s l = (if goodB s then times f (partsI s).toNat l else none).bind (e3 f s) := by
  cases hg : goodB s
  · rw [item_bad (.inl hg)]; rfl
  · rw [item_good hg h14 (by omega), if_pos rfl]
    unfold e1
    congr 1
    funext l
    exact e2_no h13 l
theorem PreIt.sign {w wr : World} {R b off cap i deep X : Nat} {p : Option Addr} {L : List Sn} {it : RIt} (h : PreIt w R b off cap p L i deep X it wr) (s : Sn) : PreIt w R b off cap p L i deep X { it with sign := s } (setAgg wr X 0 s.arr) :=
  ⟨h.base.set 0 s.arr (setMany_RIt_sign _ _), h.hi, h.base.far (Nat.le_of_lt h.base.hX) h.rd⟩
theorem PreIt.next {w wr : World} {R b off cap i deep X : Nat} {p : Option Addr} {L : List Sn} {it : RIt} (h : PreIt w R b off cap p L i deep X it wr) (hi : i < L.length) : PreIt w R b off cap p L (i + 1) deep X it (wr.setCell ⟨R, 1, none⟩ (.int .i64 ((i : Int) + 1))) :=
  ⟨h.base.call ((Turned.refl _ R _).setCell (p := ⟨R, 1, none⟩) (.inl rfl) _), hi, h.rd.next1⟩
theorem PreIt.atFields {w wr : World} {R b off cap i deep X : Nat} {p : Option Addr} {L : List Sn} {it : RIt} (h : PreIt w R b off cap p L i deep X it wr) (hd : deep ≤ 20) {s : Sn} (hs : it.sign = s) : AtFields wr R b off cap p L i deep X it s :=
  ⟨h.rd, h.hi, h.base.blk, hs, by have := h.base.hX; have := h.base.hR; omega, fun e => by have := h.base.hX; have := h.base.hb e; omega, hd⟩
theorem PreIt.fields {w wr w' : World} {R b off cap i deep X : Nat} {p : Option Addr} {L : List Sn} {it : RIt} {s : Sn} {r r1 : Option (List Sn)} {E : List Sn → Option (List Sn)} {e : Ending} (h : PreIt w R b off cap p L i deep X it wr) (hf : FieldsPost wr R b off cap p L deep X s r1 e w') (hE : r = r1.bind E) : MidIt w R b off cap p L deep X s r E w' := by
  obtain ⟨it2, h1, h2⟩ := hf.blk
  have hX := h.base.hX
  have hR := h.base.hR
  have hb : BaseIt w R b L X it2 w' := ⟨h2, (hf.turned.block _ hX (by omega)).trans h.base.q, h.base.tn.trans (hf.turned.mono (by omega)), hX, hR, h.base.hb⟩
  cases r1 with
  | none => exact .inr ⟨it2, hb, hf.no rfl, by rw [hE]; rfl⟩
  | some l =>
    obtain ⟨j, hj, h3, h4⟩ := hf.yes l rfl
    exact .inl ⟨j, it2, hb, hj, h4, by rw [hE, ← h3]; rfl, h1⟩
set_option maxRecDepth 100000 in
set_option maxHeartbeats 8000000 in
theorem ritem_good {D : Nat} (hF : RFieldOK D) (R b off cap i deep : Nat) (p : Option Addr) (L : List Sn) (w : World) (h : RRdr w R b off cap p L i deep false) (hi : i < L.length) (hD : deep + D = 20) (s : Sn) (hs : L[i] = s) (h1k : 1 ≤ s.kind) (h18 : s.kind ≤ 18) (h14 : s.kind ≠ 14)
    (r : Option (List Sn)) (hr : itemP (fieldP D) s (L.drop (i + 1)) = r) :
    Calls Try.prog 83 #[.pointer (some ⟨R, 0, none⟩)] w (ItemPost w R b off cap p L i deep r) := by
  have HK := Lib.hid (kindC w R b off cap p L i deep (k := s.kind) (by simp [kindAt, hi, hs]))
  have Hs := Lib.hid (show L[i]? = some s by rw [List.getElem?_eq_getElem hi, hs])
  have Hl := Lib.hid (left_res (f := fieldP D) hi hs)
  have Ho := Lib.hid (other_res (f := fieldP D) (s := s) h14 h18)
  have Hr := Lib.hid hr
  have H14 := Lib.hid h14
  have hd20 : deep ≤ 20 := by omega
  have k14 : ((s.kind : Int) == 14) = false := by simpa using h14
  have cs : Hid (∀ (W : World) (it : RIt) (X : Nat), PreIt w R b off cap p L i deep X it W → agg? W b (off + i * 9) 9 = some s.arr) := Lib.hid fun W it X h => by rw [h.rd.sg i hi, hs]
  clear hr hs h14
  go_enter Try.func83, Try.ntmps83
  go_wp2_with fail
  refine (HK.out _ (w.heap.size + 2) { RIt.zero with one := ⟨0, -1⟩, two := ⟨0, -1⟩, sup := ⟨0, -1⟩, sub := ⟨0, -1⟩ } (PreIt.of h (Nat.le_of_lt hi) _ _)).mono ?_
  rintro e w1 ⟨rfl, h1⟩
  generalize w.heap.size + 2 = X at h1 ⊢
  generalize ({ RIt.zero with one := ⟨0, -1⟩, two := ⟨0, -1⟩, sup := ⟨0, -1⟩, sub := ⟨0, -1⟩ } : RIt) = it0 at h1
  go_upto_if 29 with (fail)
  go_cut [] (fun wx => MidIt w R b off cap p L deep X s r (e3 (fieldP D) s) wx)
  case first =>
    cases h13 : ((s.kind : Int) == 13)
    · have H13 := Lib.hid (show s.kind ≠ 13 by simpa using h13)
      have c0 := h1.rd.c0
      have c1 := h1.rd.c1
      have cs1 := cs.out _ _ _ h1
      rw [h1.rd.hp (by intro e; rw [e] at hi; simp at hi)] at c0
      have hcap := h1.rd.cap'
      have hl := h1.rd.len
      have hi1 : (0 : Int) ≤ (i : Int) := by omega
      have hi2 : (i : Int) < (L.length : Int) := by omega
      go_wp2_with fail
      refine wp_still_tail 11 (by kernel_rfl) (by kernel_rfl) ?_
      simp only [List.take_succ_cons, List.take_zero, List.drop_succ_cons, List.drop_zero]
      repeat still_step
      refine wpStill_nil ?_
      change wpList _ _ _ _ _ w1.drew
      have h2 : PreIt w R b off cap p L i deep X it0 w1.drew := h1.drewN 1
      clear h1 c0 c1 cs1
      generalize w1.drew = w2 at h2 ⊢
      have hth := h2.base.there 0 9 (by omega)
      have h3 := h2.sign s
      have c1 := h3.rd.c1
      have cf := h3.rd.fr 1
      have h4 := h3.next hi
      have KF := Lib.hid (rfields_any hF R b off cap (i + 1) deep X p L _ s _ (h4.atFields hd20 rfl) hD h1k h18 H13.out H14.out)
      clear h2 h3
      go_wp2_with fail
      refine KF.out.mono ?_
      clear KF
      rintro e w5 hf
      obtain rfl := hf.e
      have HM := Lib.hid (h4.fields hf ((Hr.out.symm).trans (Ho.out H13.out _)))
      clear hf h4 hth c1 cf
      go_wp2_with fail
      go_meet
      exact HM.out
    · have H13 := Lib.hid (show s.kind = 13 by simpa using h13)
      have KF := Lib.hid (fence_any 13 (.inl rfl) R b off cap i deep p L w1 h1.rd h1.hi hd20)
      have HE := Lib.hid ((Hr.out.symm).trans (Hl.out H13.out))
      go_wp2_with fail
      refine KF.out.mono ?_
      clear KF
      rintro e w2 hf
      obtain ⟨s', rfl, _⟩ := hf.ex
      have hth := (h1.base.call hf.rd.turned).there 0 9 (by omega)
      generalize fenceP 13 (L.drop i) = r1 at hf HE
      cases r1 with
      | none =>
        have h2 := h1.leftNot hf s' rfl HE.out
        obtain ⟨j, _, hj2⟩ := h2.rd
        have c3 := hj2.c3
        clear h1 hf hj2
        go_wp2_with fail
        go_meet
        exact .inr ⟨_, h2⟩
      | some l =>
        obtain ⟨j, h2⟩ := h1.left hf rfl rfl Hs.out HE.out
        have c3 := h2.rd.c3
        have KF := Lib.hid (hF R b off cap j deep p L _ hD h2.rd h2.hj)
        clear h1 hf HE
        go_wp2_with fail
        refine KF.out.mono ?_
        clear KF c3 hth
        rintro e w3 ⟨⟨x, rfl⟩, rt3⟩
        cases hr3 : fieldP D (L.drop j) with
        | none =>
          have h3 := h2.halt rt3 hr3 rfl
          have hth := h3.base.there 9 2 (by omega)
          have h4 := h3.set 9 x.arr (setMany_RIt_one _ _)
          obtain ⟨j, _, hj2⟩ := h4.rd
          have c3 := hj2.c3
          clear h2 h3 rt3 hj2 hr3
          go_wp2_with fail
          go_meet
          exact .inr ⟨_, h4⟩
        | some l3 =>
          obtain ⟨j3, h3⟩ := h2.go rt3 hr3 (E' := e2 (fieldP D) s) rfl
          have hth := h3.base.there 9 2 (by omega)
          have h4 := h3.set 9 x.arr (setMany_RIt_one _ _) rfl
          have c3 := h4.rd.c3
          clear h2 h3 rt3 hr3
          have KF := Lib.hid (fence_any 14 (.inr rfl) R b off cap j3 deep p L _ h4.rd h4.hj hd20)
          have HE := Lib.hid (show e2 (fieldP D) s (L.drop j3) = (fenceP 14 (L.drop j3)).bind (e3 (fieldP D) s) by rw [fenceP_right]; exact e2_yes H13.out _)
          go_wp2_with fail
          refine KF.out.mono ?_
          clear KF c3 hth
          rintro e w5 hf
          obtain ⟨s2, rfl, _⟩ := hf.ex
          have rt5 := hf.rd
          clear hf
          generalize fenceP 14 (L.drop j3) = r5 at rt5 HE
          cases r5 with
          | none =>
            have h5 := h4.halt rt5 rfl HE.out
            have hth := h5.base.there 13 9 (by omega)
            have h6 := h5.set 13 s2.arr (setMany_RIt_shut _ _)
            clear h4 h5 rt5
            go_wp2_with fail
            go_meet
            exact .inr ⟨_, h6⟩
          | some l5 =>
            obtain ⟨j5, h5⟩ := h4.go rt5 rfl HE.out
            have hth := h5.base.there 13 9 (by omega)
            have h6 := h5.set 13 s2.arr (setMany_RIt_shut _ _) rfl
            clear h4 h5 rt5
            go_wp2_with fail
            go_meet
            exact .inl ⟨_, _, h6⟩
  case rest =>
    clear h1
    obtain ⟨j, it, h2⟩ | ⟨it, h2⟩ := hcut
    · have c3 := h2.rd.c3
      by_cases h15 : 15 ≤ s.kind
      · have hw := h2.base.whole
        have hq := h2.base.thereQ
        have h3 := h2.same (E' := fun l => some l) (e3_no (by omega) _)
        clear h2
        go_wp2_with fail
        exact ret_RIt rfl w.heap.size 0 _ rfl (agg?_setAgg_same (c := RIt.arr _) hq) rfl (h3.done Hs.out)
      · have hn14 := H14.out
        have h3 := h2.same (E' := fun l => (scriptP (fieldP D) 19 l).bind (e4 (fieldP D))) (e3_yes (by omega) _)
        have h15' : s.kind < 15 := by omega
        have hk := h3.kind
        clear h2 hn14 h15
        generalize hkq : kindAt L j = kq at hk
        have KQ := Lib.hid hkq
        have HK2 := Lib.hid hk
        clear hk hkq
        go_upto_if 80 with ((go_at_call 129; refine HK2.out.mono ?_; rintro e w5 ⟨rfl, h5⟩))
        clear h3 c3
        go_cut [] (fun wx => MidIt w R b off cap p L deep X s r (e4 (fieldP D)) wx)
        case first =>
          cases h19 : ((kq : Int) == 19)
          · have HS := Lib.hid (script_not (f := fieldP D) (show ((kindAt L j : Int) == 19) = false by rw [KQ.out]; exact h19))
            go_wp2_with fail
            go_meet
            exact .inl ⟨_, _, h5.same (by rw [HS.out]; rfl)⟩
          · have KF := Lib.hid (rscript_any hF 19 (.inl rfl) R b off cap j deep p L _ h5.rd hD (by rw [KQ.out]; simpa using h19))
            have HE : Hid ((scriptP (fieldP D) 19 (L.drop j)).bind (e4 (fieldP D)) = (scriptP (fieldP D) 19 (L.drop j)).bind (e4 (fieldP D))) := Lib.hid rfl
            go_wp2_with fail
            refine KF.out.mono ?_
            clear KF
            rintro e w6 ⟨⟨x, rfl⟩, rt6⟩
            cases hr6 : scriptP (fieldP D) 19 (L.drop j) with
            | none =>
              have h6 := h5.halt (E' := e4 (fieldP D)) rt6 hr6 rfl
              have hth := h6.base.there 22 2 (by omega)
              have h7 := h6.set 22 x.arr (setMany_RIt_sup _ _)
              clear h5 h6 rt6 hr6 HE
              go_wp2_with fail
              go_meet
              exact .inr ⟨_, h7⟩
            | some l6 =>
              obtain ⟨j6, h6⟩ := h5.go (E' := e4 (fieldP D)) rt6 hr6 rfl
              have hth := h6.base.there 22 2 (by omega)
              have h7 := h6.set 22 x.arr (setMany_RIt_sup _ _) rfl
              clear h5 h6 rt6 hr6 HE
              go_wp2_with fail
              go_meet
              exact .inl ⟨_, _, h7⟩
        case rest =>
          clear h5
          obtain ⟨j2, it2, h6⟩ | ⟨it2, h6⟩ := hcut
          · have c3 := h6.rd.c3
            have hk := h6.kind
            generalize hkq : kindAt L j2 = kq2 at hk
            have KQ2 := Lib.hid hkq
            have HK3 := Lib.hid hk
            clear hk hkq
            go_upto_if 93 with ((go_at_call 129; refine HK3.out.mono ?_; rintro e w7 ⟨rfl, h7⟩))
            clear h6 c3
            cases h20 : ((kq2 : Int) == 20)
            · have HS := Lib.hid (script_not (f := fieldP D) (show ((kindAt L j2 : Int) == 20) = false by rw [KQ2.out]; exact h20))
              have h8 := h7.same (E' := fun l => some l) HS.out
              have hw := h8.base.whole
              have hq := h8.base.thereQ
              clear h7
              go_wp2_with fail
              exact ret_RIt rfl w.heap.size 0 _ rfl (agg?_setAgg_same (c := RIt.arr _) hq) rfl (h8.done Hs.out)
            · have KF := Lib.hid (rscript_any hF 20 (.inr rfl) R b off cap j2 deep p L _ h7.rd hD (by rw [KQ2.out]; simpa using h20))
              go_wp2_with fail
              refine KF.out.mono ?_
              clear KF
              rintro e w8 ⟨⟨x, rfl⟩, rt8⟩
              have HE := Lib.hid (show e4 (fieldP D) (L.drop j2) = (scriptP (fieldP D) 20 (L.drop j2)).bind (fun l => some l) by cases h : scriptP (fieldP D) 20 (L.drop j2) <;> simp [e4, h])
              cases hr8 : scriptP (fieldP D) 20 (L.drop j2) with
              | none =>
                have h8 := h7.halt rt8 hr8 HE.out
                have hth := h8.base.there 24 2 (by omega)
                have h9 := h8.set 24 x.arr (setMany_RIt_sub _ _)
                have hw := h9.base.whole
                have hq := h9.base.thereQ
                clear h7 h8 rt8 hr8 HE
                go_wp2_with fail
                exact ret_RIt rfl w.heap.size 0 _ rfl (agg?_setAgg_same (c := RIt.arr _) hq) rfl h9.done
              | some l8 =>
                obtain ⟨j8, h8⟩ := h7.go rt8 hr8 HE.out
                have hth := h8.base.there 24 2 (by omega)
                have h9 := h8.set 24 x.arr (setMany_RIt_sub _ _) rfl
                have hw := h9.base.whole
                have hq := h9.base.thereQ
                clear h7 h8 rt8 hr8 HE
                go_wp2_with fail
                exact ret_RIt rfl w.heap.size 0 _ rfl (agg?_setAgg_same (c := RIt.arr _) hq) rfl (h9.done Hs.out)
          · obtain ⟨j2, _, hj2⟩ := h6.rd
            have c3 := hj2.c3
            have hw := h6.base.whole
            have hq := h6.base.thereQ
            clear hj2
            go_wp2_with fail
            exact ret_RIt rfl w.heap.size 0 _ rfl (agg?_setAgg_same (c := RIt.arr _) hq) rfl h6.done
    · obtain ⟨j2, _, hj2⟩ := h2.rd
      have c3 := hj2.c3
      have hw := h2.base.whole
      have hq := h2.base.thereQ
      clear hj2
      go_wp2_with fail
      exact ret_RIt rfl w.heap.size 0 _ rfl (agg?_setAgg_same (c := RIt.arr _) hq) rfl h2.done
theorem ritem_any {D : Nat} (hF : RFieldOK D) (R b off cap i deep : Nat) (p : Option Addr) (L : List Sn) (w : World) (h : RRdr w R b off cap p L i deep false) (hi : i ≤ L.length) (hD : deep + D = 20) :
    Calls Try.prog 83 #[.pointer (some ⟨R, 0, none⟩)] w (ItemPost w R b off cap p L i deep (itemR (fieldP D) (L.drop i))) := by
  by_cases hlt : i < L.length
  · rw [List.drop_eq_getElem_cons hlt]
    show Calls _ _ _ _ (ItemPost w R b off cap p L i deep (itemP (fieldP D) L[i] (L.drop (i + 1))))
    have hkk : kindAt L i = L[i].kind := by simp [kindAt, hlt]
    by_cases hb : L[i].kind < 1 ∨ 18 < L[i].kind ∨ L[i].kind = 14
    · have : itemP (fieldP D) L[i] (L.drop (i + 1)) = none := by
        apply item_bad
        by_cases h1 : L[i].kind < 1
        · left
          unfold goodB
          repeat rw [if_neg (by omega)]
        · right; omega
      rw [this]
      exact ritem_bad _ hb R b off cap i deep p L w h hi (by omega) hkk
    · exact ritem_good hF R b off cap i deep p L w h hlt hD _ rfl (by omega) (by omega) (by omega) _ rfl
  · rw [List.drop_eq_nil_iff.2 (by omega)]
    exact ritem_bad 0 (.inl (by decide)) R b off cap i deep p L w h hi (by omega) (by rw [kindAt, show L[i]? = none by simp; omega])
end Go.Proofs.Ytkkdopfdoommnaa
