/-
  Layer 20: a formula is read: the walk.
-/
import Derived.Test.YtkkdopfdoommnaaM5
import Derived.Test.YtkkdopfdoommnaaM6
import Derived.Test.YtkkdopfdoommnaaMBs
import Derived.Deep.LoopGhost
import Derived.Deep.DeepCutAuto
import Derived.Deep.RegionHeld3
import Derived.Outline
namespace Go.Proofs.Ytkkdopfdoommnaa
open Go.ChangeShapes Go.WideShapes Go.ChangeAt Go.RowKit
attribute [local go_sem ↓] Go.wp_at_zero Go.wp_at_succ

/-- at the head of the loop -/
structure AtHead (B R b cap : Nat) (p : Option Addr) (L : List Sn) (f : List Sn → Option (List Sn)) (w : World) (r0 : Option (List Int × List Sn)) (i : Nat) (v : Value) (its : List It) (wr : World) : Prop where
  hi : i ≤ L.length
  rd : Rdr wr R b cap p L i
  tn : Turned B R w wr
  row : wr.ownsRow B 145 21 v its.length (its.flatMap It.cells)
  few : its.length ≤ i
  res : r0 = addK (its.map (·.sign.kind)) (fmlaP f (L.length - i) (L.drop i))
  hR : R < B
  hb : L ≠ [] → b < B
  hB : B ≤ wr.heap.size

theorem info_field : (Try.prog.info? 101).map (fun i => (i.zero, i.size, i.bytes)) = some (some (.slice none 0 0), 1, 24) := by kernel_rfl
theorem info_item : (Try.prog.info? 145).map (fun i => (i.zero, i.size, i.bytes)) = some (some (.agg It.zero.arr), 21, 184) := by kernel_rfl
theorem AtHead.drewN {B R b cap i : Nat} {p : Option Addr} {L : List Sn} {f : List Sn → Option (List Sn)} {w wr : World} {r0 : Option (List Int × List Sn)} {v : Value} {its : List It} (h : AtHead B R b cap p L f w r0 i v its wr) (n : Nat) : AtHead B R b cap p L f w r0 i v its (wr.drewN n) :=
  ⟨h.hi, h.rd.drewN n, h.tn.drewN n, ownsRow_same h.row fun _ _ _ => rfl, h.few, h.res, h.hR, h.hb, h.hB⟩
set_option maxRecDepth 100000 in
set_option maxHeartbeats 12000000 in
theorem fmla_walk (d : Nat) (hF : FieldOK d) (dp : Int) (hd : dp + d = 20) (R b cap i0 : Nat) (p : Option Addr) (L : List Sn) (w : World) (h : Rdr w R b cap p L i0) (hi0 : i0 ≤ L.length)
    (r0 : Option (List Int × List Sn)) (hr0 : Hid (fmlaP (fieldP d) (L.length - i0) (L.drop i0) = r0)) :
    Calls Try.prog 81 #[.pointer (some ⟨R, 0, none⟩), .int .i64 dp] w (FmlaPost w R b cap p L r0) := by
  go_enter Try.func81, Try.ntmps81
  go_wp2_with fail
  go_loopg [6] (L.length + 1 - i0) (fun g v wr => ∃ (i : Nat) (its : List It), g = L.length + 1 - i ∧ AtHead w.heap.size R b cap p L (fieldP d) w r0 i v its wr)
  case atStart =>
    refine ⟨i0, [], rfl, hi0, h.alloc _, (Turned.refl _ _ _).alloc (Nat.le_refl _) _, ?_, by simp, by rw [← hr0.out]; exact (addK_nil _).symm, h.ltR, h.ltb, by simp⟩
    exact World.ownsRow_made (w := w) (base := w.heap.size) #[] 0 (Nat.le_refl _) (by decide) rfl
  case round =>
    obtain ⟨i, its, rfl, hA⟩ := hrel
    have hp := peekC hA.rd hA.hi
    have c0 := hA.rd.c0
    have c1 := hA.rd.c1
    have hcap := hA.rd.cap'
    have hl := hA.rd.len
    have hi := hA.hi
    have hi1 : (0 : Int) ≤ (i : Int) := by omega
    by_cases hlt : i < L.length
    · have hi2 : (i : Int) < (L.length : Int) := by omega
      rw [hA.rd.hp (by intro e; rw [e] at hlt; simp at hlt)] at c0
      have hs := hA.rd.sg i hlt
      have hkk : kindAt L i = L[i].kind := by simp [kindAt, hlt]
      rw [hkk] at hp
      clear hkk
      have hres := Lib.hid (fun (h : L[i].kind ≠ 22) => fmla_item (field_ends d) hlt h hA.res)
      have hstop := Lib.hid (fun (h : L[i].kind = 22) => hA.res.trans (congrArg (addK _) (fmla_stop hi fun _ => h)))
      generalize L[i] = s at hs hp hres hstop
      cases hk : ((s.kind : Int) != 22)
      · go_wp2_with fail
        go_quiet ((go_at_call 124; exact hp _))
        go_wp2_with fail
        go_ret2
        have hA2 := hA.drewN nq
        have hrs := hstop.out (by simpa using hk)
        rw [hrs]
        exact ⟨⟨_, rfl, fun x e => by cases e; exact ⟨its, by simp, hA2.row⟩⟩, hA2.tn, i, hi, hA2.rd, fun l e => by cases e; rfl⟩
      · go_wp2_with fail
        go_quiet ((go_at_call 124; exact hp _))
        go_upto_region 3 with (fail)
        have hA2 := hA.drewN nq
        have c0' : (wr.drewN nq).cell? ⟨R, 0, none⟩ = some (.slice (some ⟨b, 0, none⟩) L.length cap) := c0
        have c1' : (wr.drewN nq).cell? ⟨R, 1, none⟩ = some (.int .i64 i) := c1
        have hs' : agg? (wr.drewN nq) b (i * 9) 9 = some s.arr := hs
        clear c0 c1 hs hp hA
        generalize wr.drewN nq = w2 at hA2 c0' c1' hs' ⊢
        go_cut [7] (fun s7 wx => ∃ (X : Nat), s7 = .pointer (some ⟨X, 0, none⟩) ∧ InRound w.heap.size R b cap p L (fieldP d) i s w u6 its X (fun l => itemP (fieldP d) s (l.drop 1)) i { It.zero with sign := s } wx)
        case first =>
          go_region_held3 (fun w' => w'.cell? ⟨R, 0, none⟩ = some (.slice (some ⟨b, 0, none⟩) L.length cap) ∧ w'.cell? ⟨R, 1, none⟩ = some (.int .i64 i) ∧ agg? w' b (i * 9) 9 = some s.arr) (simp [*, World.cell?_alloc_some, agg?_drew, agg?_alloc_some]) (fail)
          all_goals go_wp2_with fail
          all_goals go_meet
          all_goals exact ⟨_, rfl, (InRound.start hA2.hB hi hA2.rd hA2.tn hA2.row hA2.hR hA2.hb s).quiet 1⟩
        case rest =>
          obtain ⟨X, rfl, hI⟩ := hcut
          have hrow := Lib.hid hA2.few
          clear hA2 c0' c1' hs'
          have ax := hI.sign
          have hk22 := Lib.hid (show s.kind ≠ 22 by simpa using hk)
          cases hg : goodB s
          · have HG : Hid (∀ W, Calls Try.prog 125 #[.agg s.arr] W fun e w' => e = .returned (.bool false) ∧ Below W.heap.size W w') := fun W => (good_any s W).mono fun e w' ⟨h1, h2⟩ => ⟨h1.trans (ret_bool hg), h2⟩
            have hrn := Lib.hid ((hres.out hk22.out).1 (item_bad (.inl hg) _))
            go_wp2_with (go_at_call 125; refine (HG.out _).mono ?_; rintro e w3 ⟨rfl, hb3⟩)
            go_ret2
            have h3 := hI.below hb3
            rw [hrn.out]
            exact ⟨⟨_, rfl, fun x e => by cases e⟩, h3.tn, i, hi, h3.rd, fun l e => by cases e⟩
          · have HG : Hid (∀ W, Calls Try.prog 125 #[.agg s.arr] W fun e w' => e = .returned (.bool true) ∧ Below W.heap.size W w') := fun W => (good_any s W).mono fun e w' ⟨h1, h2⟩ => ⟨h1.trans (ret_bool hg), h2⟩
            go_wp2_with fail
            refine (HG.out _).mono ?_
            rintro e w3 ⟨rfl, hb3⟩
            have h3 := hI.below hb3
            clear ax hI hb3
            have ck := h3.kind
            have ax := h3.sign
            by_cases hbad : s.kind = 14 ∨ 19 ≤ s.kind
            · have hrn := Lib.hid ((hres.out hk22.out).1 (item_bad (.inr hbad) _))
              have hbad' := Lib.hid hbad
              have fin : FmlaPost w R b cap p L r0 (.returned (.tuple #[.slice none 0 0, .bool false])) w3 := by
                rw [hrn.out]
                exact ⟨⟨_, rfl, fun x e => by cases e⟩, h3.tn, i, hi, h3.rd, fun l e => by cases e⟩
              clear hbad
              cases h14 : ((s.kind : Int) == 14)
              · have h19 : 19 ≤ s.kind := by
                  rcases hbad'.out with h | h
                  · simp [h] at h14
                  · exact h
                go_wp2_with fail
                go_ret2
                exact fin
              · go_wp2_with fail
                go_ret2
                exact fin
            · have h14 : ((s.kind : Int) == 14) = false := by simp; omega
              have h19 : s.kind < 19 := by omega
              have hkk := Lib.hid hbad
              clear hbad
              have hpl := parts_le hg
              obtain ⟨n, hn⟩ := Int.eq_ofNat_of_zero_le hpl.1
              have hn2 : n ≤ 2 := by omega
              have HP : Hid (∀ W, Calls Try.prog 126 #[.agg s.arr] W fun e w' => e = .returned (.int .i64 (n : Int)) ∧ Below W.heap.size W w') := fun W => (mfields_any s W).mono fun e w' ⟨h1, h2⟩ => ⟨h1.trans (ret_int hn), h2⟩
              have h4 := h3.next (E' := e1 (fieldP d) s n) hlt (by
                show itemP (fieldP d) s ((L.drop i).drop 1) = _
                rw [item_good hg (fun h => hkk.out (.inl h)) (by omega), hn, List.drop_drop]; rfl)
              have ax4 := h4.sign
              have c1 := h3.rd.c1
              have cf := h3.rd.fr
              clear hn hpl h3
              go_wp2_with fail
              refine (HP.out _).mono ?_
              rintro e w5 ⟨rfl, hb5⟩
              have h5 := h4.below hb5
              clear h4 hb5 ax4 c1 cf ck ax HP HG h14 h19
              go_wp2_with fail
              go_loopg [63] (n + 1) (fun g t wl => ∃ (k j : Nat) (it : It), g = n + 1 - k ∧ k ≤ n ∧ t = .int .i64 k ∧ it.fieldsN = k ∧ InRound w.heap.size R b cap p L (fieldP d) i s w u6 its X (e1 (fieldP d) s (n - k)) j it wl)
              case atStart => exact ⟨0, _, _, rfl, Nat.zero_le _, rfl, rfl, h5⟩
              case round =>
                clear h5
                obtain ⟨k, j, it, rfl, hk6, rfl, hfn0, h6⟩ := hrel
                have hfn := Lib.hid hfn0
                clear hfn0
                by_cases hkn : k < n
                · have hkn' : (k : Int) < (n : Int) := by omega
                  have hc := hF dp R b cap j p L _ hd h6.rd h6.hj
                  have he1 : e1 (fieldP d) s (n - k) (L.drop j) = (fieldP d (L.drop j)).bind (e1 (fieldP d) s (n - (k + 1))) := by
                    rw [show n - k = (n - (k + 1)) + 1 by omega, e1_succ]
                  generalize fieldP d (L.drop j) = r1 at hc he1
                  have HE := Lib.hid he1
                  have HC := Lib.hid hc
                  clear he1 hc
                  go_wp2_with fail
                  refine HC.out.mono ?_
                  rintro e w7 ⟨⟨a, m, c, rfl⟩, ht, j', hj', hr', hx⟩
                  cases r1 with
                  | none =>
                    simp only [okB_none]
                    have hrn := Lib.hid ((hres.out hk22.out).1 (h6.res.trans HE.out))
                    have fin : FmlaPost w R b cap p L r0 (.returned (.tuple #[.slice none 0 0, .bool false])) w7 := by
                      rw [hrn.out]
                      exact ⟨⟨_, rfl, fun x e => by cases e⟩, h6.tn.trans (ht.mono (Nat.le_trans h6.hX (Nat.le_of_lt h6.X_lt))), j', hj', hr', fun l e => by cases e⟩
                    clear hx
                    go_wp2_with fail
                    go_ret2
                    exact fin
                  | some l =>
                    simp only [okB_some]
                    obtain rfl := hx l rfl
                    have h7 := h6.call (E' := e1 (fieldP d) s (n - (k + 1))) ht hr' hj' HE.out
                    have cfl := h7.fields
                    have cfz := h7.free 9
                    clear hx ht hr' h6
                    obtain ⟨xs, hown⟩ := h7.parts
                    obtain ⟨i0, hi0', hz0, hz1, hz2⟩ := info_parts info_field
                    have hXl := h7.X_lt
                    have hN : it.fieldsN ≤ 2 := by rw [hfn.out]; omega
                    go_wp2_with (at_builtin; refine wpList_append_lies _ rfl _ _ _ rfl (X + 1) 101 i0 (.slice none 0 0) 1 24 Try.underlying142 hi0' hz0 hz1 hz2 rfl (by decide) (.slice it.fieldsA it.fieldsN it.fieldsC) it.fieldsN xs rfl (hown.alloc _) ⟨w7.heap.size, 0, none⟩ 1 1 [.slice a m c] rfl rfl (World.news_of_block (heap_alloc_new _ _)) (by simp [Value.oneCell']) (by decide) (by unfold maxLen; omega) (by omega) (by simp; omega) _ rfl ?_; intro g8 cap8 w8 hown8 hgrow8 hat8 hlt8; obtain ⟨cx8, cz8⟩ := h7.push_blk hgrow8)
                    have h8 := h7.push hgrow8 hown8
                    go_roundg (n + 1 - (k + 1))
                    case measure => omega
                    case rel => exact ⟨k + 1, j', _, rfl, by omega, by go_num, by show it.fieldsN + 1 = k + 1; rw [hfn.out], h8⟩
                · obtain rfl : k = n := by omega
                  have h7 := h6.call (E' := e2 (fieldP d) s) (.refl _ _ _) h6.rd h6.hj (by rw [Nat.sub_self, e1_zero])
                  clear h6 hfn
                  have ck := h7.kind
                  go_upto_if 83 with (fail)
                  go_cut [] (fun wx => ∃ (j : Nat) (it : It), InRound w.heap.size R b cap p L (fieldP d) i s w u6 its X (e3 (fieldP d) s) j it wx)
                  case first =>
                    cases h13 : ((s.kind : Int) == 13)
                    · have h13' := Lib.hid (show s.kind ≠ 13 by simpa using h13)
                      go_wp2_with fail
                      go_meet
                      exact ⟨j, it, h7.call (.refl _ _ _) h7.rd h7.hj (e2_no h13'.out _)⟩
                    · have h13' := Lib.hid (show s.kind = 13 by simpa using h13)
                      have hpk := peekC h7.rd h7.hj
                      cases hk14 : ((kindAt L j : Int) != 14)
                      · have hj2 : j < L.length := by
                          apply Decidable.byContradiction
                          intro hn
                          simp [kindAt, show L[j]? = none by simp; omega] at hk14
                        have hs2 : Hid (L[j]? = some L[j]) := List.getElem?_eq_getElem hj2
                        have hkj := Lib.hid (show L[j].kind = 14 by simpa [kindAt, hj2] using hk14)
                        have hdr : Hid (L.drop j = L[j] :: L.drop (j + 1)) := List.drop_eq_getElem_cons hj2
                        clear ck
                        generalize L[j] = s2 at hs2 hkj hdr
                        have hj3 : (0 : Int) ≤ (j : Int) := by omega
                        have hj4 : (j : Int) < (L.length : Int) := by omega
                        cases hg2 : goodB s2
                        · have HG2 : Hid (∀ W, Calls Try.prog 125 #[.agg s2.arr] W fun e w' => e = .returned (.bool false) ∧ Below W.heap.size W w') := fun W => (good_any s2 W).mono fun e w' ⟨h1, h2⟩ => ⟨h1.trans (ret_bool hg2), h2⟩
                          have hrn := Lib.hid ((hres.out hk22.out).1 (h7.res.trans (by rw [hdr.out, e2_yes h13'.out, rightP, if_neg (by rw [hg2]; simp)]; rfl)))
                          go_wp2_with fail
                          go_region_held3 (fun w' => InRound w.heap.size R b cap p L (fieldP d) i s w u6 its X (e2 (fieldP d) s) j it w' ∧ w'.cell? ⟨R, 0, none⟩ = some (.slice (some ⟨b, 0, none⟩) L.length cap) ∧ w'.cell? ⟨R, 1, none⟩ = some (.int .i64 j) ∧ agg? w' b (j * 9) 9 = some s2.arr)
                            (first | exact (h7.quiet 1).seen hs2 | exact (h7.quiet _).seen hs2 | exact InRound.seen (InRound.below (h7.quiet _) hb9) hs2)
                            (first | (go_at_call 124; refine (mpeek_any R b cap j p L _ (InRound.rd (And.left (by assumption))) h7.hj).mono ?_; rintro e w' ⟨rfl, m9, rfl⟩) | (go_at_call 125; refine (HG2.out _).mono ?_; rintro e w9 ⟨rfl, hb9⟩))
                          have h9 := (h7.quiet _).below hb9
                          go_wp2_with fail
                          go_ret2
                          rw [hrn.out]
                          exact ⟨⟨_, rfl, fun x e => by cases e⟩, h9.tn, j, h9.hj, h9.rd, fun l e => by cases e⟩
                        · have HG2 : Hid (∀ W, Calls Try.prog 125 #[.agg s2.arr] W fun e w' => e = .returned (.bool true) ∧ Below W.heap.size W w') := fun W => (good_any s2 W).mono fun e w' ⟨h1, h2⟩ => ⟨h1.trans (ret_bool hg2), h2⟩
                          have hE := Lib.hid (show e2 (fieldP d) s (L.drop j) = e3 (fieldP d) s (L.drop (j + 1)) by rw [hdr.out, e2_yes h13'.out, rightP, if_pos ⟨hkj.out, hg2⟩]; rfl)
                          go_wp2_with fail
                          go_region_held3 (fun w' => InRound w.heap.size R b cap p L (fieldP d) i s w u6 its X (e2 (fieldP d) s) j it w' ∧ w'.cell? ⟨R, 0, none⟩ = some (.slice (some ⟨b, 0, none⟩) L.length cap) ∧ w'.cell? ⟨R, 1, none⟩ = some (.int .i64 j) ∧ agg? w' b (j * 9) 9 = some s2.arr)
                            (first | exact (h7.quiet 1).seen hs2 | exact (h7.quiet _).seen hs2 | exact InRound.seen (InRound.below (h7.quiet _) hb9) hs2)
                            (first | (go_at_call 124; refine (mpeek_any R b cap j p L _ (InRound.rd (And.left (by assumption))) h7.hj).mono ?_; rintro e w' ⟨rfl, m9, rfl⟩) | (go_at_call 125; refine (HG2.out _).mono ?_; rintro e w9 ⟨rfl, hb9⟩))
                          have h9 := (h7.quiet _).below hb9
                          clear hb9 h7 hpk
                          obtain ⟨_, c0, c1, cs⟩ := h9.seen hs2
                          go_wp2_with fail
                          refine wp_still_tail 11 (by kernel_rfl) (by kernel_rfl) ?_
                          simp only [List.take_succ_cons, List.take_zero, List.drop_succ_cons, List.drop_zero]
                          repeat still_step
                          refine wpStill_nil ?_
                          change wpList _ _ _ _ _ w9.drew
                          have h10 : InRound w.heap.size R b cap p L (fieldP d) i s w u6 its X (e2 (fieldP d) s) j it w9.drew := h9.quiet 1
                          clear h9 c0 c1 cs
                          generalize w9.drew = w10 at h10
                          have hth := h10.thereR
                          have h11 := h10.setRight s2
                          have c1 := h11.rd.c1
                          have cf := h11.rd.fr
                          have h12 := h11.next hj2 hE.out
                          clear h10 h11
                          go_wp2_with fail
                          go_meet
                          exact ⟨j + 1, _, h12⟩
                      · have hrn := Lib.hid ((hres.out hk22.out).1 (h7.res.trans (by
                          rw [e2_yes h13'.out]
                          by_cases hj2 : j < L.length
                          · rw [List.drop_eq_getElem_cons hj2, rightP, if_neg (by intro e; simp [kindAt, hj2, e.1] at hk14)]; rfl
                          · rw [List.drop_eq_nil_iff.2 (by omega)]; rfl)))
                        go_wp2_with fail
                        go_quiet ((go_at_call 124; exact hpk _))
                        go_wp2_with fail
                        go_ret2
                        rw [hrn.out]
                        have h8 := h7.quiet nq
                        exact ⟨⟨_, rfl, fun x e => by cases e⟩, h8.tn, j, h8.hj, h8.rd, fun l e => by cases e⟩
                  case rest =>
                    obtain ⟨j, it, h8⟩ := hcut
                    have ck := h8.kind
                    go_upto_if 122 with (fail)
                    go_cut [] (fun wx => ∃ (j : Nat) (it : It), InRound w.heap.size R b cap p L (fieldP d) i s w u6 its X (fun l => some l) j it wx)
                    case first =>
                      by_cases h13 : s.kind ≤ 13
                      · have hE := Lib.hid (e3_yes (f := fieldP d) h13 (L.drop j))
                        have hc := script_any d hF 19 dp (by decide) hd R b cap j p L _ h8.rd h8.hj
                        generalize scriptP (fieldP d) 19 (L.drop j) = r1 at hc hE
                        have HC := Lib.hid hc
                        clear hc ck
                        go_wp2_with fail
                        refine HC.out.mono ?_
                        clear HC
                        rintro e w10 ⟨⟨a, rfl⟩, ht, j', hj', hr', hx⟩
                        have HX := Lib.hid hx
                        clear hx
                        cases r1 with
                        | none =>
                          simp only [okB_none]
                          have h9 := (h8.call (E' := fun _ => none) ht hr' hj' hE.out)
                          have cs := h9.csup
                          have cz := h9.free 19
                          have h10 := h9.setPtr (it' := { it with sup := a }) 19 (.pointer a) h9.sgn (It.set19 _ _) ⟨rfl, rfl, rfl⟩
                          have hrn := Lib.hid ((hres.out hk22.out).1 h9.res)
                          clear h9 ht hr' h8
                          go_wp2_with fail
                          go_ret2
                          rw [hrn.out]
                          exact ⟨⟨_, rfl, fun x e => by cases e⟩, h10.tn, j', h10.hj, h10.rd, fun l e => by cases e⟩
                        | some l =>
                          simp only [okB_some]
                          obtain rfl := HX.out l rfl
                          have h9 := (h8.call (E' := e4 (fieldP d)) ht hr' hj' hE.out)
                          have cs := h9.csup
                          have cz := h9.free 19
                          have h10 := h9.setPtr (it' := { it with sup := a }) 19 (.pointer a) h9.sgn (It.set19 _ _) ⟨rfl, rfl, rfl⟩
                          clear h9 ht hr' h8 hE HX
                          have hE : Hid (e4 (fieldP d) (L.drop j') = scriptP (fieldP d) 20 (L.drop j')) := Lib.hid rfl
                          have hc := script_any d hF 20 dp (by decide) hd R b cap j' p L _ h10.rd h10.hj
                          generalize scriptP (fieldP d) 20 (L.drop j') = r2 at hc hE
                          have HC := Lib.hid hc
                          clear hc
                          go_wp2_with fail
                          refine HC.out.mono ?_
                          clear HC cs cz
                          rintro e w11 ⟨⟨a2, rfl⟩, ht, j2, hj2, hr2, hx⟩
                          have HX := Lib.hid hx
                          clear hx
                          cases r2 with
                          | none =>
                            simp only [okB_none]
                            have h9 := (h10.call (E' := fun _ => none) ht hr2 hj2 hE.out)
                            have cs := h9.csub
                            have cz := h9.free 20
                            have h11 := h9.setPtr (it' := { it with sup := a, sub := a2 }) 20 (.pointer a2) h9.sgn (It.set20 _ _) ⟨rfl, rfl, rfl⟩
                            have hrn := Lib.hid ((hres.out hk22.out).1 h9.res)
                            clear h9 ht hr2 h10
                            go_wp2_with fail
                            go_ret2
                            rw [hrn.out]
                            exact ⟨⟨_, rfl, fun x e => by cases e⟩, h11.tn, j2, h11.hj, h11.rd, fun l e => by cases e⟩
                          | some l =>
                            simp only [okB_some]
                            obtain rfl := HX.out l rfl
                            have h9 := (h10.call (E' := fun l => some l) ht hr2 hj2 hE.out)
                            have cs := h9.csub
                            have cz := h9.free 20
                            have h11 := h9.setPtr (it' := { it with sup := a, sub := a2 }) 20 (.pointer a2) h9.sgn (It.set20 _ _) ⟨rfl, rfl, rfl⟩
                            clear h9 ht hr2 h10
                            go_wp2_with fail
                            go_meet
                            exact ⟨j2, _, h11⟩
                      · have h13' : 13 < s.kind := by omega
                        have hE := Lib.hid (e3_no (f := fieldP d) h13 (L.drop j))
                        clear h13
                        go_wp2_with fail
                        go_meet
                        exact ⟨j, it, h8.call (.refl _ _ _) h8.rd h8.hj hE.out⟩
                    case rest =>
                      clear h8 ck
                      obtain ⟨j, it, h9⟩ := hcut
                      have hnext := Lib.hid ((hres.out hk22.out).2 j h9.hj h9.res)
                      have hw := h9.whole
                      have hrow9 := h9.row
                      have hXl := h9.X_lt
                      have hX := h9.hX
                      have hN : its.length ≤ 2000 := by have := hrow.out; omega
                      obtain ⟨i0, hi0', hz0, hz1, hz2⟩ := info_parts info_item
                      have hnews : Hid (∀ j u, it.cells[j]? = some u → (wc.alloc (.cells it.arr 145)).cell? ((⟨wc.heap.size, 0, none⟩ : Addr).add j) = some u) := World.news_of_block (cs := it.arr) (heap_alloc_new _ _)
                      have hone : Hid (∀ u ∈ it.cells, u.oneCell' = true) := Lib.hid (by have := It.one it; simpa [It.arr] using this)
                      go_wp2_with (at_builtin; refine wpList_append_lies _ rfl _ _ _ rfl w.heap.size 145 i0 (.agg It.zero.arr) 21 184 Try.underlying100 hi0' hz0 hz1 hz2 rfl (by decide) u6 its.length (its.flatMap It.cells) rfl (hrow9.alloc _) ⟨wc.heap.size, 0, none⟩ 1 1 it.cells rfl rfl hnews.out hone.out (by decide) (by unfold maxLen; omega) (by omega) (by simp; omega) _ rfl ?_; intro g8 cap8 w8 hown8 hgrow8 hat8 hlt8)
                      go_roundg (L.length + 1 - j)
                      case measure => have := hnext.out.1; have := h9.hj; omega
                      case rel =>
                        obtain ⟨q1, q2, q3⟩ := h9.close hgrow8
                        refine ⟨j, its ++ [it], rfl, h9.hj, q1, q2, ?_, ?_, ?_, h9.hR, h9.hb, q3⟩
                        · rw [List.length_append, List.flatMap_append, List.flatMap_cons, List.flatMap_nil, List.append_nil]; exact hown8
                        · have := hnext.out.1; have := hrow.out; simp; omega
                        · rw [hnext.out.2, List.map_append, List.map_cons, List.map_nil, h9.sgn]
    · have hi2 : (L.length : Int) ≤ (i : Int) := by omega
      have hk : ((kindAt L i : Int) != 22) = true := by rw [kindAt, show L[i]? = none by simp; omega]; rfl
      go_wp2_with fail
      go_quiet ((go_at_call 124; exact hp _))
      go_wp2_with fail
      go_ret2
      have hA2 := hA.drewN nq
      have hrs := hA.res.trans (congrArg (addK _) (fmla_stop hi fun h => absurd h hlt))
      rw [hrs]
      exact ⟨⟨_, rfl, fun x e => by cases e; exact ⟨its, by simp, hA2.row⟩⟩, hA2.tn, i, hi, hA2.rd, fun l e => by cases e; rfl⟩
end Go.Proofs.Ytkkdopfdoommnaa
