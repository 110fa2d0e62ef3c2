/-
  Inserts: the law InsertsKept's own functions: lost, contents; the document's Inside.
-/
import Derived.Test.YtaehkbbdmamfpaaGreatDoorV11a
import Derived.Test.YtaehkbbdmamfpaaGreatDoorI27
set_option maxRecDepth 100000
set_option maxHeartbeats 16000000
namespace Go.Proofs.YtaehkbbdmamfpaaGreatDoor
open Go.ChangeShapes Go.WideShapes Go.ChangeAt Go.RowKit
attribute [local go_sem ↓] Go.wp_at_zero Go.wp_at_succ
theorem falls_cases (k : Int) : (fallsK k = true ∧ (k != 7) = false) ∨ (fallsK k = true ∧ (k != 7) = true ∧ (k != 8) = false) ∨ (fallsK k = true ∧ (k != 7) = true ∧ (k != 8) = true ∧ (k != 9) = false) ∨ (fallsK k = false ∧ (k != 7) = true ∧ (k != 8) = true ∧ (k != 9) = true) := by
  unfold fallsK bne
  cases (k == 7) <;> cases (k == 8) <;> cases (k == 9) <;> simp
theorem lost_any (p0 : Option Addr) (b off cap : Nat) (L : List Nd) (s : List Nat) (hs : Items L 0 s) (hk : ∀ x ∈ s, (nth L x).kind ≠ 6) (hlen : L.length ≤ 2000) (w : World) (hN : NIn w p0 b off cap L) :
    Calls Tryz.prog 24 #[.slice p0 L.length cap] w fun e w' => (∃ v, e = .returned v ∧ NRow w v (s.flatMap fun x => fLost (itemN L x)) w') ∧ Below w.heap.size w w' := by
  obtain ⟨R, hR⟩ : ∃ R, (s.flatMap fun x => fLost (itemN L x)) = R := ⟨_, rfl⟩
  have HR := Lib.hid hR
  rw [hR]
  have H := Lib.hid hN
  have HS := Lib.hid hs
  have HK := Lib.hid hk
  have HSt := Lib.hid (qstarts p0 b off cap L s w hN hs hk)
  clear hN hs hk hR
  go_enter Tryz.func24, Tryz.ntmps24
  go_wp2_with fail
  refine HSt.out.mono ?_
  clear HSt
  rintro e w2 ⟨⟨v, rfl, hrow⟩, hbw⟩
  obtain ⟨p, gi, c, rfl, hII⟩ := irow_seen hrow
  have hsl := HS.out.len
  clear hrow
  go_wp2_with fail
  go_loopg [3, 5] (s.length + 1) (fun gg t3 t5 wr => ∃ (i k : Nat) (out : List Nd), gg = s.length + 1 - i ∧ i ≤ s.length ∧ t5 = .int .i64 i ∧ (out ++ (s.drop i).flatMap fun x => fLost (itemN L x)) = R ∧ Items L k (s.drop i) ∧ out.length ≤ k ∧ wr.ownsRow w2.heap.size 53 19 t3 out.length (out.flatMap Nd.cells) ∧ Below w2.heap.size w2 wr)
  case atStart => exact ⟨0, 0, [], rfl, Nat.zero_le _, rfl, by rw [List.drop_zero]; exact HR.out, by rw [List.drop_zero]; exact HS.out, Nat.le_refl _, World.ownsRow_nil _ _ _ _, .refl _ _⟩
  case round =>
    clear HR
    obtain ⟨i, k, out, rfl, hi, rfl, hrun, hit, hok, hown, hbl⟩ := hrel
    have hi1 : (0 : Int) ≤ (i : Int) := by omega
    by_cases hin : i < s.length
    · have hi2 : (i : Int) < (s.length : Int) := by omega
      have hIr := hII.below hbl
      have cI := hIr.at_ i hin
      have hne : s ≠ [] := by intro e; rw [e] at hin; simp at hin
      obtain rfl := hII.hp hne
      have hgi := hII.hg hne
      have hdr := List.drop_eq_getElem_cons hin
      rw [hdr, List.flatMap_cons] at hrun
      rw [hdr] at hit
      have hmem : s[i] ∈ s := List.getElem_mem hin
      obtain ⟨x, hx⟩ : ∃ x, s[i] = x := ⟨_, rfl⟩
      rw [hx] at cI hrun hit hmem
      have Hx := Lib.hid (show s[i]? = some x by rw [List.getElem?_eq_getElem hin, hx])
      clear hx hdr
      cases hit with
      | step hxl hm hs2 =>
        rename_i m
        have hN2 := H.out.below (hbw.trans (hbl.mono hbw.size))
        have xa := hN2.nth hxl
        obtain rfl := hN2.at_ hxl
        have hx1 : (0 : Int) ≤ (k : Int) := by omega
        have hx2 : (k : Int) < (L.length : Int) := by omega
        obtain ⟨n, hn⟩ : ∃ n, nth L k = n := ⟨_, rfl⟩
        have hfl : fLost (itemN L k) = if fallsK n.kind then [] else itemN L k := by unfold fLost; rw [item_head hm, hn]
        rw [hfl] at hrun
        rw [hn] at xa
        have Hin := Lib.hid hin
        have Hm := Lib.hid hm
        have HS2 := Lib.hid hs2
        have Hrun := Lib.hid hrun
        have Hmem := Lib.hid hmem
        have hm2 := behC_pos _ _ _ hm
        rw [List.length_drop] at hm2
        have dX : (wr.alloc (.cells n.arr 53)).heap[wr.heap.size]? = some (.cells n.arr 53 (0, 0)) := heap_alloc_new _ _
        have hcapL := hN2.cap'
        clear hn hin hm hs2 hrun hmem hIr hfl
        go_upto_region 7 with (fail)
        have cK : (wr.alloc (.cells n.arr 53)).cell? ⟨wr.heap.size, 0, none⟩ = some (.int .i64 n.kind) := by rw [cell?_blk' dX, Nd.get0]
        have hbl6 : Below w2.heap.size w2 (wr.alloc (.cells n.arr 53)) := hbl.alloc hbl.size _
        have hown6 := hown.alloc (.cells n.arr 53)
        clear hown hbl xa hN2 cI dX
        generalize wr.heap.size = X at cK ⊢
        generalize wr.alloc (.cells n.arr 53) = w6 at cK hbl6 hown6 ⊢
        go_cut [34] from 22 to 34 (fun t34 wx => t34 = .bool (!fallsK n.kind) ∧ wx = w6)
        case first =>
          rcases falls_cases n.kind with ⟨h0, h7⟩ | ⟨h0, h7, h8⟩ | ⟨h0, h7, h8, h9⟩ | ⟨h0, h7, h8, h9⟩
          all_goals
            have Hh0 := Lib.hid h0
            clear h0
            go_wp2_with fail
            go_meet
            rw [Hh0.out]
            exact ⟨rfl, rfl⟩
        case rest =>
          obtain ⟨rfl, rfl⟩ := hcut
          have hbw6 := hbw.trans (hbl6.mono hbw.size)
          have hN6 := H.out.below hbw6
          cases hfal : fallsK n.kind
          · rw [hfal, if_neg (by decide)] at Hrun
            have hrun2 : ((out ++ itemN L k) ++ (s.drop (i + 1)).flatMap fun x => fLost (itemN L x)) = R := by
              have := Hrun.out
              rw [List.append_assoc]; exact this
            have Hrun2 := Lib.hid hrun2
            have cI6 : wc.cell? ⟨gi, i, none⟩ = some (.int .i64 (k : Int)) := by
              have h1 := (hII.below hbl6).at_ i Hin.out
              have h2 := Hx.out
              rw [List.getElem?_eq_getElem Hin.out] at h2
              rw [Option.some.inj h2] at h1
              exact h1
            have HE := Lib.hid (qends (some ⟨b, off, none⟩) b off cap L k m wc.drew hN6.drew Hm.out (HK.out k Hmem.out))
            have hown6d : wc.drew.ownsRow w2.heap.size 53 19 u3 out.length (out.flatMap Nd.cells) := ownsRow_same hown6 fun _ _ _ => rfl
            have hbl6d := hbl6.drew
            have HSn : Hid (∀ W, Below w2.heap.size w2 W → Below w2.heap.size w2 W ∧ W.cell? ⟨gi, i, none⟩ = some (.int .i64 (k : Int))) := Lib.hid fun W h => ⟨h, ((h.cell (p := ⟨gi, i, none⟩) hgi).trans (hbl6.cell (p := ⟨gi, i, none⟩) hgi).symm).trans cI6⟩
            have HT : Hid (∀ w8, Below wc.drew.heap.size wc.drew w8 → Below w2.heap.size w2 w8) := Lib.hid fun w8 h => hbl6d.trans (h.mono hbl6d.size)
            have HG : Hid (∀ w8 w9, Below wc.drew.heap.size wc.drew w8 → w8.grownBy w9 u3.ownBlock → Below w2.heap.size w2 w9) := Lib.hid fun w8 w9 h hg => Below.grown (HT.out _ h) hg (HT.out _ h).size (fun q hq => (hown6d.lt q hq).1)
            have hil : (itemN L k).length = m := by unfold itemN; rw [Hm.out]; simp; omega
            have Hnews : Hid (∀ w8, Below wc.drew.heap.size wc.drew w8 → ∀ j u, ((itemN L k).flatMap Nd.cells)[j]? = some u → w8.cell? ((⟨b, off + k * 19, none⟩ : Addr).add j) = some u) := Lib.hid fun w8 h => (((hN6.drew.below h).drop k (Nat.le_of_lt hxl)).take _).news
            have Hone := Lib.hid (nodes_one (itemN L k))
            have Hil := Lib.hid hil
            obtain ⟨i0, hi0', hz0, hz1, hz2⟩ := info_parts info_node
            have hsz6 : w2.heap.size ≤ wc.heap.size := hbl6.size
            obtain ⟨q, hq⟩ : ∃ q, k + m = q := ⟨_, rfl⟩
            rw [hq] at HE
            have hkm1 : (k : Int) ≤ (q : Int) := by omega
            have hkm2 : (q : Int) ≤ (cap : Int) := by omega
            have hkm3 : (0 : Int) ≤ (q : Int) := by omega
            have hkm4 : k ≤ q := by omega
            have hkm5 : ¬ cap = k := by omega
            have hmq : (q - k : Nat) = m := by omega
            clear hq hfal
            clear hil hown6 hbw6 hN6 cK hrun2
            go_wp2_with fail
            go_region_held3 (fun w' => Below w2.heap.size w2 w' ∧ w'.cell? ⟨gi, i, none⟩ = some (.int .i64 (k : Int)))
              (first | exact HSn.out _ hbl6d | exact HSn.out _ (HT.out _ hb8) | exact HSn.out _ (HG.out _ _ hb8 hgrow9))
              ((first | ((with_reducible refine HE.out.mono ?_); rintro e w8 ⟨rfl, hb8⟩) | (refine step_append_lies _ (by rfl) _ _ _ (by rfl) w2.heap.size 53 i0 (.agg Nd.zero.arr) 19 160 Tryz.underlying22 hi0' hz0 hz1 hz2 (by rfl) (by decide) u3 out.length (out.flatMap Nd.cells) (by rfl) (ownsRow_below hown6d hb8) ⟨b, off + k * 19, none⟩ m (cap - k) ((itemN L k).flatMap Nd.cells) (by rfl) (by rw [flat_len, Hil.out]) (Hnews.out _ hb8) Hone.out hm2.1 (by unfold maxLen; omega) (by omega) (HT.out _ hb8).size _ rfl ?_; intro g9 cap9 w9 hown9 hgrow9 hat9 hlt9)))
            go_wp2_with fail
            go_roundg (s.length + 1 - (i + 1))
            case measure => have := Hin.out; omega
            case rel => exact ⟨i + 1, k + m, out ++ itemN L k, rfl, Hin.out, by go_num, Hrun2.out, HS2.out, by rw [List.length_append, Hil.out]; omega, by rw [List.length_append, Hil.out, List.flatMap_append]; exact hown9, HG.out _ _ hb8 hgrow9⟩
          · rw [hfal, if_pos rfl, List.nil_append] at Hrun
            clear hfal cK
            go_wp2_with fail
            go_roundg (s.length + 1 - (i + 1))
            case measure => have := Hin.out; omega
            case rel => exact ⟨i + 1, k + m, out, rfl, Hin.out, by go_num, Hrun.out, HS2.out, by omega, hown6, hbl6⟩
    · obtain rfl : i = s.length := by omega
      rw [List.drop_length, List.flatMap_nil, List.append_nil] at hrun
      subst hrun
      go_wp2_with fail
      go_ret
      exact ⟨⟨_, rfl, ownsRow_base hown hbw.size⟩, hbw.trans (hbl.mono hbw.size)⟩
theorem qinside (b off cap : Nat) (L : List Nd) (x m : Nat) (hm : behC (L.drop x) 0 = some m) (h2 : 2 ≤ m) (hk : (nth L x).kind ≠ 6) (hlen : L.length ≤ 2000) (w : World) (hN : NIn w (some ⟨b, off, none⟩) b off cap L) :
    Calls Tryz.prog 37 #[.slice (some ⟨b, off, none⟩) L.length cap, .int .i64 x] w fun e w' => e = .returned (.slice (some ⟨b, off + (x + 1) * 19, none⟩) (insP L x).length (cap - (x + 1))) ∧ Below w.heap.size w w' := by
  have HE := Lib.hid (qends (some ⟨b, off, none⟩) b off cap L x m w hN hm hk)
  have hil := insP_len hm h2
  have hp := behC_pos _ _ _ hm
  rw [List.length_drop] at hp
  have hcp := hN.cap'
  obtain ⟨q, hq⟩ : ∃ q, x + m = q := ⟨_, rfl⟩
  rw [hq] at HE
  have h1 : (0 : Int) ≤ (x : Int) + 1 := by omega
  have h3 : (x : Int) + 1 ≤ (q : Int) - 1 := by omega
  have h4 : (q : Int) - 1 ≤ (cap : Int) := by omega
  have hl2 : (insP L x).length = q - 1 - (x + 1) := by omega
  have Hl2 := Lib.hid hl2
  clear hm hk hN hil hl2
  go_enter Tryz.func37, Tryz.ntmps37
  go_wp2_with fail
  refine HE.out.mono ?_
  clear HE
  rintro e w2 ⟨rfl, hb2⟩
  go_wp2_with fail
  go_ret
  rw [Hl2.out]
  exact ⟨rfl, hb2⟩
end Go.Proofs.YtaehkbbdmamfpaaGreatDoor
namespace Go.Proofs.YtaehkbbdmamfpaaGreatDoor
open Go.ChangeShapes Go.WideShapes Go.ChangeAt Go.RowKit
attribute [local go_sem ↓] Go.wp_at_zero Go.wp_at_succ
/-! ### Plain -/
theorem stepC_down {k : Int} {st s1 : List Int} {d d1 : Int} (h : stepC k (-1 :: st) d = some (s1, d1)) (hne : s1 ≠ []) : ∃ st1 e, s1 = -1 :: st1 ∧ stepC k st d = some (st1, e) := by
  unfold stepC at h ⊢
  by_cases h6 : k = 6
  · rw [if_pos h6] at h ⊢
    cases st with
    | nil =>
      change (if (0 : Int) < -1 then none else some _) = _ at h
      rw [if_neg (by decide)] at h
      cases h
      exact absurd rfl hne
    | cons a st =>
      rw [List.getLast?_cons_cons] at h
      cases hg : (a :: st).getLast? with
      | none => simp at hg
      | some x =>
        rw [hg] at h
        simp only at h ⊢
        by_cases hx : 0 < x
        · rw [if_pos hx] at h; cases h
        · rw [if_neg hx] at h ⊢
          cases h
          exact ⟨_, _, rfl, rfl⟩
  rw [if_neg h6] at h ⊢
  by_cases h11 : k = 11
  · rw [if_pos h11] at h ⊢
    cases st with
    | nil =>
      change (if (-1 : Int) < 1 then none else some _) = _ at h
      rw [if_pos (by decide)] at h
      cases h
    | cons a st =>
      rw [List.getLast?_cons_cons] at h
      cases hg : (a :: st).getLast? with
      | none => simp at hg
      | some x =>
        rw [hg] at h
        simp only at h ⊢
        by_cases hx : x < 1
        · rw [if_pos hx] at h; cases h
        · rw [if_neg hx] at h ⊢
          cases h
          exact ⟨_, _, rfl, rfl⟩
  rw [if_neg h11] at h ⊢
  cases st with
  | nil =>
    change (if false = true then none else some _) = _ at h
    change ∃ st1 e, _ ∧ (if false = true then none else some _) = _
    rw [if_neg (by decide)] at h
    cases h
    by_cases ho : opensK k = true
    · simp only [if_pos ho]
      exact ⟨_, _, rfl, rfl⟩
    · simp only [if_neg ho]
      exact ⟨_, _, rfl, rfl⟩
  | cons a st =>
    rw [List.getLast?_cons_cons] at h
    cases hg : (a :: st).getLast? with
    | none => simp at hg
    | some x =>
      rw [hg] at h
      simp only at h ⊢
      by_cases h3 : (decide (0 ≤ x) && !smallK k) = true
      · rw [if_pos h3] at h; cases h
      · rw [if_neg h3] at h ⊢
        cases h
        by_cases ho : opensK k = true
        · simp only [if_pos ho]
          exact ⟨_, _, rfl, rfl⟩
        · simp only [if_neg ho]
          exact ⟨_, _, rfl, rfl⟩
theorem runC_in : ∀ (l : List Nd) (st : List Int) (d d' d2 : Int) (s2 : List Int) (m : Nat), runC l (-1 :: st) d = some (s2, d2) → behC l (((-1 : Int) :: st).length : Int) = some m → ∃ e, runC (l.take (m - 1)) st d' = some ([], e)
  | [], _, _, _, _, _, _, _, hb => by cases hb
  | x :: l, st, d, d', d2, s2, m, h, hb => by
    unfold runC at h
    split at h
    · rename_i hr
      obtain ⟨⟨s1, d1⟩, h1, h2⟩ := Option.bind_eq_some_iff.1 h
      simp only at h2
      obtain ⟨hl, _⟩ := stepC_len h1
      unfold behC at hb
      rw [← hl] at hb
      split at hb
      · rename_i h0
        cases hb
        have e1 : s1 = [] := List.length_eq_zero_iff.1 (by omega)
        have e2 : st = [] := by
          subst e1
          unfold behN at hl
          split at hl
          · simp at hl; omega
          · split at hl
            · cases st with
              | nil => rfl
              | cons a st => simp at hl; omega
            · simp at hl; omega
        subst e2
        exact ⟨d', rfl⟩
      · rename_i h0
        obtain ⟨k, hk, rfl⟩ := Option.map_eq_some_iff.1 hb
        obtain ⟨st1, e, rfl, h4⟩ := stepC_down h1 (by intro e; rw [e] at h0; exact h0 rfl)
        have hp := behC_pos _ _ _ hk
        obtain ⟨_, e', _, h5⟩ := stepC_dd d' h4
        obtain ⟨e2, h6⟩ := runC_in l st1 d1 e' d2 s2 k h2 hk
        refine ⟨e2, ?_⟩
        obtain ⟨k', rfl⟩ : ∃ k', k = k' + 1 := ⟨k - 1, by omega⟩
        rw [Nat.add_sub_cancel] at h6
        rw [Nat.add_sub_cancel, List.take_succ_cons]
        unfold runC
        rw [if_pos hr, h5]
        exact h6
    · cases h
theorem ins_good {A : List Nd} (h : RunG 40 A) {x : Nat} (hx : x ∈ itsP A) (hk : (nth A x).kind = 13) : RunG 39 (insP A x) := by
  refine ins_run h hx hk ?_
  have hs := h.its
  obtain ⟨m, hm⟩ := hs.at_ x hx
  have hlt := (hs.lt x hx).2
  have h2 := opens_two hlt (by rw [hk]; rfl) hm
  obtain ⟨d, hd, hr⟩ := (h.cut (by decide) (.inl hx)).2
  rw [List.drop_eq_getElem_cons hlt, ← nth_get hlt] at hr hm
  unfold runC at hr
  split at hr
  · obtain ⟨⟨s1, d1⟩, h3, h4⟩ := Option.bind_eq_some_iff.1 hr
    rw [hk] at h3
    have h5 : stepC 13 [] 0 = some ([-1], 1) := by decide
    rw [h5] at h3
    cases h3
    simp only at h4
    unfold behC at hm
    have hb : behN (nth A x).kind 0 = 1 := by rw [hk]; rfl
    rw [hb, if_neg (by decide)] at hm
    obtain ⟨k, hk2, e⟩ := Option.map_eq_some_iff.1 hm
    obtain ⟨e2, h6⟩ := runC_in (A.drop (x + 1)) [] 1 0 d [] k h4 hk2
    refine ⟨e2, ?_⟩
    have hm' : behC (A.drop x) 0 = some m := by
      rw [List.drop_eq_getElem_cons hlt, ← nth_get hlt]
      unfold behC
      rw [hb, if_neg (by decide), hk2, ← e]
      rfl
    rw [insP_eq hm']
    have : m - 2 = k - 1 := by omega
    rw [this]
    exact h6
  · cases hr
theorem lost_len {A : List Nd} (h : Items A 0 (itsP A)) : (lostL A).length ≤ A.length := by
  have key : ∀ s : List Nat, (s.flatMap fun x => fLost (itemN A x)).length ≤ (s.flatMap (itemN A)).length := by
    intro s
    induction s with
    | nil => exact Nat.le_refl _
    | cons x s ih =>
      rw [List.flatMap_cons, List.flatMap_cons, List.length_append, List.length_append]
      have : (fLost (itemN A x)).length ≤ (itemN A x).length := by
        unfold fLost
        split
        · simp
        · exact Nat.le_refl _
      omega
  have h1 := key (itsP A)
  rw [items_flat h, List.drop_zero] at h1
  exact h1
/-! ### The walk -/
theorem contents_any (p0 : Option Addr) (b off cap : Nat) (L : List Nd) (hL : RunG 40 L) (hlen : L.length ≤ 2000) (kk : Int) (w : World) (hN : NIn w p0 b off cap L) :
    Calls Tryz.prog 25 #[.slice p0 L.length cap, .int .i64 kk] w fun e w' => (∃ v, e = .returned v ∧ NRow w v (contL L kk) w') ∧ Below w.heap.size w w' := by
  obtain ⟨s, hss⟩ : ∃ s, itsP L = s := ⟨_, rfl⟩
  have hs := hL.its
  have hk : ∀ x ∈ itsP L, (nth L x).kind ≠ 6 := fun x hx => items_ne6 hL hx
  have hgi : ∀ x ∈ itsP L, (nth L x).kind = 13 → RunG 39 (insP L x) := fun x hx h => ins_good hL hx h
  obtain ⟨R, hR⟩ : ∃ R, contL L kk = R := ⟨_, rfl⟩
  have hR2 := hR
  unfold contL itF at hR2
  rw [hss] at hs hk hgi hR2
  have HR := Lib.hid hR2
  rw [hR]
  have H := Lib.hid hN
  have HS := Lib.hid hs
  have HGi := Lib.hid hgi
  have HK := Lib.hid hk
  have HSt := Lib.hid (qstarts p0 b off cap L s w hN hs hk)
  clear hN hs hk hR hR2 hgi hss
  go_enter Tryz.func25, Tryz.ntmps25
  go_wp2_with fail
  refine HSt.out.mono ?_
  clear HSt
  rintro e w2 ⟨⟨v, rfl, hrow⟩, hbw⟩
  obtain ⟨p, gi, c, rfl, hII⟩ := irow_seen hrow
  have hsl := HS.out.len
  clear hrow
  go_wp2_with fail
  go_loopg [5, 7] (s.length + 1) (fun gg t5 t7 wr => ∃ (i k : Nat) (out : List Nd), gg = s.length + 1 - i ∧ i ≤ s.length ∧ t7 = .int .i64 i ∧ (out ++ (s.drop i).flatMap fun x => fCont kk (itemN L x)) = R ∧ Items L k (s.drop i) ∧ out.length ≤ k ∧ wr.ownsRow w2.heap.size 53 19 t5 out.length (out.flatMap Nd.cells) ∧ Below w2.heap.size w2 wr)
  case atStart => exact ⟨0, 0, [], rfl, Nat.zero_le _, rfl, by rw [List.drop_zero]; exact HR.out, by rw [List.drop_zero]; exact HS.out, Nat.le_refl _, World.ownsRow_nil _ _ _ _, .refl _ _⟩
  case round =>
    clear HR
    obtain ⟨i, k, out, rfl, hi, rfl, hrun, hit, hok, hown, hbl⟩ := hrel
    have hi1 : (0 : Int) ≤ (i : Int) := by omega
    by_cases hin : i < s.length
    · have hi2 : (i : Int) < (s.length : Int) := by omega
      have hIr := hII.below hbl
      have cI := hIr.at_ i hin
      have hne : s ≠ [] := by intro e; rw [e] at hin; simp at hin
      obtain rfl := hII.hp hne
      have hgi := hII.hg hne
      have hdr := List.drop_eq_getElem_cons hin
      rw [hdr, List.flatMap_cons] at hrun
      rw [hdr] at hit
      have hmem : s[i] ∈ s := List.getElem_mem hin
      obtain ⟨x, hx⟩ : ∃ x, s[i] = x := ⟨_, rfl⟩
      rw [hx] at cI hrun hit hmem
      clear hx hdr
      cases hit with
      | step hxl hm hs2 =>
        rename_i m
        have hN2 := H.out.below (hbw.trans (hbl.mono hbw.size))
        have xa := hN2.nth hxl
        obtain rfl := hN2.at_ hxl
        have hx1 : (0 : Int) ≤ (k : Int) := by omega
        have hx2 : (k : Int) < (L.length : Int) := by omega
        obtain ⟨n, hn⟩ : ∃ n, nth L k = n := ⟨_, rfl⟩
        have hfl : fCont kk (itemN L k) = if n.kind = 13 ∧ n.sub = kk then lostL (insP L k) else [] := by unfold fCont; rw [item_head hm, item_ins hm, hn]
        rw [hfl] at hrun
        rw [hn] at xa
        have c0 : wr.cell? ⟨b, off + k * 19, none⟩ = some (.int .i64 n.kind) := agg_cell xa 0 _ (Nd.get0 n)
        have c17 : wr.cell? ⟨b, off + k * 19 + 17, none⟩ = some (.int .i64 n.sub) := agg_cell xa 17 _ (Nd.get17 n)
        have Hn := Lib.hid hn
        have Hin := Lib.hid hin
        have Hm := Lib.hid hm
        have HS2 := Lib.hid hs2
        have Hrun := Lib.hid hrun
        have Hmem := Lib.hid hmem
        have hm2 := behC_pos _ _ _ hm
        rw [List.length_drop] at hm2
        have hcapL := hN2.cap'
        clear hn hin hm hs2 hrun hmem hIr hfl xa
        by_cases hc : n.kind = 13 ∧ n.sub = kk
        · obtain ⟨h13, hsub⟩ := hc
          have hrun2 : ((out ++ lostL (insP L k)) ++ (s.drop (i + 1)).flatMap fun x => fCont kk (itemN L x)) = R := by
            have := Hrun.out
            rw [if_pos ⟨h13, hsub⟩] at this
            rw [List.append_assoc]; exact this
          have Hrun2 := Lib.hid hrun2
          have h2m := opens_two hxl (by rw [Hn.out, h13]; rfl) Hm.out
          have hgd := HGi.out k Hmem.out (by rw [Hn.out]; exact h13)
          have hil := insP_len Hm.out h2m
          have hll := lost_len hgd.its
          rw [h13] at c0
          rw [hsub] at c17
          have hd1 : (kk == kk) = true := by simp
          have HIn : Hid (∀ W, Below w2.heap.size w2 W → NIn W (some ⟨b, off + (k + 1) * 19, none⟩) b (off + (k + 1) * 19) (cap - (k + 1)) (insP L k)) := Lib.hid fun W hW => by
            have h1 := ((H.out.below (hbw.trans (hW.mono hbw.size))).drop (k + 1) (by omega)).take (m - 2)
            rw [insP_eq Hm.out]
            exact h1
          have HCi := Lib.hid (qinside b off cap L k m Hm.out h2m (HK.out k Hmem.out) hlen wr hN2)
          have HCl : Hid (∀ W, Below w2.heap.size w2 W → Calls Tryz.prog 24 #[.slice (some ⟨b, off + (k + 1) * 19, none⟩) (insP L k).length (cap - (k + 1))] W fun e w' => (∃ v, e = .returned v ∧ NRow W v (lostL (insP L k)) w') ∧ Below W.heap.size W w') := Lib.hid fun W hW => lost_any _ b _ _ (insP L k) (itsP (insP L k)) hgd.its (fun x hx => items_ne6 hgd hx) (by omega) W (HIn.out W hW)
          have Hown := Lib.hid (And.intro hown hbl)
          obtain ⟨LL, hLL⟩ : ∃ LL, lostL (insP L k) = LL := ⟨_, rfl⟩
          rw [hLL] at HCl Hrun2 hll
          rw [hil] at hll
          clear hil h13 hsub hrun2 hgd hown hbl hN2 hLL Hrun
          obtain ⟨i0, hi0', hz0, hz1, hz2⟩ := info_parts info_node
          go_wp2_with fail
          refine HCi.out.mono ?_
          clear HCi
          rintro e w3 ⟨rfl, hb3⟩
          have hb3' := Hown.out.2.trans (hb3.mono Hown.out.2.size)
          go_wp2_with fail
          refine (HCl.out w3 hb3').mono ?_
          clear HCl
          rintro e w4 ⟨⟨v, rfl, hv⟩, hb4⟩
          have hown4 := ownsRow_below (ownsRow_below Hown.out.1 hb3) hb4
          have hb4' := hb3'.trans (hb4.mono hb3'.size)
          have hB4 : w2.heap.size ≤ w4.heap.size := hb4'.size
          have HO4 := Lib.hid (And.intro hown4 hb4')
          clear hown4 hb4' hb3' hb3 hb4
          obtain ⟨_, ⟨rfl, hn0⟩ | ⟨g6, c6, cur, rfl, _, _, _, _, _, _⟩⟩ := id hv
          · have hRn : LL = [] := List.length_eq_zero_iff.1 hn0
            subst hRn
            clear hn0 hv
            go_wp2_with (at_builtin; refine wpList_append_own_none rfl _ _ _ rfl w2.heap.size 53 i0 19 Tryz.underlying22 hi0' u5 out.length (out.flatMap Nd.cells) rfl HO4.out.1 rfl ?_)
            go_roundg (s.length + 1 - (i + 1))
            case measure => have := Hin.out; omega
            case rel => exact ⟨i + 1, k + m, out, rfl, Hin.out, by go_num, by have := Hrun2.out; rwa [List.append_nil] at this, HS2.out, by omega, HO4.out.1, HO4.out.2⟩
          · have HCs := Lib.hid (hv.cells (g := g6) rfl)
            clear hv
            go_wp2_with (at_builtin; refine wpList_append_at _ rfl _ _ _ rfl w2.heap.size 53 i0 (.agg Nd.zero.arr) 19 160 Tryz.underlying22 hi0' hz0 hz1 hz2 rfl (by decide) u5 out.length (out.flatMap Nd.cells) rfl HO4.out.1 ⟨g6, 0, none⟩ _ _ (LL.flatMap Nd.cells) rfl (flat_len _) HCs.out (nodes_one _) (by unfold maxLen; omega) (by omega) hB4 ?_; intro v7 w7 hown7 hgrow7 hat7)
            have hb7 : Below w2.heap.size w2 w7 := HO4.out.2.grown hgrow7 hB4 (fun g hg => (HO4.out.1.lt g hg).1)
            go_roundg (s.length + 1 - (i + 1))
            case measure => have := Hin.out; omega
            case rel => exact ⟨i + 1, k + m, out ++ LL, rfl, Hin.out, by go_num, Hrun2.out, HS2.out, by rw [List.length_append]; omega, by rw [List.length_append, List.flatMap_append]; exact hown7, hb7⟩
        · have hrun2 : (out ++ (s.drop (i + 1)).flatMap fun x => fCont kk (itemN L x)) = R := by
            have := Hrun.out
            rwa [if_neg hc, List.nil_append] at this
          have Hrun2 := Lib.hid hrun2
          clear hrun2 Hrun
          by_cases h13 : n.kind = 13
          · have hsub : (n.sub == kk) = false := by simpa using fun h => hc ⟨h13, h⟩
            rw [h13] at c0
            clear hc h13
            go_wp2_with fail
            go_roundg (s.length + 1 - (i + 1))
            case measure => have := Hin.out; omega
            case rel => exact ⟨i + 1, k + m, out, rfl, Hin.out, by go_num, Hrun2.out, HS2.out, by omega, hown, hbl⟩
          · have h13' : (n.kind == 13) = false := by simpa using h13
            clear hc h13
            go_wp2_with fail
            go_roundg (s.length + 1 - (i + 1))
            case measure => have := Hin.out; omega
            case rel => exact ⟨i + 1, k + m, out, rfl, Hin.out, by go_num, Hrun2.out, HS2.out, by omega, hown, hbl⟩
    · obtain rfl : i = s.length := by omega
      rw [List.drop_length, List.flatMap_nil, List.append_nil] at hrun
      subst hrun
      go_wp2_with fail
      go_ret
      exact ⟨⟨_, rfl, ownsRow_base hown hbw.size⟩, hbw.trans (hbl.mono hbw.size)⟩
end Go.Proofs.YtaehkbbdmamfpaaGreatDoor
