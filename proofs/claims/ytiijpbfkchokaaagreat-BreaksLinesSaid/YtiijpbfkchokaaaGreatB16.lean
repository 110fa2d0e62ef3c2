/-
  All legal breaks of a paragraph: the program's breaks.
  Is a place a Disc's? Is it a legal break? The program's.
-/
import Derived.Test.YtiijpbfkchokaaaGreatB14
namespace Go.Proofs.YtiijpbfkchokaaaGreat
open Go.ChangeShapes Go.WideShapes Go.ChangeAt Go.RowKit
/-- is an item's place one of a break? -/
def brkAt (L : List Nd) (P : Pm) (IT : List Nat) (i : Nat) : Option (Nat × Int) := if (priceV L P IT i).2 = true ∧ (priceV L P IT i).1 < 10000 then some (IT.getD i 0, (priceV L P IT i).1) else none
/-- the breaks at the items ahead of number k -/
def brkK (L : List Nd) (P : Pm) (IT : List Nat) (k : Nat) : List (Nat × Int) := (List.range k).filterMap (brkAt L P IT)
theorem brkK_yes {L : List Nd} {P : Pm} {IT : List Nat} {k : Nat} {p : Nat × Int} (h : brkAt L P IT k = some p) : brkK L P IT (k + 1) = brkK L P IT k ++ [p] := by
  unfold brkK
  rw [List.range_succ, List.filterMap_append, List.filterMap_cons_some h, List.filterMap_nil]
theorem brkK_no {L : List Nd} {P : Pm} {IT : List Nat} {k : Nat} (h : brkAt L P IT k = none) : brkK L P IT (k + 1) = brkK L P IT k := by
  unfold brkK
  rw [List.range_succ, List.filterMap_append, List.filterMap_cons_none h, List.filterMap_nil, List.append_nil]
theorem priceN_end (L : List Nd) (P : Pm) (pr : Option Nat) (x : Nat) : priceN L P pr x (some L.length) = priceN L P pr x none := by
  have : nth L L.length = Nd.zero := by unfold nth; rw [List.getElem?_eq_none (Nat.le_refl _)]; rfl
  unfold priceN
  simp only [this]
  rfl
theorem brk_from (L : List Nd) (P : Pm) : ∀ (rest pre : List Nat), (∀ x ∈ rest, x < L.length) → (List.range' pre.length rest.length).filterMap (brkAt L P (pre ++ rest ++ [L.length])) = brkF L P pre.getLast? rest
  | [], pre, _ => rfl
  | x :: r, pre, h => by
    have hx := h x List.mem_cons_self
    have ih := brk_from L P r (pre ++ [x]) fun y hy => h y (List.mem_cons_of_mem _ hy)
    rw [List.length_append, List.length_singleton, List.append_assoc pre, List.singleton_append, List.getLast?_append, List.getLast?_singleton, Option.some_or] at ih
    have e1 : (pre ++ x :: r ++ [L.length]).getD pre.length 0 = x := by simp [List.getD]
    have e2 : (if pre.length = 0 then none else some ((pre ++ x :: r ++ [L.length]).getD (pre.length - 1) 0)) = pre.getLast? := by
      by_cases hp : pre = []
      · subst hp; rfl
      · have h1 := List.length_pos_iff.2 hp
        rw [if_neg (by omega), List.getLast?_eq_getElem?]
        have h2 : pre.length - 1 < pre.length := by omega
        simp [List.getD, List.getElem?_append_left h2, List.getElem?_eq_getElem h2]
    have e3 : priceN L P pre.getLast? x (pre ++ x :: r ++ [L.length])[pre.length + 1]? = priceN L P pre.getLast? x r.head? := by
      have h1 : (pre ++ x :: r ++ [L.length])[pre.length + 1]? = (r ++ [L.length])[0]? := by
        rw [List.append_assoc, List.getElem?_append_right (by omega)]
        rw [show pre.length + 1 - pre.length = 0 + 1 by omega]
        simp
      rw [h1]
      cases r with
      | nil => exact priceN_end L P _ x
      | cons y t => rfl
    have e4 : priceV L P (pre ++ x :: r ++ [L.length]) pre.length = optV (priceN L P pre.getLast? x r.head?) := by
      unfold priceV
      rw [e1, if_neg (by omega), e2, e3]
    have e5 : brkAt L P (pre ++ x :: r ++ [L.length]) pre.length = match priceN L P pre.getLast? x r.head? with | some q => if q < 10000 then some (x, q) else none | none => none := by
      unfold brkAt
      rw [e4, e1]
      cases priceN L P pre.getLast? x r.head? with
      | none => rfl
      | some q => simp [optV]
    rw [List.length_cons, List.range'_succ]
    unfold brkF
    cases hq : priceN L P pre.getLast? x r.head? with
    | none =>
      rw [hq] at e5
      rw [List.filterMap_cons_none e5]
      exact ih
    | some q =>
      rw [hq] at e5
      by_cases hlt : q < 10000
      · simp only [if_pos hlt] at e5 ⊢
        rw [List.filterMap_cons_some e5]
        exact congrArg _ ih
      · simp only [if_neg hlt] at e5 ⊢
        rw [List.filterMap_cons_none e5]
        exact ih
theorem brkK_all {L : List Nd} (P : Pm) {s : List Nat} (h : ∀ x ∈ s, x < L.length) : brkK L P (s ++ [L.length]) (s.length + 1) = brkP L P s := by
  have h1 := brk_from L P s [] h
  rw [List.nil_append] at h1
  have e : brkAt L P (s ++ [L.length]) s.length = some (L.length, -10000) := by
    have e1 : (s ++ [L.length]).getD s.length 0 = L.length := by simp [List.getD]
    have e2 : priceV L P (s ++ [L.length]) s.length = (-10000, true) := by unfold priceV; rw [e1, if_pos rfl]
    unfold brkAt
    rw [e2, e1]
    simp
  rw [brkK_yes e]
  unfold brkK brkP
  rw [List.range_eq_range']
  exact congrArg (· ++ _) h1
def atsI (l : List (Nat × Int)) : List Int := l.map fun x => (x.1 : Int)
def pensI (l : List (Nat × Int)) : List Int := l.map (·.2)
theorem ParaL.push {W w3 : World} {X mb B : Nat} {P : Pm} {vs : Nat → Value} {L : List Nd} {b off cap : Nat} {p0 : Option Addr} {IT : List Nat} {SU : List Tt} {AT PE : List Int} (h : ParaL W X mb B P vs L b off cap p0 IT SU AT PE) (hB : B ≤ W.heap.size) {k : Nat} (hk : k = 2 ∨ k = 3) {x : Int} {ob : Obj} {g c n : Nat} (hn : n = pxN IT SU AT PE k + 1)
    (hr : w3.ownsRow B 3 1 (.slice (some ⟨g, 0, none⟩) n c) n (pxX IT SU AT PE k ++ [.int .i64 x])) (hg : (W.alloc ob).grownBy w3 (vs k).ownBlock) (hat : (vs k).ownBlock = some g ∨ g = W.heap.size + 1) :
    ∃ vs', ParaL (w3.setCell ⟨X, pO k, none⟩ (.slice (some ⟨g, 0, none⟩) n c)) X mb B P vs' L b off cap p0 IT SU (if k = 2 then AT ++ [x] else AT) (if k = 3 then PE ++ [x] else PE) ∧ vs' 0 = vs 0 ∧ (∀ j, j ≠ k → vs' j = vs j) ∧ FrX B X mb W (w3.setCell ⟨X, pO k, none⟩ (.slice (some ⟨g, 0, none⟩) n c)) := by
  have hba : Below W.heap.size W (W.alloc ob) := (Below.refl _ _).alloc (Nat.le_refl _) _
  have ha := h.para.still hba
  have hk4 : k < 4 := by omega
  have hF : FrX B X mb W (w3.setCell ⟨X, pO k, none⟩ (.slice (some ⟨g, 0, none⟩) n c)) :=
    ((FrX.of_below hba hB).trans (.of_grown hg (by simp; omega) fun q e h9 => by have := ((h.para.rows k hk4).lt q e).1; omega)).set _ _
  have hgr := ParaR.grown (W' := w3) ha hk4 (g := g) (c := c) (n' := n) (ys := pxX IT SU AT PE k ++ [.int .i64 x]) (by rcases hk with rfl | rfl <;> exact hr) hg (by rcases hat with e | e; exact .inl e; exact .inr (by rw [e]; simp))
  refine ⟨_, h.of_para (hgr.congr (fun j hj => ?_) fun j hj => ?_) hF, ?_, ?_, hF⟩
  · rcases hk with rfl | rfl <;> rcases j with _ | _ | _ | _ | j <;> first | (exfalso; omega) | simp_all [pxN]
  · rcases hk with rfl | rfl <;> rcases j with _ | _ | _ | _ | j <;> first | (exfalso; omega) | simp_all [pxX, ints]
  · rcases hk with rfl | rfl <;> rfl
  · intro j hj
    exact if_neg hj
theorem ParaL.frozen (X : Nat) {W w3 : World} {mb B : Nat} {P : Pm} {vs : Nat → Value} {L : List Nd} {b off cap : Nat} {p0 : Option Addr} {IT : List Nat} {SU : List Tt} {AT PE : List Int} (h : ParaL W X mb B P vs L b off cap p0 IT SU AT PE) {k : Nat} (hk : k < 4) {ob : Obj} (hg : (W.alloc ob).grownBy w3 (vs k).ownBlock) (j : Nat) (v : Value) (hv : (pxArr (.slice p0 L.length cap) P (vs 0) (.map (some mb)) (vs 1) (vs 2) (vs 3))[j]? = some v) : w3.cell? ⟨X, j, none⟩ = some v ∧ w3.frozen? ⟨X, j, none⟩ = false := by
  have hX := h.para.ltX
  have hne : some X ≠ (vs k).ownBlock := fun e => h.para.row_ne hk h.para.lt2 e.symm
  have hb3 := (hg.block X (by simp; omega) hne).trans ((Below.heap_alloc W ob X hX).trans h.para.blk)
  exact ⟨(cell?_blk' hb3 j).trans hv, frozen_of_row w3 X j _ _ hb3⟩
set_option maxRecDepth 100000 in
set_option maxHeartbeats 8000000 in
theorem vbreaks (X mb B : Nat) (P : Pm) (vs : Nat → Value) (L : List Nd) (b off cap : Nat) (p0 : Option Addr) (s IT : List Nat) (SU : List Tt) (hc : checkC L = 0) (hs : Items L 0 s) (hIT : IT = s ++ [L.length]) (w : World) (hB : B ≤ w.heap.size) (h : ParaL w X mb B P vs L b off cap p0 IT SU [] []) :
    Calls Tryz.prog 65 #[.pointer (some ⟨X, 0, none⟩)] w fun e w' => e = .returned (.tuple #[]) ∧ (∃ vs', ParaL w' X mb B P vs' L b off cap p0 IT SU (atsI (brkP L P s)) (pensI (brkP L P s))) ∧ FrX B X mb w w' := by
  have HPr : Hid (∀ (i : Nat) (hi : i < IT.length) (vs : Nat → Value) (AT PE : List Int) (w : World), ParaL w X mb B P vs L b off cap p0 IT SU AT PE → Calls Tryz.prog 84 #[.pointer (some ⟨X, 0, none⟩), .int .i64 i] w fun e w' => e = .returned (.tuple #[.int .i64 (priceV L P IT i).1, .bool (priceV L P IT i).2]) ∧ Below w.heap.size w w') := Lib.hid fun i hi vs AT PE w h => vprice X mb B P vs L b off cap p0 s IT SU AT PE hc hs hIT i hi w h
  have HA := Lib.hid (show brkK L P IT IT.length = brkP L P s by rw [hIT, List.length_append, List.length_singleton]; exact brkK_all P fun x hx => (hs.lt x hx).2)
  have hln : IT.length ≤ 2001 := by
    have h2 := hs.len
    have h3 := h.len
    rw [hIT]; simp; omega
  obtain ⟨pi, ci, e0⟩ := owns_form (h.para.rows 0 (by decide))
  have x25 := h.para.cell 25 (vs 0) rfl
  rw [e0, show pxN IT SU [] [] 0 = IT.length from rfl] at x25
  have E0 := Lib.hid (e0.trans (show _ = Value.slice pi IT.length ci from rfl))
  have H0 := Lib.hid h
  clear hc hs hIT h e0
  obtain ⟨n, hn⟩ : ∃ n, IT.length = n := ⟨_, rfl⟩
  rw [hn] at hln x25
  have Hn := Lib.hid hn
  clear hn
  go_enter Tryz.func65, Tryz.ntmps65
  go_wp2_with fail
  go_loopg [11] (n + 1) (fun gg t11 wr => ∃ (k : Nat) (vs : Nat → Value), gg = n + 1 - k ∧ k ≤ n ∧ t11 = .int .i64 k ∧ ParaL wr X mb B P vs L b off cap p0 IT SU (atsI (brkK L P IT k)) (pensI (brkK L P IT k)) ∧ FrX B X mb w wr ∧ vs 0 = .slice pi n ci)
  case atStart => exact ⟨0, vs, rfl, Nat.zero_le _, rfl, H0.out, .refl _ _ _ _, by rw [E0.out, Hn.out]⟩
  case round =>
    clear H0 E0 x25
    obtain ⟨k, vs, rfl, hk, rfl, hI, hF, hv0⟩ := hrel
    by_cases hlt : k < n
    · have hlt1 : (k : Int) < (n : Int) := by omega
      have hk0 : (0 : Int) ≤ (k : Int) := by omega
      have hr0 := hI.para.rows 0 (by decide)
      rw [hv0] at hr0
      have hil : k < (ofN IT).length := by simpa [ofN, Hn.out] using hlt
      obtain ⟨g, rfl, hk9, hci, cg⟩ := zin_get9 (l := ofN IT) hr0 hil
      clear hk9
      have hgi : (ofN IT)[k] = ((IT.getD k 0 : Nat) : Int) := by
        have h9 : k < IT.length := by rw [Hn.out]; exact hlt
        simp [ofN, List.getElem?_eq_getElem h9]
      rw [hgi] at cg
      have HP2 := Lib.hid (HPr.out k (by rw [Hn.out]; exact hlt) vs _ _ wr hI)
      have HI := Lib.hid hI
      have HF := Lib.hid hF
      have HV0 := Lib.hid hv0
      have hBr : B ≤ wr.heap.size := Nat.le_trans hB hF.size
      obtain ⟨x, hx⟩ : ∃ x, IT.getD k 0 = x := ⟨_, rfl⟩
      have hba : Hid (brkAt L P IT k = if (priceV L P IT k).2 = true ∧ (priceV L P IT k).1 < 10000 then some (x, (priceV L P IT k).1) else none) := Lib.hid (by rw [← hx]; rfl)
      rw [hx] at cg
      clear hr0 hI hF hv0 hil hgi hx
      generalize (priceV L P IT k).1 = q at HP2 hba
      generalize (priceV L P IT k).2 = bq at HP2 hba
      go_upto_region 4 with (go_at_call 84; refine HP2.out.mono ?_; rintro e w2 ⟨rfl, hb2⟩)
      have hI2 := HI.out.still hb2
      have hF2 := HF.out.trans (.of_below hb2 hBr)
      have hB2 : B ≤ w2.heap.size := Nat.le_trans hBr hb2.size
      clear cg HI HP2 HF hb2 hBr
      have hno : (¬ (bq = true ∧ q < 10000)) → brkK L P IT (k + 1) = brkK L P IT k := fun h9 => brkK_no (hba.out.trans (if_neg h9))
      have hyes : bq = true ∧ q < 10000 → brkK L P IT (k + 1) = brkK L P IT k ++ [(x, q)] := fun h9 => brkK_yes (hba.out.trans (if_pos h9))
      have Hno := Lib.hid hno
      have Hyes := Lib.hid hyes
      clear hno hyes hba
      cases bq
      case false =>
        have Hk := Lib.hid (Hno.out (by simp))
        have HI2 := Lib.hid hI2
        clear Hno Hyes hI2
        go_wp2_with fail
        go_roundg (n + 1 - (k + 1))
        case measure => omega
        case rel => exact ⟨k + 1, vs, rfl, hlt, by go_num, by rw [Hk.out]; exact HI2.out, hF2, HV0.out⟩
      case true =>
        by_cases hq : q < 10000
        · have Hk := Lib.hid (Hyes.out ⟨rfl, hq⟩)
          clear Hno Hyes
          have hKn : (brkK L P IT k).length ≤ k := by unfold brkK; exact Nat.le_trans (List.length_filterMap_le _ _) (by simp)
          generalize brkK L P IT k = K at hI2 Hk hKn
          have hK9 : Hid (atsI (brkK L P IT (k + 1)) = atsI K ++ [(x : Int)] ∧ pensI (brkK L P IT (k + 1)) = pensI K ++ [q]) := Lib.hid (by rw [Hk.out]; simp [atsI, pensI])
          have hKl : (atsI K).length ≤ 4000 ∧ (pensI K).length ≤ 4000 := by simp only [atsI, pensI, List.length_map]; omega
          clear Hk
          obtain ⟨p2, c2, e2⟩ := owns_form (hI2.para.rows 2 (by decide))
          have y28 := hI2.para.cell 28 (vs 2) rfl
          rw [e2, show pxN IT SU (atsI K) (pensI K) 2 = (atsI K).length from rfl] at y28
          obtain ⟨i0, hi0', hz0, hz1, hz2'⟩ := info_parts info_intb
          have hrow := (hI2.para.rows 2 (by decide)).alloc (.cells #[.int .i64 (x : Nat)] 3)
          rw [e2] at hrow
          have Hrow : Hid ((w2.alloc (.cells #[.int .i64 (x : Nat)] 3)).ownsRow B 3 1 (.slice p2 (atsI K).length c2) (atsI K).length (ints (atsI K))) := Lib.hid hrow
          have E2 := Lib.hid e2
          have HI2 := Lib.hid hI2
          have H1 : Hid (∀ u ∈ [Value.int .i64 (x : Nat)], u.oneCell' = true) := Lib.hid (by simp [Value.oneCell'])
          have Hfz : Hid (∀ w3, (w2.alloc (.cells #[.int .i64 (x : Nat)] 3)).grownBy w3 (Value.slice p2 (atsI K).length c2).ownBlock → w3.cell? ⟨X, 28, none⟩ = some (vs 2) ∧ w3.frozen? ⟨X, 28, none⟩ = false) := Lib.hid fun w3 hg => by
            have := ParaL.frozen X hI2 (k := 2) (by decide) (w3 := w3) (ob := .cells #[.int .i64 (x : Nat)] 3) (by rw [e2]; exact hg) 28 (vs 2) rfl
            exact this
          have hl1 := hKl.1
          clear hrow e2 hI2
          go_upto_region 6 with (at_builtin; refine wpList_append_lies _ rfl (.tmp 31) (.tmp 33) 41 rfl B 3 i0 (.int .i64 0) 1 8 Tryz.underlying41 hi0' hz0 hz1 hz2' rfl (by decide) (.slice p2 (atsI K).length c2) (atsI K).length (ints (atsI K)) rfl Hrow.out ⟨w2.heap.size, 0, none⟩ 1 1 [.int .i64 (x : Nat)] rfl rfl (World.news_of_block (cs := #[.int .i64 (x : Nat)]) (heap_alloc_new _ _)) H1.out (by decide) (by unfold maxLen; omega) (by omega) (by simp; omega) _ rfl ?_; intro g3 cap3 w3 hown3 hgrow3 hat3 hlt3; obtain ⟨cz, fz⟩ := Hfz.out w3 hgrow3)
          obtain ⟨vs3, h3, hv3, _, hF3⟩ := ParaL.push HI2.out hB2 (k := 2) (.inl rfl) (x := (x : Int)) (ob := .cells #[.int .i64 (x : Nat)] 3) (g := g3) (c := cap3) (n := (atsI K).length + 1) rfl hown3 (by rw [E2.out]; exact hgrow3) (by rw [E2.out]; rcases hat3 with e | e; exact .inl e; exact .inr (by rw [e]; simp))
          replace h3 : ParaL (w3.setCell ⟨X, 28, none⟩ (.slice (some ⟨g3, 0, none⟩) ((atsI K).length + 1) cap3)) X mb B P vs3 L b off cap p0 IT SU (atsI K ++ [(x : Int)]) (pensI K) := h3
          replace hF3 : FrX B X mb w2 (w3.setCell ⟨X, 28, none⟩ (.slice (some ⟨g3, 0, none⟩) ((atsI K).length + 1) cap3)) := hF3
          have hB4 : B ≤ (w3.setCell ⟨X, 28, none⟩ (.slice (some ⟨g3, 0, none⟩) ((atsI K).length + 1) cap3)).heap.size := Nat.le_trans hB2 hF3.size
          have HV3 := Lib.hid (hv3.trans HV0.out)
          have hl3 := hKl.2
          clear hgrow3 hown3 hat3 hlt3 cz fz hv3 y28 E2 Hrow Hfz H1 HI2 hl1 hi0' hz0 hz1 hz2' HV0 hKl hKn
          generalize w3.setCell ⟨X, 28, none⟩ (.slice (some ⟨g3, 0, none⟩) ((atsI K).length + 1) cap3) = w4 at h3 hF3 hB4 ⊢
          obtain ⟨p3, c3, e3⟩ := owns_form (h3.para.rows 3 (by decide))
          have y29 := h3.para.cell 29 (vs3 3) rfl
          rw [e3, show pxN IT SU (atsI K ++ [(x : Int)]) (pensI K) 3 = (pensI K).length from rfl] at y29
          obtain ⟨i0, hi0', hz0, hz1, hz2'⟩ := info_parts info_intb
          have hrow := (h3.para.rows 3 (by decide)).alloc (.cells #[.int .i64 q] 3)
          rw [e3] at hrow
          have Hrow : Hid ((w4.alloc (.cells #[.int .i64 q] 3)).ownsRow B 3 1 (.slice p3 (pensI K).length c3) (pensI K).length (ints (pensI K))) := Lib.hid hrow
          have E3 := Lib.hid e3
          have H3 := Lib.hid h3
          have H1 : Hid (∀ u ∈ [Value.int .i64 q], u.oneCell' = true) := Lib.hid (by simp [Value.oneCell'])
          have Hfz : Hid (∀ w5, (w4.alloc (.cells #[.int .i64 q] 3)).grownBy w5 (Value.slice p3 (pensI K).length c3).ownBlock → w5.cell? ⟨X, 29, none⟩ = some (vs3 3) ∧ w5.frozen? ⟨X, 29, none⟩ = false) := Lib.hid fun w5 hg => by
            have := ParaL.frozen X h3 (k := 3) (by decide) (w3 := w5) (ob := .cells #[.int .i64 q] 3) (by rw [e3]; exact hg) 29 (vs3 3) rfl
            exact this
          clear hrow e3 h3
          go_upto_region 7 with (at_builtin; refine wpList_append_lies _ rfl (.tmp 41) (.tmp 43) 41 rfl B 3 i0 (.int .i64 0) 1 8 Tryz.underlying41 hi0' hz0 hz1 hz2' rfl (by decide) (.slice p3 (pensI K).length c3) (pensI K).length (ints (pensI K)) rfl Hrow.out ⟨w4.heap.size, 0, none⟩ 1 1 [.int .i64 q] rfl rfl (World.news_of_block (cs := #[.int .i64 q]) (heap_alloc_new _ _)) H1.out (by decide) (by unfold maxLen; omega) (by omega) (by simp; omega) _ rfl ?_; intro g5 cap5 w5 hown5 hgrow5 hat5 hlt5; obtain ⟨cz, fz⟩ := Hfz.out w5 hgrow5)
          obtain ⟨vs5, h5, hv5, _, hF5⟩ := ParaL.push H3.out hB4 (k := 3) (.inr rfl) (x := q) (ob := .cells #[.int .i64 q] 3) (g := g5) (c := cap5) (n := (pensI K).length + 1) rfl hown5 (by rw [E3.out]; exact hgrow5) (by rw [E3.out]; rcases hat5 with e | e; exact .inl e; exact .inr (by rw [e]; simp))
          replace h5 : ParaL (w5.setCell ⟨X, 29, none⟩ (.slice (some ⟨g5, 0, none⟩) ((pensI K).length + 1) cap5)) X mb B P vs5 L b off cap p0 IT SU (atsI K ++ [(x : Int)]) (pensI K ++ [q]) := h5
          replace hF5 : FrX B X mb w4 (w5.setCell ⟨X, 29, none⟩ (.slice (some ⟨g5, 0, none⟩) ((pensI K).length + 1) cap5)) := hF5
          have H5 := Lib.hid h5
          have HV5 := Lib.hid (hv5.trans HV3.out)
          clear hgrow5 hown5 hat5 hlt5 cz fz hv5 h5 y29 E3 Hrow Hfz H1 H3 hl3 HV3 hi0' hz0 hz1 hz2'
          generalize w5.setCell ⟨X, 29, none⟩ (.slice (some ⟨g5, 0, none⟩) ((pensI K).length + 1) cap5) = w6 at H5 hF5 ⊢
          go_wp2_with fail
          go_roundg (n + 1 - (k + 1))
          case measure => omega
          case rel => exact ⟨k + 1, vs5, rfl, hlt, by go_num, by rw [hK9.out.1, hK9.out.2]; exact H5.out, hF2.trans (hF3.trans hF5), HV5.out⟩
        · have Hk := Lib.hid (Hno.out (by simp [hq]))
          have HI2 := Lib.hid hI2
          have hq2 : ¬ q < 10000 := hq
          clear Hno Hyes hI2
          go_wp2_with fail
          go_roundg (n + 1 - (k + 1))
          case measure => omega
          case rel => exact ⟨k + 1, vs, rfl, hlt, by go_num, by rw [Hk.out]; exact HI2.out, hF2, HV0.out⟩
    · have hk2 : (n : Int) ≤ (k : Int) := by omega
      obtain rfl : k = n := by omega
      have HI := Lib.hid hI
      clear hI hlt
      go_wp2_with fail
      refine ⟨rfl, _, results_none rfl _ _ _, rfl, ⟨vs, ?_⟩, hF⟩
      have := HI.out
      rwa [← Hn.out, HA.out] at this
end Go.Proofs.YtiijpbfkchokaaaGreat
namespace Go.Proofs.YtiijpbfkchokaaaGreat
open Go.ChangeShapes Go.WideShapes Go.ChangeAt Go.RowKit
/-- a break as the program tells it: the beginning is -1 -/
def fI : Option Nat → Int
  | none => -1
  | some x => x
set_option maxRecDepth 100000 in
set_option maxHeartbeats 2000000 in
theorem vdisc (X mb B : Nat) (P : Pm) (vs : Nat → Value) (L : List Nd) (b off cap : Nat) (p0 : Option Addr) (IT : List Nat) (SU : List Tt) (AT PE : List Int) (f : Option Nat) (w : World) (h : ParaL w X mb B P vs L b off cap p0 IT SU AT PE) (hf : ∀ x, f = some x → x ≤ 4000) :
    Calls Tryz.prog 71 #[.pointer (some ⟨X, 0, none⟩), .int .i64 (fI f)] w fun e w' => e = .returned (.bool (discO L f)) ∧ w = w' := by
  have x0 := h.para.cell 0 (.slice p0 L.length cap) rfl
  cases f with
  | none =>
    clear h hf
    show Calls _ _ #[.pointer (some ⟨X, 0, none⟩), .int .i64 (-1)] _ _
    go_enter Tryz.func71, Tryz.ntmps71
    go_wp2_with fail
    go_ret
    exact ⟨rfl, rfl⟩
  | some x =>
    have hx0 : (0 : Int) ≤ (x : Int) := by omega
    show Calls _ _ #[.pointer (some ⟨X, 0, none⟩), .int .i64 (x : Int)] _ _
    by_cases hlt : x < L.length
    · have hx2 : (x : Int) < (L.length : Int) := by omega
      have c0 : w.cell? ⟨b, off + x * 19, none⟩ = some (.int .i64 (nth L x).kind) := agg_cell (h.nodes.nth hlt) 0 _ (Nd.get0 _)
      have hp := h.nodes.at_ hlt
      rw [hp] at x0
      have HD := Lib.hid (show discO L (some x) = ((nth L x).kind == 10) by simp [discO, discB, hlt])
      clear h hp hf
      go_enter Tryz.func71, Tryz.ntmps71
      go_wp2_with fail
      go_ret
      exact ⟨by rw [HD.out]; rfl, rfl⟩
    · have hx2 : ¬ (x : Int) < (L.length : Int) := by omega
      have HD := Lib.hid (show discO L (some x) = false by simp [discO, discB, hlt])
      clear h hf
      go_enter Tryz.func71, Tryz.ntmps71
      go_wp2_with fail
      go_ret
      exact ⟨by rw [HD.out]; rfl, rfl⟩
set_option maxRecDepth 100000 in
set_option maxHeartbeats 2000000 in
theorem vlegal9 (X mb B : Nat) (P : Pm) (vs : Nat → Value) (L : List Nd) (b off cap : Nat) (p0 : Option Addr) (IT : List Nat) (SU : List Tt) (AT PE : List Int) (hl : AT.length ≤ 4000) (at_ : Int) (w : World) (h : ParaL w X mb B P vs L b off cap p0 IT SU AT PE) :
    Calls Tryz.prog 50 #[.pointer (some ⟨X, 0, none⟩), .int .i64 at_] w fun e w' => e = .returned (.bool (AT.contains at_)) ∧ w = w' := by
  obtain ⟨p2, c2, e2⟩ := owns_form (h.para.rows 2 (by decide))
  have x28 := h.para.cell 28 (vs 2) rfl
  rw [e2, show pxN IT SU AT PE 2 = AT.length from rfl] at x28
  have hr2 := h.para.rows 2 (by decide)
  rw [e2] at hr2
  have HR2 := Lib.hid hr2
  obtain ⟨n, hn⟩ : ∃ n, AT.length = n := ⟨_, rfl⟩
  rw [hn] at x28 hl
  have Hn := Lib.hid hn
  clear h e2 hr2 hn
  go_enter Tryz.func50, Tryz.ntmps50
  go_wp2_with fail
  go_loopg [12] (n + 1) (fun gg t12 wr => ∃ (k : Nat), gg = n + 1 - k ∧ k ≤ n ∧ t12 = .int .i64 k ∧ w = wr ∧ (AT.take k).contains at_ = false)
  case atStart => exact ⟨0, rfl, Nat.zero_le _, rfl, rfl, rfl⟩
  case round =>
    obtain ⟨k, rfl, hk, rfl, rfl, hno⟩ := hrel
    by_cases hlt : k < n
    · have hlt1 : (k : Int) < (n : Int) := by omega
      have hk0 : (0 : Int) ≤ (k : Int) := by omega
      have hlk : k < AT.length := by rw [Hn.out]; exact hlt
      obtain ⟨g, rfl, hk9, hci, cg⟩ := zin_get9 (l := AT) HR2.out hlk
      replace hci : n ≤ c2 := by rw [← Hn.out]; exact hci
      clear hk9
      have Hno := Lib.hid hno
      have Hs := Lib.hid (show AT.take (k + 1) = AT.take k ++ [AT[k]] by rw [List.take_succ_eq_append_getElem hlk])
      have Hm := Lib.hid (List.getElem_mem hlk)
      generalize AT[k] = y at cg Hs Hm
      clear hno hlk
      cases hy : (y == at_)
      · have Hy := Lib.hid hy
        have hne : ¬ y = at_ := by simpa using hy
        go_wp2_with fail
        go_roundg (n + 1 - (k + 1))
        case measure => omega
        case rel => exact ⟨k + 1, rfl, hlt, by go_num, rfl, by rw [Hs.out]; have := Hno.out; simp at this ⊢; exact ⟨this, fun e => hne e.symm⟩⟩
      · have HD := Lib.hid (show AT.contains at_ = true by rw [List.contains_iff_mem, ← (show y = at_ by simpa using hy)]; exact Hm.out)
        go_wp2_with fail
        go_ret
        exact ⟨by rw [HD.out]; rfl, rfl⟩
    · have hk2 : (n : Int) ≤ (k : Int) := by omega
      have HD := Lib.hid (show AT.contains at_ = false by rwa [List.take_of_length_le (by have := Hn.out; omega)] at hno)
      clear hno
      go_wp2_with fail
      go_ret
      exact ⟨by rw [HD.out]; rfl, rfl⟩
end Go.Proofs.YtiijpbfkchokaaaGreat
