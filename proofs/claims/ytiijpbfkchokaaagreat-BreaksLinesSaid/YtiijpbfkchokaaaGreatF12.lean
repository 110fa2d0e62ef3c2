/-
  The document's side of layer 9: legal breaks (Places).
  The document's side of layer 9: Legal.
  The document's side of layer 9: how broad a line is to be (Broad, Width).
  The document's side of layer 9: is a number in a list; what has a width.
  The document's side of layer 9: how broad a node is; is a place a Disc's?
  The document's side of layer 9: a row's totals (galleyref05.Sum, not down).
-/
import Derived.Test.YtiijpbfkchokaaaGreatW3
import Derived.Test.YtiijpbfkchokaaaGreatL6
import Derived.Test.YtiijpbfkchokaaaGreatB10
import Derived.Test.YtiijpbfkchokaaaGreatF5
import Derived.Test.YtiijpbfkchokaaaGreatB24
namespace Go.Proofs.YtiijpbfkchokaaaGreat
open Go.ChangeShapes Go.WideShapes Go.ChangeAt Go.RowKit
attribute [local go_sem ↓] Go.wp_at_zero Go.wp_at_succ
def oneQ (x : Nat) : Option Int → List (Nat × Int)
  | some q => if q < 10000 then [(x, q)] else []
  | none => []
theorem brkF_at {L : List Nd} {P : Pm} {s : List Nat} {k x : Nat} (hk : s[k]? = some x) :
    brkF L P (if k = 0 then none else some (s.getD (k - 1) 0)) (s.drop k) = oneQ x (priceQ L P s k x) ++ brkF L P (if k + 1 = 0 then none else some (s.getD (k + 1 - 1) 0)) (s.drop (k + 1)) := by
  obtain ⟨h1, h2⟩ := List.getElem?_eq_some_iff.1 hk
  rw [List.drop_eq_getElem_cons h1, h2]
  have e1 : (s.drop (k + 1)).head? = s[k + 1]? := by rw [List.head?_drop]
  have e2 : s.getD (k + 1 - 1) 0 = x := by rw [Nat.add_sub_cancel, List.getD_eq_getElem?_getD, hk]; rfl
  rw [if_neg (by omega : ¬ k + 1 = 0), e2]
  unfold priceQ
  rw [← e1]
  rw [brkF]
  cases priceN L P (if k = 0 then none else some (s.getD (k - 1) 0)) x (s.drop (k + 1)).head? with
  | none => rfl
  | some q =>
    simp only [oneQ]
    split <;> rfl
/-- another row stays as one of one's own grows -/
theorem two_grow {w w7 : World} {B : Nat} {e : TypeId} {size : Nat} {v u : Value} {n m c g : Nat} {xs : List Value} (hu : w.ownsRow B e size u n xs) (ne : ∀ q, v.ownBlock = some q → u.ownBlock ≠ some q) (hg : w.grownBy w7 v.ownBlock) (hat : v.ownBlock = some g ∨ g = w.heap.size) :
    w7.ownsRow B e size u n xs ∧ ∀ q, (Value.slice (some ⟨g, 0, none⟩) m c).ownBlock = some q → u.ownBlock ≠ some q := by
  refine ⟨hu.kept hg ?_, fun q hq => ?_⟩
  · cases ho : u.ownBlock with
    | none => exact .inl rfl
    | some q => exact .inr fun e2 => ne q e2.symm ho
  · cases hq
    rcases hat with h1 | h1
    · exact ne g h1
    · intro h2
      have := (hu.lt g h2).2
      omega
structure PlacesPost (w : World) (B : List (Nat × Int)) (e : Ending) (w' : World) : Prop where
  out : ∃ v u, e = .returned (.tuple #[v, u]) ∧ w'.ownsRow w.heap.size 3 1 v B.length (ints (atsI B)) ∧ w'.ownsRow w.heap.size 3 1 u B.length (ints (pensI B)) ∧ ∀ q, v.ownBlock = some q → u.ownBlock ≠ some q
  below : Below w.heap.size w w'
theorem atsI_app (A : List (Nat × Int)) (x : Nat) (q : Int) : ints (atsI (A ++ [(x, q)])) = ints (atsI A) ++ [.int .i64 (x : Nat)] := by simp [atsI, ints]
theorem pensI_app (A : List (Nat × Int)) (x : Nat) (q : Int) : ints (pensI (A ++ [(x, q)])) = ints (pensI A) ++ [.int .i64 q] := by simp [pensI, ints]
set_option maxRecDepth 100000 in
set_option maxHeartbeats 8000000 in
theorem q9places (P : Pm) (p0 : Option Addr) (b off cap : Nat) (L : List Nd) (hc : checkC L = 0) (s : List Nat) (hs : Items L 0 s) (w : World) (hN : NIn w p0 b off cap L) :
    Calls Tryz.prog 41 #[.slice p0 L.length cap, .agg P.arr] w (PlacesPost w (brkP L P s)) := by
  have hb0 : Below w.heap.size w (w.alloc (.cells P.arr 27)) := (Below.refl _ _).alloc (Nat.le_refl _) _
  have d0 : PAt (w.alloc (.cells P.arr 27)) w.heap.size P := heap_alloc_new w _
  have HSt : Hid (∀ W, Below w.heap.size w W → Calls Tryz.prog 67 #[.slice p0 L.length cap] W fun e w' => (∃ v, e = .returned v ∧ IRow W v s w') ∧ Below W.heap.size W w') := Lib.hid fun W hb => qstarts p0 b off cap L s W (hN.below hb) hs fun x hx => (items_kind0 hs hc x hx).1
  have HA : Hid (∀ (W : World) (ps : Option Addr) (gi cs k x : Nat), Below w.heap.size w W → IIn W ps gi cs s → s[k]? = some x → Calls Tryz.prog 68 #[.slice p0 L.length cap, .agg P.arr, .slice ps s.length cs, .int .i64 k] W fun e w' => e = .returned (.tuple #[.int .i64 (optV (priceQ L P s k x)).1, .bool (optV (priceQ L P s k x)).2]) ∧ Below W.heap.size W w') := Lib.hid fun W ps gi cs k x hb hI hk => q9at P p0 b off cap L hc s hs ps gi cs k x hk W (hN.below hb) hI
  have hsl := hs.len
  have hL2 := (checkC_zero hc).1
  obtain ⟨i0, hi0', hz0, hz1, hz2'⟩ := info_parts info_intb
  obtain ⟨R, hR⟩ : ∃ R, brkF L P none s = R := ⟨_, rfl⟩
  have HBP : Hid (brkP L P s = R ++ [(L.length, -10000)]) := Lib.hid (by rw [← hR]; rfl)
  rw [HBP.out]
  have HR := Lib.hid hR
  have hRl : R.length ≤ s.length := by
    have h1 := brkP_len (L := L) (P := P) (s := s)
    rw [HBP.out, List.length_append, List.length_singleton] at h1
    omega
  clear hc hs hN hR
  go_enter Tryz.func41, Tryz.ntmps41
  go_upto_region 1 with (fail)
  obtain ⟨X0, hX0⟩ : ∃ X0, w.heap.size = X0 := ⟨_, rfl⟩
  rw [hX0] at d0 ⊢
  generalize w.alloc (.cells P.arr 27) = w1 at hb0 d0 ⊢
  have Hb0 := Lib.hid hb0
  go_upto_region 4 with (go_at_call 67; refine (HSt.out w1 hb0).mono ?_; rintro e w3 ⟨⟨v, rfl, hrow⟩, hb3⟩)
  obtain ⟨ps, gi, cs, rfl, hcs, hII⟩ := irow_cap hrow
  have d3 := d0.still hb3
  have H3 := Lib.hid (And.intro hII (And.intro d3 (hb0.trans (hb3.mono hb0.size))))
  have HX0 := Lib.hid hX0
  clear hrow hb0 hb3 hII d0 d3 HSt hX0
  go_wp2_with fail
  go_loopg [6, 7, 9] (s.length + 1) (fun gg t6 t7 t9 wr => ∃ (k : Nat) (A : List (Nat × Int)), gg = s.length + 1 - k ∧ k ≤ s.length ∧ t9 = .int .i64 k ∧ A ++ brkF L P (if k = 0 then none else some (s.getD (k - 1) 0)) (s.drop k) = R ∧ A.length ≤ k ∧ wr.ownsRow w3.heap.size 3 1 t6 A.length (ints (atsI A)) ∧ wr.ownsRow w3.heap.size 3 1 t7 A.length (ints (pensI A)) ∧ (∀ q, t6.ownBlock = some q → t7.ownBlock ≠ some q) ∧ Below w3.heap.size w3 wr)
  case atStart => exact ⟨0, [], rfl, Nat.zero_le _, rfl, by rw [if_pos rfl, List.drop_zero]; exact HR.out, Nat.le_refl _, World.ownsRow_nil _ _ _ _, World.ownsRow_nil _ _ _ _, (fun q hq => by cases hq), Below.refl _ _⟩
  case round =>
    clear HR
    obtain ⟨k, A, rfl, hk, rfl, hA, hAk, hv, hu, hne, hb⟩ := hrel
    have hk0 : (0 : Int) ≤ (k : Int) := by omega
    by_cases hlt : k < s.length
    · have hk1 : (k : Int) < (s.length : Int) := by omega
      have hlt2 : decide (k < s.length) = true := decide_eq_true hlt
      obtain ⟨x, hx⟩ : ∃ x, s[k]? = some x := ⟨_, List.getElem?_eq_getElem hlt⟩
      have hIr := H3.out.1.below hb
      have hbw := H3.out.2.2.trans (hb.mono H3.out.2.2.size)
      have HAt := Lib.hid (HA.out wr ps gi cs k x hbw hIr hx)
      rw [brkF_at hx] at hA
      have ap : agg? wr X0 0 24 = some P.arr := by rw [agg?_blk' (H3.out.2.1.still hb) 0 24 (by rw [Pm.size_arr]; decide)]; simp [Pm.arr, Pm.cells]
      obtain ⟨r, hr⟩ : ∃ r, priceQ L P s k x = r := ⟨_, rfl⟩
      rw [hr] at HAt hA
      have H := Lib.hid (And.intro hv (And.intro hu (And.intro hne (And.intro hb hx))))
      obtain ⟨pv, cv, rfl⟩ := owns_form hv
      obtain ⟨pu, cu, rfl⟩ := owns_form hu
      have HAk := Lib.hid hA
      clear hv hu hne hb hx hIr hbw hr hA hlt
      go_upto_region 8 with (go_at_call 68; refine HAt.out.mono ?_; clear HAt; rintro e w4 ⟨rfl, hb4⟩)
      clear ap
      have H4 : Hid (w4.ownsRow w3.heap.size 3 1 (.slice pv A.length cv) A.length (ints (atsI A)) ∧ w4.ownsRow w3.heap.size 3 1 (.slice pu A.length cu) A.length (ints (pensI A)) ∧ (∀ q, (Value.slice pv A.length cv).ownBlock = some q → (Value.slice pu A.length cu).ownBlock ≠ some q) ∧ Below w3.heap.size w3 w4 ∧ s[k]? = some x) := Lib.hid ⟨ownsRow_below H.out.1 hb4, ownsRow_below H.out.2.1 hb4, H.out.2.2.1, H.out.2.2.2.1.trans (hb4.mono H.out.2.2.2.1.size), H.out.2.2.2.2⟩
      clear H hb4
      have skip : Hid (oneQ x r = [] → A ++ brkF L P (if k + 1 = 0 then none else some (s.getD (k + 1 - 1) 0)) (s.drop (k + 1)) = R) := Lib.hid fun h => by
        have := HAk.out
        rw [h, List.nil_append] at this
        exact this
      cases r with
      | none =>
        have hA2 := Lib.hid (skip.out rfl)
        clear skip HAk
        simp only [optV]
        go_wp2_with fail
        go_roundg (s.length + 1 - (k + 1))
        case measure => omega
        case rel => exact ⟨k + 1, A, rfl, by omega, by go_num, hA2.out, by omega, H4.out.1, H4.out.2.1, H4.out.2.2.1, H4.out.2.2.2.1⟩
      | some q =>
        simp only [optV]
        by_cases hq : q < 10000
        · have hq2 : decide (q < 10000) = true := decide_eq_true hq
          have hA2 : Hid ((A ++ [(x, q)]) ++ brkF L P (if k + 1 = 0 then none else some (s.getD (k + 1 - 1) 0)) (s.drop (k + 1)) = R) := Lib.hid (by
            have := HAk.out
            rw [show oneQ x (some q) = [(x, q)] from if_pos hq] at this
            rw [List.append_assoc]
            exact this)
          have hI4 := H3.out.1.below H4.out.2.2.2.1
          obtain ⟨h1, h2⟩ := List.getElem?_eq_some_iff.1 H4.out.2.2.2.2
          have ck := hI4.at_ k h1
          rw [h2] at ck
          obtain rfl := hI4.hp (by intro e; rw [e] at h1; simp at h1)
          have Hrow := Lib.hid (H4.out.1.alloc (.cells #[.int .i64 (x : Nat)] 3))
          have hbase : w3.heap.size ≤ (w4.alloc (.cells #[.int .i64 (x : Nat)] 3)).heap.size := by rw [World.size_alloc]; have := H4.out.2.2.2.1.size; omega
          have H1 : Hid (∀ u ∈ [Value.int .i64 (x : Nat)], u.oneCell' = true) := Lib.hid (by simp [Value.oneCell'])
          clear skip HAk hI4 h1 h2 hq
          go_upto_region 10 with (at_builtin; refine wpList_append_lies _ rfl (.tmp 33) (.tmp 38) 41 rfl w3.heap.size 3 i0 (.int .i64 0) 1 8 Tryz.underlying41 hi0' hz0 hz1 hz2' rfl (by decide) (.slice pv A.length cv) A.length (ints (atsI A)) rfl Hrow.out ⟨w4.heap.size, 0, none⟩ 1 1 [.int .i64 (x : Nat)] rfl rfl (World.news_of_block (cs := #[.int .i64 (x : Nat)]) (heap_alloc_new _ _)) H1.out (by decide) (by unfold maxLen; omega) (by omega) hbase _ rfl ?_; intro g5 cap5 w5 hown5 hgrow5 hat5 hlt5)
          have hbb5 : Below w3.heap.size w3 w5 := (H4.out.2.2.2.1.trans (((Below.refl w4.heap.size w4).alloc (Nat.le_refl _) (.cells #[.int .i64 (x : Nat)] 3)).mono H4.out.2.2.2.1.size)).trans (grown_below hgrow5 hbase fun q hq => (H4.out.1.lt q hq).1)
          have h2g := two_grow (m := A.length + 1) (c := cap5) (H4.out.2.1.alloc (.cells #[.int .i64 (x : Nat)] 3)) H4.out.2.2.1 hgrow5 hat5
          have H5 := Lib.hid (And.intro hown5 (And.intro h2g.1 (And.intro h2g.2 hbb5)))
          have Hrow5 := Lib.hid (h2g.1.alloc (.cells #[.int .i64 q] 3))
          have hbase5 : w3.heap.size ≤ (w5.alloc (.cells #[.int .i64 q] 3)).heap.size := by rw [World.size_alloc]; have := hbb5.size; omega
          have H1q : Hid (∀ u ∈ [Value.int .i64 q], u.oneCell' = true) := Lib.hid (by simp [Value.oneCell'])
          clear hown5 hgrow5 hat5 hlt5 h2g hbb5 Hrow H1 hbase ck
          go_upto_region 6 with (at_builtin; refine wpList_append_lies _ rfl (.tmp 40) (.tmp 42) 41 rfl w3.heap.size 3 i0 (.int .i64 0) 1 8 Tryz.underlying41 hi0' hz0 hz1 hz2' rfl (by decide) (.slice pu A.length cu) A.length (ints (pensI A)) rfl Hrow5.out ⟨w5.heap.size, 0, none⟩ 1 1 [.int .i64 q] rfl rfl (World.news_of_block (cs := #[.int .i64 q]) (heap_alloc_new _ _)) H1q.out (by decide) (by unfold maxLen; omega) (by omega) hbase5 _ rfl ?_; intro g6 cap6 w6 hown6 hgrow6 hat6 hlt6)
          have hbb6 : Below w3.heap.size w3 w6 := (H5.out.2.2.2.trans (((Below.refl w5.heap.size w5).alloc (Nat.le_refl _) (.cells #[.int .i64 q] 3)).mono H5.out.2.2.2.size)).trans (grown_below hgrow6 hbase5 fun q hq => (H5.out.2.1.lt q hq).1)
          have h2h := two_grow (m := A.length + 1) (c := cap6) (H5.out.1.alloc (.cells #[.int .i64 q] 3)) (fun z hz hz2 => H5.out.2.2.1 z hz2 hz) hgrow6 hat6
          have H6 : Hid (w6.ownsRow w3.heap.size 3 1 (.slice (some ⟨g5, 0, none⟩) (A.length + 1) cap5) (A ++ [(x, q)]).length (ints (atsI (A ++ [(x, q)]))) ∧ w6.ownsRow w3.heap.size 3 1 (.slice (some ⟨g6, 0, none⟩) (A.length + 1) cap6) (A ++ [(x, q)]).length (ints (pensI (A ++ [(x, q)]))) ∧ (∀ z, (Value.slice (some ⟨g5, 0, none⟩) (A.length + 1) cap5).ownBlock = some z → (Value.slice (some ⟨g6, 0, none⟩) (A.length + 1) cap6).ownBlock ≠ some z) ∧ Below w3.heap.size w3 w6) := Lib.hid ⟨by rw [List.length_append, List.length_singleton, atsI_app]; exact h2h.1, by rw [List.length_append, List.length_singleton, pensI_app]; exact hown6, fun z hz hz2 => h2h.2 z hz2 hz, hbb6⟩
          clear hown6 hgrow6 hat6 hlt6 h2h hbb6 Hrow5 H1q hbase5 H5 H4
          go_wp2_with fail
          go_roundg (s.length + 1 - (k + 1))
          case measure => omega
          case rel => exact ⟨k + 1, A ++ [(x, q)], rfl, by omega, by go_num, hA2.out, by rw [List.length_append, List.length_singleton]; omega, H6.out.1, H6.out.2.1, H6.out.2.2.1, H6.out.2.2.2⟩
        · have hq2 : decide (q < 10000) = false := decide_eq_false hq
          have hA2 := Lib.hid (skip.out (if_neg hq))
          clear skip HAk hq
          go_wp2_with fail
          go_roundg (s.length + 1 - (k + 1))
          case measure => omega
          case rel => exact ⟨k + 1, A, rfl, by omega, by go_num, hA2.out, by omega, H4.out.1, H4.out.2.1, H4.out.2.2.1, H4.out.2.2.2.1⟩
    · have hkn : k = s.length := by omega
      have hlt2 : decide (k < s.length) = false := decide_eq_false hlt
      have hAR : A = R := by
        rw [List.drop_eq_nil_of_le (by omega : s.length ≤ k)] at hA
        rw [← hA]
        simp [brkF]
      subst hAR
      have hbase : w3.heap.size ≤ wr.heap.size := hb.size
      have H := Lib.hid (And.intro hv (And.intro hu (And.intro hne hb)))
      obtain ⟨pv, cv, rfl⟩ := owns_form hv
      obtain ⟨pu, cu, rfl⟩ := owns_form hu
      have Hrow := Lib.hid (hv.alloc (.cells #[.int .i64 (L.length : Nat)] 3))
      have hbase2 : w3.heap.size ≤ (wr.alloc (.cells #[.int .i64 (L.length : Nat)] 3)).heap.size := by rw [World.size_alloc]; omega
      have H1 : Hid (∀ u ∈ [Value.int .i64 (L.length : Nat)], u.oneCell' = true) := Lib.hid (by simp [Value.oneCell'])
      have H1q : Hid (∀ u ∈ [Value.int .i64 (-10000)], u.oneCell' = true) := Lib.hid (by simp [Value.oneCell'])
      clear hv hu hne hb hA hlt hkn
      go_wp2_with (first
        | (at_builtin; refine wpList_append_lies _ rfl (.tmp 44) (.tmp 47) 41 rfl w3.heap.size 3 i0 (.int .i64 0) 1 8 Tryz.underlying41 hi0' hz0 hz1 hz2' rfl (by decide) (.slice pv A.length cv) A.length (ints (atsI A)) rfl Hrow.out ⟨wr.heap.size, 0, none⟩ 1 1 [.int .i64 (L.length : Nat)] rfl rfl (World.news_of_block (cs := #[.int .i64 (L.length : Nat)]) (heap_alloc_new _ _)) H1.out (by decide) (by unfold maxLen; omega) (by omega) hbase2 _ rfl ?_; intro g5 cap5 w5 hown5 hgrow5 hat5 hlt5; have hbb5 : Below w3.heap.size w3 w5 := (H.out.2.2.2.trans (((Below.refl wr.heap.size wr).alloc (Nat.le_refl _) (.cells #[.int .i64 (L.length : Nat)] 3)).mono H.out.2.2.2.size)).trans (grown_below hgrow5 hbase2 fun q hq => (H.out.1.lt q hq).1); have h2g := two_grow (m := A.length + 1) (c := cap5) (H.out.2.1.alloc (.cells #[.int .i64 (L.length : Nat)] 3)) H.out.2.2.1 hgrow5 hat5; have H5 := Lib.hid (And.intro hown5 (And.intro h2g.1 (And.intro h2g.2 hbb5))); have Hrow5 := Lib.hid (h2g.1.alloc (.cells #[.int .i64 (-10000)] 3)); have hbase5 : w3.heap.size ≤ (w5.alloc (.cells #[.int .i64 (-10000)] 3)).heap.size := (by rw [World.size_alloc]; have := hbb5.size; omega); clear hown5 hgrow5 hat5 hlt5 h2g hbb5)
        | (at_builtin; refine wpList_append_lies _ rfl (.tmp 49) (.tmp 50) 41 rfl w3.heap.size 3 i0 (.int .i64 0) 1 8 Tryz.underlying41 hi0' hz0 hz1 hz2' rfl (by decide) (.slice pu A.length cu) A.length (ints (pensI A)) rfl Hrow5.out ⟨w5.heap.size, 0, none⟩ 1 1 [.int .i64 (-10000)] rfl rfl (World.news_of_block (cs := #[.int .i64 (-10000)]) (heap_alloc_new _ _)) H1q.out (by decide) (by unfold maxLen; omega) (by omega) hbase5 _ rfl ?_; intro g6 cap6 w6 hown6 hgrow6 hat6 hlt6))
      have hbb6 : Below w3.heap.size w3 w6 := (H5.out.2.2.2.trans (((Below.refl w5.heap.size w5).alloc (Nat.le_refl _) (.cells #[.int .i64 (-10000)] 3)).mono H5.out.2.2.2.size)).trans (grown_below hgrow6 hbase5 fun q hq => (H5.out.2.1.lt q hq).1)
      have h2h := two_grow (m := A.length + 1) (c := cap6) (H5.out.1.alloc (.cells #[.int .i64 (-10000)] 3)) (fun z hz hz2 => H5.out.2.2.1 z hz2 hz) hgrow6 hat6
      have hsz : w.heap.size ≤ w3.heap.size := H3.out.2.2.size
      go_ret2
      refine ⟨⟨_, _, rfl, ?_, ?_, fun z hz hz2 => h2h.2 z hz2 hz⟩, H3.out.2.2.trans (hbb6.mono hsz)⟩
      · rw [List.length_append, List.length_singleton, atsI_app]
        exact ownsRow_base h2h.1 hsz
      · rw [List.length_append, List.length_singleton, pensI_app]
        exact ownsRow_base hown6 hsz
end Go.Proofs.YtiijpbfkchokaaaGreat


namespace Go.Proofs.YtiijpbfkchokaaaGreat
open Go.ChangeShapes Go.WideShapes Go.ChangeAt Go.RowKit
attribute [local go_sem ↓] Go.wp_at_zero Go.wp_at_succ
set_option maxRecDepth 100000 in
set_option maxHeartbeats 4000000 in
theorem q9has (p : Option Addr) (g c : Nat) (l : List Int) (x : Int) (w : World) (h : ZIn w p g c l) (hl : l.length ≤ 100000) :
    Calls Tryz.prog 52 #[.slice p l.length c, .int .i64 x] w fun e w' => e = .returned (.bool (decide (x ∈ l))) ∧ w = w' := by
  have H := Lib.hid h
  have k1 := h.cap
  obtain ⟨R, hR⟩ : ∃ R, decide (x ∈ l) = R := ⟨_, rfl⟩
  rw [hR]
  have HR := Lib.hid hR
  clear h hR
  go_enter Tryz.func52, Tryz.ntmps52
  go_wp2_with fail
  go_loopg [5] (l.length + 1) (fun g t wr => ∃ k : Nat, g = l.length + 1 - k ∧ k ≤ l.length ∧ t = .int .i64 k ∧ x ∉ l.take k ∧ wr = w)
  case atStart => exact ⟨0, rfl, Nat.zero_le _, rfl, by simp, rfl⟩
  case round =>
    obtain ⟨k, rfl, hk, rfl, hn, rfl⟩ := hrel
    have hk1 : (0 : Int) ≤ (k : Int) := by omega
    by_cases hlt : k < l.length
    · have hk2 : (k : Int) < (l.length : Int) := by omega
      have x1 := H.out.at_ k hlt
      obtain rfl := H.out.hp (by intro e; rw [e] at hlt; simp at hlt)
      have htk : l.take (k + 1) = l.take k ++ [l[k]] := by
        rw [List.take_add_one, List.getElem?_eq_getElem hlt]; rfl
      have hmem : l[k] ∈ l := List.getElem_mem hlt
      generalize l[k] = y at x1 htk hmem
      by_cases hy : y = x
      · have hR1 : R = true := by rw [← HR.out]; subst hy; simp [hmem]
        have hyx : (y == x) = true := by simpa using hy
        subst hR1
        clear hn htk hmem hy
        go_wp2_with fail
        go_ret
        exact ⟨rfl, rfl⟩
      · have hyx : (y == x) = false := by simpa using hy
        have HN : Hid (x ∉ l.take (k + 1)) := Lib.hid (by rw [htk]; simp only [List.mem_append, List.mem_singleton]; rintro (h | h); exact hn h; exact hy h.symm)
        clear hn htk hmem hy
        go_wp2_with fail
        go_roundg (l.length + 1 - (k + 1))
        case measure => omega
        case rel => exact ⟨k + 1, rfl, hlt, by go_num, HN.out, rfl⟩
    · have hk2 : (l.length : Int) ≤ (k : Int) := by omega
      have hR1 : R = false := by
        rw [← HR.out]
        rw [List.take_of_length_le (by omega)] at hn
        simpa using hn
      subst hR1
      clear hn
      go_wp2_with fail
      go_ret
      exact ⟨rfl, rfl⟩
end Go.Proofs.YtiijpbfkchokaaaGreat
namespace Go.Proofs.YtiijpbfkchokaaaGreat
open Go.ChangeShapes Go.WideShapes Go.ChangeAt Go.RowKit
attribute [local go_sem ↓] Go.wp_at_zero Go.wp_at_succ
theorem q9across (n : Nd) (w : World) : Calls Tryz.prog 93 #[.agg n.arr] w fun e w' => e = .returned (.int .i64 (acN n)) ∧ Below w.heap.size w w' := by
  cases h0 : (n.kind == 1)
  rotate_left
  · go_enter Tryz.func93, Tryz.ntmps93
    go_wp2_with fail
    go_ret
    exact ⟨ret_int (by simp [acN, acrossK, h0]), (Below.refl _ _).alloc (Nat.le_refl _) _⟩
  cases h1 : (n.kind == 2)
  rotate_left
  · go_enter Tryz.func93, Tryz.ntmps93
    go_wp2_with fail
    go_ret
    exact ⟨ret_int (by simp [acN, acrossK, h1]), (Below.refl _ _).alloc (Nat.le_refl _) _⟩
  cases h2 : (n.kind == 3)
  rotate_left
  · go_enter Tryz.func93, Tryz.ntmps93
    go_wp2_with fail
    go_ret
    exact ⟨ret_int (by simp [acN, acrossK, h2]), (Below.refl _ _).alloc (Nat.le_refl _) _⟩
  cases h3 : (n.kind == 4)
  rotate_left
  · go_enter Tryz.func93, Tryz.ntmps93
    go_wp2_with fail
    go_ret
    exact ⟨ret_int (by simp [acN, acrossK, h3]), (Below.refl _ _).alloc (Nat.le_refl _) _⟩
  cases h4 : (n.kind == 5)
  rotate_left
  · go_enter Tryz.func93, Tryz.ntmps93
    go_wp2_with fail
    go_ret
    exact ⟨ret_int (by simp [acN, acrossK, h4]), (Below.refl _ _).alloc (Nat.le_refl _) _⟩
  cases h5 : (n.kind == 8)
  rotate_left
  · go_enter Tryz.func93, Tryz.ntmps93
    go_wp2_with fail
    go_ret
    exact ⟨ret_int (by simp [acN, acrossK, h5]), (Below.refl _ _).alloc (Nat.le_refl _) _⟩
  cases h6 : (n.kind == 15)
  rotate_left
  · go_enter Tryz.func93, Tryz.ntmps93
    go_wp2_with fail
    go_ret
    exact ⟨ret_int (by simp [acN, acrossK, h6]), (Below.refl _ _).alloc (Nat.le_refl _) _⟩
  cases h7 : (n.kind == 16)
  rotate_left
  · go_enter Tryz.func93, Tryz.ntmps93
    go_wp2_with fail
    go_ret
    exact ⟨ret_int (by simp [acN, acrossK, h7]), (Below.refl _ _).alloc (Nat.le_refl _) _⟩
  cases h8 : (n.kind == 7)
  · go_enter Tryz.func93, Tryz.ntmps93
    go_wp2_with fail
    go_ret
    exact ⟨ret_int (by simp [acN, acrossK, h0, h1, h2, h3, h4, h5, h6, h7, h8]), (Below.refl _ _).alloc (Nat.le_refl _) _⟩
  · go_enter Tryz.func93, Tryz.ntmps93
    go_wp2_with fail
    go_ret
    exact ⟨ret_int (by simp [acN, acrossK, h0, h1, h2, h3, h4, h5, h6, h7, h8]), (Below.refl _ _).alloc (Nat.le_refl _) _⟩
set_option maxRecDepth 100000 in
set_option maxHeartbeats 2000000 in
theorem q9disc (L : List Nd) (b off cap : Nat) (p0 : Option Addr) (x : Nat) (hx : x ≤ 9000000) (w : World) (h : NIn w p0 b off cap L) :
    Calls Tryz.prog 79 #[.slice p0 L.length cap, .int .i64 x] w fun e w' => e = .returned (.bool (discB L x)) ∧ w = w' := by
  have hx0 : (0 : Int) ≤ (x : Int) := by omega
  by_cases hlt : x < L.length
  · have hx2 : (x : Int) < (L.length : Int) := by omega
    have c0 : w.cell? ⟨b, off + x * 19, none⟩ = some (.int .i64 (nth L x).kind) := agg_cell (h.nth hlt) 0 _ (Nd.get0 _)
    obtain rfl := h.at_ hlt
    have HD := Lib.hid (show discB L x = ((nth L x).kind == 10) by simp [discB, hlt])
    have hlen := h.len
    clear h
    go_enter Tryz.func79, Tryz.ntmps79
    go_wp2_with fail
    go_ret
    exact ⟨by rw [HD.out]; rfl, rfl⟩
  · have hx2 : ¬ (x : Int) < (L.length : Int) := by omega
    have HD := Lib.hid (show discB L x = false by simp [discB, hlt])
    clear h
    go_enter Tryz.func79, Tryz.ntmps79
    go_wp2_with fail
    go_ret
    exact ⟨by rw [HD.out]; rfl, rfl⟩
end Go.Proofs.YtiijpbfkchokaaaGreat
namespace Go.Proofs.YtiijpbfkchokaaaGreat
open Go.ChangeShapes Go.WideShapes Go.ChangeAt Go.RowKit
attribute [local go_sem ↓] Go.wp_at_zero Go.wp_at_succ
attribute [local go_sem] run_three2
theorem run_widenat (x : Int) (w : World) : (Instr.field 62 (.agg (Tt.wide x).arr) 0).run Tryz.prog w = .ok (.int .i64 x) w := by kernel_rfl
attribute [local go_sem] run_widenat
/-- between two rounds of Sum -/
structure SumI (w : World) (Z B : Nat) (T : Tt) (v : Value) (s : List Nat) (W : World) : Prop where
  tot : TotI w Z T W
  row : W.ownsRow B 3 1 v s.length (ints (ofN s))
  le : Z + 2 ≤ B
  sz : B ≤ W.heap.size
theorem SumI.still {w : World} {Z B : Nat} {T : Tt} {v : Value} {s : List Nat} {W W' : World} (h : SumI w Z B T v s W) (hb : Below W.heap.size W W') : SumI w Z B T v s W' :=
  ⟨h.tot.still hb, ownsRow_below h.row hb, h.le, Nat.le_trans h.sz hb.size⟩
theorem SumI.set {w : World} {Z B : Nat} {T T' : Tt} {x : Value} {s : List Nat} {W : World} (h : SumI w Z B T x s W) (k : Nat) (v : Value) (hm : T.arr.setIfInBounds k v = T'.arr) : SumI w Z B T' x s (W.setCell ⟨Z + 1, k, none⟩ v) :=
  ⟨h.tot.set k v hm, ownsRow_same h.row fun g hg _ => Below.heap_setCell _ _ _ _ (by have := h.le; have := (h.row.lt _ hg).1; simp only; omega), h.le, Nat.le_trans h.sz (KeepsWalks.setCell W _ _).size⟩
theorem SumI.drew {w : World} {Z B : Nat} {T : Tt} {v : Value} {s : List Nat} {W : World} (h : SumI w Z B T v s W) : SumI w Z B T v s W.drew := h.still ((Below.refl _ _).drew)
set_option maxRecDepth 100000 in
set_option maxHeartbeats 16000000 in
theorem q5sum_of (p0 : Option Addr) (b off cap : Nat) (Y : List Nd) (s : List Nat) (hY : TotY Y s) (hk6 : ∀ x ∈ s, (nth Y x).kind ≠ 6) (w : World) (hN : NIn w p0 b off cap Y)
    (hD : ∀ x ∈ s, (nth Y x).kind = 10 → (∃ m u, DiscAt Y x m u) ∧ ∀ W p g c, NIn W p g 0 c (threeP Y x).2.2 → Calls Tryz.prog 75 #[.slice p (threeP Y x).2.2.length c, .bool false] W fun e w' => e = .returned (.agg (Tt.wide (rowN (threeP Y x).2.2)).arr) ∧ Below W.heap.size W w') :
    Calls Tryz.prog 75 #[.slice p0 Y.length cap, .bool false] w fun e w' => e = .returned (.agg (sumA Y s).arr) ∧ Below w.heap.size w w' := by
  have H := Lib.hid hN
  have HY := Lib.hid hY
  have HD := Lib.hid hD
  have hlen := hY.len
  have hsl := hY.items.len
  have hI : TotI w w.heap.size .zero ((w.alloc (.cells (Tt.mk 0 0 0 0 0 0 0 0 0).arr 62)).alloc (.cells (Tt.mk 0 0 0 0 0 0 0 0 0).arr 62)) :=
    ⟨by have := heap_alloc_new (w.alloc (.cells (Tt.mk 0 0 0 0 0 0 0 0 0).arr 62)) (.cells (Tt.mk 0 0 0 0 0 0 0 0 0).arr 62); rwa [World.size_alloc] at this, (Below.heap_alloc _ _ _ (by simp)).trans (heap_alloc_new w _), ((Below.refl _ _).alloc (Nat.le_refl _) _).alloc (by simp) _, Nat.le_refl _⟩
  have hsz : w.heap.size + 2 ≤ ((w.alloc (.cells (Tt.mk 0 0 0 0 0 0 0 0 0).arr 62)).alloc (.cells (Tt.mk 0 0 0 0 0 0 0 0 0).arr 62)).heap.size := by rw [World.size_alloc, World.size_alloc]; omega
  have HSt : Hid (∀ W, Below w.heap.size w W → Calls Tryz.prog 67 #[.slice p0 Y.length cap] W fun e w' => (∃ v, e = .returned v ∧ IRow W v s w') ∧ Below W.heap.size W w') := Lib.hid fun W hb => qstarts p0 b off cap Y s W (hN.below hb) hY.items hk6
  clear hN hY hD hk6
  go_enter Tryz.func75, Tryz.ntmps75
  go_upto_region 2 with (fail)
  generalize (w.alloc (.cells (Tt.mk 0 0 0 0 0 0 0 0 0).arr 62)).alloc (.cells (Tt.mk 0 0 0 0 0 0 0 0 0).arr 62) = w1 at hI hsz ⊢
  have HI := Lib.hid hI
  obtain ⟨Z, hZ⟩ : ∃ Z, w.heap.size = Z := ⟨_, rfl⟩
  rw [hZ] at HI hsz ⊢
  have HZ := Lib.hid hZ
  clear hI hZ
  go_wp2_with fail
  refine (HSt.out _ HI.out.below).mono ?_
  clear HSt
  rintro e w2 ⟨⟨v, rfl, hrow⟩, hb2⟩
  obtain ⟨B, hB⟩ : ∃ B, w1.heap.size = B := ⟨_, rfl⟩
  have hrw : w2.ownsRow B 3 1 v s.length (ints (ofN s)) := by rw [← hB]; exact hrow
  have HI2 := Lib.hid (show SumI w Z B (sumA Y (s.take 0)) v s w2 from ⟨HI.out.still hb2, hrw, by rw [← hB]; exact hsz, by rw [← hB]; exact hb2.size⟩)
  obtain ⟨pv, cv, rfl⟩ := owns_form hrw
  clear hrow hrw HI hb2 hsz hB
  go_wp2_with fail
  go_loopg [7, 8] (s.length + 1) (fun gg t7 t8 wr => ∃ i : Nat, gg = s.length + 1 - i ∧ i ≤ s.length ∧ t7 = .int .i64 i ∧ SumI w Z B (sumA Y (s.take i)) (.slice pv s.length cv) s wr)
  case atStart => exact ⟨0, rfl, Nat.zero_le _, rfl, HI2.out⟩
  case round =>
    obtain ⟨i, rfl, hi, rfl, hS⟩ := hrel
    clear HI2
    have hi1 : (0 : Int) ≤ (i : Int) := by omega
    by_cases hin : i < s.length
    · have hi2 : (i : Int) < (s.length : Int) := by omega
      obtain ⟨gi, c, hv, _, hcap, cI⟩ := irow_cell hS.row hin
      simp only [Value.slice.injEq] at hv
      obtain ⟨rfl, _, rfl⟩ := hv
      have hxm := List.getElem_mem hin
      have hxl := (HY.out.items.lt _ hxm).2
      have hsn := sumA_snoc Y (s.take i) s[i]
      rw [← List.take_succ_eq_append_getElem hin] at hsn
      have hN := H.out.below hS.tot.below
      have hb1 := HY.out.bnd _ _ (List.take_append_drop i s).symm
      have hb2 := HY.out.bnd _ _ (List.take_append_drop (i + 1) s).symm
      obtain ⟨k, hk⟩ : ∃ k, s[i] = k := ⟨_, rfl⟩
      rw [hk] at cI hxl hxm hsn
      have xa := hN.nth hxl
      obtain rfl := hN.at_ hxl
      have hx1 : (0 : Int) ≤ (k : Int) := by omega
      have hx2 : (k : Int) < (Y.length : Int) := by omega
      have hrn : rightB (nth Y k) = true := by rw [nth_get hxl]; exact HY.out.right _ (List.getElem_mem _)
      obtain ⟨n, hn⟩ : ∃ n, nth Y k = n := ⟨_, rfl⟩
      rw [hn] at xa hrn
      obtain ⟨T, hT⟩ : ∃ T, sumA Y (s.take i) = T := ⟨_, rfl⟩
      rw [hT] at hS hsn hb1
      rw [hsn] at hb2
      have hD10 := HD.out k hxm
      rw [hn] at hD10
      have HD10 := Lib.hid hD10
      have Hsn := Lib.hid hsn
      have Hn := Lib.hid hn
      have Hrn := Lib.hid hrn
      have Hb1 := Lib.hid hb1
      have Hb2 := Lib.hid hb2
      have Hin := Lib.hid hin
      have Hxm := Lib.hid hxm
      have HS := Lib.hid hS
      have Hk := Lib.hid (show s[i]? = some k by rw [List.getElem?_eq_getElem hin, hk])
      clear hsn hn hrn hb1 hb2 hin hxm hS hT hk hN hD10 HD
      go_upto_block 2 with (fail)
      have dX := heap_alloc_new wr (.cells n.arr 69)
      have hbX : Below wr.heap.size wr (wr.alloc (.cells n.arr 69)) := (Below.refl _ wr).alloc (Nat.le_refl _) _
      have hS1 := HS.out.still hbX
      have hXZ : wr.heap.size ≠ Z + 1 := by have := HS.out.tot.at_.lt; omega
      clear xa cI
      generalize wr.alloc (.cells n.arr 69) = A1 at dX hbX hS1 ⊢
      generalize hX : wr.heap.size = X at dX hbX hXZ ⊢
      have hXs : B ≤ X := by rw [← hX]; exact HS.out.sz
      have x0 : A1.cell? ⟨X, 0, none⟩ = some (.int .i64 n.kind) := by rw [cell?_blk' dX]; rfl
      have aX := agg_nd dX
      have HK : Hid (∀ w8, Below A1.drew.heap.size A1.drew w8 → w8.cell? ⟨Z + 1, 0, none⟩ = some (.int .i64 T.nat) ∧ agg? w8 X 0 19 = some n.arr ∧ w8.frozen? ⟨Z + 1, 0, none⟩ = false ∧ w8.heap[X]? = some (.cells n.arr 69 (0, 0)) ∧ SumI w Z B T (.slice (some ⟨gi, 0, none⟩) s.length cv) s w8) := Lib.hid fun w8 h8 => by
        have h9 := hS1.drew.still h8
        have d9 := (h8.block X (Array.getElem?_eq_some_iff.1 dX).1).trans dX
        exact ⟨h9.tot.at_.cell 0 _ (Tt.get0 T), agg_nd d9, h9.tot.at_.frozen 0, d9, h9⟩
      have HC : Hid (∀ w8 x, Below A1.drew.heap.size A1.drew w8 → SumI w Z B { T with nat := x } (.slice (some ⟨gi, 0, none⟩) s.length cv) s (w8.setCell ⟨Z + 1, 0, none⟩ (.int .i64 x)) ∧ (w8.setCell ⟨Z + 1, 0, none⟩ (.int .i64 x)).heap[X]? = some (.cells n.arr 69 (0, 0))) := Lib.hid fun w8 x h8 => by
        obtain ⟨_, _, _, d9, h9⟩ := HK.out _ h8
        exact ⟨h9.set 0 _ rfl, (Below.heap_setCell _ _ _ _ hXZ).trans d9⟩
      have hac := ac_bound Hrn.out
      obtain ⟨bn1, bn2⟩ := Hb1.out.nat
      clear hS1
      go_cut [] from 24 to 54 (fun wx => SumI w Z B { T with nat := T.nat + itN Y k } (.slice (some ⟨gi, 0, none⟩) s.length cv) s wx ∧ wx.heap[X]? = some (.cells n.arr 69 (0, 0)))
      case first =>
        cases k10 : (n.kind == 10)
        · have hit : itN Y k = acN n := by unfold itN; rw [Hn.out, k10]; rfl
          have Hit := Lib.hid hit
          have hwr : IntKind.i64.wrap (T.nat + acN n) = T.nat + acN n := Go.IntWalk.i64_in _ (by omega)
          have HA := Lib.hid (q9across n A1.drew)
          generalize acN n = al at hac HA hwr Hit
          have HK0 := HK.out A1.drew (Below.refl _ _)
          clear hit
          go_wp2_with fail
          go_region_with (go_at_call 93; refine HA.out.mono ?_; rintro e w8 ⟨rfl, hb8⟩; obtain ⟨c8, g8, f8, -, -⟩ := HK.out _ hb8)
          all_goals
            have HCo := Lib.hid (HC.out _ (T.nat + al) hb8)
            go_wp2_with fail
            go_meet
            rw [Hit.out]
            exact HCo.out
        · have k10' : n.kind = 10 := by simpa using k10
          have hit : itN Y k = rowN (threeP Y k).2.2 := by unfold itN; rw [Hn.out, k10]; rfl
          obtain ⟨⟨m9, u9, hd9⟩, hrec⟩ := HD10.out k10'
          have hx9 : (threeP Y k).2.2.length ≤ 2000 := by
            have h1 := (disc_ok hd9).2
            have h2 := hd9.lt
            omega
          have z5 := (HK.out A1.drew (Below.refl _ _)).2.2.2.2
          have HT : Hid (Calls Tryz.prog 88 #[.slice (some ⟨b, off, none⟩) Y.length cap, .int .i64 k] A1.drew fun e w' => ∃ u0 u1 p3 g3 c3, e = .returned (.agg #[u0, u1, .slice p3 (threeP Y k).2.2.length c3]) ∧ NIn w' p3 g3 0 c3 (threeP Y k).2.2 ∧ Below A1.drew.heap.size A1.drew w') := Lib.hid (by
            refine (q3three (some ⟨b, off, none⟩) b off cap Y k m9 u9 hd9 (by rw [Hn.out]; exact k10') hlen A1.drew (H.out.below z5.tot.below)).mono ?_
            rintro e w5 ⟨⟨vs, rfl, hv⟩, hb5⟩
            obtain ⟨_, p3, g3, c3, e3, hN3, _⟩ := row_nodes (hv.rows 2 (by decide)) (show (threeP Y k).2.2.length * 160 ≤ _ by omega)
            have e3' : vs 2 = .slice p3 (threeP Y k).2.2.length c3 := e3
            exact ⟨vs 0, vs 1, p3, g3, c3, by rw [e3'], hN3, hb5⟩)
          have hbw := Hb2.out.nat
          rw [show itT Y k = .wide (itN Y k) by unfold itT; rw [Hn.out, k10']; rfl] at hbw
          simp only [Tt.plus, Tt.wide] at hbw
          rw [hit] at hbw
          have Hit := Lib.hid hit
          have HR := Lib.hid hrec
          obtain ⟨rw9, hrw9⟩ : ∃ r9, rowN (threeP Y k).2.2 = r9 := ⟨_, rfl⟩
          rw [hrw9] at hbw Hit HR
          have hwr : IntKind.i64.wrap (T.nat + rw9) = T.nat + rw9 := Go.IntWalk.i64_in _ (by omega)
          obtain ⟨X3, hX3⟩ : ∃ X3, (threeP Y k).2.2 = X3 := ⟨_, rfl⟩
          rw [hX3] at hx9 HR HT
          have HI : Hid (∀ w8, Below A1.drew.heap.size A1.drew w8 → w8.cell? ⟨gi, i, none⟩ = some (.int .i64 k)) := Lib.hid fun w8 h8 => by
            obtain ⟨gi', c', hv', _, _, cI'⟩ := irow_cell (HK.out _ h8).2.2.2.2.row Hin.out
            simp only [Value.slice.injEq, Option.some.injEq, Addr.mk.injEq] at hv'
            have h2 := Hk.out
            rw [List.getElem?_eq_getElem Hin.out] at h2
            rw [Option.some.inj h2, ← hv'.1.1] at cI'
            exact cI'
          have HI0 := HI.out A1.drew (Below.refl _ _)
          have HK0 := HK.out A1.drew (Below.refl _ _)
          clear hit hrec k10' hrw9 hX3 hd9 hbw HD10 hac z5
          go_wp2_with fail
          go_region_law (first | (go_simp; go_at_call 88; refine HT.out.mono ?_; rintro e w5 ⟨u0, u1, p3, g3, c3, rfl, hN3, hb5⟩; obtain ⟨c5, g5, f5, -, -⟩ := HK.out _ hb5) | (go_simp; go_at_call 75; refine (HR.out _ p3 g3 c3 hN3).mono ?_; rintro e w8 ⟨rfl, hb8⟩; obtain ⟨c8, g8, f8, -, -⟩ := HK.out _ (hb5.trans (hb8.mono hb5.size))))
          all_goals
            have HCo := Lib.hid (HC.out _ (T.nat + rw9) (hb5.trans (hb8.mono hb5.size)))
            go_wp2_with fail
            go_meet
            rw [Hit.out]
            exact HCo.out
      case rest =>
        obtain ⟨hS2, hD2⟩ := hcut
        have y0 : wc.cell? ⟨X, 0, none⟩ = some (.int .i64 n.kind) := by rw [cell?_blk' hD2]; rfl
        clear aX x0 HK HC dX
        cases k7 : (n.kind == 7)
        · have hit : itT Y k = .wide (itN Y k) := by unfold itT; rw [Hn.out, k7]; rfl
          have hse : SumI w Z B (sumA Y (s.take (i + 1))) (.slice (some ⟨gi, 0, none⟩) s.length cv) s wc := by rw [Hsn.out, hit, ← nat_wide]; exact hS2
          have HSe := Lib.hid hse
          clear hit hse hS2 hD2
          go_wp2_with fail
          go_roundg (s.length + 1 - (i + 1))
          case measure => have := Hin.out; omega
          case rel => exact ⟨i + 1, rfl, Hin.out, by go_num, HSe.out⟩
        · have k7' : n.kind = 7 := by simpa using k7
          have nb := nb_of Hrn.out
          obtain ⟨g1, g2⟩ := nb.nat k7'
          obtain ⟨g3, g4⟩ := nb.str k7'
          obtain ⟨g5, g6⟩ := nb.shr k7'
          have b1 := nb.so k7'
          have b2 := nb.ho k7'
          have hit : itT Y k = glueT n.glue := by unfold itT; rw [Hn.out, k7]; rfl
          have hin7 : itN Y k = n.glue.nat := by unfold itN acN; rw [Hn.out, k7']; rfl
          rw [hin7] at hS2
          obtain ⟨j, hj⟩ : ∃ j : Nat, n.glue.so = (j : Int) := ⟨n.glue.so.toNat, by omega⟩
          obtain ⟨h, hh⟩ : ∃ h : Nat, n.glue.ho = (h : Int) := ⟨n.glue.ho.toNat, by omega⟩
          have hj3 : j ≤ 3 := by omega
          have hh3 : h ≤ 3 := by omega
          have hj4 : (0 : Int) ≤ (j : Int) := by omega
          have hj5 : (j : Int) < 4 := by omega
          have hh4 : (0 : Int) ≤ (h : Int) := by omega
          have hh5 : (h : Int) < 4 := by omega
          have Hj := Lib.hid hj
          have Hh := Lib.hid hh
          have Hit := Lib.hid hit
          have hst := Hb1.out.st j
          have hsh := Hb1.out.sh h
          have x8 : wc.cell? ⟨X, 8, none⟩ = some (.int .i64 n.glue.str) := by rw [cell?_blk' hD2]; rfl
          have x10 : wc.cell? ⟨X, 10, none⟩ = some (.int .i64 (j : Nat)) := by rw [cell?_blk' hD2, ← hj]; rfl
          have cj : wc.cell? ⟨Z + 1, 1 + j, none⟩ = some (.int .i64 (T.st j)) := hS2.tot.at_.cell (1 + j) _ (tt_get_st _ j hj3)
          have fj := hS2.tot.at_.frozen (1 + j)
          obtain ⟨bj1, bj2⟩ := hst
          clear b1 b2 nb hj hh hit k7' hin7 hac bn1 bn2 HD10
          go_wp2_with fail
          go_region
          have hI5 := (hS2.set (1 + j) (.int .i64 (T.st j + n.glue.str)) (tt_set_st _ _ j hj3)).drew
          have hD5 : (wc.setCell ⟨Z + 1, 1 + j, none⟩ (.int .i64 (T.st j + n.glue.str))).drew.heap[X]? = some (.cells n.arr 69 (0, 0)) := (Below.heap_setCell _ _ _ _ hXZ).trans hD2
          clear hS2 hD2 y0 x8 x10 cj fj bj1 bj2
          generalize (wc.setCell ⟨Z + 1, 1 + j, none⟩ (.int .i64 (T.st j + n.glue.str))).drew = A5 at hI5 hD5 ⊢
          have x9 : A5.cell? ⟨X, 9, none⟩ = some (.int .i64 n.glue.shr) := by rw [cell?_blk' hD5]; rfl
          have x11 : A5.cell? ⟨X, 11, none⟩ = some (.int .i64 (h : Nat)) := by rw [cell?_blk' hD5, ← Hh.out]; rfl
          have ci := hI5.tot.at_.cell (5 + h) _ (tt_get_sh _ h hh3)
          have fi := hI5.tot.at_.frozen (5 + h)
          have hsh2 : (({ T with nat := T.nat + n.glue.nat } : Tt).setS j (T.st j + n.glue.str)).sh h = T.sh h := sh_setS _ _ _ _
          rw [hsh2] at ci
          obtain ⟨bi1, bi2⟩ := hsh
          clear hsh2
          go_wp2_with fail
          go_region
          have hI6 := (hI5.set (5 + h) (.int .i64 (T.sh h + n.glue.shr)) (tt_set_sh _ _ h hh3)).drew
          clear hI5 hD5 x9 x11 ci fi bi1 bi2
          generalize (A5.setCell ⟨Z + 1, 5 + h, none⟩ (.int .i64 (T.sh h + n.glue.shr))).drew = A6 at hI6 ⊢
          have hg : ({ T with nat := T.nat + n.glue.nat } : Tt).glue n.glue = (({ T with nat := T.nat + n.glue.nat } : Tt).setS j (T.st j + n.glue.str)).setH h (T.sh h + n.glue.shr) := by
            unfold Tt.glue
            rw [Hj.out, Hh.out]
            simp only [Int.toNat_natCast]
            rw [show (({ T with nat := T.nat + n.glue.nat } : Tt).setS j (({ T with nat := T.nat + n.glue.nat } : Tt).st j + n.glue.str)) = (({ T with nat := T.nat + n.glue.nat } : Tt).setS j (T.st j + n.glue.str)) from rfl, sh_setS]
            rfl
          rw [← hg, glue_plus, ← Hit.out, ← Hsn.out] at hI6
          have HSe := Lib.hid hI6
          clear hg hI6
          go_wp2_with fail
          go_roundg (s.length + 1 - (i + 1))
          case measure => have := Hin.out; omega
          case rel => exact ⟨i + 1, rfl, Hin.out, by go_num, HSe.out⟩
    · obtain rfl : i = s.length := by omega
      have hi2 : ¬ (s.length : Int) < (s.length : Int) := by omega
      rw [List.take_length] at hS
      have aT := hS.tot.at_.agg
      have tR := hS.tot.res.there
      have HI := Lib.hid hS.tot
      clear hS
      go_wp2_with fail
      refine ret_tt rfl Z 0 (sumA Y s) rfl (HI.out.res.store (U := sumA Y s)).agg rfl ⟨rfl, ?_⟩
      rw [← HZ.out]
      exact Below.setAgg HI.out.below (by rw [HZ.out]; exact Nat.le_refl _) _ _
end Go.Proofs.YtiijpbfkchokaaaGreat
