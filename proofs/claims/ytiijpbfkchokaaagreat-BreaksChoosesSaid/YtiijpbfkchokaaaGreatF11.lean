/-
  The document's side of layer 9: legal breaks (Places).
-/
import Derived.Test.YtiijpbfkchokaaaGreatL6
import Derived.Test.YtiijpbfkchokaaaGreatF5
import Derived.Test.YtiijpbfkchokaaaGreatB24
set_option maxRecDepth 100000
set_option maxHeartbeats 8000000
namespace Go.Proofs.YtiijpbfkchokaaaGreat
open Go.ChangeShapes Go.WideShapes Go.ChangeAt Go.RowKit
attribute [local go_sem ↓] Go.wp_at_zero Go.wp_at_succ
def oneQ (x : Nat) : Option Int → List (Nat × Int)
  | some q => if q < 10000 then [(x, q)] else []
  | none => []
theorem brkF_at {L : List Nd} {P : Pm} {s : List Nat} {k x : Nat} (hk : s[k]? = some x) :
    brkF L P (if k = 0 then none else some (s.getD (k - 1) 0)) (s.drop k) = oneQ x (priceQ L P s k x) ++ brkF L P (if k + 1 = 0 then none else some (s.getD (k + 1 - 1) 0)) (s.drop (k + 1)) := by
  obtain ⟨h1, h2⟩ := List.getElem?_eq_some_iff.1 hk
  rw [List.drop_eq_getElem_cons h1, h2]
  have e1 : (s.drop (k + 1)).head? = s[k + 1]? := by rw [List.head?_drop]
  have e2 : s.getD (k + 1 - 1) 0 = x := by rw [Nat.add_sub_cancel, List.getD_eq_getElem?_getD, hk]; rfl
  rw [if_neg (by omega : ¬ k + 1 = 0), e2]
  unfold priceQ
  rw [← e1]
  rw [brkF]
  cases priceN L P (if k = 0 then none else some (s.getD (k - 1) 0)) x (s.drop (k + 1)).head? with
  | none => rfl
  | some q =>
    simp only [oneQ]
    split <;> rfl
theorem two_grow {w w7 : World} {B : Nat} {e : TypeId} {size : Nat} {v u : Value} {n m c g : Nat} {xs : List Value} (hu : w.ownsRow B e size u n xs) (ne : ∀ q, v.ownBlock = some q → u.ownBlock ≠ some q) (hg : w.grownBy w7 v.ownBlock) (hat : v.ownBlock = some g ∨ g = w.heap.size) :
    w7.ownsRow B e size u n xs ∧ ∀ q, (Value.slice (some ⟨g, 0, none⟩) m c).ownBlock = some q → u.ownBlock ≠ some q := by
  refine ⟨hu.kept hg ?_, fun q hq => ?_⟩
  · cases ho : u.ownBlock with
    | none => exact .inl rfl
    | some q => exact .inr fun e2 => ne q e2.symm ho
  · cases hq
    rcases hat with h1 | h1
    · exact ne g h1
    · intro h2
      have := (hu.lt g h2).2
      omega
structure PlacesPost (w : World) (B : List (Nat × Int)) (e : Ending) (w' : World) : Prop where
  out : ∃ v u, e = .returned (.tuple #[v, u]) ∧ w'.ownsRow w.heap.size 3 1 v B.length (ints (atsI B)) ∧ w'.ownsRow w.heap.size 3 1 u B.length (ints (pensI B)) ∧ ∀ q, v.ownBlock = some q → u.ownBlock ≠ some q
  below : Below w.heap.size w w'
theorem atsI_app (A : List (Nat × Int)) (x : Nat) (q : Int) : ints (atsI (A ++ [(x, q)])) = ints (atsI A) ++ [.int .i64 (x : Nat)] := by simp [atsI, ints]
theorem pensI_app (A : List (Nat × Int)) (x : Nat) (q : Int) : ints (pensI (A ++ [(x, q)])) = ints (pensI A) ++ [.int .i64 q] := by simp [pensI, ints]
theorem q9places (P : Pm) (p0 : Option Addr) (b off cap : Nat) (L : List Nd) (hc : checkC L = 0) (s : List Nat) (hs : Items L 0 s) (w : World) (hN : NIn w p0 b off cap L) :
    Calls Tryz.prog 41 #[.slice p0 L.length cap, .agg P.arr] w (PlacesPost w (brkP L P s)) := by
  have hb0 : Below w.heap.size w (w.alloc (.cells P.arr 27)) := (Below.refl _ _).alloc (Nat.le_refl _) _
  have d0 : PAt (w.alloc (.cells P.arr 27)) w.heap.size P := heap_alloc_new w _
  have HSt : Hid (∀ W, Below w.heap.size w W → Calls Tryz.prog 67 #[.slice p0 L.length cap] W fun e w' => (∃ v, e = .returned v ∧ IRow W v s w') ∧ Below W.heap.size W w') := Lib.hid fun W hb => qstarts p0 b off cap L s W (hN.below hb) hs fun x hx => (items_kind0 hs hc x hx).1
  have HA : Hid (∀ (W : World) (ps : Option Addr) (gi cs k x : Nat), Below w.heap.size w W → IIn W ps gi cs s → s[k]? = some x → Calls Tryz.prog 68 #[.slice p0 L.length cap, .agg P.arr, .slice ps s.length cs, .int .i64 k] W fun e w' => e = .returned (.tuple #[.int .i64 (optV (priceQ L P s k x)).1, .bool (optV (priceQ L P s k x)).2]) ∧ Below W.heap.size W w') := Lib.hid fun W ps gi cs k x hb hI hk => q9at P p0 b off cap L hc s hs ps gi cs k x hk W (hN.below hb) hI
  have hsl := hs.len
  have hL2 := (checkC_zero hc).1
  obtain ⟨i0, hi0', hz0, hz1, hz2'⟩ := info_parts info_intb
  obtain ⟨R, hR⟩ : ∃ R, brkF L P none s = R := ⟨_, rfl⟩
  have HBP : Hid (brkP L P s = R ++ [(L.length, -10000)]) := Lib.hid (by rw [← hR]; rfl)
  rw [HBP.out]
  have HR := Lib.hid hR
  have hRl : R.length ≤ s.length := by
    have h1 := brkP_len (L := L) (P := P) (s := s)
    rw [HBP.out, List.length_append, List.length_singleton] at h1
    omega
  clear hc hs hN hR
  go_enter Tryz.func41, Tryz.ntmps41
  go_upto_region 1 with (fail)
  obtain ⟨X0, hX0⟩ : ∃ X0, w.heap.size = X0 := ⟨_, rfl⟩
  rw [hX0] at d0 ⊢
  generalize w.alloc (.cells P.arr 27) = w1 at hb0 d0 ⊢
  have Hb0 := Lib.hid hb0
  go_upto_region 4 with (go_at_call 67; refine (HSt.out w1 hb0).mono ?_; rintro e w3 ⟨⟨v, rfl, hrow⟩, hb3⟩)
  obtain ⟨ps, gi, cs, rfl, hcs, hII⟩ := irow_cap hrow
  have d3 := d0.still hb3
  have H3 := Lib.hid (And.intro hII (And.intro d3 (hb0.trans (hb3.mono hb0.size))))
  have HX0 := Lib.hid hX0
  clear hrow hb0 hb3 hII d0 d3 HSt hX0
  go_wp2_with fail
  go_loopg [6, 7, 9] (s.length + 1) (fun gg t6 t7 t9 wr => ∃ (k : Nat) (A : List (Nat × Int)), gg = s.length + 1 - k ∧ k ≤ s.length ∧ t9 = .int .i64 k ∧ A ++ brkF L P (if k = 0 then none else some (s.getD (k - 1) 0)) (s.drop k) = R ∧ A.length ≤ k ∧ wr.ownsRow w3.heap.size 3 1 t6 A.length (ints (atsI A)) ∧ wr.ownsRow w3.heap.size 3 1 t7 A.length (ints (pensI A)) ∧ (∀ q, t6.ownBlock = some q → t7.ownBlock ≠ some q) ∧ Below w3.heap.size w3 wr)
  case atStart => exact ⟨0, [], rfl, Nat.zero_le _, rfl, by rw [if_pos rfl, List.drop_zero]; exact HR.out, Nat.le_refl _, World.ownsRow_nil _ _ _ _, World.ownsRow_nil _ _ _ _, (fun q hq => by cases hq), Below.refl _ _⟩
  case round =>
    clear HR
    obtain ⟨k, A, rfl, hk, rfl, hA, hAk, hv, hu, hne, hb⟩ := hrel
    have hk0 : (0 : Int) ≤ (k : Int) := by omega
    by_cases hlt : k < s.length
    · have hk1 : (k : Int) < (s.length : Int) := by omega
      have hlt2 : decide (k < s.length) = true := decide_eq_true hlt
      obtain ⟨x, hx⟩ : ∃ x, s[k]? = some x := ⟨_, List.getElem?_eq_getElem hlt⟩
      have hIr := H3.out.1.below hb
      have hbw := H3.out.2.2.trans (hb.mono H3.out.2.2.size)
      have HAt := Lib.hid (HA.out wr ps gi cs k x hbw hIr hx)
      rw [brkF_at hx] at hA
      have ap : agg? wr X0 0 24 = some P.arr := by rw [agg?_blk' (H3.out.2.1.still hb) 0 24 (by rw [Pm.size_arr]; decide)]; simp [Pm.arr, Pm.cells]
      obtain ⟨r, hr⟩ : ∃ r, priceQ L P s k x = r := ⟨_, rfl⟩
      rw [hr] at HAt hA
      have H := Lib.hid (And.intro hv (And.intro hu (And.intro hne (And.intro hb hx))))
      obtain ⟨pv, cv, rfl⟩ := owns_form hv
      obtain ⟨pu, cu, rfl⟩ := owns_form hu
      have HAk := Lib.hid hA
      clear hv hu hne hb hx hIr hbw hr hA hlt
      go_upto_region 8 with (go_at_call 68; refine HAt.out.mono ?_; clear HAt; rintro e w4 ⟨rfl, hb4⟩)
      clear ap
      have H4 : Hid (w4.ownsRow w3.heap.size 3 1 (.slice pv A.length cv) A.length (ints (atsI A)) ∧ w4.ownsRow w3.heap.size 3 1 (.slice pu A.length cu) A.length (ints (pensI A)) ∧ (∀ q, (Value.slice pv A.length cv).ownBlock = some q → (Value.slice pu A.length cu).ownBlock ≠ some q) ∧ Below w3.heap.size w3 w4 ∧ s[k]? = some x) := Lib.hid ⟨ownsRow_below H.out.1 hb4, ownsRow_below H.out.2.1 hb4, H.out.2.2.1, H.out.2.2.2.1.trans (hb4.mono H.out.2.2.2.1.size), H.out.2.2.2.2⟩
      clear H hb4
      have skip : Hid (oneQ x r = [] → A ++ brkF L P (if k + 1 = 0 then none else some (s.getD (k + 1 - 1) 0)) (s.drop (k + 1)) = R) := Lib.hid fun h => by
        have := HAk.out
        rw [h, List.nil_append] at this
        exact this
      cases r with
      | none =>
        have hA2 := Lib.hid (skip.out rfl)
        clear skip HAk
        simp only [optV]
        go_wp2_with fail
        go_roundg (s.length + 1 - (k + 1))
        case measure => omega
        case rel => exact ⟨k + 1, A, rfl, by omega, by go_num, hA2.out, by omega, H4.out.1, H4.out.2.1, H4.out.2.2.1, H4.out.2.2.2.1⟩
      | some q =>
        simp only [optV]
        by_cases hq : q < 10000
        · have hq2 : decide (q < 10000) = true := decide_eq_true hq
          have hA2 : Hid ((A ++ [(x, q)]) ++ brkF L P (if k + 1 = 0 then none else some (s.getD (k + 1 - 1) 0)) (s.drop (k + 1)) = R) := Lib.hid (by
            have := HAk.out
            rw [show oneQ x (some q) = [(x, q)] from if_pos hq] at this
            rw [List.append_assoc]
            exact this)
          have hI4 := H3.out.1.below H4.out.2.2.2.1
          obtain ⟨h1, h2⟩ := List.getElem?_eq_some_iff.1 H4.out.2.2.2.2
          have ck := hI4.at_ k h1
          rw [h2] at ck
          obtain rfl := hI4.hp (by intro e; rw [e] at h1; simp at h1)
          have Hrow := Lib.hid (H4.out.1.alloc (.cells #[.int .i64 (x : Nat)] 3))
          have hbase : w3.heap.size ≤ (w4.alloc (.cells #[.int .i64 (x : Nat)] 3)).heap.size := by rw [World.size_alloc]; have := H4.out.2.2.2.1.size; omega
          have H1 : Hid (∀ u ∈ [Value.int .i64 (x : Nat)], u.oneCell' = true) := Lib.hid (by simp [Value.oneCell'])
          clear skip HAk hI4 h1 h2 hq
          go_upto_region 10 with (at_builtin; refine wpList_append_lies _ rfl (.tmp 33) (.tmp 38) 41 rfl w3.heap.size 3 i0 (.int .i64 0) 1 8 Tryz.underlying41 hi0' hz0 hz1 hz2' rfl (by decide) (.slice pv A.length cv) A.length (ints (atsI A)) rfl Hrow.out ⟨w4.heap.size, 0, none⟩ 1 1 [.int .i64 (x : Nat)] rfl rfl (World.news_of_block (cs := #[.int .i64 (x : Nat)]) (heap_alloc_new _ _)) H1.out (by decide) (by unfold maxLen; omega) (by omega) hbase _ rfl ?_; intro g5 cap5 w5 hown5 hgrow5 hat5 hlt5)
          have hbb5 : Below w3.heap.size w3 w5 := (H4.out.2.2.2.1.trans (((Below.refl w4.heap.size w4).alloc (Nat.le_refl _) (.cells #[.int .i64 (x : Nat)] 3)).mono H4.out.2.2.2.1.size)).trans (grown_below hgrow5 hbase fun q hq => (H4.out.1.lt q hq).1)
          have h2g := two_grow (m := A.length + 1) (c := cap5) (H4.out.2.1.alloc (.cells #[.int .i64 (x : Nat)] 3)) H4.out.2.2.1 hgrow5 hat5
          have H5 := Lib.hid (And.intro hown5 (And.intro h2g.1 (And.intro h2g.2 hbb5)))
          have Hrow5 := Lib.hid (h2g.1.alloc (.cells #[.int .i64 q] 3))
          have hbase5 : w3.heap.size ≤ (w5.alloc (.cells #[.int .i64 q] 3)).heap.size := by rw [World.size_alloc]; have := hbb5.size; omega
          have H1q : Hid (∀ u ∈ [Value.int .i64 q], u.oneCell' = true) := Lib.hid (by simp [Value.oneCell'])
          clear hown5 hgrow5 hat5 hlt5 h2g hbb5 Hrow H1 hbase ck
          go_upto_region 6 with (at_builtin; refine wpList_append_lies _ rfl (.tmp 40) (.tmp 42) 41 rfl w3.heap.size 3 i0 (.int .i64 0) 1 8 Tryz.underlying41 hi0' hz0 hz1 hz2' rfl (by decide) (.slice pu A.length cu) A.length (ints (pensI A)) rfl Hrow5.out ⟨w5.heap.size, 0, none⟩ 1 1 [.int .i64 q] rfl rfl (World.news_of_block (cs := #[.int .i64 q]) (heap_alloc_new _ _)) H1q.out (by decide) (by unfold maxLen; omega) (by omega) hbase5 _ rfl ?_; intro g6 cap6 w6 hown6 hgrow6 hat6 hlt6)
          have hbb6 : Below w3.heap.size w3 w6 := (H5.out.2.2.2.trans (((Below.refl w5.heap.size w5).alloc (Nat.le_refl _) (.cells #[.int .i64 q] 3)).mono H5.out.2.2.2.size)).trans (grown_below hgrow6 hbase5 fun q hq => (H5.out.2.1.lt q hq).1)
          have h2h := two_grow (m := A.length + 1) (c := cap6) (H5.out.1.alloc (.cells #[.int .i64 q] 3)) (fun z hz hz2 => H5.out.2.2.1 z hz2 hz) hgrow6 hat6
          have H6 : Hid (w6.ownsRow w3.heap.size 3 1 (.slice (some ⟨g5, 0, none⟩) (A.length + 1) cap5) (A ++ [(x, q)]).length (ints (atsI (A ++ [(x, q)]))) ∧ w6.ownsRow w3.heap.size 3 1 (.slice (some ⟨g6, 0, none⟩) (A.length + 1) cap6) (A ++ [(x, q)]).length (ints (pensI (A ++ [(x, q)]))) ∧ (∀ z, (Value.slice (some ⟨g5, 0, none⟩) (A.length + 1) cap5).ownBlock = some z → (Value.slice (some ⟨g6, 0, none⟩) (A.length + 1) cap6).ownBlock ≠ some z) ∧ Below w3.heap.size w3 w6) := Lib.hid ⟨by rw [List.length_append, List.length_singleton, atsI_app]; exact h2h.1, by rw [List.length_append, List.length_singleton, pensI_app]; exact hown6, fun z hz hz2 => h2h.2 z hz2 hz, hbb6⟩
          clear hown6 hgrow6 hat6 hlt6 h2h hbb6 Hrow5 H1q hbase5 H5 H4
          go_wp2_with fail
          go_roundg (s.length + 1 - (k + 1))
          case measure => omega
          case rel => exact ⟨k + 1, A ++ [(x, q)], rfl, by omega, by go_num, hA2.out, by rw [List.length_append, List.length_singleton]; omega, H6.out.1, H6.out.2.1, H6.out.2.2.1, H6.out.2.2.2⟩
        · have hq2 : decide (q < 10000) = false := decide_eq_false hq
          have hA2 := Lib.hid (skip.out (if_neg hq))
          clear skip HAk hq
          go_wp2_with fail
          go_roundg (s.length + 1 - (k + 1))
          case measure => omega
          case rel => exact ⟨k + 1, A, rfl, by omega, by go_num, hA2.out, by omega, H4.out.1, H4.out.2.1, H4.out.2.2.1, H4.out.2.2.2.1⟩
    · have hkn : k = s.length := by omega
      have hlt2 : decide (k < s.length) = false := decide_eq_false hlt
      have hAR : A = R := by
        rw [List.drop_eq_nil_of_le (by omega : s.length ≤ k)] at hA
        rw [← hA]
        simp [brkF]
      subst hAR
      have hbase : w3.heap.size ≤ wr.heap.size := hb.size
      have H := Lib.hid (And.intro hv (And.intro hu (And.intro hne hb)))
      obtain ⟨pv, cv, rfl⟩ := owns_form hv
      obtain ⟨pu, cu, rfl⟩ := owns_form hu
      have Hrow := Lib.hid (hv.alloc (.cells #[.int .i64 (L.length : Nat)] 3))
      have hbase2 : w3.heap.size ≤ (wr.alloc (.cells #[.int .i64 (L.length : Nat)] 3)).heap.size := by rw [World.size_alloc]; omega
      have H1 : Hid (∀ u ∈ [Value.int .i64 (L.length : Nat)], u.oneCell' = true) := Lib.hid (by simp [Value.oneCell'])
      have H1q : Hid (∀ u ∈ [Value.int .i64 (-10000)], u.oneCell' = true) := Lib.hid (by simp [Value.oneCell'])
      clear hv hu hne hb hA hlt hkn
      go_wp2_with (first
        | (at_builtin; refine wpList_append_lies _ rfl (.tmp 44) (.tmp 47) 41 rfl w3.heap.size 3 i0 (.int .i64 0) 1 8 Tryz.underlying41 hi0' hz0 hz1 hz2' rfl (by decide) (.slice pv A.length cv) A.length (ints (atsI A)) rfl Hrow.out ⟨wr.heap.size, 0, none⟩ 1 1 [.int .i64 (L.length : Nat)] rfl rfl (World.news_of_block (cs := #[.int .i64 (L.length : Nat)]) (heap_alloc_new _ _)) H1.out (by decide) (by unfold maxLen; omega) (by omega) hbase2 _ rfl ?_; intro g5 cap5 w5 hown5 hgrow5 hat5 hlt5; have hbb5 : Below w3.heap.size w3 w5 := (H.out.2.2.2.trans (((Below.refl wr.heap.size wr).alloc (Nat.le_refl _) (.cells #[.int .i64 (L.length : Nat)] 3)).mono H.out.2.2.2.size)).trans (grown_below hgrow5 hbase2 fun q hq => (H.out.1.lt q hq).1); have h2g := two_grow (m := A.length + 1) (c := cap5) (H.out.2.1.alloc (.cells #[.int .i64 (L.length : Nat)] 3)) H.out.2.2.1 hgrow5 hat5; have H5 := Lib.hid (And.intro hown5 (And.intro h2g.1 (And.intro h2g.2 hbb5))); have Hrow5 := Lib.hid (h2g.1.alloc (.cells #[.int .i64 (-10000)] 3)); have hbase5 : w3.heap.size ≤ (w5.alloc (.cells #[.int .i64 (-10000)] 3)).heap.size := (by rw [World.size_alloc]; have := hbb5.size; omega); clear hown5 hgrow5 hat5 hlt5 h2g hbb5)
        | (at_builtin; refine wpList_append_lies _ rfl (.tmp 49) (.tmp 50) 41 rfl w3.heap.size 3 i0 (.int .i64 0) 1 8 Tryz.underlying41 hi0' hz0 hz1 hz2' rfl (by decide) (.slice pu A.length cu) A.length (ints (pensI A)) rfl Hrow5.out ⟨w5.heap.size, 0, none⟩ 1 1 [.int .i64 (-10000)] rfl rfl (World.news_of_block (cs := #[.int .i64 (-10000)]) (heap_alloc_new _ _)) H1q.out (by decide) (by unfold maxLen; omega) (by omega) hbase5 _ rfl ?_; intro g6 cap6 w6 hown6 hgrow6 hat6 hlt6))
      have hbb6 : Below w3.heap.size w3 w6 := (H5.out.2.2.2.trans (((Below.refl w5.heap.size w5).alloc (Nat.le_refl _) (.cells #[.int .i64 (-10000)] 3)).mono H5.out.2.2.2.size)).trans (grown_below hgrow6 hbase5 fun q hq => (H5.out.2.1.lt q hq).1)
      have h2h := two_grow (m := A.length + 1) (c := cap6) (H5.out.1.alloc (.cells #[.int .i64 (-10000)] 3)) (fun z hz hz2 => H5.out.2.2.1 z hz2 hz) hgrow6 hat6
      have hsz : w.heap.size ≤ w3.heap.size := H3.out.2.2.size
      go_ret2
      refine ⟨⟨_, _, rfl, ?_, ?_, fun z hz hz2 => h2h.2 z hz2 hz⟩, H3.out.2.2.trans (hbb6.mono hsz)⟩
      · rw [List.length_append, List.length_singleton, atsI_app]
        exact ownsRow_base h2h.1 hsz
      · rw [List.length_append, List.length_singleton, pensI_app]
        exact ownsRow_base hown6 hsz
end Go.Proofs.YtiijpbfkchokaaaGreat

namespace Go.Proofs.YtiijpbfkchokaaaGreat
open Go.ChangeShapes Go.WideShapes Go.ChangeAt Go.RowKit
attribute [local go_sem ↓] Go.wp_at_zero Go.wp_at_succ
theorem q9broad (P : Pm) (g off : Nat) (S : List Sh2) (hP : PmB P) (line : Int) (hl : 1 ≤ line ∧ line ≤ 9223372036854775807) (w : World) (hS : ShIn w P g off S) :
    Calls Tryz.prog 42 #[.agg P.arr, .int .i64 line] w fun e w' => e = .returned (.tuple #[.int .i64 (widP P S line).1, .int .i64 (widP P S line).2]) ∧ Below w.heap.size w w' := by
  have hb0 : Below w.heap.size w (w.alloc (.cells P.arr 27)) := (Below.refl _ _).alloc (Nat.le_refl _) _
  have d0 := heap_alloc_new w (.cells P.arr 27)
  have hS1 := hS.below hb0
  have hn := hS.n
  have hlen := hS.len
  have hcap := hS.cap
  obtain ⟨p1, p2, p3⟩ := hP
  clear hS
  go_enter Tryz.func42, Tryz.ntmps42
  go_upto_region 1 with (fail)
  generalize w.alloc (.cells P.arr 27) = w1 at hb0 d0 hS1 ⊢
  have x20 : w1.cell? ⟨w.heap.size, 20, none⟩ = some (.int .i64 P.hsize) := by rw [cell?_blk' d0]; rfl
  have x21 : w1.cell? ⟨w.heap.size, 21, none⟩ = some (.int .i64 P.hangi) := by rw [cell?_blk' d0]; rfl
  have x22 : w1.cell? ⟨w.heap.size, 22, none⟩ = some (.int .i64 P.hanga) := by rw [cell?_blk' d0]; rfl
  have x23 : w1.cell? ⟨w.heap.size, 23, none⟩ = some (.slice P.shA P.shN P.shC) := by rw [cell?_blk' d0]; rfl
  rw [hn] at x23
  clear d0 hn
  by_cases hS0 : S = []
  · have HP : Hid (widP P S line = if P.hangi = 0 ∨ (0 ≤ P.hanga ∧ line ≤ P.hanga) ∨ (P.hanga < 0 ∧ -P.hanga < line) then (P.hsize, 0) else if P.hangi < 0 then (P.hsize + P.hangi, 0) else (P.hsize - P.hangi, P.hangi)) := Lib.hid (if_pos hS0)
    obtain ⟨c, hc⟩ : ∃ c, (!(P.hangi == 0) && ((decide (0 ≤ P.hanga) && decide (P.hanga < line)) || (decide (P.hanga < 0) && decide (line ≤ -P.hanga)))) = c := ⟨_, rfl⟩
    have hcc : c = true ↔ ¬ (P.hangi = 0 ∨ (0 ≤ P.hanga ∧ line ≤ P.hanga) ∨ (P.hanga < 0 ∧ -P.hanga < line)) := by
      rw [← hc]
      simp only [Bool.and_eq_true, Bool.or_eq_true, decide_eq_true_eq, Bool.not_eq_true', beq_eq_false_iff_ne, ne_eq]
      omega
    have Hcc := Lib.hid hcc
    have Hc := Lib.hid hc
    subst hS0
    simp only [List.length_nil] at x23
    have hw1 : IntKind.i64.wrap (-P.hanga) = -P.hanga := Go.IntWalk.i64_in _ (by omega)
    clear hS1 hlen hcap hcc hc
    go_upto_region 4 with (fail)
    go_cut [50] from 25 to 50 (fun s50 wx => s50 = .bool c ∧ wx = w1)
    case first =>
      have h9 := Hc.out
      cases hA : (P.hangi == 0)
      · rw [hA] at h9
        have hA2 : (P.hangi != 0) = true := by simpa using hA
        cases hB : decide (0 ≤ P.hanga)
        · have hE : decide (P.hanga < 0) = true := decide_eq_true (by have := of_decide_eq_false hB; omega)
          rw [hB, hE] at h9
          cases hF : decide (line ≤ -P.hanga)
          · rw [hF] at h9
            obtain rfl : false = c := h9
            go_wp2_with fail
            go_meet
            exact ⟨rfl, rfl⟩
          · rw [hF] at h9
            obtain rfl : true = c := h9
            go_wp2_with fail
            go_meet
            exact ⟨rfl, rfl⟩
        · have hE : decide (P.hanga < 0) = false := decide_eq_false (by have := of_decide_eq_true hB; omega)
          rw [hB, hE] at h9
          cases hF : decide (P.hanga < line)
          · rw [hF] at h9
            obtain rfl : false = c := h9
            go_wp2_with fail
            go_meet
            exact ⟨rfl, rfl⟩
          · rw [hF] at h9
            obtain rfl : true = c := h9
            go_wp2_with fail
            go_meet
            exact ⟨rfl, rfl⟩
      · rw [hA] at h9
        have hA2 : (P.hangi != 0) = false := by simpa using hA
        obtain rfl : false = c := h9
        go_wp2_with fail
        go_meet
        exact ⟨rfl, rfl⟩
    case rest =>
      obtain ⟨rfl, rfl⟩ := hcut
      clear Hc hw1 x22 x23
      cases hcb : c
      · subst hcb
        have HR : Hid (widP P [] line = (P.hsize, 0)) := Lib.hid (by
          rw [HP.out, if_pos]
          have := Hcc.out
          by_cases h : (P.hangi = 0 ∨ (0 ≤ P.hanga ∧ line ≤ P.hanga) ∨ (P.hanga < 0 ∧ -P.hanga < line))
          · exact h
          · exact absurd (this.2 h) (by decide))
        clear HP Hcc
        go_wp2_with fail
        go_ret2
        exact ⟨by rw [HR.out]; rfl, hb0⟩
      · subst hcb
        have hn1 := Hcc.out.1 rfl
        have HR := Lib.hid (HP.out.trans (if_neg hn1))
        have hi0 : P.hangi ≠ 0 := fun e => hn1 (.inl e)
        clear HP Hcc hn1
        go_upto_region 5 with (fail)
        have hbd := hb0.drew
        by_cases h3 : P.hangi < 0
        · have HV := Lib.hid (HR.out.trans (if_pos h3))
          have k1 : P.hangi < -P.hangi := by omega
          have hw1 : IntKind.i64.wrap (-P.hangi) = -P.hangi := Go.IntWalk.i64_in _ (by omega)
          have hw2 : IntKind.i64.wrap (P.hsize - -P.hangi) = P.hsize + P.hangi := by rw [Go.IntWalk.i64_in _ (by omega)]; omega
          have hw3 : IntKind.i64.wrap (P.hsize + P.hangi) = P.hsize + P.hangi := Go.IntWalk.i64_in _ (by omega)
          clear HR hi0
          refine Rest.region follows ?_
          refine Rest.tame 14 (fun W => wc.drew = W) (by kernel_rfl) rfl ?_
          simp only [Nat.reduceSub, List.drop_zero, List.take_succ_cons, List.take_zero]
          have y20 : wc.drew.cell? ⟨w.heap.size, 20, none⟩ = some (.int .i64 P.hsize) := x20
          have y21 : wc.drew.cell? ⟨w.heap.size, 21, none⟩ = some (.int .i64 P.hangi) := x21
          iterate 14 first
            | (refine TW.cons_n rfl _ (by intro wT hT R hR K hK; simp only [Act.put, lsA, lsB, lsC] at hK; subst hT; go_step; exact hK _ _ (hR _ rfl)) ?_; try simp only [Act.put, lsA, lsB, lsC])
          refine TW.nil fun w9 h9 => ?_
          subst h9
          refine Rest.done ?_
          go_wp2_with fail
          go_ret2
          exact ⟨by rw [HV.out]; rfl, hbd⟩
        · have HV := Lib.hid (HR.out.trans (if_neg h3))
          have k1 : ¬ P.hangi < -P.hangi := by omega
          have hw1 : IntKind.i64.wrap (-P.hangi) = -P.hangi := Go.IntWalk.i64_in _ (by omega)
          have hw2 : IntKind.i64.wrap (P.hsize - P.hangi) = P.hsize - P.hangi := Go.IntWalk.i64_in _ (by omega)
          clear HR hi0
          refine Rest.region follows ?_
          refine Rest.tame 14 (fun W => wc.drew = W) (by kernel_rfl) rfl ?_
          simp only [Nat.reduceSub, List.drop_zero, List.take_succ_cons, List.take_zero]
          have y20 : wc.drew.cell? ⟨w.heap.size, 20, none⟩ = some (.int .i64 P.hsize) := x20
          have y21 : wc.drew.cell? ⟨w.heap.size, 21, none⟩ = some (.int .i64 P.hangi) := x21
          iterate 14 first
            | (refine TW.cons_n rfl _ (by intro wT hT R hR K hK; simp only [Act.put, lsA, lsB, lsC] at hK; subst hT; go_step; exact hK _ _ (hR _ rfl)) ?_; try simp only [Act.put, lsA, lsB, lsC])
          refine TW.nil fun w9 h9 => ?_
          subst h9
          refine Rest.done ?_
          go_wp2_with fail
          go_ret2
          exact ⟨by rw [HV.out]; rfl, hbd⟩
  · have hpos : 0 < S.length := List.length_pos_iff.2 hS0
    obtain ⟨k, hk⟩ : ∃ k : Nat, (min line S.length).toNat - 1 = k := ⟨_, rfl⟩
    have hk1 : k < S.length := by omega
    have hk2 : min line (S.length : Int) - 1 = (k : Int) := by omega
    have HP : Hid (widP P S line = (S[k].b, S[k].a)) := Lib.hid (by unfold widP; rw [if_neg hS0, hk]; simp [List.getD, List.getElem?_eq_getElem hk1])
    have xs := hS1.at_ k hk1
    have hA := hS1.hp hS0
    rw [hA] at x23
    generalize S[k] = q at xs HP
    have hw1 : Hid (k < S.length ∧ min line (S.length : Int) - 1 = (k : Int)) := Lib.hid ⟨hk1, hk2⟩
    clear hS1 hA hk hk2 hS0
    by_cases hle : (S.length : Int) < line
    · obtain rfl : k = S.length - 1 := by have := hw1.out.2; omega
      clear hw1
      go_upto_region 3 with (fail)
      have dq := heap_alloc_new w1 (.cells q.arr 108)
      have y0 : (w1.alloc (.cells q.arr 108)).cell? ⟨w1.heap.size, 0, none⟩ = some (.int .i64 q.a) := by rw [cell?_blk' dq]; rfl
      have y1 : (w1.alloc (.cells q.arr 108)).cell? ⟨w1.heap.size, 1, none⟩ = some (.int .i64 q.b) := by rw [cell?_blk' dq]; rfl
      have hb2 : Below w.heap.size w (w1.alloc (.cells q.arr 108)) := hb0.alloc hb0.size _
      clear dq xs x20 x21 x22 x23 hb0
      generalize w1.alloc (.cells q.arr 108) = w2 at y0 y1 hb2 ⊢
      go_quiet (fail)
      go_wp2_with fail
      go_ret2
      exact ⟨by rw [HP.out]; rfl, below_drewN hb2 _⟩
    · obtain rfl : k = line.toNat - 1 := by have := hw1.out.2; omega
      clear hw1
      go_upto_region 3 with (fail)
      have dq := heap_alloc_new w1 (.cells q.arr 108)
      have y0 : (w1.alloc (.cells q.arr 108)).cell? ⟨w1.heap.size, 0, none⟩ = some (.int .i64 q.a) := by rw [cell?_blk' dq]; rfl
      have y1 : (w1.alloc (.cells q.arr 108)).cell? ⟨w1.heap.size, 1, none⟩ = some (.int .i64 q.b) := by rw [cell?_blk' dq]; rfl
      have hb2 : Below w.heap.size w (w1.alloc (.cells q.arr 108)) := hb0.alloc hb0.size _
      clear dq xs x20 x21 x22 x23 hb0
      generalize w1.alloc (.cells q.arr 108) = w2 at y0 y1 hb2 ⊢
      go_quiet (fail)
      go_wp2_with fail
      go_ret2
      exact ⟨by rw [HP.out]; rfl, below_drewN hb2 _⟩
end Go.Proofs.YtiijpbfkchokaaaGreat

namespace Go.Proofs.YtiijpbfkchokaaaGreat
open Go.ChangeShapes Go.WideShapes Go.ChangeAt Go.RowKit
attribute [local go_sem ↓] Go.wp_at_zero Go.wp_at_succ
theorem q9across (n : Nd) (w : World) : Calls Tryz.prog 93 #[.agg n.arr] w fun e w' => e = .returned (.int .i64 (acN n)) ∧ Below w.heap.size w w' := by
  cases h0 : (n.kind == 1)
  rotate_left
  · go_enter Tryz.func93, Tryz.ntmps93
    go_wp2_with fail
    go_ret
    exact ⟨ret_int (by simp [acN, acrossK, h0]), (Below.refl _ _).alloc (Nat.le_refl _) _⟩
  cases h1 : (n.kind == 2)
  rotate_left
  · go_enter Tryz.func93, Tryz.ntmps93
    go_wp2_with fail
    go_ret
    exact ⟨ret_int (by simp [acN, acrossK, h1]), (Below.refl _ _).alloc (Nat.le_refl _) _⟩
  cases h2 : (n.kind == 3)
  rotate_left
  · go_enter Tryz.func93, Tryz.ntmps93
    go_wp2_with fail
    go_ret
    exact ⟨ret_int (by simp [acN, acrossK, h2]), (Below.refl _ _).alloc (Nat.le_refl _) _⟩
  cases h3 : (n.kind == 4)
  rotate_left
  · go_enter Tryz.func93, Tryz.ntmps93
    go_wp2_with fail
    go_ret
    exact ⟨ret_int (by simp [acN, acrossK, h3]), (Below.refl _ _).alloc (Nat.le_refl _) _⟩
  cases h4 : (n.kind == 5)
  rotate_left
  · go_enter Tryz.func93, Tryz.ntmps93
    go_wp2_with fail
    go_ret
    exact ⟨ret_int (by simp [acN, acrossK, h4]), (Below.refl _ _).alloc (Nat.le_refl _) _⟩
  cases h5 : (n.kind == 8)
  rotate_left
  · go_enter Tryz.func93, Tryz.ntmps93
    go_wp2_with fail
    go_ret
    exact ⟨ret_int (by simp [acN, acrossK, h5]), (Below.refl _ _).alloc (Nat.le_refl _) _⟩
  cases h6 : (n.kind == 15)
  rotate_left
  · go_enter Tryz.func93, Tryz.ntmps93
    go_wp2_with fail
    go_ret
    exact ⟨ret_int (by simp [acN, acrossK, h6]), (Below.refl _ _).alloc (Nat.le_refl _) _⟩
  cases h7 : (n.kind == 16)
  rotate_left
  · go_enter Tryz.func93, Tryz.ntmps93
    go_wp2_with fail
    go_ret
    exact ⟨ret_int (by simp [acN, acrossK, h7]), (Below.refl _ _).alloc (Nat.le_refl _) _⟩
  cases h8 : (n.kind == 7)
  · go_enter Tryz.func93, Tryz.ntmps93
    go_wp2_with fail
    go_ret
    exact ⟨ret_int (by simp [acN, acrossK, h0, h1, h2, h3, h4, h5, h6, h7, h8]), (Below.refl _ _).alloc (Nat.le_refl _) _⟩
  · go_enter Tryz.func93, Tryz.ntmps93
    go_wp2_with fail
    go_ret
    exact ⟨ret_int (by simp [acN, acrossK, h0, h1, h2, h3, h4, h5, h6, h7, h8]), (Below.refl _ _).alloc (Nat.le_refl _) _⟩
theorem q9disc (L : List Nd) (b off cap : Nat) (p0 : Option Addr) (x : Nat) (hx : x ≤ 9000000) (w : World) (h : NIn w p0 b off cap L) :
    Calls Tryz.prog 79 #[.slice p0 L.length cap, .int .i64 x] w fun e w' => e = .returned (.bool (discB L x)) ∧ w = w' := by
  have hx0 : (0 : Int) ≤ (x : Int) := by omega
  by_cases hlt : x < L.length
  · have hx2 : (x : Int) < (L.length : Int) := by omega
    have c0 : w.cell? ⟨b, off + x * 19, none⟩ = some (.int .i64 (nth L x).kind) := agg_cell (h.nth hlt) 0 _ (Nd.get0 _)
    obtain rfl := h.at_ hlt
    have HD := Lib.hid (show discB L x = ((nth L x).kind == 10) by simp [discB, hlt])
    have hlen := h.len
    clear h
    go_enter Tryz.func79, Tryz.ntmps79
    go_wp2_with fail
    go_ret
    exact ⟨by rw [HD.out]; rfl, rfl⟩
  · have hx2 : ¬ (x : Int) < (L.length : Int) := by omega
    have HD := Lib.hid (show discB L x = false by simp [discB, hlt])
    clear h
    go_enter Tryz.func79, Tryz.ntmps79
    go_wp2_with fail
    go_ret
    exact ⟨by rw [HD.out]; rfl, rfl⟩
end Go.Proofs.YtiijpbfkchokaaaGreat
