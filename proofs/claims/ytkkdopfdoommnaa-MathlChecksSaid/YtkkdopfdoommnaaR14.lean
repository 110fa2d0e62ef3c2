/-
  Layer 20, the document's side: Check, Classes; the program's Check.
-/
import Derived.Test.YtkkdopfdoommnaaR13
import Derived.Test.YtkkdopfdoommnaaM15
namespace Go.Proofs.Ytkkdopfdoommnaa
open Go.ChangeShapes Go.WideShapes Go.ChangeAt Go.RowKit
attribute [local go_sem ↓] Go.wp_at_zero Go.wp_at_succ

theorem flat_rits : ∀ (its : List RIt) (i : Nat) (hi : i < its.length), ((its.flatMap RIt.cells).drop (i * 26)).take 26 = its[i].cells
  | it :: r, 0, _ => by
    rw [Nat.zero_mul, List.drop_zero, List.flatMap_cons, List.getElem_cons_zero]
    exact List.take_left' rfl
  | it :: r, i + 1, hi => by
    rw [List.flatMap_cons, show (i + 1) * 26 = it.cells.length + i * 26 by rw [show it.cells.length = 26 from rfl]; omega, List.drop_append, List.getElem_cons_succ]
    rw [List.drop_eq_nil_of_le (by omega), List.nil_append, Nat.add_sub_cancel_left]
    exact flat_rits r i (by simpa using hi)
theorem rits_seen {w : World} {B : Nat} {v : Value} {its : List RIt} (h : w.ownsRow B 152 26 v its.length (its.flatMap RIt.cells)) :
    ∃ (p : Option Addr) (g cap : Nat), v = .slice p its.length cap ∧ its.length ≤ cap ∧ (0 < its.length → p = some ⟨g, 0, none⟩) ∧ (0 < its.length → g < w.heap.size) ∧ ∀ i (hi : i < its.length), agg? w g (i * 26) 26 = some its[i].arr := by
  obtain ⟨hl, ⟨rfl, h0⟩ | ⟨g, cap, cur, rfl, hb, hg, hn, hm, hs, ht⟩⟩ := h
  · exact ⟨none, 0, 0, by rw [h0], by omega, by omega, by omega, fun i hi => by omega⟩
  · refine ⟨_, g, cap, rfl, hn, fun _ => rfl, fun _ => (Array.getElem?_eq_some_iff.1 hg).1, fun i hi => ?_⟩
    have h1 : i * 26 + 26 ≤ its.length * 26 := by omega
    have h2 : its.length * 26 ≤ cap * 26 := Nat.mul_le_mul_right _ hn
    unfold agg?
    rw [hg]
    simp only
    rw [if_pos (by omega)]
    congr 1
    have e := flat_rits its i hi
    rw [← ht, List.drop_take, List.take_take, Nat.min_eq_left (by omega)] at e
    show cur.extract (i * 26) (i * 26 + 26) = (its[i]).cells.toArray
    rw [← e]
    apply Array.ext'
    simp [List.take_drop]
theorem RSigns.items {w : World} {p : Option Addr} {b off cap : Nat} {L : List Sn} (h : RSigns w p b off cap L) (hl : L.length ≤ 2000) : Calls Try.prog 57 #[.slice p L.length cap] w (ItemsPost w L) :=
  ritems_any p b off cap L w h.hp h.hb h.sg hl h.cap'
set_option maxRecDepth 100000 in
set_option maxHeartbeats 2000000 in
theorem rcheck_any (p : Option Addr) (b off cap : Nat) (L : List Sn) (w : World) (h : RSigns w p b off cap L) :
    Calls Try.prog 26 #[.slice p L.length cap] w fun e w' => e = .returned (.int .i64 (readCode L)) ∧ Below w.heap.size w w' := by
  have hlen := h.len
  by_cases hbig : 2000 < L.length
  · have hb' : (2000 : Int) < (L.length : Int) := by omega
    have Hc := Lib.hid (show readCode L = 6 by unfold readCode; rw [if_pos hbig])
    go_enter Try.func26, Try.ntmps26
    go_wp2_with fail
    go_ret
    exact ⟨ret_int Hc.out.symm, .refl _ _⟩
  · have hb' : (L.length : Int) ≤ (2000 : Int) := by omega
    have HI := Lib.hid (h.items (by omega))
    have H0 := Lib.hid (show okB (readP L) = true → readCode L = 0 by intro h; unfold readCode; rw [if_neg hbig, if_pos (show (readP L).isSome = true from h)])
    have H1 := Lib.hid (show okB (readP L) = false → readCode L = 210 by intro h; unfold readCode; rw [if_neg hbig, if_neg (by rw [show (readP L).isSome = okB (readP L) from rfl, h]; simp)])
    clear hbig h
    go_enter Try.func26, Try.ntmps26
    go_wp2_with fail
    refine HI.out.mono ?_
    clear HI
    rintro e w1 ⟨⟨v, rfl, _⟩, hb⟩
    cases hok : okB (readP L)
    · have Hc := Lib.hid (H1.out hok)
      clear hok
      go_wp2_with fail
      go_ret
      exact ⟨ret_int Hc.out.symm, hb⟩
    · have Hc := Lib.hid (H0.out hok)
      clear hok
      go_wp2_with fail
      go_ret
      exact ⟨ret_int Hc.out.symm, hb⟩
theorem code_small {L : List Sn} (h : readCode L = 0) : L.length ≤ 2000 ∧ ∃ ks, readP L = some ks ∧ ks.length ≤ 2000 ∧ ∀ k ∈ ks, 1 ≤ k := by
  unfold readCode at h
  split at h
  · cases h
  · rename_i hn
    split at h
    · rename_i hs
      obtain ⟨ks, hks⟩ := Option.isSome_iff_exists.1 hs
      have := hks
      rw [readP_eq] at this
      obtain ⟨x, hx, hx2⟩ := Option.bind_eq_some_iff.1 this
      split at hx2
      · cases hx2
        have := fmla_short _ _ _ hx
        exact ⟨by omega, _, hks, by omega, this.2⟩
      · cases hx2
    · cases h
set_option maxRecDepth 100000 in
set_option maxHeartbeats 4000000 in
theorem rclasses_any (p : Option Addr) (b off cap : Nat) (L : List Sn) (w : World) (h : RSigns w p b off cap L) :
    Calls Try.prog 24 #[.slice p L.length cap] w (ClassPost w L) := by
  have HC := Lib.hid (rcheck_any p b off cap L w h)
  go_enter Try.func24, Try.ntmps24
  go_wp2_with fail
  refine HC.out.mono ?_
  clear HC
  rintro e w1 ⟨rfl, hb1⟩
  by_cases hc : readCode L = 0
  · obtain ⟨hl, ks, hks, hkl, hk1⟩ := code_small hc
    have HI := Lib.hid ((h.below hb1).items hl)
    have Hks := Lib.hid hks
    have Hk1 := Lib.hid hk1
    have Hcl := Lib.hid (classes_passes (ks := ks) fun k hk => classI_lo (hk1 k hk))
    have Hc := Lib.hid hc
    rw [hc]
    clear h hks hk1 hc
    go_wp2_with fail
    refine HI.out.mono ?_
    clear HI
    rintro e w2 ⟨⟨v, rfl, hv⟩, hb2⟩
    obtain ⟨its, hits, hrow⟩ := hv ks Hks.out
    obtain ⟨q, g, cap2, rfl, hcap2, hq, hg, hi⟩ := rits_seen hrow
    have HT := Lib.hid (rcounted_any q g cap2 its w2 (by have : its.length = ks.length := by rw [← hits]; simp
                                                         omega) hcap2 hq hg hi (ks.map classI) (by rw [← hits, List.map_map]; rfl))
    rw [← Hcl.out] at HT
    have hb12 := hb1.trans (hb2.mono hb1.size)
    clear hv hq hg hi hrow hits hb1 hb2
    go_wp2_with fail
    refine HT.out.mono ?_
    clear HT
    rintro e w3 ⟨⟨v, rfl, hrow⟩, hb3⟩
    go_wp2_with fail
    go_ret2
    refine ⟨⟨v, by rw [Hc.out]; rfl, fun h => absurd Hc.out h, fun _ => ⟨ks, Hks.out, ?_⟩⟩, hb12.trans (hb3.mono hb12.size)⟩
    obtain ⟨hl2, h1 | ⟨g, cap2, cur, h1, h3, h4⟩⟩ := hrow
    · exact ⟨hl2, .inl h1⟩
    · exact ⟨hl2, .inr ⟨g, cap2, cur, h1, Nat.le_trans hb12.size h3, h4⟩⟩
  · have hc' : ((readCode L : Int) != 0) = true := by simpa using hc
    have Hc := Lib.hid hc
    clear hc h
    go_wp2_with fail
    go_ret2
    exact ⟨⟨_, rfl, fun _ => rfl, fun h => absurd h Hc.out⟩, hb1⟩
set_option maxHeartbeats 1000000 in
theorem mcheck_any (p : Option Addr) (b cap : Nat) (L : List Sn) (hl63 : L.length ≤ 9223372036854775807) (w : World) (h : SignsIn w p b cap L) :
    Calls Try.prog 25 #[.slice p L.length cap] w fun e w' => e = .returned (.int .i64 (readCode L)) ∧ Below w.heap.size w w' := by
  have HR := Lib.hid (read_any fmla_ok p b cap L hl63 w h)
  clear h
  go_enter Try.func25, Try.ntmps25
  go_wp2_with fail
  refine HR.out.mono ?_
  clear HR
  rintro e w1 ⟨⟨v, rfl, _⟩, hb⟩
  go_wp2_with fail
  go_ret
  exact ⟨rfl, hb⟩
end Go.Proofs.Ytkkdopfdoommnaa
