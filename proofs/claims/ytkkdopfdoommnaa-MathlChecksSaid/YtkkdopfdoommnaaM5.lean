/-
  Layer 20: a script is read, where one stands; the class of an item.
-/
import Derived.Test.YtkkdopfdoommnaaM2
import Derived.Test.YtkkdopfdoommnaaM4
import Derived.StillTailTactics
namespace Go.Proofs.Ytkkdopfdoommnaa
open Go.ChangeShapes Go.WideShapes Go.ChangeAt Go.RowKit
attribute [local go_sem ↓] Go.wp_at_zero Go.wp_at_succ

/-- a region that draws: what reads first, then the rest in its order; the world behind the draw is w.drew -/
theorem wp_still_tail {P : Program} {id : Nat} {Q : Exit → Act → World → Prop} {a : Act} {w : World} {l : List Oper} (n : Nat) (hm : P.follows .mixedOrders = true) (hB : Region.lexTailB .any l.toArray n = true)
    (h : wpStill P l.toArray w.drew (fun a' => wpList P l.toArray Q (l.drop n) a' w.drew) (l.take n) a) : (Code.region id l.toArray true).wp P Q a w := wp_region_still_tail n hm hB h
structure ScriptPost (w : World) (R b cap : Nat) (p : Option Addr) (L : List Sn) (r : Option (List Sn)) (e : Ending) (w' : World) : Prop where
  ex : ∃ a, e = .returned (.tuple #[.pointer a, .bool (okB r)])
  to : ReadTo w R b cap p L r w'

set_option maxRecDepth 100000 in
set_option maxHeartbeats 1000000 in
theorem script_a (k dp : Int) (R b cap i : Nat) (p : Option Addr) (L : List Sn) (w : World) (h : Rdr w R b cap p L i) (hi : i ≤ L.length) (hk : ((kindAt L i : Int) != k) = true) :
    Calls Try.prog 128 #[.pointer (some ⟨R, 0, none⟩), .int .i64 k, .int .i64 dp] w (ScriptPost w R b cap p L (some (L.drop i))) := by
  have hp := peekC h hi
  go_enter Try.func128, Try.ntmps128
  go_wp2_with (go_at_call 124; refine (hp 0).mono ?_; rintro e w' ⟨rfl, m, rfl⟩)
  go_ret2
  exact ⟨⟨_, rfl⟩, .drewN (.refl _ _ _) _, i, hi, h.drewN _, fun l e => (Option.some.inj e).symm⟩

set_option maxRecDepth 100000 in
set_option maxHeartbeats 1000000 in
theorem script_b (k dp : Int) (R b cap i : Nat) (p : Option Addr) (L : List Sn) (w : World) (h : Rdr w R b cap p L i) (hi : i < L.length) (hk : ((kindAt L i : Int) != k) = false) (s : Sn) (hs : agg? w b (i * 9) 9 = some s.arr) (hg : goodB s = false) :
    Calls Try.prog 128 #[.pointer (some ⟨R, 0, none⟩), .int .i64 k, .int .i64 dp] w (ScriptPost w R b cap p L none) := by
  have hp := peekC h (Nat.le_of_lt hi)
  have c0 := h.c0
  have c1 := h.c1
  have hcap := h.cap'
  have hl := h.len
  have hi1 : (0 : Int) ≤ (i : Int) := by omega
  have hi2 : (i : Int) < (L.length : Int) := by omega
  rw [h.hp (by intro e; rw [e] at hi; simp at hi)] at c0
  have hG : ∀ W, Calls Try.prog 125 #[.agg s.arr] W fun e w' => e = .returned (.bool false) ∧ Below W.heap.size W w' := fun W => (good_any s W).mono fun e w' ⟨h1, h2⟩ => ⟨h1.trans (ret_bool hg), h2⟩
  have HG := Lib.hid hG
  clear hG
  go_enter Try.func128, Try.ntmps128
  go_wp2_with (go_at_call 124; refine (hp 0).mono ?_; rintro e w' ⟨rfl, m, rfl⟩)
  refine wp_still_tail 10 (by kernel_rfl) (by kernel_rfl) ?_
  simp only [List.take_succ_cons, List.take_zero, List.drop_succ_cons, List.drop_zero]
  repeat still_step
  refine wpStill_nil ?_
  change wpList _ _ _ _ _ (w.drewN m).drew
  have h2 : Rdr (w.drewN m).drew R b cap p L i := (h.drewN m).drew
  have ht : Turned w.heap.size R w (w.drewN m).drew := ((Turned.refl _ _ _).drewN m).drew
  generalize (w.drewN m).drew = w2 at h2 ht
  go_wp2_with (go_at_call 125; refine (HG.out _).mono ?_; rintro e w3 ⟨rfl, hb3⟩)
  go_ret2
  exact ⟨⟨_, rfl⟩, ht.trans (.of_below (hb3.mono ht.size)), i, Nat.le_of_lt hi, h2.below hb3, fun l e => by cases e⟩

set_option maxRecDepth 100000 in
set_option maxHeartbeats 1000000 in
theorem script_c (d : Nat) (hF : FieldOK d) (k dp : Int) (hd : dp + d = 20) (R b cap i : Nat) (p : Option Addr) (L : List Sn) (w : World) (h : Rdr w R b cap p L i) (hi : i < L.length) (hk : ((kindAt L i : Int) != k) = false) (s : Sn) (hs : agg? w b (i * 9) 9 = some s.arr) (hg : goodB s = true)
    (r : Option (List Sn)) (hr0 : Hid (fieldP d (L.drop (i + 1)) = r)) :
    Calls Try.prog 128 #[.pointer (some ⟨R, 0, none⟩), .int .i64 k, .int .i64 dp] w (ScriptPost w R b cap p L r) := by
  have hp := peekC h (Nat.le_of_lt hi)
  have c0 := h.c0
  have c1 := h.c1
  have cf := h.fr
  have hcap := h.cap'
  have hl := h.len
  have hi1 : (0 : Int) ≤ (i : Int) := by omega
  have hi2 : (i : Int) < (L.length : Int) := by omega
  rw [h.hp (by intro e; rw [e] at hi; simp at hi)] at c0
  have hG : ∀ W, Calls Try.prog 125 #[.agg s.arr] W fun e w' => e = .returned (.bool true) ∧ Below W.heap.size W w' := fun W => (good_any s W).mono fun e w' ⟨h1, h2⟩ => ⟨h1.trans (ret_bool hg), h2⟩
  have HG := Lib.hid hG
  clear hG
  go_enter Try.func128, Try.ntmps128
  go_wp2_with (go_at_call 124; refine (hp 0).mono ?_; rintro e w' ⟨rfl, m, rfl⟩)
  refine wp_still_tail 10 (by kernel_rfl) (by kernel_rfl) ?_
  simp only [List.take_succ_cons, List.take_zero, List.drop_succ_cons, List.drop_zero]
  repeat still_step
  refine wpStill_nil ?_
  change wpList _ _ _ _ _ (w.drewN m).drew
  have h2 : Rdr (w.drewN m).drew R b cap p L i := (h.drewN m).drew
  have ht : Turned w.heap.size R w (w.drewN m).drew := ((Turned.refl _ _ _).drewN m).drew
  generalize (w.drewN m).drew = w2 at h2 ht
  go_wp2_with (go_at_call 125; refine (HG.out _).mono ?_; rintro e w3 ⟨rfl, hb3⟩; (have h3 := h2.below hb3); (have ht3 := ht.trans (.of_below (hb3.mono ht.size))); (have c1 := h3.c1); (have cf := h3.fr))
  have h4 := h3.put1
  have ht4 := ht3.setCell (p := ⟨R, 1, none⟩) (.inl rfl) (.int .i64 ((i : Int) + 1))
  have hF' := hF dp R b cap (i + 1) p L _ hd h4 hi
  rw [hr0.out] at hF'
  refine hF'.mono ?_
  clear hF' hr0
  rintro e w5 ⟨⟨a, n, c, rfl⟩, ht5, j, hj, hr5, hx⟩
  have HX := Lib.hid hx
  clear hx
  have ht6 := ht4.trans (ht5.mono ht4.size)
  go_wp2_with fail
  go_ret2
  exact ⟨⟨_, rfl⟩, ht6.alloc (ht6.size) _, j, hj, hr5.alloc _, HX.out⟩

theorem script_any (d : Nat) (hF : FieldOK d) (k dp : Int) (h0 : k ≠ 0) (hd : dp + d = 20) (R b cap i : Nat) (p : Option Addr) (L : List Sn) (w : World) (h : Rdr w R b cap p L i) (hi : i ≤ L.length) :
    Calls Try.prog 128 #[.pointer (some ⟨R, 0, none⟩), .int .i64 k, .int .i64 dp] w (ScriptPost w R b cap p L (scriptP (fieldP d) k (L.drop i))) := by
  cases hk : ((kindAt L i : Int) != k)
  · have hlt : i < L.length := by
      apply Decidable.byContradiction
      intro hn
      simp [kindAt, show L[i]? = none by simp; omega] at hk
      exact h0 hk.symm
    have hk' : L[i].kind = k := by simpa [kindAt, hlt] using hk
    rw [List.drop_eq_getElem_cons hlt, scriptP, if_pos hk']
    cases hg : goodB L[i]
    · exact script_b k dp R b cap i p L w h hlt hk _ (h.sg i hlt) hg
    · exact script_c d hF k dp hd R b cap i p L w h hlt hk _ (h.sg i hlt) hg _ (Lib.hid rfl)
  · have : scriptP (fieldP d) k (L.drop i) = some (L.drop i) := by
      by_cases hlt : i < L.length
      · rw [List.drop_eq_getElem_cons hlt, scriptP, if_neg]
        simpa [kindAt, hlt] using hk
      · rw [List.drop_eq_nil_iff.2 (by omega)]; rfl
    rw [this]
    exact script_a k dp R b cap i p L w h hi hk
end Go.Proofs.Ytkkdopfdoommnaa
