/-
  The document's side: where a list's own items begin.
-/
import Derived.Test.YtkkdopfdoommnaaQ5
namespace Go.Proofs.Ytkkdopfdoommnaa
open Go.ChangeShapes Go.WideShapes Go.ChangeAt Go.RowKit
attribute [local go_sem ↓] Go.wp_at_zero Go.wp_at_succ

theorem runC_head {x : Nd} {l : List Nd} {d d' : Int} (h : runC (x :: l) [] d = some ([], d')) : x.kind ≠ 6 ∧ x.kind ≠ 11 := by
  unfold runC at h
  split at h
  · obtain ⟨⟨st', d1⟩, hs, _⟩ := Option.bind_eq_some_iff.1 h
    exact (stepC_len hs).2 rfl
  · cases h
theorem items_kind {L : List Nd} {i : Nat} {s : List Nat} (h : Items L i s) : ∀ {d d' : Int}, runC (L.drop i) [] d = some ([], d') → ∀ x ∈ s, (nth L x).kind ≠ 6 ∧ (nth L x).kind ≠ 11 := by
  induction h with
  | done => intro d d' _ x hx; cases hx
  | step hi hm hs ih =>
    rename_i i' m' s'
    intro d d' hr x hx
    have e := List.drop_eq_getElem_cons hi
    rw [e] at hr
    rcases List.mem_cons.1 hx with rfl | hx
    · rw [nth_get hi]; exact runC_head hr
    · obtain ⟨m, d2, hb, hr2⟩ := runC_top hr
      rw [← e] at hb hr2
      rw [hm] at hb
      cases hb
      rw [List.drop_drop] at hr2
      exact ih hr2 x hx
theorem items_kind0 {L : List Nd} {s : List Nat} (h : Items L 0 s) (hc : checkC L = 0) : ∀ x ∈ s, (nth L x).kind ≠ 6 ∧ (nth L x).kind ≠ 11 := by
  obtain ⟨_, d, _, hr⟩ := checkC_zero hc
  exact items_kind h (d := 0) (d' := d) (by rw [List.drop_zero]; exact hr)
def ofN (s : List Nat) : List Int := s.map fun i : Nat => (i : Int)
theorem ofN_len (s : List Nat) : (ofN s).length = s.length := by simp [ofN]
theorem ofN_append (a b : List Nat) : ofN (a ++ b) = ofN a ++ ofN b := by simp [ofN]
/-- whole numbers in a row of one's own -/
def IRow (w : World) (v : Value) (s : List Nat) (w' : World) : Prop := w'.ownsRow w.heap.size 3 1 v s.length (ints (ofN s))
set_option maxRecDepth 100000 in
set_option maxHeartbeats 4000000 in
theorem qstarts (p0 : Option Addr) (b off cap : Nat) (L : List Nd) (s : List Nat) (w : World) (h : NIn w p0 b off cap L) (hs : Items L 0 s) (hk : ∀ x ∈ s, (nth L x).kind ≠ 6) :
    Calls Try.prog 67 #[.slice p0 L.length cap] w fun e w' => (∃ v, e = .returned v ∧ IRow w v s w') ∧ Below w.heap.size w w' := by
  have H := Lib.hid h
  have hl := h.len
  have HS := Lib.hid hs
  have HK := Lib.hid hk
  clear h hs hk
  go_enter Try.func67, Try.ntmps67
  go_wp2_with fail
  go_loopg [3, 4] (L.length + 1) (fun g t3 t4 wr => ∃ (k : Nat) (pre rest : List Nat), g = L.length + 1 - k ∧ k ≤ L.length ∧ t4 = .int .i64 k ∧ s = pre ++ rest ∧ Items L k rest ∧ wr.ownsRow w.heap.size 3 1 t3 pre.length (ints (ofN pre)) ∧ Below w.heap.size w wr ∧ pre.length ≤ k)
  case atStart => exact ⟨0, [], s, rfl, Nat.zero_le _, rfl, rfl, HS.out, World.ownsRow_nil _ _ _ _, .refl _ _, Nat.zero_le _⟩
  case round =>
    obtain ⟨k, pre, rest, rfl, hk, rfl, hsp, hit, hown, hbl, hpl⟩ := hrel
    have hk1 : (0 : Int) ≤ (k : Int) := by omega
    cases hit with
    | done =>
      have hsp' : s = pre := by simpa using hsp
      subst hsp'
      have hk2 : (L.length : Int) ≤ (L.length : Int) := by omega
      go_wp2_with fail
      go_ret
      exact ⟨⟨_, rfl, hown⟩, hbl⟩
    | step hi hm hs2 =>
      rename_i m rest'
      have hk2 : (k : Int) < (L.length : Int) := by omega
      have hsz := hbl.size
      obtain ⟨i0, hi0', hz0, hz1, hz2⟩ := info_parts info_int
      have HM := Lib.hid hm
      have HS2 := Lib.hid hs2
      have Hsp := Lib.hid hsp
      have Hbl := Lib.hid hbl
      have hkl : k ≤ L.length := by omega
      have hm2 := behC_pos _ _ _ hm
      rw [List.length_drop] at hm2
      clear hm hs2 hsp hi
      go_wp2_with (at_builtin; refine wpList_append_lies _ rfl _ _ _ rfl w.heap.size 3 i0 (.int .i64 0) 1 8 Try.underlying37 hi0' hz0 hz1 hz2 rfl (by decide) u3 pre.length (ints (ofN pre)) rfl (hown.alloc _) ⟨wr.heap.size, 0, none⟩ 1 1 [.int .i64 k] rfl rfl (World.news_of_block (heap_alloc_new _ _)) (by simp [Value.oneCell']) (by decide) (by unfold maxLen; omega) (by omega) (by simp; omega) _ rfl ?_; intro g8 cap8 w8 hown8 hgrow8 hat8 hlt8)
      have hb8 := Below.grown (hbl.alloc hsz _) hgrow8 (by simp; omega) (fun k hk => (hown.lt k hk).1)
      have HE := Lib.hid (qends p0 b off cap L k m w8 (H.out.below hb8) HM.out (HK.out k (by rw [Hsp.out]; simp)))
      refine HE.out.mono ?_
      clear HE
      rintro e w9 ⟨rfl, hb9⟩
      go_wp2_with fail
      go_roundg (L.length + 1 - (k + m))
      case measure => omega
      case rel => exact ⟨k + m, pre ++ [k], rest', rfl, by omega, rfl, by rw [Hsp.out]; simp, HS2.out, by
        have := ownsRow_below hown8 hb9
        rw [List.length_append, ofN_append, ints_append]
        exact this, hb8.trans (hb9.mono hb8.size), by simp; omega⟩
end Go.Proofs.Ytkkdopfdoommnaa
