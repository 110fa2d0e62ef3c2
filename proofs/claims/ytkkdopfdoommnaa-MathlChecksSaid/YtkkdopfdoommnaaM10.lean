/-
  Layer 20: a formula is read whole; the classes.
-/
import Derived.Test.YtkkdopfdoommnaaM9
namespace Go.Proofs.Ytkkdopfdoommnaa
open Go.ChangeShapes Go.WideShapes Go.ChangeAt Go.RowKit
attribute [local go_sem ↓] Go.wp_at_zero Go.wp_at_succ

theorem fmla_short {f : List Sn → Option (List Sn)} : ∀ n l x, fmlaP f n l = some x → x.1.length ≤ n ∧ ∀ k ∈ x.1, 1 ≤ k
  | 0, l, x, e => by cases e; simp
  | n + 1, [], x, e => by cases e; simp
  | n + 1, s :: l, x, e => by
    unfold fmlaP at e
    split at e
    · cases e; simp
    · obtain ⟨l3, h3, e⟩ := Option.bind_eq_some_iff.1 e
      obtain ⟨y, hy, rfl⟩ := Option.map_eq_some_iff.1 e
      obtain ⟨h1, h2⟩ := fmla_short n _ _ hy
      refine ⟨by simp; omega, fun k hk => ?_⟩
      rcases List.mem_cons.1 hk with rfl | hk
      · unfold itemP at h3
        split at h3
        · cases h3
        · rename_i hn
          have hg : goodB s = true := by
            cases h : goodB s
            · exact absurd (.inl h) hn
            · rfl
          unfold goodB at hg
          repeat (split at hg; · omega)
          cases hg
      · exact h2 k hk
theorem classI_lo {k : Int} (h : 1 ≤ k) : 0 ≤ classI k := by unfold classI; repeat' split
                                                             all_goals omega
theorem countStep_pos {acc : List Int} {c : Int} (ha : ∀ x ∈ acc, 0 < x) (hc : 0 ≤ c) : ∀ x ∈ countStep acc c, 0 < x := by
  unfold countStep
  split
  · exact ha
  · cases acc with
    | nil => intro x hx; simp at hx; subst hx; split <;> omega
    | cons l r =>
      intro x hx
      have hr : ∀ y ∈ r, 0 < y := fun y hy => ha y (List.mem_cons_of_mem _ hy)
      have hl := ha l List.mem_cons_self
      simp only at hx
      rcases List.mem_cons.1 hx with rfl | hx
      · split
        · split
          · omega
          · split <;> omega
        · omega
      · split at hx
        · rcases List.mem_cons.1 hx with rfl | hx
          · omega
          · exact hr x hx
        · rcases List.mem_cons.1 hx with rfl | hx
          · exact hl
          · exact hr x hx
theorem foldl_pos : ∀ (cs acc : List Int), (∀ x ∈ acc, 0 < x) → (∀ c ∈ cs, 0 ≤ c) → ∀ x ∈ cs.foldl countStep acc, 0 < x
  | [], _, ha, _ => ha
  | c :: cs, _, ha, hc => foldl_pos cs _ (countStep_pos ha (hc c List.mem_cons_self)) fun c hc' => hc c (List.mem_cons_of_mem _ hc')
theorem classes_pos {ks : List Int} (h : ∀ k ∈ ks, 1 ≤ k) : ∀ x ∈ classesP ks, 0 < x := by
  have h1 := foldl_pos (ks.map classI) [] (by simp) (by simp; intro k hk; exact classI_lo (h k hk))
  intro x hx
  unfold classesP at hx
  rw [List.mem_reverse] at hx
  generalize (ks.map classI).foldl countStep [] = a at h1 hx
  cases a with
  | nil => cases hx
  | cons l r =>
    rw [countEnd] at hx
    split at hx
    · rcases List.mem_cons.1 hx with rfl | hx
      · omega
      · exact h1 x (List.mem_cons_of_mem _ hx)
    · exact h1 x hx
theorem filter_pos {outs ks : List Int} (h : outs.filter (· ≠ 0) = classesP ks) (hk : ∀ k ∈ ks, 1 ≤ k) : outs.filter (0 < ·) = classesP ks := by
  have h1 : outs.filter (0 < ·) = (outs.filter (· ≠ 0)).filter (0 < ·) := by
    rw [List.filter_filter]
    congr 1; funext x
    by_cases hx : 0 < x <;> simp [hx]; omega
  rw [h1, h, List.filter_eq_self]
  intro x hx; simpa using classes_pos hk x hx

/-- the signs L, handed over as a slice -/
structure SignsIn (w : World) (p : Option Addr) (b cap : Nat) (L : List Sn) : Prop where
  hp : L ≠ [] → p = some ⟨b, 0, none⟩
  hb : L ≠ [] → b < w.heap.size
  sg : ∀ j, (h : j < L.length) → agg? w b (j * 9) 9 = some L[j].arr
  cap' : L.length ≤ cap
def readCode (L : List Sn) : Int := if 2000 < L.length then 6 else if (readP L).isSome then 0 else 210
theorem readP_eq (L : List Sn) : readP L = (fmlaP (fieldP 20) L.length L).bind fun x => if x.2 = [] then some x.1 else none := by
  unfold readP
  split
  · rename_i h; rw [h]; rfl
  · rename_i h
    cases e : fmlaP (fieldP 20) L.length L with
    | none => rfl
    | some x =>
      obtain ⟨ks, r⟩ := x
      cases r with
      | nil => exact absurd e (h ks)
      | cons y t => rfl
structure ReadPost (w : World) (L : List Sn) (e : Ending) (w' : World) : Prop where
  ex : ∃ v, e = .returned (.tuple #[v, .int .i64 (readCode L)]) ∧ (readCode L = 0 → ∃ ks, readP L = some ks ∧ ItemsAt w' w.heap.size v ks)
  below : Below w.heap.size w w'
theorem ItemsAt.mono {w : World} {B B' : Nat} {v : Value} {ks : List Int} (h : ItemsAt w B v ks) (hB : B' ≤ B) : ItemsAt w B' v ks := by
  obtain ⟨its, h1, hl, h2 | ⟨g, cap, cur, h2, h3, h4⟩⟩ := h
  · exact ⟨its, h1, hl, .inl h2⟩
  · exact ⟨its, h1, hl, .inr ⟨g, cap, cur, h2, Nat.le_trans hB h3, h4⟩⟩
set_option maxRecDepth 100000 in
set_option maxHeartbeats 2000000 in
theorem read_any (hF : FmlaOK 20) (p : Option Addr) (b cap : Nat) (L : List Sn) (hl63 : L.length ≤ 9223372036854775807) (w : World) (h : SignsIn w p b cap L) :
    Calls Try.prog 55 #[.slice p L.length cap] w (ReadPost w L) := by
  by_cases hbig : 2000 < L.length
  · have hbig' : (2000 : Int) < (L.length : Int) := by omega
    go_enter Try.func55, Try.ntmps55
    go_wp2_with fail
    go_ret2
    have : readCode L = 6 := by unfold readCode; rw [if_pos hbig]
    exact ⟨⟨_, by rw [this]; rfl, fun h => by rw [this] at h; cases h⟩, .refl _ _⟩
  · obtain ⟨b, hne, h⟩ : ∃ b', w.heap.size ≠ b' ∧ SignsIn w p b' cap L := by
      by_cases hL : L = []
      · subst hL
        exact ⟨w.heap.size + 1, by omega, fun e => absurd rfl e, fun e => absurd rfl e, fun j hj => by simp at hj, Nat.zero_le _⟩
      · exact ⟨b, by have := h.hb hL; omega, h⟩
    have hbig' : (L.length : Int) ≤ (2000 : Int) := by omega
    have hbl : L.length ≤ 2000 := by omega
    go_enter Try.func55, Try.ntmps55
    go_wp2_with fail
    have hrd : Rdr (w.alloc (.cells #[.slice p L.length cap, .int .i64 0] 139)) w.heap.size b cap p L 0 := by
      refine ⟨heap_alloc_new _ _, ?_, fun e => by have := h.hb e; simp; omega, h.hp, fun j hj => (agg?_alloc_past _ _ _ _ _ (h.hb (by intro e; rw [e] at hj; simp at hj))).trans (h.sg j hj), hbl, h.cap'⟩
      exact hne
    have hF' := hF 0 w.heap.size b cap 0 p L _ (by omega) hrd (Nat.zero_le _)
    rw [Nat.sub_zero, List.drop_zero] at hF'
    have hcode : ∀ r, fmlaP (fieldP 20) L.length L = r → readCode L = (match r with | some x => if x.2 = [] then 0 else 210 | none => 210) := by
      intro r e
      unfold readCode
      rw [if_neg hbig, readP_eq, e]
      cases r with
      | none => rfl
      | some x => by_cases hx : x.2 = [] <;> simp [hx]
    have hread : ∀ r, fmlaP (fieldP 20) L.length L = r → ∀ x, r = some x → x.2 = [] → readP L = some x.1 := by
      intro r e x hx h2
      rw [readP_eq, e, hx, Option.bind_some, if_pos h2]
    generalize hr : fmlaP (fieldP 20) L.length L = r at hF'
    have hcode' := Lib.hid (hcode r hr)
    have hread' := Lib.hid (hread r hr)
    clear hcode hread hr hrd
    refine hF'.mono ?_
    clear hF'
    rintro e w1 ⟨⟨v, rfl, hv⟩, ht, j, hj, hr, hx⟩
    have HV := Lib.hid hv
    have HX := Lib.hid hx
    have hbw : Below w.heap.size w w1 := ⟨ht.os, ht.tape, ht.output, by have := ht.size; simp at this; omega, fun k hk => (ht.block k (by simp; omega) (by omega)).trans (Below.heap_alloc _ _ _ hk)⟩
    clear hv hx ht
    have c1 := hr.c1
    have hj1 : (0 : Int) ≤ (j : Int) := by omega
    cases r with
    | none =>
      simp only [okB_none]
      go_wp2_with fail
      go_ret2
      exact ⟨⟨_, by rw [hcode'.out]; rfl, fun h => by rw [hcode'.out] at h; cases h⟩, hbw⟩
    | some x =>
      simp only [okB_some]
      have hx2 := Lib.hid (show x.2 = L.drop j from HX.out _ rfl)
      by_cases hjl : j < L.length
      · have hjl' : (j : Int) < (L.length : Int) := by omega
        have hne : ¬ x.2 = [] := by rw [hx2.out]; simp; omega
        have hc := Lib.hid (show readCode L = 210 by rw [hcode'.out]; simp [hne])
        clear hne
        go_wp2_with fail
        go_ret2
        exact ⟨⟨_, by rw [hc.out]; rfl, fun h => by rw [hc.out] at h; cases h⟩, hbw⟩
      · have hjl' : (L.length : Int) ≤ (j : Int) := by omega
        have he := Lib.hid (show x.2 = [] by rw [hx2.out]; simp; omega)
        have hc := Lib.hid (show readCode L = 0 by rw [hcode'.out]; simp [he.out])
        go_wp2_with fail
        go_ret2
        refine ⟨⟨_, by rw [hc.out]; rfl, fun _ => ⟨x.1, hread'.out x rfl he.out, ?_⟩⟩, hbw⟩
        exact (HV.out x rfl).mono (by simp)

/-- what Classes hands back -/
structure ClassPost (w : World) (L : List Sn) (e : Ending) (w' : World) : Prop where
  ex : ∃ v, e = .returned (.tuple #[v, .int .i64 (readCode L)]) ∧ (readCode L ≠ 0 → v = .slice none 0 0) ∧ (readCode L = 0 → ∃ ks, readP L = some ks ∧ w'.ownsRow w.heap.size 3 1 v (classesP ks).length (ints (classesP ks)))
  below : Below w.heap.size w w'
set_option maxRecDepth 100000 in
set_option maxHeartbeats 2000000 in
theorem classes_any (hF : FmlaOK 20) (p : Option Addr) (b cap : Nat) (L : List Sn) (hl63 : L.length ≤ 9223372036854775807) (w : World) (h : SignsIn w p b cap L) :
    Calls Try.prog 21 #[.slice p L.length cap] w (ClassPost w L) := by
  have HR := Lib.hid (read_any hF p b cap L hl63 w h)
  clear h
  go_enter Try.func21, Try.ntmps21
  go_wp2_with fail
  refine HR.out.mono ?_
  rintro e w1 ⟨⟨v, rfl, hv⟩, hb⟩
  by_cases hc : readCode L = 0
  · obtain ⟨ks, hks, its, hits, hrow⟩ := hv hc
    rw [hc]
    obtain ⟨q, g, cap2, rfl, hcap2, hq, hg, hi⟩ := items_seen hrow
    have Hhc := Lib.hid hc
    have Hks := Lib.hid hks
    have hks2 : its.length ≤ 2000 ∧ ∀ k ∈ ks, 1 ≤ k := by
      unfold readCode at hc
      split at hc
      · cases hc
      · rw [readP_eq] at hks
        obtain ⟨x, hx, hx2⟩ := Option.bind_eq_some_iff.1 hks
        split at hx2
        · cases hx2
          have := fmla_short _ _ _ hx
          have hl : its.length = x.1.length := by rw [← hits]; simp
          exact ⟨by omega, this.2⟩
        · cases hx2
    have HC := Lib.hid (counts_any q g cap2 its w1 hks2.1 hcap2 hq hg hi)
    rw [hits] at HC
    have Hks2 := Lib.hid hks2.2
    have hlen := hks2.1
    clear hc hv hks hks2 hq hg hi hrow hits
    go_wp2_with fail
    refine HC.out.mono ?_
    rintro e w2 ⟨O, outs, rfl, hol, hblk, hfil, hb2, hO⟩
    go_wp2_with fail
    have hOlt : O < w2.heap.size := (Array.getElem?_eq_some_iff.1 hblk).1
    go_loopg [6, 20] (its.length + 1) (fun g t6 t20 wr => ∃ (k n : Nat), g = its.length + 1 - k ∧ k ≤ its.length ∧ t20 = .int .i64 k ∧ n = ((outs.take k).filter (0 < ·)).length ∧ wr.ownsRow w2.heap.size 3 1 t6 n (ints ((outs.take k).filter (0 < ·))) ∧ Below w2.heap.size w2 wr)
    case atStart => exact ⟨0, 0, rfl, Nat.zero_le _, rfl, rfl, World.ownsRow_nil _ _ _ _, .refl _ _⟩
    case round =>
      obtain ⟨k, n, rfl, hk, rfl, hn, hown, hbl⟩ := hrel
      have Hn := Lib.hid hn
      clear hn
      have hk1 : (0 : Int) ≤ (k : Int) := by omega
      by_cases hkn : k < its.length
      · have hk2 : (k : Int) < (its.length : Int) := by omega
        have hko : k < outs.length := by omega
        have hx : wr.cell? ⟨O, k, none⟩ = some (.int .i64 outs[k]) := by
          rw [hbl.cell (p := ⟨O, k, none⟩) hOlt, cell?_blk hblk, ints_get, List.getElem?_eq_getElem hko]; rfl
        have Htk := Lib.hid (List.take_succ_eq_append_getElem hko)
        generalize outs[k] = x at hx Htk
        have hsz := hbl.size
        by_cases hpos : 0 < x
        · have Hf : Hid ((outs.take (k + 1)).filter (0 < ·) = (outs.take k).filter (0 < ·) ++ [x]) := by
            rw [Htk.out, List.filter_append, List.filter_cons_of_pos (by simpa using hpos)]; rfl
          have hn2 : n ≤ 2000 := by have := Hn.out; have h2 := List.length_filter_le (fun x : Int => decide (0 < x)) (outs.take k); simp only [List.length_take] at h2; omega
          obtain ⟨i0, hi0', hz0, hz1, hz2⟩ := info_parts info_int
          go_wp2_with (at_builtin; refine wpList_append_lies _ rfl _ _ _ rfl w2.heap.size 3 i0 (.int .i64 0) 1 8 Try.underlying37 hi0' hz0 hz1 hz2 rfl (by decide) u6 n (ints ((outs.take k).filter (0 < ·))) rfl (hown.alloc _) ⟨wr.heap.size, 0, none⟩ 1 1 [.int .i64 x] rfl rfl (World.news_of_block (heap_alloc_new _ _)) (by simp [Value.oneCell']) (by decide) (by unfold maxLen; omega) (by omega) (by simp; omega) _ rfl ?_; intro g8 cap8 w8 hown8 hgrow8 hat8 hlt8)
          go_roundg (its.length + 1 - (k + 1))
          case measure => omega
          case rel =>
            refine ⟨k + 1, n + 1, rfl, hkn, by go_num, by rw [Hf.out, List.length_append, Hn.out]; rfl, ?_, ?_⟩
            · rw [Hf.out]; unfold ints; rw [List.map_append]; exact hown8
            · exact (hbl.alloc hsz _).grown hgrow8 (by simp; omega) (fun k hk => (hown.lt k hk).1)
        · have Hf := Lib.hid (show (outs.take (k + 1)).filter (0 < ·) = (outs.take k).filter (0 < ·) by
            rw [Htk.out, List.filter_append, List.filter_cons_of_neg (by simpa using hpos)]; simp)
          have hneg : x ≤ 0 := by omega
          go_wp2_with fail
          go_roundg (its.length + 1 - (k + 1))
          case measure => omega
          case rel => exact ⟨k + 1, n, rfl, hkn, by go_num, by rw [Hf.out, Hn.out], by rw [Hf.out]; exact hown, hbl⟩
      · have hk2 : (its.length : Int) ≤ (k : Int) := by omega
        have Hall := Lib.hid (show (outs.take k).filter (0 < ·) = classesP ks by rw [List.take_of_length_le (by omega)]; exact filter_pos hfil Hks2.out)
        have hbw : Below w.heap.size w wr := (hb.trans (hb2.mono hb.size)).trans (hbl.mono (Nat.le_trans hb.size hb2.size))
        go_wp2_with fail
        go_ret2
        refine ⟨⟨_, by rw [Hhc.out]; rfl, fun h => absurd Hhc.out h, fun _ => ⟨ks, Hks.out, ?_⟩⟩, hbw⟩
        have h1 := hown
        rw [Hn.out, Hall.out] at h1
        obtain ⟨hl, h2 | ⟨g, cap, cur, h2, h3, h4⟩⟩ := h1
        · exact ⟨hl, .inl h2⟩
        · exact ⟨hl, .inr ⟨g, cap, cur, h2, Nat.le_trans (Nat.le_trans hb.size hb2.size) h3, h4⟩⟩
  · have hc' : (readCode L != 0) = true := by simpa using hc
    have Hc := Lib.hid hc
    clear hc hv
    go_wp2_with fail
    go_ret2
    exact ⟨⟨_, rfl, fun _ => rfl, fun h => absurd h Hc.out⟩, hb⟩
end Go.Proofs.Ytkkdopfdoommnaa
