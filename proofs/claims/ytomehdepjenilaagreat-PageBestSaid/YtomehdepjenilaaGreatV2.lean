/-
  nodes.Check: whether a row of nodes is a list.
-/
import Derived.Test.YtomehdepjenilaaGreatH0
import Derived.Outline
import Derived.Deep.RegionHeld3
import Derived.Deep.QuietTactic
import Derived.Deep.OwnRows
import Derived.Deep.DeepCutAuto
import Derived.BigQuiet
import Derived.Deep.DrawnRows
namespace Go.Proofs.YtomehdepjenilaaGreat
open Go.ChangeShapes Go.WideShapes Go.ChangeAt Go.RowKit
attribute [local go_sem ↓] Go.wp_at_zero Go.wp_at_succ

structure Chk (w : World) (t p : Nat) (a : Option Addr) (c : Nat) (st : List Int) (wr : World) : Prop where
  below : Below w.heap.size w wr
  tab : Table wr t p
  hb : w.heap.size ≤ t
  hpt : p ≤ t
  row : wr.ownsRow (t + 1) 3 1 (.slice a st.length c) st.length (ints st)
section
variable {w wr w' : World} {t p c : Nat} {a : Option Addr} {st : List Int}
theorem Chk.call (h : Chk w t p a c st wr) (hb : Below wr.heap.size wr w') : Chk w t p a c st w' :=
  ⟨h.below.trans (hb.mono h.below.size), h.tab.below hb, h.hb, h.hpt, ownsRow_below h.row hb⟩
theorem Chk.alloc (h : Chk w t p a c st wr) (o : Obj) : Chk w t p a c st (wr.alloc o) := h.call ((Below.refl _ _).alloc (Nat.le_refl _) o)
theorem Chk.form (h : Chk w t p a c st wr) (hn : 0 < st.length) : ∃ g, a = some ⟨g, 0, none⟩ := by
  obtain ⟨g, cap, e, _⟩ := h.row.form hn
  simp only [Value.slice.injEq] at e
  exact ⟨g, e.1⟩
theorem Chk.cap (h : Chk w t p a c st wr) : st.length ≤ c := by
  obtain ⟨_, ⟨h1, h2⟩ | ⟨g, cap, cur, h, _, _, h3, _⟩⟩ := h.row
  · omega
  · cases h; exact h3
theorem Chk.cell {g : Nat} (h : Chk w t p (some ⟨g, 0, none⟩) c st wr) {j : Nat} (hj : j < st.length) {x : Int} (hx : st[j]? = some x) : wr.cell? ⟨g, j, none⟩ = some (.int .i64 x) := by
  rw [h.row.cellAt j (by omega), ints_idx, hx]; rfl
theorem Chk.free {g : Nat} (h : Chk w t p (some ⟨g, 0, none⟩) c st wr) (j : Nat) : wr.frozen? ⟨g, j, none⟩ = false := h.row.frozenAt j
theorem Chk.set {g : Nat} (h : Chk w t p (some ⟨g, 0, none⟩) c st wr) (j : Nat) (x : Int) : Chk w t p (some ⟨g, 0, none⟩) c (st.set j x) (wr.setCell ⟨g, j, none⟩ (.int .i64 x)) := by
  obtain ⟨h1, h2⟩ := h.row.stored j (.int .i64 x)
  rw [ints_lset] at h1
  have hg := (h.row.lt g rfl).1
  have hb : Below (t + 1) wr (wr.setCell ⟨g, j, none⟩ (.int .i64 x)) := (Below.refl _ _).setCell (p := ⟨g, j, none⟩) hg _
  refine ⟨h.below.trans (hb.mono (by have := h.hb; omega)), ⟨((bfacts hb).2.2.1 _ _ _ (by omega)).trans h.tab.row, (hb.cell (by have := h.hpt; simp only; omega)).trans h.tab.cap⟩, h.hb, h.hpt, ?_⟩
  rw [List.length_set]; exact h1
theorem Chk.pop {m : Nat} {g : Nat} (h : Chk w t p (some ⟨g, 0, none⟩) c st wr) (hm : st.length = m + 1) : Chk w t p (some ⟨g, 0, none⟩) c st.dropLast wr := by
  refine ⟨h.below, h.tab, h.hb, h.hpt, ?_⟩
  have hd : st.dropLast.length = m := by rw [List.length_dropLast, hm]; rfl
  rw [hd]
  obtain ⟨hl, ⟨h1, h2⟩ | ⟨g', cap, cur, h1, h3, h4, h5, h6, h7, h8⟩⟩ := h.row
  · omega
  · simp only [Value.slice.injEq] at h1
    obtain ⟨h0, _, rfl⟩ := h1
    refine ⟨by rw [ints_len, hd]; omega, .inr ⟨g', c, cur, by rw [h0], h3, h4, by omega, h6, h7, ?_⟩⟩
    rw [List.dropLast_eq_take, ← ints_take, ← h8, List.take_take, hm]
    congr 1; omega
theorem Chk.grown {g cap : Nat} {x : Int} (h : Chk w t p a c st wr) (hown : w'.ownsRow (t + 1) 3 1 (.slice (some ⟨g, 0, none⟩) (st.length + 1) cap) (st.length + 1) (ints st ++ [.int .i64 x])) (hg : wr.grownBy w' (Value.slice a st.length c).ownBlock) :
    Chk w t p (some ⟨g, 0, none⟩) cap (st ++ [x]) w' := by
  have hb : Below (t + 1) wr w' := Below.grown (Below.refl _ _) hg (by have := h.tab.lt; omega) (fun k hk => (h.row.lt k hk).1)
  refine ⟨h.below.trans (hb.mono (by have := h.hb; omega)), ⟨((bfacts hb).2.2.1 _ _ _ (by omega)).trans h.tab.row, (hb.cell (by have := h.hpt; simp only; omega)).trans h.tab.cap⟩, h.hb, h.hpt, ?_⟩
  rw [List.length_append, ints_append]; exact hown
end
theorem agg_nd {w : World} {X : Nat} {n : Nd} {t : TypeId} {fr : Nat × Nat} (h : w.heap[X]? = some (.cells n.arr t fr)) : agg? w X 0 19 = some n.arr := by
  rw [agg?_blk' h 0 19 (by simp [Nd.size_arr])]; simp [Nd.arr, Nd.cells]
def badTop (k : Int) (st : List Int) : Bool := match st.getLast? with | none => false | some x => decide (0 ≤ x) && !smallK k
def ChkI (w : World) (L : List Nd) (t p : Nat) (r0 : Option (List Int × Int)) (g : Nat) (t4 t5 t16 : Value) (wr : World) : Prop :=
  ∃ (i : Nat) (a : Option Addr) (c : Nat) (st : List Int) (d : Int), g = L.length + 1 - i ∧ i ≤ L.length ∧ t4 = .slice a st.length c ∧ t5 = .int .i64 d ∧ t16 = .int .i64 i ∧ Chk w t p a c st wr ∧ runC (L.drop i) st d = r0 ∧ st.length ≤ i ∧ ∀ y ∈ st, y ≤ 2
theorem run_no {L : List Nd} {i : Nat} (hi : i < L.length) {st : List Int} {d : Int} {r0 : Option (List Int × Int)} (h : runC (L.drop i) st d = r0) (hr : rightB L[i] = false) : r0 = none := by
  rw [List.drop_eq_getElem_cons hi] at h
  simp only [runC, hr, Bool.false_eq_true, if_false] at h
  exact h.symm
theorem run_yes {L : List Nd} {i : Nat} (hi : i < L.length) {st : List Int} {d : Int} {r0 : Option (List Int × Int)} (h : runC (L.drop i) st d = r0) (hr : rightB L[i] = true) : ((stepC L[i].kind st d).bind fun s => runC (L.drop (i + 1)) s.1 s.2) = r0 := by
  rw [List.drop_eq_getElem_cons hi] at h
  simp only [runC, hr, if_true] at h
  exact h
theorem last_some {st : List Int} {m : Nat} (hm : st.length = m + 1) : ∃ x, st.getLast? = some x ∧ st[m]? = some x := by
  refine ⟨st[m]'(by omega), ?_, List.getElem?_eq_getElem (by omega)⟩
  rw [List.getLast?_eq_getElem?, show st.length - 1 = m by omega, List.getElem?_eq_getElem (by omega)]
theorem Table.made {w1 : World} {p : Nat} (h : w1.cell? ⟨p, 0, none⟩ = some (.func (.func 118) #[] #[])) : Table (w1.alloc (.cells (KT p) 157)) w1.heap.size p :=
  ⟨agg?_whole _ _ _ _ _ _ rfl (KT_size _), (Below.cell ((Below.refl w1.heap.size w1).alloc (Nat.le_refl _) _) (World.block_lt_of_cell? _ _ h)).trans h⟩
theorem nil_of_len {st : List Int} (h : st.length = 0) : st = [] := List.length_eq_zero_iff.1 h
set_option maxRecDepth 100000 in
set_option maxHeartbeats 16000000 in
theorem check_small (p0 : Option Addr) (b off cap : Nat) (L : List Nd) (w : World) (h : NIn w p0 b off cap L) (hlen : L.length ≤ 2000) :
    Calls Tryz.prog 84 #[.slice p0 L.length cap] w fun e w' => e = .returned (.int .i64 (codeC (runC L [] 0))) ∧ Below w.heap.size w w' := by
  have H := Lib.hid h
  have hl1 : (L.length : Int) ≤ (2000 : Int) := by omega
  obtain ⟨r0, hr0⟩ : ∃ r0, runC L [] 0 = r0 := ⟨_, rfl⟩
  have Hr0 := Lib.hid hr0
  rw [hr0]
  clear h hr0
  go_enter Tryz.func84, Tryz.ntmps84
  go_wp2_with (go_at_call 95; refine (kinds_any _).mono ?_; rintro e w1 ⟨p, rfl, hb1, hc1⟩)
  have hC : Chk w w1.heap.size p none 0 [] (w1.alloc (.cells (KT p) 157)) :=
    ⟨hb1.alloc hb1.size _, Table.made hc1, hb1.size, Nat.le_of_lt (World.block_lt_of_cell? _ _ hc1), World.ownsRow_nil _ _ _ _⟩
  generalize w1.alloc (.cells (KT p) 157) = w2 at hC ⊢
  generalize w1.heap.size = t at hC ⊢
  clear hb1 hc1
  go_loopg [4, 5, 16] (L.length + 1) (fun g t4 t5 t16 wr => ChkI w L t p r0 g t4 t5 t16 wr)
  case atStart => exact ⟨0, none, 0, [], 0, rfl, Nat.zero_le _, rfl, rfl, rfl, hC, by rw [List.drop_zero]; exact Hr0.out, Nat.zero_le _, fun _ h => by simp at h⟩
  case round =>
    clear hC Hr0
    obtain ⟨i, a, c, st, d, rfl, hi, rfl, rfl, rfl, hC, hrun, hsti, hall⟩ := hrel
    have HA := Lib.hid hall
    clear hall
    have hi1 : (0 : Int) ≤ (i : Int) := by omega
    by_cases hin : i < L.length
    · have hi2 : (i : Int) < (L.length : Int) := by omega
      have hN := H.out.below hC.below
      have x1 := hN.nd i hin
      obtain rfl := hN.at_ hin
      have HD : Hid (rightB L[i] = false → r0 = none) := Lib.hid (run_no hin hrun)
      have HY : Hid (rightB L[i] = true → ((stepC L[i].kind st d).bind fun s => runC (L.drop (i + 1)) s.1 s.2) = r0) := Lib.hid (run_yes hin hrun)
      have Hi := Lib.hid hin
      generalize L[i] = n at x1 HD HY
      have hR := Lib.hid (right_any n t p _ ((hC.alloc (.cells n.arr 49)).tab))
      have hX : (wr.alloc (.cells n.arr 49)).heap[wr.heap.size]? = some (.cells n.arr 49 (0, 0)) := heap_alloc_new _ _
      have hC1 := hC.alloc (.cells n.arr 49)
      clear hrun hN hC hin
      go_upto_region 9 with (fail)
      have ax := agg_nd hX
      generalize wr.heap.size = X at hX ax ⊢
      generalize wr.alloc (.cells n.arr 49) = w3 at hR hX hC1 ax ⊢
      go_wp2_with fail
      refine hR.out.mono ?_
      clear hR x1
      rintro e w4 ⟨rfl, hb4⟩
      have hX4 := (hb4.block X (Array.getElem?_eq_some_iff.1 hX).1).trans hX
      have hC4 := hC1.call hb4
      clear hX hC1 ax hb4
      cases hr : rightB n
      · have Hn := Lib.hid (HD.out hr)
        clear hr HD HY
        go_wp2_with fail
        go_ret
        exact ⟨by rw [Hn.out]; rfl, hC4.below⟩
      · have HY := Lib.hid (HY.out hr)
        have c0 : w4.cell? ⟨X, 0, none⟩ = some (.int .i64 n.kind) := by rw [cell?_blk' hX4]; rfl
        clear hr HD
        cases h6 : (n.kind == 6)
        · cases h11 : (n.kind == 11)
          · have HS : Hid (stepC n.kind st d = if badTop n.kind st then none else some (if opensK n.kind then st ++ [if n.kind = 10 then 2 else -1] else st, max d (st.length + 1))) := Lib.hid (by
              unfold stepC
              rw [if_neg (by simpa using h6), if_neg (by simpa using h11)]; rfl)
            go_upto_region 20 with (fail)
            generalize hz : (st.length : Int) - 1 = z
            have Hz := Lib.hid hz
            clear hz
            go_cut [61] (fun s61 wx => s61 = .bool (badTop n.kind st) ∧ wx.heap[X]? = some (.cells n.arr 49 (0, 0)) ∧ Chk w t p a c st wx)
            case first =>
              by_cases hs0 : st.length = 0
              · obtain rfl := nil_of_len hs0
                have hL0 : z < 0 := by have := Hz.out; simp at this; omega
                go_wp2_with fail
                all_goals go_meet
                all_goals exact ⟨rfl, hX4, hC4⟩
              · obtain ⟨m, hm⟩ : ∃ m, st.length = m + 1 := ⟨st.length - 1, by omega⟩
                obtain ⟨x, hx1, hx2⟩ := last_some hm
                obtain ⟨g, rfl⟩ := hC4.form (by omega)
                have cx := hC4.cell (by omega) hx2
                obtain rfl : z = (m : Int) := by have := Hz.out; omega
                have hm1 : (0 : Int) ≤ (m : Int) := by omega
                have hm2 : (m : Int) < (st.length : Int) := by omega
                have hm3 : (st.length : Int) ≤ 2000 := by omega
                clear hm
                have ax := agg_nd hX4
                have HSm := Lib.hid (small_any n w4)
                by_cases hlt : 0 ≤ x
                · have Hb : Hid (badTop n.kind st = !smallK n.kind) := Lib.hid (by simp [badTop, hx1, hlt])
                  go_wp2_with (go_at_call 97; refine HSm.out.mono ?_; rintro e w5 ⟨rfl, hb5⟩)
                  go_meet
                  exact ⟨by rw [Hb.out], (hb5.block X (Array.getElem?_eq_some_iff.1 hX4).1).trans hX4, hC4.call hb5⟩
                · have hlt' : x < 0 := by omega
                  have Hb : Hid (badTop n.kind st = false) := Lib.hid (by simp [badTop, hx1, hlt])
                  go_wp2_with fail
                  go_meet
                  exact ⟨by rw [Hb.out], hX4, hC4⟩
            clear hX4 hC4 c0
            case rest =>
              obtain ⟨rfl, hX4, hC4⟩ := hcut
              cases hbad : badTop n.kind st
              · have hr : runC (L.drop (i + 1)) (if opensK n.kind then st ++ [if n.kind = 10 then 2 else -1] else st) (max d (st.length + 1)) = r0 := by rw [← HY.out, HS.out, hbad]; rfl
                have ax := agg_nd hX4
                have HO := Lib.hid (opens_any n wc)
                have hm3 : (st.length : Int) ≤ 2000 := by omega
                obtain ⟨d', hd', hdd⟩ : ∃ d', max d (st.length + 1) = d' ∧ (d < (st.length : Int) + 1 ∧ d' = (st.length : Int) + 1 ∨ (st.length : Int) + 1 ≤ d ∧ d' = d) := ⟨_, rfl, by omega⟩
                rw [hd'] at hr
                have Hr := Lib.hid hr
                clear hbad hr HS HY hd'
                rcases hdd with ⟨hd, rfl⟩ | ⟨hd, rfl⟩
                all_goals
                  go_wp2_with fail
                  refine HO.out.mono ?_
                  clear HO
                  rintro e w5 ⟨rfl, hb5⟩
                  have hX5 := (hb5.block X (Array.getElem?_eq_some_iff.1 hX4).1).trans hX4
                  have hC5 := hC4.call hb5
                  have c5 : w5.cell? ⟨X, 0, none⟩ = some (.int .i64 n.kind) := by rw [cell?_blk' hX5]; rfl
                  clear hX4 hC4 ax hb5
                  cases hop : opensK n.kind
                  · have hr := Hr.out
                    rw [hop] at hr
                    have Hr := Lib.hid hr
                    clear hr hop
                    go_wp2_with fail
                    go_roundg (L.length + 1 - (i + 1))
                    case measure => have := Hi.out; omega
                    case rel => exact ⟨i + 1, a, c, st, _, rfl, by have := Hi.out; omega, rfl, rfl, by go_num, hC5, Hr.out, by omega, HA.out⟩
                  · obtain ⟨q, hq⟩ : ∃ q : Int, (if n.kind = 10 then (2 : Int) else -1) = q := ⟨_, rfl⟩
                    have hr := Hr.out
                    rw [hop, if_pos rfl, hq] at hr
                    have Hr := Lib.hid hr
                    have hq2 : q ≤ 2 := by rw [← hq]; split <;> omega
                    obtain ⟨i0, hi0', hz0, hz1, hz2⟩ := info_parts info_int
                    have hlt5 := hC5.tab.lt
                    clear hr hop
                    cases hk : (n.kind == 10)
                    · obtain rfl : q = -1 := by rw [← hq, if_neg (by simpa using hk)]
                      clear hq
                      go_wp2_with (at_builtin; refine wpList_append_lies _ rfl _ _ _ rfl (t + 1) 3 i0 (.int .i64 0) 1 8 Tryz.underlying50 hi0' hz0 hz1 hz2 rfl (by decide) (.slice a st.length c) st.length (ints st) rfl (hC5.alloc _).row ⟨w5.heap.size, 0, none⟩ 1 1 [.int .i64 (-1)] rfl rfl (World.news_of_block (heap_alloc_new _ _)) (by simp [Value.oneCell']) (by decide) (by unfold maxLen; omega) (by omega) (by simp; omega) _ rfl ?_; intro g8 cap8 w8 hown8 hgrow8 hat8 hlt8)
                      go_roundg (L.length + 1 - (i + 1))
                      case measure => have := Hi.out; omega
                      case rel => exact ⟨i + 1, some ⟨g8, 0, none⟩, cap8, st ++ [-1], _, rfl, by have := Hi.out; omega, by rw [List.length_append]; rfl, rfl, by go_num, (hC5.alloc _).grown hown8 hgrow8, Hr.out, by rw [List.length_append]; simp; omega, fun y hy => by rcases List.mem_append.1 hy with h | h; exact HA.out y h; simp at h; omega⟩
                    · obtain rfl : q = 2 := by rw [← hq, if_pos (by simpa using hk)]
                      clear hq
                      go_wp2_with (at_builtin; refine wpList_append_lies _ rfl _ _ _ rfl (t + 1) 3 i0 (.int .i64 0) 1 8 Tryz.underlying50 hi0' hz0 hz1 hz2 rfl (by decide) (.slice a st.length c) st.length (ints st) rfl (hC5.alloc _).row ⟨w5.heap.size, 0, none⟩ 1 1 [.int .i64 2] rfl rfl (World.news_of_block (heap_alloc_new _ _)) (by simp [Value.oneCell']) (by decide) (by unfold maxLen; omega) (by omega) (by simp; omega) _ rfl ?_; intro g8 cap8 w8 hown8 hgrow8 hat8 hlt8)
                      go_roundg (L.length + 1 - (i + 1))
                      case measure => have := Hi.out; omega
                      case rel => exact ⟨i + 1, some ⟨g8, 0, none⟩, cap8, st ++ [2], _, rfl, by have := Hi.out; omega, by rw [List.length_append]; rfl, rfl, by go_num, (hC5.alloc _).grown hown8 hgrow8, Hr.out, by rw [List.length_append]; simp; omega, fun y hy => by rcases List.mem_append.1 hy with h | h; exact HA.out y h; simp at h; omega⟩
              · have hr : r0 = none := by rw [← HY.out, HS.out, hbad]; rfl
                subst hr
                go_wp2_with fail
                go_ret
                exact ⟨rfl, hC4.below⟩
          · have h11' : n.kind = 11 := by simpa using h11
            by_cases hs0 : st.length = 0
            · obtain rfl := nil_of_len hs0
              have hL0 : (([] : List Int).length : Int) = 0 := rfl
              have hr : r0 = none := by rw [← HY.out]; simp [stepC, h11']
              subst hr
              go_wp2_with fail
              go_ret
              exact ⟨rfl, hC4.below⟩
            · obtain ⟨m, hm⟩ : ∃ m, st.length = m + 1 := ⟨st.length - 1, by omega⟩
              obtain ⟨x, hx1, hx2⟩ := last_some hm
              obtain ⟨g, rfl⟩ := hC4.form (by omega)
              have cx := hC4.cell (by omega) hx2
              have cz := hC4.free m
              have e1 : ((st.length : Int) - 1) = (m : Int) := by omega
              have hm1 : (0 : Int) ≤ (m : Int) := by omega
              have hm2 : (m : Int) < (st.length : Int) := by omega
              have hm3 : (st.length : Int) ≤ 2000 := by omega
              by_cases hlt : x < 1
              · have hr : r0 = none := by rw [← HY.out]; simp [stepC, h11', hx1, hlt]
                subst hr
                go_wp2_with fail
                go_ret
                exact ⟨rfl, hC4.below⟩
              · have hlt' : 1 ≤ x := by omega
                have hx3 : x ≤ 2 := HA.out x (List.mem_of_getElem? hx2)
                have hr : runC (L.drop (i + 1)) (st.set m (x - 1)) d = r0 := by rw [← HY.out]; simp [stepC, h11', hx1, hlt, show st.length - 1 = m by omega]
                have hC5 := hC4.set m (x - 1)
                go_wp2_with fail
                go_roundg (L.length + 1 - (i + 1))
                case measure => have := Hi.out; omega
                case rel => exact ⟨i + 1, some ⟨g, 0, none⟩, c, st.set m (x - 1), d, rfl, by have := Hi.out; omega, by rw [List.length_set, hm], rfl, by go_num, hC5, hr, by rw [List.length_set]; omega, fun y hy => by rcases List.mem_or_eq_of_mem_set hy with h | rfl; exact HA.out y h; omega⟩
        · have h6' : n.kind = 6 := by simpa using h6
          by_cases hs0 : st.length = 0
          · obtain rfl := nil_of_len hs0
            have hL0 : (([] : List Int).length : Int) = 0 := rfl
            have hr : r0 = none := by rw [← HY.out]; simp [stepC, h6']
            subst hr
            go_wp2_with fail
            go_ret
            exact ⟨rfl, hC4.below⟩
          · obtain ⟨m, hm⟩ : ∃ m, st.length = m + 1 := ⟨st.length - 1, by omega⟩
            obtain ⟨x, hx1, hx2⟩ := last_some hm
            obtain ⟨g, rfl⟩ := hC4.form (by omega)
            have cx := hC4.cell (by omega) hx2
            have e1 : ((st.length : Int) - 1) = (m : Int) := by omega
            have hm1 : (0 : Int) ≤ (m : Int) := by omega
            have hm2 : (m : Int) < (st.length : Int) := by omega
            have hm3 : (st.length : Int) ≤ 2000 := by omega
            have hm4 : (m : Int) ≤ (c : Int) := by have := hC4.cap; omega
            by_cases hlt : 0 < x
            · have hr : r0 = none := by rw [← HY.out]; simp [stepC, h6', hx1, hlt]
              subst hr
              go_wp2_with fail
              go_ret
              exact ⟨rfl, hC4.below⟩
            · have hlt' : x ≤ 0 := by omega
              have hr : runC (L.drop (i + 1)) st.dropLast d = r0 := by rw [← HY.out]; simp [stepC, h6', hx1, hlt]
              have hC5 := hC4.pop hm
              go_wp2_with fail
              go_roundg (L.length + 1 - (i + 1))
              case measure => have := Hi.out; omega
              case rel => exact ⟨i + 1, some ⟨g, 0, none⟩, c, st.dropLast, d, rfl, by have := Hi.out; omega, by rw [List.length_dropLast, hm]; simp, rfl, by go_num, hC5, hr, by rw [List.length_dropLast]; omega, fun y hy => HA.out y (List.dropLast_subset st hy)⟩
    · have hi2 : (L.length : Int) ≤ (i : Int) := by omega
      have hr : some (st, d) = r0 := by rw [List.drop_eq_nil_of_le (by omega)] at hrun; exact hrun
      subst hr
      cases h1 : decide (0 < st.length)
      · have h2 : st.length = 0 := by simpa using h1
        have h3 : ((st.length : Int)) ≤ 0 := by omega
        by_cases h4 : 40 < d
        · go_wp2_with fail
          go_ret
          exact ⟨ret_int (by simp [codeC, h2, h4]), hC.below⟩
        · have h5 : d ≤ 40 := by omega
          go_wp2_with fail
          go_ret
          exact ⟨ret_int (by simp [codeC, h2, h4]), hC.below⟩
      · have h2 : 0 < st.length := by simpa using h1
        have h3 : (0 : Int) < (st.length : Int) := by omega
        go_wp2_with fail
        go_ret
        exact ⟨ret_int (by simp [codeC, h2]), hC.below⟩
theorem check_any (p0 : Option Addr) (b off cap : Nat) (L : List Nd) (w : World) (h : NIn w p0 b off cap L) :
    Calls Tryz.prog 84 #[.slice p0 L.length cap] w fun e w' => e = .returned (.int .i64 (checkC L)) ∧ Below w.heap.size w w' := by
  by_cases hbig : 2000 < L.length
  · have hb' : (2000 : Int) < (L.length : Int) := by omega
    have hl := h.len
    have hc : checkC L = 6 := by unfold checkC; rw [if_pos hbig]
    rw [hc]
    clear hc hbig
    go_enter Tryz.func84, Tryz.ntmps84
    go_wp2_with fail
    go_ret
    exact ⟨rfl, .refl _ _⟩
  · rw [show checkC L = codeC (runC L [] 0) by unfold checkC; rw [if_neg hbig]]
    exact check_small p0 b off cap L w h (by omega)
end Go.Proofs.YtomehdepjenilaaGreat
