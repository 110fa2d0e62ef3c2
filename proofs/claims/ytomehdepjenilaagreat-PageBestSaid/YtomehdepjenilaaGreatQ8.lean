/-
  The document's side: whether a row of nodes is a list.
-/
import Derived.Test.YtomehdepjenilaaGreatQ4
import Derived.Test.YtomehdepjenilaaGreatQ6
import Derived.Great.BuildSlice
import Derived.Laws.OwnMore
namespace Go.Proofs.YtomehdepjenilaaGreat
open Go.ChangeShapes Go.WideShapes Go.ChangeAt Go.RowKit
attribute [local go_sem ↓] Go.wp_at_zero Go.wp_at_succ

def opn (x : Int) : List Value := [.bool (decide (0 ≤ x)), .int .i64 (if 0 ≤ x then 2 - x else 0)]
def opns (st : List Int) : List Value := st.flatMap opn
theorem opns_len : ∀ st : List Int, (opns st).length = st.length * 2
  | [] => rfl
  | x :: r => by unfold opns; rw [List.flatMap_cons, List.length_append]; have := opns_len r; unfold opns at this; rw [this]; simp [opn]; omega
theorem opns_append (a b : List Int) : opns (a ++ b) = opns a ++ opns b := by simp [opns]
theorem opns_at : ∀ (st : List Int) (j : Nat) (x : Int), st[j]? = some x → (opns st)[j * 2]? = some (.bool (decide (0 ≤ x))) ∧ (opns st)[j * 2 + 1]? = some (.int .i64 (if 0 ≤ x then 2 - x else 0))
  | [], _, _, h => by cases h
  | y :: r, 0, x, h => by
    simp at h; subst h
    exact ⟨rfl, rfl⟩
  | y :: r, j + 1, x, h => by
    have := opns_at r j x (by simpa using h)
    rw [show (j + 1) * 2 = j * 2 + 2 by omega]
    exact this
theorem opns_set : ∀ (st : List Int) (j : Nat) (x : Int), st[j]? = some x → 1 ≤ x → (opns st).set (j * 2 + 1) (.int .i64 (2 - x + 1)) = opns (st.set j (x - 1))
  | [], _, _, h, _ => by cases h
  | y :: r, 0, x, h, hx => by
    simp at h; subst h
    show (opn y ++ opns r).set 1 _ = opn (y - 1) ++ opns r
    have e1 : decide (0 ≤ y) = true := by simp; omega
    have e2 : decide (0 ≤ y - 1) = true := by simp; omega
    simp only [opn, e1, e2, if_pos (show 0 ≤ y by omega), if_pos (show 0 ≤ y - 1 by omega)]
    show [Value.bool true, .int .i64 (2 - y + 1)] ++ opns r = [Value.bool true, .int .i64 (2 - (y - 1))] ++ opns r
    rw [show 2 - y + 1 = 2 - (y - 1) by omega]
  | y :: r, j + 1, x, h, hx => by
    have := opns_set r j x (by simpa using h) hx
    rw [show (j + 1) * 2 + 1 = (j * 2 + 1) + 2 by omega]
    show (opn y ++ opns r).set ((j * 2 + 1) + 2) _ = opn y ++ opns (r.set j (x - 1))
    rw [← this]; rfl
theorem opns_take : ∀ (st : List Int) (m : Nat), (opns st).take (m * 2) = opns (st.take m)
  | [], m => by simp [opns]
  | y :: r, 0 => by simp [opns]
  | y :: r, m + 1 => by
    have := opns_take r m
    rw [show (m + 1) * 2 = m * 2 + 2 by omega]
    show (opn y ++ opns r).take (m * 2 + 2) = opn y ++ opns (r.take m)
    rw [← this]; rfl
theorem info_opn : (Tryz.prog.info? 118).map (fun i => (i.zero, i.size, i.bytes)) = some (some (.agg #[.bool false, .int .i64 0]), 2, 16) := by kernel_rfl
def bdOpn (parts : Array (Nat × Value)) : Sem Value := Instr.build 118 parts
@[go_sem ↓] theorem execOp_bdOpn (ρ : Operand → Value) (dst : Option Tmp) (x : Array (Nat × Operand)) (ty : TypeId) (pos : String) (after : Array Edge) (guard : Option (Nat × Bool)) :
    execOp ρ { dst, op := .build 118 x, type := ty, pos, after, guard } = (do pure (.value (← bdOpn (x.map fun (i, y) => (i, ρ y))))) := rfl
@[go_sem] theorem run_bdOpn (q : Bool) (w : World) : (bdOpn #[(0, .bool q)]).run Tryz.prog w = .ok (.agg #[.bool q, .int .i64 0]) w := by kernel_rfl
def bsOpn (parts : Array (Nat × Value)) : Sem Value := Instr.buildSlice 116 1 parts
@[go_sem ↓] theorem execOp_bsOpn (ρ : Operand → Value) (dst : Option Tmp) (x : Array (Nat × Operand)) (ty : TypeId) (pos : String) (after : Array Edge) (guard : Option (Nat × Bool)) :
    execOp ρ { dst, op := .buildSlice 116 1 x, type := ty, pos, after, guard } = (do pure (.value (← bsOpn (x.map fun (i, y) => (i, ρ y))))) := rfl
theorem fill_opn (a b : Value) : Instr.fill (fun i => some (i * 2, 2)) ((Array.range (1 * 2)).map ((Value.agg #[.bool false, .int .i64 0]).cells[· % (Value.agg #[.bool false, .int .i64 0]).cells.size]!)) [(0, .agg #[a, b])] = some #[a, b] := by kernel_rfl
theorem info_opn0 : (Tryz.prog.info? 118).map (fun i => (i.zero, i.size)) = some (some (.agg #[.bool false, .int .i64 0]), 2) := by kernel_rfl
@[go_sem] theorem run_bsOpn (a b : Value) (w : World) : (bsOpn #[(0, .agg #[a, b])]).run Tryz.prog w = .ok (.slice (some ⟨w.heap.size, 0, none⟩) 1 1) (w.alloc (.cells #[a, b] 118)) := by
  obtain ⟨i, hi, hzz⟩ := Option.map_eq_some_iff.1 info_opn0
  simp only [Prod.mk.injEq] at hzz
  obtain ⟨hz, hs⟩ := hzz
  refine run_buildSlice w _ 118 1 _ _ i (.agg #[.bool false, .int .i64 0]) Tryz.underlying116 hi hz (by rw [hs]; decide) (by rw [hs]; decide) ?_
  rw [hs]
  exact fill_opn a b
structure Chq (w : World) (a : Option Addr) (c : Nat) (st : List Int) (wr : World) : Prop where
  below : Below w.heap.size w wr
  row : wr.ownsRow w.heap.size 118 2 (.slice a st.length c) st.length (opns st)
section
variable {w wr w' : World} {c : Nat} {a : Option Addr} {st : List Int}
theorem Chq.call (h : Chq w a c st wr) (hb : Below wr.heap.size wr w') : Chq w a c st w' := ⟨h.below.trans (hb.mono h.below.size), ownsRow_below h.row hb⟩
theorem Chq.alloc (h : Chq w a c st wr) (o : Obj) : Chq w a c st (wr.alloc o) := h.call ((Below.refl _ _).alloc (Nat.le_refl _) o)
theorem Chq.form (h : Chq w a c st wr) (hn : 0 < st.length) : ∃ g, a = some ⟨g, 0, none⟩ := by
  obtain ⟨g, cap, e, _⟩ := h.row.form hn
  simp only [Value.slice.injEq] at e
  exact ⟨g, e.1⟩
theorem Chq.cap (h : Chq w a c st wr) : st.length ≤ c := by
  obtain ⟨_, ⟨h1, h2⟩ | ⟨g, cap, cur, h, _, _, h3, _⟩⟩ := h.row
  · omega
  · cases h; exact h3
theorem Chq.cell0 {g : Nat} (h : Chq w (some ⟨g, 0, none⟩) c st wr) {j : Nat} (hj : j < st.length) {x : Int} (hx : st[j]? = some x) : wr.cell? ⟨g, j * 2, none⟩ = some (.bool (decide (0 ≤ x))) := by
  rw [h.row.cellAt (j * 2) (by omega)]; exact (opns_at st j x hx).1
theorem Chq.cell1 {g : Nat} (h : Chq w (some ⟨g, 0, none⟩) c st wr) {j : Nat} (hj : j < st.length) {x : Int} (hx : st[j]? = some x) : wr.cell? ⟨g, j * 2 + 1, none⟩ = some (.int .i64 (if 0 ≤ x then 2 - x else 0)) := by
  rw [h.row.cellAt (j * 2 + 1) (by omega)]; exact (opns_at st j x hx).2
theorem Chq.free {g : Nat} (h : Chq w (some ⟨g, 0, none⟩) c st wr) (j : Nat) : wr.frozen? ⟨g, j, none⟩ = false := h.row.frozenAt j
theorem Chq.set {g : Nat} (h : Chq w (some ⟨g, 0, none⟩) c st wr) {j : Nat} {x : Int} (hx : st[j]? = some x) (h1 : 1 ≤ x) : Chq w (some ⟨g, 0, none⟩) c (st.set j (x - 1)) (wr.setCell ⟨g, j * 2 + 1, none⟩ (.int .i64 (2 - x + 1))) := by
  obtain ⟨h2, _⟩ := h.row.stored (j * 2 + 1) (.int .i64 (2 - x + 1))
  rw [opns_set st j x hx h1] at h2
  refine ⟨h.below.setCell (p := ⟨g, j * 2 + 1, none⟩) (h.row.lt g rfl).1 _, ?_⟩
  rw [List.length_set]; exact h2
theorem Chq.pop {m : Nat} {g : Nat} (h : Chq w (some ⟨g, 0, none⟩) c st wr) (hm : st.length = m + 1) : Chq w (some ⟨g, 0, none⟩) c st.dropLast wr := by
  refine ⟨h.below, ?_⟩
  have hd : st.dropLast.length = m := by rw [List.length_dropLast, hm]; rfl
  rw [hd]
  obtain ⟨hl, ⟨h1, h2⟩ | ⟨g', cap, cur, h1, h3, h4, h5, h6, h7, h8⟩⟩ := h.row
  · omega
  · simp only [Value.slice.injEq] at h1
    obtain ⟨h0, _, rfl⟩ := h1
    refine ⟨by rw [opns_len, hd], .inr ⟨g', c, cur, by rw [h0], h3, h4, by omega, h6, h7, ?_⟩⟩
    rw [List.dropLast_eq_take, ← opns_take, ← h8, List.take_take, hm]
    congr 1; omega
theorem Chq.grown {g cap : Nat} {x : Int} (h : Chq w a c st wr) (hown : w'.ownsRow w.heap.size 118 2 (.slice (some ⟨g, 0, none⟩) (st.length + 1) cap) (st.length + 1) (opns st ++ opn x)) (hg : wr.grownBy w' (Value.slice a st.length c).ownBlock) :
    Chq w (some ⟨g, 0, none⟩) cap (st ++ [x]) w' := by
  refine ⟨Below.grown h.below hg h.below.size (fun k hk => (h.row.lt k hk).1), ?_⟩
  rw [List.length_append, opns_append, show opns [x] = opn x by simp [opns]]; exact hown
end
end Go.Proofs.YtomehdepjenilaaGreat
namespace Go.Proofs.YtomehdepjenilaaGreat
open Go.ChangeShapes Go.WideShapes Go.ChangeAt Go.RowKit
attribute [local go_sem ↓] Go.wp_at_zero Go.wp_at_succ

def ChqI (w : World) (L : List Nd) (r0 : Option (List Int × Int)) (g : Nat) (t3 t4 t5 : Value) (wr : World) : Prop :=
  ∃ (i : Nat) (a : Option Addr) (c : Nat) (st : List Int) (d : Int), g = L.length + 1 - i ∧ i ≤ L.length ∧ t3 = .slice a st.length c ∧ t4 = .bool (decide (40 < d)) ∧ t5 = .int .i64 i ∧ Chq w a c st wr ∧ runC (L.drop i) st d = r0 ∧ st.length ≤ i ∧ ∀ y ∈ st, y ≤ 2
set_option maxRecDepth 100000 in
set_option maxHeartbeats 16000000 in
theorem qcheck_small (p0 : Option Addr) (b off cap : Nat) (L : List Nd) (w : World) (h : NIn w p0 b off cap L) (hlen : L.length ≤ 2000) :
    Calls Tryz.prog 34 #[.slice p0 L.length cap] w fun e w' => e = .returned (.int .i64 (codeC (runC L [] 0))) ∧ Below w.heap.size w w' := by
  have H := Lib.hid h
  have hl1 : (L.length : Int) ≤ (2000 : Int) := by omega
  obtain ⟨r0, hr0⟩ : ∃ r0, runC L [] 0 = r0 := ⟨_, rfl⟩
  have Hr0 := Lib.hid hr0
  rw [hr0]
  clear h hr0
  go_enter Tryz.func34, Tryz.ntmps34
  go_wp2_with fail
  go_loopg [3, 4, 5] (L.length + 1) (fun g t3 t4 t5 wr => ChqI w L r0 g t3 t4 t5 wr)
  case atStart => exact ⟨0, none, 0, [], 0, rfl, Nat.zero_le _, rfl, rfl, rfl, ⟨.refl _ _, World.ownsRow_nil _ _ _ _⟩, by rw [List.drop_zero]; exact Hr0.out, Nat.zero_le _, fun _ h => by simp at h⟩
  case round =>
    clear Hr0
    obtain ⟨i, a, c, st, d, rfl, hi, rfl, rfl, rfl, hC, hrun, hsti, hall⟩ := hrel
    have HA := Lib.hid hall
    clear hall
    have hi1 : (0 : Int) ≤ (i : Int) := by omega
    by_cases hin : i < L.length
    · have hi2 : (i : Int) < (L.length : Int) := by omega
      have hN := H.out.below hC.below
      have x1 := hN.nd i hin
      obtain rfl := hN.at_ hin
      have HD : Hid (rightB L[i] = false → r0 = none) := Lib.hid (run_no hin hrun)
      have HY : Hid (rightB L[i] = true → ((stepC L[i].kind st d).bind fun s => runC (L.drop (i + 1)) s.1 s.2) = r0) := Lib.hid (run_yes hin hrun)
      have Hi := Lib.hid hin
      generalize L[i] = n at x1 HD HY
      have hR := qgood_any n (wr.alloc (.cells n.arr 49))
      rw [good_same] at hR
      have hR := Lib.hid hR
      have hX : (wr.alloc (.cells n.arr 49)).heap[wr.heap.size]? = some (.cells n.arr 49 (0, 0)) := heap_alloc_new _ _
      have hC1 := hC.alloc (.cells n.arr 49)
      have hm3 : (st.length : Int) ≤ 2000 := by omega
      clear hrun hN hC hin
      go_upto_region 10 with (fail)
      have ax := agg_nd hX
      generalize hz : (st.length : Int) - 1 = z
      have Hz := Lib.hid hz
      clear hz
      generalize wr.heap.size = X at hX ax ⊢
      generalize wr.alloc (.cells n.arr 49) = w3 at hR hX hC1 ax ⊢
      go_wp2_with fail
      refine hR.out.mono ?_
      clear hR x1
      rintro e w4 ⟨rfl, hb4⟩
      have hX4 := (hb4.block X (Array.getElem?_eq_some_iff.1 hX).1).trans hX
      have hC4 := hC1.call hb4
      clear hX hC1 ax hb4
      cases hr : rightB n
      · have Hn := Lib.hid (HD.out hr)
        clear hr HD HY
        go_wp2_with fail
        go_ret
        exact ⟨by rw [Hn.out]; rfl, hC4.below⟩
      · have HY := Lib.hid (HY.out hr)
        have c0 : w4.cell? ⟨X, 0, none⟩ = some (.int .i64 n.kind) := by rw [cell?_blk' hX4]; rfl
        clear hr HD
        cases h6 : (n.kind == 6)
        · cases h11 : (n.kind == 11)
          · have HS : Hid (stepC n.kind st d = if badTop n.kind st then none else some (if opensK n.kind then st ++ [if n.kind = 10 then 2 else -1] else st, max d (st.length + 1))) := Lib.hid (by
              unfold stepC
              rw [if_neg (by simpa using h6), if_neg (by simpa using h11)]; rfl)
            go_upto_region 20 with (fail)
            go_cut [81] (fun s81 wx => s81 = .bool (badTop n.kind st) ∧ wx.heap[X]? = some (.cells n.arr 49 (0, 0)) ∧ Chq w a c st wx)
            case first =>
              by_cases hs0 : st.length = 0
              · obtain rfl := nil_of_len hs0
                have hL0 : z < 0 := by have := Hz.out; simp at this; omega
                go_wp2_with fail
                all_goals go_meet
                all_goals exact ⟨rfl, hX4, hC4⟩
              · obtain ⟨m, hm⟩ : ∃ m, st.length = m + 1 := ⟨st.length - 1, by omega⟩
                obtain ⟨x, hx1, hx2⟩ := last_some hm
                obtain ⟨g, rfl⟩ := hC4.form (by omega)
                have cx := hC4.cell0 (by omega) hx2
                obtain rfl : z = (m : Int) := by have := Hz.out; omega
                have hm1 : (0 : Int) ≤ (m : Int) := by omega
                have hm2 : (m : Int) < (st.length : Int) := by omega
                clear hm
                have ax := agg_nd hX4
                have HSm := Lib.hid (qsmall n w4)
                by_cases hlt : 0 ≤ x
                · have Hb : Hid (badTop n.kind st = !smallK n.kind) := Lib.hid (by simp [badTop, hx1, hlt])
                  rw [decide_eq_true hlt] at cx
                  go_wp2_with (go_at_call 62; refine HSm.out.mono ?_; rintro e w5 ⟨rfl, hb5⟩)
                  go_meet
                  exact ⟨by rw [Hb.out], (hb5.block X (Array.getElem?_eq_some_iff.1 hX4).1).trans hX4, hC4.call hb5⟩
                · have Hb : Hid (badTop n.kind st = false) := Lib.hid (by simp [badTop, hx1, hlt])
                  rw [decide_eq_false hlt] at cx
                  go_wp2_with fail
                  go_meet
                  exact ⟨by rw [Hb.out], hX4, hC4⟩
            clear hX4 hC4 c0
            case rest =>
              obtain ⟨rfl, hX4, hC4⟩ := hcut
              cases hbad : badTop n.kind st
              · have hr : runC (L.drop (i + 1)) (if opensK n.kind then st ++ [if n.kind = 10 then 2 else -1] else st) (max d (st.length + 1)) = r0 := by rw [← HY.out, HS.out, hbad]; rfl
                have ax := agg_nd hX4
                have HO := Lib.hid (qopens n wc)
                obtain ⟨d', hd', hdd⟩ : ∃ d', max d (st.length + 1) = d' ∧ decide (40 < d') = (decide (40 < d) || decide (40 ≤ (st.length : Int))) := ⟨_, rfl, by rw [Bool.eq_iff_iff]; simp; omega⟩
                rw [hd'] at hr
                have Hr := Lib.hid hr
                have Hdd := Lib.hid hdd
                clear hbad hr HS HY hd' hdd
                cases hd0 : decide (40 < d)
                all_goals
                  have Hd0 := Lib.hid hd0
                  clear hd0
                  go_upto_region 23 with (fail)
                  go_wp2_with fail
                  refine HO.out.mono ?_
                  clear HO
                  rintro e w5 ⟨rfl, hb5⟩
                  have hX5 := (hb5.block X (Array.getElem?_eq_some_iff.1 hX4).1).trans hX4
                  have hC5 := hC4.call hb5
                  have c5 : w5.cell? ⟨X, 0, none⟩ = some (.int .i64 n.kind) := by rw [cell?_blk' hX5]; rfl
                  clear hX4 hC4 ax hb5
                  cases hop : opensK n.kind
                  · have hr := Hr.out
                    rw [hop] at hr
                    have Hr := Lib.hid hr
                    clear hr hop
                    go_wp2_with fail
                    go_roundg (L.length + 1 - (i + 1))
                    case measure => have := Hi.out; omega
                    case rel => exact ⟨i + 1, a, c, st, d', rfl, by have := Hi.out; omega, rfl, by rw [Hdd.out, Hd0.out]; simp, by go_num, hC5, Hr.out, by omega, HA.out⟩
                  · obtain ⟨q, hq⟩ : ∃ q : Int, (if n.kind = 10 then (2 : Int) else -1) = q := ⟨_, rfl⟩
                    have hr := Hr.out
                    rw [hop, if_pos rfl, hq] at hr
                    have Hr := Lib.hid hr
                    have hq2 : q ≤ 2 := by rw [← hq]; split <;> omega
                    have hqo : opn q = [.bool (n.kind == 10), .int .i64 0] := by
                      rw [← hq]
                      cases hk : (n.kind == 10)
                      · rw [if_neg (by simpa using hk)]; rfl
                      · rw [if_pos (by simpa using hk)]; rfl
                    obtain ⟨i0, hi0', hz0, hz1, hz2⟩ := info_parts info_opn
                    have hsz5 := hC5.below.size
                    clear hr hop hq
                    have Hqo := Lib.hid hqo
                    clear hqo
                    go_wp2_with (at_builtin; refine wpList_append_lies _ rfl _ _ _ rfl w.heap.size 118 i0 (.agg #[.bool false, .int .i64 0]) 2 16 Tryz.underlying116 hi0' hz0 hz1 hz2 rfl (by decide) (.slice a st.length c) st.length (opns st) rfl (hC5.alloc _).row ⟨w5.heap.size, 0, none⟩ 1 1 [.bool (n.kind == 10), .int .i64 0] rfl rfl (World.news_of_block (heap_alloc_new _ _)) (by simp [Value.oneCell']) (by decide) (by unfold maxLen; omega) (by omega) (by simp; omega) _ rfl ?_; intro g8 cap8 w8 hown8 hgrow8 hat8 hlt8)
                    go_roundg (L.length + 1 - (i + 1))
                    case measure => have := Hi.out; omega
                    case rel => exact ⟨i + 1, some ⟨g8, 0, none⟩, cap8, st ++ [q], d', rfl, by have := Hi.out; omega, by rw [List.length_append]; rfl, by rw [Hdd.out, Hd0.out]; simp, by go_num, (hC5.alloc _).grown (by rw [Hqo.out]; exact hown8) hgrow8, Hr.out, by rw [List.length_append]; simp; omega, fun y hy => by rcases List.mem_append.1 hy with h | h; exact HA.out y h; simp at h; omega⟩
              · have hr : r0 = none := by rw [← HY.out, HS.out, hbad]; rfl
                subst hr
                go_wp2_with fail
                go_ret
                exact ⟨rfl, hC4.below⟩
          · have h11' : n.kind = 11 := by simpa using h11
            by_cases hs0 : st.length = 0
            · obtain rfl := nil_of_len hs0
              have hL0 : z < 0 := by have := Hz.out; simp at this; omega
              have hr : r0 = none := by rw [← HY.out]; simp [stepC, h11']
              subst hr
              go_wp2_with fail
              go_ret
              exact ⟨rfl, hC4.below⟩
            · obtain ⟨m, hm⟩ : ∃ m, st.length = m + 1 := ⟨st.length - 1, by omega⟩
              obtain ⟨x, hx1, hx2⟩ := last_some hm
              obtain ⟨g, rfl⟩ := hC4.form (by omega)
              have cx := hC4.cell0 (by omega) hx2
              have cy := hC4.cell1 (by omega) hx2
              have cz := hC4.free (m * 2 + 1)
              obtain rfl : z = (m : Int) := by have := Hz.out; omega
              have hm1 : (0 : Int) ≤ (m : Int) := by omega
              have hm2 : (m : Int) < (st.length : Int) := by omega
              have hx3 : x ≤ 2 := HA.out x (List.mem_of_getElem? hx2)
              have Hm := Lib.hid hm
              clear hm
              by_cases h0 : 0 ≤ x
              · rw [decide_eq_true h0] at cx
                rw [if_pos h0] at cy
                by_cases hlt : x < 1
                · have hr : r0 = none := by rw [← HY.out]; simp [stepC, h11', hx1, hlt]
                  subst hr
                  have e2 : ((2 - x : Int) == 2) = true := by simp; omega
                  go_wp2_with fail
                  go_ret
                  exact ⟨rfl, hC4.below⟩
                · have hlt' : 1 ≤ x := by omega
                  have hr : runC (L.drop (i + 1)) (st.set m (x - 1)) d = r0 := by rw [← HY.out]; simp [stepC, h11', hx1, hlt, show st.length - 1 = m by have := Hm.out; omega]
                  have hC5 := hC4.set hx2 hlt'
                  have e2 : ((2 - x : Int) == 2) = false := by rw [beq_eq_false_iff_ne]; omega
                  go_wp2_with fail
                  go_roundg (L.length + 1 - (i + 1))
                  case measure => have := Hi.out; omega
                  case rel => exact ⟨i + 1, some ⟨g, 0, none⟩, c, st.set m (x - 1), d, rfl, by have := Hi.out; omega, by rw [List.length_set], rfl, by go_num, hC5, hr, by rw [List.length_set]; omega, fun y hy => by rcases List.mem_or_eq_of_mem_set hy with h | rfl; exact HA.out y h; omega⟩
              · rw [decide_eq_false h0] at cx
                have hr : r0 = none := by rw [← HY.out]; simp [stepC, h11', hx1, show x < 1 by omega]
                subst hr
                go_wp2_with fail
                go_ret
                exact ⟨rfl, hC4.below⟩
        · have h6' : n.kind = 6 := by simpa using h6
          by_cases hs0 : st.length = 0
          · obtain rfl := nil_of_len hs0
            have hL0 : z < 0 := by have := Hz.out; simp at this; omega
            have hr : r0 = none := by rw [← HY.out]; simp [stepC, h6']
            subst hr
            go_wp2_with fail
            go_ret
            exact ⟨rfl, hC4.below⟩
          · obtain ⟨m, hm⟩ : ∃ m, st.length = m + 1 := ⟨st.length - 1, by omega⟩
            obtain ⟨x, hx1, hx2⟩ := last_some hm
            obtain ⟨g, rfl⟩ := hC4.form (by omega)
            have cx := hC4.cell0 (by omega) hx2
            have cy := hC4.cell1 (by omega) hx2
            obtain rfl : z = (m : Int) := by have := Hz.out; omega
            have hm1 : (0 : Int) ≤ (m : Int) := by omega
            have hm2 : (m : Int) < (st.length : Int) := by omega
            have hm4 : (m : Int) ≤ (c : Int) := by have := hC4.cap; omega
            have Hm := Lib.hid hm
            clear hm
            have HGo : Hid (¬ 0 < x → Chq w (some ⟨g, 0, none⟩) c st.dropLast w4 ∧ runC (L.drop (i + 1)) st.dropLast d = r0) := Lib.hid fun hlt => ⟨hC4.pop Hm.out, by rw [← HY.out]; simp [stepC, h6', hx1, hlt]⟩
            have Hdl : Hid (st.dropLast.length = m) := Lib.hid (by rw [List.length_dropLast]; have := Hm.out; omega)
            by_cases h0 : 0 ≤ x
            · rw [decide_eq_true h0] at cx
              rw [if_pos h0] at cy
              by_cases hlt : 0 < x
              · have hr : r0 = none := by rw [← HY.out]; simp [stepC, h6', hx1, hlt]
                subst hr
                have e2 : ((2 - x : Int) != 2) = true := by simp; omega
                go_wp2_with fail
                go_ret
                exact ⟨rfl, hC4.below⟩
              · obtain ⟨hC5, hr⟩ := HGo.out hlt
                have e2 : ((2 - x : Int) != 2) = false := by simp; omega
                go_wp2_with fail
                go_roundg (L.length + 1 - (i + 1))
                case measure => have := Hi.out; omega
                case rel => exact ⟨i + 1, some ⟨g, 0, none⟩, c, st.dropLast, d, rfl, by have := Hi.out; omega, by rw [Hdl.out], rfl, by go_num, hC5, hr, by rw [Hdl.out]; omega, fun y hy => HA.out y (List.dropLast_subset st hy)⟩
            · rw [decide_eq_false h0] at cx
              obtain ⟨hC5, hr⟩ := HGo.out (by omega)
              go_wp2_with fail
              go_roundg (L.length + 1 - (i + 1))
              case measure => have := Hi.out; omega
              case rel => exact ⟨i + 1, some ⟨g, 0, none⟩, c, st.dropLast, d, rfl, by have := Hi.out; omega, by rw [Hdl.out], rfl, by go_num, hC5, hr, by rw [Hdl.out]; omega, fun y hy => HA.out y (List.dropLast_subset st hy)⟩
    · have hi2 : (L.length : Int) ≤ (i : Int) := by omega
      have hr : some (st, d) = r0 := by rw [List.drop_eq_nil_of_le (by omega)] at hrun; exact hrun
      subst hr
      cases h1 : decide (0 < st.length)
      · have h2 : st.length = 0 := by simpa using h1
        have h3 : ((st.length : Int)) ≤ 0 := by omega
        cases h4 : decide (40 < d)
        all_goals
          have H4 := Lib.hid h4
          clear h4
          go_wp2_with fail
          go_ret
          exact ⟨ret_int (by have := H4.out; simp at this; simp [codeC, h2]; omega), hC.below⟩
      · have h2 : 0 < st.length := by simpa using h1
        have h3 : (0 : Int) < (st.length : Int) := by omega
        go_wp2_with fail
        go_ret
        exact ⟨ret_int (by simp [codeC, h2]), hC.below⟩
theorem qcheck (p0 : Option Addr) (b off cap : Nat) (L : List Nd) (w : World) (h : NIn w p0 b off cap L) :
    Calls Tryz.prog 34 #[.slice p0 L.length cap] w fun e w' => e = .returned (.int .i64 (checkC L)) ∧ Below w.heap.size w w' := by
  by_cases hbig : 2000 < L.length
  · have hb' : (2000 : Int) < (L.length : Int) := by omega
    have hl := h.len
    have hc : checkC L = 6 := by unfold checkC; rw [if_pos hbig]
    rw [hc]
    clear hc hbig
    go_enter Tryz.func34, Tryz.ntmps34
    go_wp2_with fail
    go_ret
    exact ⟨rfl, .refl _ _⟩
  · rw [show checkC L = codeC (runC L [] 0) by unfold checkC; rw [if_neg hbig]]
    exact qcheck_small p0 b off cap L w h (by omega)
end Go.Proofs.YtomehdepjenilaaGreat
