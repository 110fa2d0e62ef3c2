/-
  nodes.Check: whether a row of nodes is a list.
-/
import Derived.Test.YtaehkbbdmamfpaaGreatDoorVBs
import Derived.Outline
import Derived.Deep.RegionHeld3
import Derived.Deep.QuietTactic
import Derived.Deep.OwnRows
import Derived.Deep.DeepCutAuto
import Derived.BigQuiet
import Derived.Deep.DrawnRows
import Derived.RangeFuncNested
import Derived.RangeFuncBound
import Derived.RangeFuncCalls
import Derived.RangeFuncLeaves
import Derived.RangeFuncFrom
import Derived.RangeFuncBox
import Derived.Shelf.Abstract
import Derived.Shelf.RegionOpen
import Derived.OwnWalkIn
import Derived.TacticsInMore
import Derived.LoopNIn
import Derived.LoopIn
set_option maxRecDepth 100000
set_option maxHeartbeats 16000000
namespace Go.Proofs.YtaehkbbdmamfpaaGreatDoor
open Go.ChangeShapes Go.WideShapes Go.ChangeAt Go.RowKit
section
attribute [local go_sem ↓] Go.wp_at_zero Go.wp_at_succ
structure Chk (w : World) (t p : Nat) (a : Option Addr) (c : Nat) (st : List Int) (wr : World) : Prop where
 below : Below w.heap.size w wr
 tab : Table wr t p
 hb : w.heap.size <= t
 hpt : p <= t
 row : wr.ownsRow (t + 1) 3 1 (.slice a st.length c) st.length (ints st)
section
variable {w wr w' : World} {t p c : Nat} {a : Option Addr} {st : List Int}
theorem Chk.call (h : Chk w t p a c st wr) (hb : Below wr.heap.size wr w') : Chk w t p a c st w' :=
 ⟨h.below.trans (hb.mono h.below.size), h.tab.below hb, h.hb, h.hpt, zad h.row hb⟩
theorem Chk.alloc (h : Chk w t p a c st wr) (o : Obj) : Chk w t p a c st (wr.alloc o) := h.call ((Below.refl _ _).alloc (Nat.le_refl _) o)
theorem Chk.form (h : Chk w t p a c st wr) (hn : 0 < st.length) : ∃ g, a = some ⟨g, 0, none⟩ := by
 obtain ⟨g, cap, e, _⟩ := h.row.form hn
 simp only [Value.slice.injEq] at e
 exact ⟨g, e.1⟩
theorem Chk.cap (h : Chk w t p a c st wr) : st.length <= c := by
 obtain ⟨_, ⟨h1, h2⟩ | ⟨g, cap, cur, h, _, _, h3, _⟩⟩ := h.row
 · omega
 · cases h; exact h3
theorem Chk.cell {g : Nat} (h : Chk w t p (some ⟨g, 0, none⟩) c st wr) {j : Nat} (hj : j < st.length) {x : Int} (hx : st[j]? = some x) : wr.cell? ⟨g, j, none⟩ = some (.int .i64 x) := by
 rw [h.row.cellAt j (by omega), ints_idx, hx]; rfl
theorem Chk.free {g : Nat} (h : Chk w t p (some ⟨g, 0, none⟩) c st wr) (j : Nat) : wr.frozen? ⟨g, j, none⟩ = false := h.row.frozenAt j
theorem Chk.set {g : Nat} (h : Chk w t p (some ⟨g, 0, none⟩) c st wr) (j : Nat) (x : Int) : Chk w t p (some ⟨g, 0, none⟩) c (st.set j x) (wr.setCell ⟨g, j, none⟩ (.int .i64 x)) := by
 obtain ⟨h1, h2⟩ := h.row.stored j (.int .i64 x)
 rw [ints_lset] at h1
 have hg := (h.row.lt g rfl).1
 have hb : Below (t + 1) wr (wr.setCell ⟨g, j, none⟩ (.int .i64 x)) := (Below.refl _ _).setCell (p := ⟨g, j, none⟩) hg _
 refine ⟨h.below.trans (hb.mono (by have := h.hb; omega)), ⟨((zbc hb).2.2.1 _ _ _ (by omega)).trans h.tab.row, (hb.cell (by have := h.hpt; simp only; omega)).trans h.tab.cap⟩, h.hb, h.hpt, ?_⟩
 rw [List.length_set]; exact h1
theorem Chk.pop {m : Nat} {g : Nat} (h : Chk w t p (some ⟨g, 0, none⟩) c st wr) (hm : st.length = m + 1) : Chk w t p (some ⟨g, 0, none⟩) c st.dropLast wr := by
 refine ⟨h.below, h.tab, h.hb, h.hpt, ?_⟩
 have hd : st.dropLast.length = m := by rw [List.length_dropLast, hm]; rfl
 rw [hd]
 obtain ⟨hl, ⟨h1, h2⟩ | ⟨g', cap, cur, h1, h3, h4, h5, h6, h7, h8⟩⟩ := h.row
 · omega
 ·
  simp only [Value.slice.injEq] at h1
  obtain ⟨h0, _, rfl⟩ := h1
  refine ⟨by rw [ints_len, hd]; omega, .inr ⟨g', c, cur, by rw [h0], h3, h4, by omega, h6, h7, ?_⟩⟩
  rw [List.dropLast_eq_take, <- ints_take, <- h8, List.take_take, hm]
  congr 1; omega
theorem Chk.grown {g cap : Nat} {x : Int} (h : Chk w t p a c st wr) (hown : w'.ownsRow (t + 1) 3 1 (.slice (some ⟨g, 0, none⟩) (st.length + 1) cap) (st.length + 1) (ints st ++ [.int .i64 x])) (hg : wr.grownBy w' (Value.slice a st.length c).ownBlock) :
 Chk w t p (some ⟨g, 0, none⟩) cap (st ++ [x]) w' := by
 have hb : Below (t + 1) wr w' := Below.grown (Below.refl _ _) hg (by have := h.tab.lt; omega) (fun k hk => (h.row.lt k hk).1)
 refine ⟨h.below.trans (hb.mono (by have := h.hb; omega)), ⟨((zbc hb).2.2.1 _ _ _ (by omega)).trans h.tab.row, (hb.cell (by have := h.hpt; simp only; omega)).trans h.tab.cap⟩, h.hb, h.hpt, ?_⟩
 rw [List.length_append, zcb]; exact hown
end
theorem agg_nd {w : World} {X : Nat} {n : Nd} {t : TypeId} {fr : Nat × Nat} (h : w.heap[X]? = some (.cells n.arr t fr)) : agg? w X 0 19 = some n.arr := by
 rw [agg?_blk' h 0 19 (by simp [Nd.size_arr])]; simp [Nd.arr, Nd.cells]
def zcO (k : Int) (st : List Int) : Bool := match st.getLast? with | none => false | some x => decide (0 <= x) && !zbD k
def ChkI (w : World) (L : List Nd) (t p : Nat) (r0 : Option (List Int × Int)) (g : Nat) (t4 t5 t16 : Value) (wr : World) : Prop :=
 ∃ (i : Nat) (a : Option Addr) (c : Nat) (st : List Int) (d : Int), g = L.length + 1 - i /\ i <= L.length /\ t4 = .slice a st.length c /\ t5 = .int .i64 d /\ t16 = .int .i64 i /\ Chk w t p a c st wr /\ runC (L.drop i) st d = r0 /\ st.length <= i /\ ∀ y ∈ st, y <= 2
theorem run_no {L : List Nd} {i : Nat} (hi : i < L.length) {st : List Int} {d : Int} {r0 : Option (List Int × Int)} (h : runC (L.drop i) st d = r0) (hr : zaX L[i] = false) : r0 = none := by
 rw [List.drop_eq_getElem_cons hi] at h
 simp only [runC, hr, Bool.false_eq_true, if_false] at h
 exact h.symm
theorem run_yes {L : List Nd} {i : Nat} (hi : i < L.length) {st : List Int} {d : Int} {r0 : Option (List Int × Int)} (h : runC (L.drop i) st d = r0) (hr : zaX L[i] = true) : ((zbY L[i].kind st d).bind fun s => runC (L.drop (i + 1)) s.1 s.2) = r0 := by
 rw [List.drop_eq_getElem_cons hi] at h
 simp only [runC, hr, if_true] at h
 exact h
theorem zcU {st : List Int} {m : Nat} (hm : st.length = m + 1) : ∃ x, st.getLast? = some x /\ st[m]? = some x := by
 refine ⟨st[m]'(by omega), ?_, List.getElem?_eq_getElem (by omega)⟩
 rw [List.getLast?_eq_getElem?, show st.length - 1 = m by omega, List.getElem?_eq_getElem (by omega)]
theorem Table.made {w1 : World} {p : Nat} (h : w1.cell? ⟨p, 0, none⟩ = some (.func (.func 74) #[] #[])) : Table (w1.alloc (.cells (KT p) 100)) w1.heap.size p :=
 ⟨agg?_whole _ _ _ _ _ _ rfl (KT_size _), (Below.cell ((Below.refl w1.heap.size w1).alloc (Nat.le_refl _) _) (World.block_lt_of_cell? _ _ h)).trans h⟩
theorem zcy {st : List Int} (h : st.length = 0) : st = [] := List.length_eq_zero_iff.1 h
theorem check_small (p0 : Option Addr) (b off cap : Nat) (L : List Nd) (w : World) (h : NIn w p0 b off cap L) (hlen : L.length <= 2000) :
 Calls Tryz.prog 20 #[.slice p0 L.length cap] w fun e w' => e = .returned (.int .i64 (codeC (runC L [] 0))) /\ Below w.heap.size w w' := by
 have H := zzh h
 have hl1 : (L.length : Int) <= (2000 : Int) := by omega
 obtain ⟨r0, hr0⟩ : ∃ r0, runC L [] 0 = r0 := ⟨_, rfl⟩
 have Hr0 := zzh hr0
 rw [hr0]
 clear h hr0
 go_enter Tryz.func20, Tryz.ntmps20
 go_wp2_with (go_at_call 44; refine (kinds_any _).mono ?_; rintro e w1 ⟨p, rfl, hb1, hc1⟩)
 have hC : Chk w w1.heap.size p none 0 [] (w1.alloc (.cells (KT p) 100)) :=
  ⟨hb1.alloc hb1.size _, Table.made hc1, hb1.size, Nat.le_of_lt (World.block_lt_of_cell? _ _ hc1), World.ownsRow_nil _ _ _ _⟩
 generalize w1.alloc (.cells (KT p) 100) = w2 at hC ⊢
 generalize w1.heap.size = t at hC ⊢
 clear hb1 hc1
 go_loopg [4, 5, 16] (L.length + 1) (fun g t4 t5 t16 wr => ChkI w L t p r0 g t4 t5 t16 wr)
 case atStart => exact ⟨0, none, 0, [], 0, rfl, Nat.zero_le _, rfl, rfl, rfl, hC, by rw [List.drop_zero]; exact Hr0.out, Nat.zero_le _, fun _ h => by simp at h⟩
 case round =>
  clear hC Hr0
  obtain ⟨i, a, c, st, d, rfl, hi, rfl, rfl, rfl, hC, hrun, hsti, hall⟩ := hrel
  have HA := zzh hall
  clear hall
  have hi1 : (0 : Int) <= (i : Int) := by omega
  by_cases hin : i < L.length
  ·
   have hi2 : (i : Int) < (L.length : Int) := by omega
   have hN := H.out.below hC.below
   have x1 := hN.nd i hin
   obtain rfl := hN.at_ hin
   have HD : Hid (zaX L[i] = false -> r0 = none) := zzh (run_no hin hrun)
   have HY : Hid (zaX L[i] = true -> ((zbY L[i].kind st d).bind fun s => runC (L.drop (i + 1)) s.1 s.2) = r0) := zzh (run_yes hin hrun)
   have Hi := zzh hin
   generalize L[i] = n at x1 HD HY
   have hR := zzh (right_any n t p _ ((hC.alloc (.cells n.arr 53)).tab))
   have hX : (wr.alloc (.cells n.arr 53)).heap[wr.heap.size]? = some (.cells n.arr 53 (0, 0)) := heap_alloc_new _ _
   have hC1 := hC.alloc (.cells n.arr 53)
   clear hrun hN hC hin
   go_upto_region 9 with (fail)
   have ax := agg_nd hX
   generalize wr.heap.size = X at hX ax ⊢
   generalize wr.alloc (.cells n.arr 53) = w3 at hR hX hC1 ax ⊢
   go_wp2_with fail
   refine hR.out.mono ?_
   clear hR x1
   rintro e w4 ⟨rfl, hb4⟩
   have hX4 := (hb4.block X (Array.getElem?_eq_some_iff.1 hX).1).trans hX
   have hC4 := hC1.call hb4
   clear hX hC1 ax hb4
   cases hr : zaX n
   ·
    have Hn := zzh (HD.out hr)
    clear hr HD HY
    go_wp2_with fail
    go_ret
    exact ⟨by rw [Hn.out]; rfl, hC4.below⟩
   ·
    have HY := zzh (HY.out hr)
    have c0 : w4.cell? ⟨X, 0, none⟩ = some (.int .i64 n.kind) := by rw [cell?_blk' hX4]; rfl
    clear hr HD
    cases h6 : (n.kind == 6)
    ·
     cases h11 : (n.kind == 11)
     ·
      have HS : Hid (zbY n.kind st d = if zcO n.kind st then none else some (if zaH n.kind then st ++ [if n.kind = 10 then 2 else -1] else st, max d (st.length + 1))) := zzh (by
       unfold zbY
       rw [if_neg (by simpa using h6), if_neg (by simpa using h11)]; rfl)
      go_upto_region 20 with (fail)
      generalize hz : (st.length : Int) - 1 = z
      have Hz := zzh hz
      clear hz
      go_cut [61] (fun s61 wx => s61 = .bool (zcO n.kind st) /\ wx.heap[X]? = some (.cells n.arr 53 (0, 0)) /\ Chk w t p a c st wx)
      case first =>
       by_cases hs0 : st.length = 0
       ·
        obtain rfl := zcy hs0
        have hL0 : z < 0 := by have := Hz.out; simp at this; omega
        go_wp2_with fail
        all_goals go_meet
        all_goals exact ⟨rfl, hX4, hC4⟩
       ·
        obtain ⟨m, hm⟩ : ∃ m, st.length = m + 1 := ⟨st.length - 1, by omega⟩
        obtain ⟨x, hx1, hx2⟩ := zcU hm
        obtain ⟨g, rfl⟩ := hC4.form (by omega)
        have cx := hC4.cell (by omega) hx2
        obtain rfl : z = (m : Int) := by have := Hz.out; omega
        have hm1 : (0 : Int) <= (m : Int) := by omega
        have hm2 : (m : Int) < (st.length : Int) := by omega
        have hm3 : (st.length : Int) <= 2000 := by omega
        clear hm
        have ax := agg_nd hX4
        have HSm := zzh (small_any n w4)
        by_cases hlt : 0 <= x
        ·
         have Hb : Hid (zcO n.kind st = !zbD n.kind) := zzh (by simp [zcO, hx1, hlt])
         go_wp2_with (go_at_call 46; refine HSm.out.mono ?_; rintro e w5 ⟨rfl, hb5⟩)
         go_meet
         exact ⟨by rw [Hb.out], (hb5.block X (Array.getElem?_eq_some_iff.1 hX4).1).trans hX4, hC4.call hb5⟩
        ·
         have hlt' : x < 0 := by omega
         have Hb : Hid (zcO n.kind st = false) := zzh (by simp [zcO, hx1, hlt])
         go_wp2_with fail
         go_meet
         exact ⟨by rw [Hb.out], hX4, hC4⟩
      clear hX4 hC4 c0
      case rest =>
       obtain ⟨rfl, hX4, hC4⟩ := hcut
       cases hbad : zcO n.kind st
       ·
        have hr : runC (L.drop (i + 1)) (if zaH n.kind then st ++ [if n.kind = 10 then 2 else -1] else st) (max d (st.length + 1)) = r0 := by rw [<- HY.out, HS.out, hbad]; rfl
        have ax := agg_nd hX4
        have HO := zzh (opens_any n wc)
        have hm3 : (st.length : Int) <= 2000 := by omega
        obtain ⟨d', hd', hdd⟩ : ∃ d', max d (st.length + 1) = d' /\ (d < (st.length : Int) + 1 /\ d' = (st.length : Int) + 1 \/ (st.length : Int) + 1 <= d /\ d' = d) := ⟨_, rfl, by omega⟩
        rw [hd'] at hr
        have Hr := zzh hr
        clear hbad hr HS HY hd'
        rcases hdd with ⟨hd, rfl⟩ | ⟨hd, rfl⟩
        all_goals
         go_wp2_with fail
         refine HO.out.mono ?_
         clear HO
         rintro e w5 ⟨rfl, hb5⟩
         have hX5 := (hb5.block X (Array.getElem?_eq_some_iff.1 hX4).1).trans hX4
         have hC5 := hC4.call hb5
         have c5 : w5.cell? ⟨X, 0, none⟩ = some (.int .i64 n.kind) := by rw [cell?_blk' hX5]; rfl
         clear hX4 hC4 ax hb5
         cases hop : zaH n.kind
         ·
          have hr := Hr.out
          rw [hop] at hr
          have Hr := zzh hr
          clear hr hop
          go_wp2_with fail
          go_roundg (L.length + 1 - (i + 1))
          case measure => have := Hi.out; omega
          case rel => exact ⟨i + 1, a, c, st, _, rfl, by have := Hi.out; omega, rfl, rfl, by go_num, hC5, Hr.out, by omega, HA.out⟩
         ·
          obtain ⟨q, hq⟩ : ∃ q : Int, (if n.kind = 10 then (2 : Int) else -1) = q := ⟨_, rfl⟩
          have hr := Hr.out
          rw [hop, if_pos rfl, hq] at hr
          have Hr := zzh hr
          have hq2 : q <= 2 := by rw [<- hq]; split <;> omega
          obtain ⟨i0, hi0', hz0, hz1, hz2⟩ := info_parts info_int
          have hlt5 := hC5.tab.lt
          clear hr hop
          cases hk : (n.kind == 10)
          ·
           obtain rfl : q = -1 := by rw [<- hq, if_neg (by simpa using hk)]
           clear hq
           go_wp2_with (at_builtin; refine wpList_append_lies _ rfl _ _ _ rfl (t + 1) 3 i0 (.int .i64 0) 1 8 Tryz.underlying59 hi0' hz0 hz1 hz2 rfl (by decide) (.slice a st.length c) st.length (ints st) rfl (hC5.alloc _).row ⟨w5.heap.size, 0, none⟩ 1 1 [.int .i64 (-1)] rfl rfl (World.news_of_block (heap_alloc_new _ _)) (by simp [Value.oneCell']) (by decide) (by unfold maxLen; omega) (by omega) (by simp; omega) _ rfl ?_; intro g8 cap8 w8 hown8 hgrow8 hat8 hlt8)
           go_roundg (L.length + 1 - (i + 1))
           case measure => have := Hi.out; omega
           case rel => exact ⟨i + 1, some ⟨g8, 0, none⟩, cap8, st ++ [-1], _, rfl, by have := Hi.out; omega, by rw [List.length_append]; rfl, rfl, by go_num, (hC5.alloc _).grown hown8 hgrow8, Hr.out, by rw [List.length_append]; simp; omega, fun y hy => by rcases List.mem_append.1 hy with h | h; exact HA.out y h; simp at h; omega⟩
          ·
           obtain rfl : q = 2 := by rw [<- hq, if_pos (by simpa using hk)]
           clear hq
           go_wp2_with (at_builtin; refine wpList_append_lies _ rfl _ _ _ rfl (t + 1) 3 i0 (.int .i64 0) 1 8 Tryz.underlying59 hi0' hz0 hz1 hz2 rfl (by decide) (.slice a st.length c) st.length (ints st) rfl (hC5.alloc _).row ⟨w5.heap.size, 0, none⟩ 1 1 [.int .i64 2] rfl rfl (World.news_of_block (heap_alloc_new _ _)) (by simp [Value.oneCell']) (by decide) (by unfold maxLen; omega) (by omega) (by simp; omega) _ rfl ?_; intro g8 cap8 w8 hown8 hgrow8 hat8 hlt8)
           go_roundg (L.length + 1 - (i + 1))
           case measure => have := Hi.out; omega
           case rel => exact ⟨i + 1, some ⟨g8, 0, none⟩, cap8, st ++ [2], _, rfl, by have := Hi.out; omega, by rw [List.length_append]; rfl, rfl, by go_num, (hC5.alloc _).grown hown8 hgrow8, Hr.out, by rw [List.length_append]; simp; omega, fun y hy => by rcases List.mem_append.1 hy with h | h; exact HA.out y h; simp at h; omega⟩
       ·
        have hr : r0 = none := by rw [<- HY.out, HS.out, hbad]; rfl
        subst hr
        go_wp2_with fail
        go_ret
        exact ⟨rfl, hC4.below⟩
     ·
      have h11' : n.kind = 11 := by simpa using h11
      by_cases hs0 : st.length = 0
      ·
       obtain rfl := zcy hs0
       have hL0 : (([] : List Int).length : Int) = 0 := rfl
       have hr : r0 = none := by rw [<- HY.out]; simp [zbY, h11']
       subst hr
       go_wp2_with fail
       go_ret
       exact ⟨rfl, hC4.below⟩
      ·
       obtain ⟨m, hm⟩ : ∃ m, st.length = m + 1 := ⟨st.length - 1, by omega⟩
       obtain ⟨x, hx1, hx2⟩ := zcU hm
       obtain ⟨g, rfl⟩ := hC4.form (by omega)
       have cx := hC4.cell (by omega) hx2
       have cz := hC4.free m
       have e1 : ((st.length : Int) - 1) = (m : Int) := by omega
       have hm1 : (0 : Int) <= (m : Int) := by omega
       have hm2 : (m : Int) < (st.length : Int) := by omega
       have hm3 : (st.length : Int) <= 2000 := by omega
       by_cases hlt : x < 1
       ·
        have hr : r0 = none := by rw [<- HY.out]; simp [zbY, h11', hx1, hlt]
        subst hr
        go_wp2_with fail
        go_ret
        exact ⟨rfl, hC4.below⟩
       ·
        have hlt' : 1 <= x := by omega
        have hx3 : x <= 2 := HA.out x (List.mem_of_getElem? hx2)
        have hr : runC (L.drop (i + 1)) (st.set m (x - 1)) d = r0 := by rw [<- HY.out]; simp [zbY, h11', hx1, hlt, show st.length - 1 = m by omega]
        have hC5 := hC4.set m (x - 1)
        go_wp2_with fail
        go_roundg (L.length + 1 - (i + 1))
        case measure => have := Hi.out; omega
        case rel => exact ⟨i + 1, some ⟨g, 0, none⟩, c, st.set m (x - 1), d, rfl, by have := Hi.out; omega, by rw [List.length_set, hm], rfl, by go_num, hC5, hr, by rw [List.length_set]; omega, fun y hy => by rcases List.mem_or_eq_of_mem_set hy with h | rfl; exact HA.out y h; omega⟩
    ·
     have h6' : n.kind = 6 := by simpa using h6
     by_cases hs0 : st.length = 0
     ·
      obtain rfl := zcy hs0
      have hL0 : (([] : List Int).length : Int) = 0 := rfl
      have hr : r0 = none := by rw [<- HY.out]; simp [zbY, h6']
      subst hr
      go_wp2_with fail
      go_ret
      exact ⟨rfl, hC4.below⟩
     ·
      obtain ⟨m, hm⟩ : ∃ m, st.length = m + 1 := ⟨st.length - 1, by omega⟩
      obtain ⟨x, hx1, hx2⟩ := zcU hm
      obtain ⟨g, rfl⟩ := hC4.form (by omega)
      have cx := hC4.cell (by omega) hx2
      have e1 : ((st.length : Int) - 1) = (m : Int) := by omega
      have hm1 : (0 : Int) <= (m : Int) := by omega
      have hm2 : (m : Int) < (st.length : Int) := by omega
      have hm3 : (st.length : Int) <= 2000 := by omega
      have hm4 : (m : Int) <= (c : Int) := by have := hC4.cap; omega
      by_cases hlt : 0 < x
      ·
       have hr : r0 = none := by rw [<- HY.out]; simp [zbY, h6', hx1, hlt]
       subst hr
       go_wp2_with fail
       go_ret
       exact ⟨rfl, hC4.below⟩
      ·
       have hlt' : x <= 0 := by omega
       have hr : runC (L.drop (i + 1)) st.dropLast d = r0 := by rw [<- HY.out]; simp [zbY, h6', hx1, hlt]
       have hC5 := hC4.pop hm
       go_wp2_with fail
       go_roundg (L.length + 1 - (i + 1))
       case measure => have := Hi.out; omega
       case rel => exact ⟨i + 1, some ⟨g, 0, none⟩, c, st.dropLast, d, rfl, by have := Hi.out; omega, by rw [List.length_dropLast, hm]; simp, rfl, by go_num, hC5, hr, by rw [List.length_dropLast]; omega, fun y hy => HA.out y (List.dropLast_subset st hy)⟩
  ·
   have hi2 : (L.length : Int) <= (i : Int) := by omega
   have hr : some (st, d) = r0 := by rw [List.drop_eq_nil_of_le (by omega)] at hrun; exact hrun
   subst hr
   cases h1 : decide (0 < st.length)
   ·
    have h2 : st.length = 0 := by simpa using h1
    have h3 : ((st.length : Int)) <= 0 := by omega
    by_cases h4 : 40 < d
    ·
     go_wp2_with fail
     go_ret
     exact ⟨zaD (by simp [codeC, h2, h4]), hC.below⟩
    ·
     have h5 : d <= 40 := by omega
     go_wp2_with fail
     go_ret
     exact ⟨zaD (by simp [codeC, h2, h4]), hC.below⟩
   ·
    have h2 : 0 < st.length := by simpa using h1
    have h3 : (0 : Int) < (st.length : Int) := by omega
    go_wp2_with fail
    go_ret
    exact ⟨zaD (by simp [codeC, h2]), hC.below⟩
theorem check_any (p0 : Option Addr) (b off cap : Nat) (L : List Nd) (w : World) (h : NIn w p0 b off cap L) :
 Calls Tryz.prog 20 #[.slice p0 L.length cap] w fun e w' => e = .returned (.int .i64 (zao L)) /\ Below w.heap.size w w' := by
 by_cases hbig : 2000 < L.length
 ·
  have hb' : (2000 : Int) < (L.length : Int) := by omega
  have hl := h.len
  have hc : zao L = 6 := by unfold zao; rw [if_pos hbig]
  rw [hc]
  clear hc hbig
  go_enter Tryz.func20, Tryz.ntmps20
  go_wp2_with fail
  go_ret
  exact ⟨rfl, .refl _ _⟩
 ·
  rw [show zao L = codeC (runC L [] 0) by unfold zao; rw [if_neg hbig]]
  exact check_small p0 b off cap L w h (by omega)
end
section
attribute [local go_sem ↓] Go.wp_at_zero Go.wp_at_succ
def behN (k n : Int) : Int := if zaH k then n + 1 else if k = 6 then n - 1 else n
def behC : List Nd -> Int -> Option Nat
 | [], _ => none
 | x :: l, n => if behN x.kind n = 0 then some 1 else (behC l (behN x.kind n)).map (· + 1)
theorem zaw : ∀ (l : List Nd) (n : Int) (m : Nat), behC l n = some m -> 1 <= m /\ m <= l.length
 | [], _, _, h => by cases h
 | x :: l, n, m, h => by
  unfold behC at h
  split at h
  · cases h; simp
  ·
   obtain ⟨k, hk, rfl⟩ := Option.map_eq_some_iff.1 h
   have := zaw l _ k hk
   simp; omega
theorem behC_at {L : List Nd} {j : Nat} (hj : j < L.length) {n : Int} {m : Nat} (h : behC (L.drop j) n = some m) : (behN L[j].kind n = 0 /\ m = 1) \/ (behN L[j].kind n ≠ 0 /\ ∃ k, m = k + 1 /\ behC (L.drop (j + 1)) (behN L[j].kind n) = some k) := by
 rw [List.drop_eq_getElem_cons hj] at h
 unfold behC at h
 split at h
 · rename_i h0; cases h; exact .inl ⟨h0, rfl⟩
 ·
  rename_i h0
  obtain ⟨k, hk, rfl⟩ := Option.map_eq_some_iff.1 h
  exact .inr ⟨h0, k, rfl, hk⟩
theorem kinds_split (k : Int) : ((k == 4) = true /\ zaH k = true) \/ ((k == 4) = false /\ (k == 5) = true /\ zaH k = true) \/ ((k == 4) = false /\ (k == 5) = false /\ (k == 10) = true /\ zaH k = true) \/
 ((k == 4) = false /\ (k == 5) = false /\ (k == 10) = false /\ (k == 13) = true /\ zaH k = true) \/ ((k == 4) = false /\ (k == 5) = false /\ (k == 10) = false /\ (k == 13) = false /\ (k == 17) = true /\ zaH k = true) \/
 ((k == 4) = false /\ (k == 5) = false /\ (k == 10) = false /\ (k == 13) = false /\ (k == 17) = false /\ zaH k = false) := by
 unfold zaH
 cases (k == 4) <;> cases (k == 5) <;> cases (k == 10) <;> cases (k == 13) <;> cases (k == 17) <;> simp
theorem behind_any (p0 : Option Addr) (b off cap : Nat) (L : List Nd) (at_ m : Nat) (w : World) (h : NIn w p0 b off cap L) (hm : behC (L.drop at_) 0 = some m) :
 Calls Tryz.prog 102 #[.slice p0 L.length cap, .int .i64 at_] w fun e w' => e = .returned (.int .i64 ((at_ + m : Nat) : Int)) /\ w = w' := by
 have H := zzh h
 have hl := h.len
 have Hm := zzh hm
 clear h hm
 go_enter Tryz.func102, Tryz.ntmps102
 go_wp2_with fail
 go_loopg [1, 5] (L.length + 1 - at_) (fun g t1 t5 wr => ∃ (j k : Nat) (n : Int), g = L.length + 1 - j /\ t1 = .int .i64 j /\ t5 = .int .i64 n /\ behC (L.drop j) n = some k /\ j + k = at_ + m /\ (-(j : Int) <= n /\ n <= j) /\ wr = w)
 case atStart => exact ⟨at_, m, 0, rfl, rfl, rfl, Hm.out, rfl, by omega, rfl⟩
 case round =>
  clear Hm
  obtain ⟨j, k, n, rfl, rfl, rfl, hk, hjk, hn, rfl⟩ := hrel
  have hlt : j < L.length := by have := zaw _ _ _ hk; simp at this; omega
  have x1 : wr.cell? ⟨b, off + j * 19, none⟩ = some (.int .i64 L[j].kind) := zau (H.out.nd j hlt) 0 _ rfl
  obtain rfl := H.out.at_ hlt
  have hj1 : (0 : Int) <= (j : Int) := by omega
  have hj2 : (j : Int) < (L.length : Int) := by omega
  obtain ⟨hn1, hn2⟩ := hn
  have HB := zzh (behC_at hlt hk)
  have Hjk := zzh hjk
  have Hl := zzh hlt
  generalize L[j].kind = kd at x1 HB
  clear hk hjk hlt
  rcases kinds_split kd with ⟨h4, ho⟩ | ⟨h4, h5, ho⟩ | ⟨h4, h5, h10, ho⟩ | ⟨h4, h5, h10, h13, ho⟩ | ⟨h4, h5, h10, h13, h17, ho⟩ | ⟨h4, h5, h10, h13, h17, ho⟩
  rotate_right
  ·
   cases h6 : (kd == 6)
   ·
    have hb : behN kd n = n := by unfold behN; rw [ho, if_neg (by simp), if_neg (by simpa using h6)]
    have HB := HB.out
    rw [hb] at HB
    clear hb ho
    rcases HB with ⟨hz, hk1⟩ | ⟨hz, k1, hk1, hk2⟩
    ·
     subst hz
     go_wp2_with fail
     go_ret
     exact ⟨zaD (by have := Hjk.out; omega), rfl⟩
    ·
     have Hk2 := zzh hk2
     have hz' : (n == 0) = false := by simpa using hz
     clear hk2 hz
     go_wp2_with fail
     go_roundg (L.length + 1 - (j + 1))
     case measure => have := Hl.out; omega
     case rel => exact ⟨j + 1, k1, n, rfl, by go_num, rfl, Hk2.out, by have := Hjk.out; omega, by omega, rfl⟩
   ·
    have hb : behN kd n = n - 1 := by unfold behN; rw [ho, if_neg (by simp), if_pos (by simpa using h6)]
    have HB := HB.out
    rw [hb] at HB
    clear hb ho
    rcases HB with ⟨hz, hk1⟩ | ⟨hz, k1, hk1, hk2⟩
    ·
     have hz' : ((n - 1 : Int) == 0) = true := by simpa using hz
     clear hz
     go_wp2_with fail
     go_ret
     exact ⟨zaD (by have := Hjk.out; omega), rfl⟩
    ·
     have Hk2 := zzh hk2
     have hz' : ((n - 1 : Int) == 0) = false := by simpa using hz
     clear hk2 hz
     go_wp2_with fail
     go_roundg (L.length + 1 - (j + 1))
     case measure => have := Hl.out; omega
     case rel => exact ⟨j + 1, k1, n - 1, rfl, by go_num, rfl, Hk2.out, by have := Hjk.out; omega, by omega, rfl⟩
  all_goals
   have hb : behN kd n = n + 1 := by unfold behN; rw [ho, if_pos rfl]
   have HB := HB.out
   rw [hb] at HB
   clear hb ho
   rcases HB with ⟨hz, hk1⟩ | ⟨hz, k1, hk1, hk2⟩
   ·
    have hz' : ((n + 1 : Int) == 0) = true := by simpa using hz
    clear hz
    go_wp2_with fail
    go_ret
    exact ⟨zaD (by have := Hjk.out; omega), rfl⟩
   ·
    have Hk2 := zzh hk2
    have hz' : ((n + 1 : Int) == 0) = false := by simpa using hz
    clear hk2 hz
    go_wp2_with fail
    go_roundg (L.length + 1 - (j + 1))
    case measure => have := Hl.out; omega
    case rel => exact ⟨j + 1, k1, n + 1, rfl, by go_num, rfl, Hk2.out, by have := Hjk.out; omega, by omega, rfl⟩
theorem vdimen_any (x : Int) (w : World) : Calls Tryz.prog 52 #[.int .i64 x] w fun e w' => e = .returned (.bool (zac x)) /\ w = w' := by
 go_enter Tryz.func52, Tryz.ntmps52
 go_wp2
 all_goals go_ret
 all_goals exact ⟨by simp [zac]; omega, rfl⟩
theorem vright_any (g : Gl) (w : World) : Calls Tryz.prog 107 #[.agg g.arr] w fun e w' => e = .returned (.bool g.good) /\ Below w.heap.size w w' := by
 cases hg : g.good
 all_goals
  have HC : Hid (∀ w, Calls Tryz.prog 91 #[.agg g.arr] w fun e w' => e = .returned (.int .i64 (if g.good then 0 else 30)) /\ Below w.heap.size w w') := zzh (zbr g)
  rw [hg] at HC
  clear hg
  go_enter Tryz.func107, Tryz.ntmps107
  go_wp2_with (go_at_call 91; refine (HC.out _).mono ?_; rintro e w1 ⟨rfl, hb1⟩)
  go_ret
  exact ⟨rfl, Below.trans ((Below.refl _ _).alloc (Nat.le_refl _) _) (hb1.mono (by simp))⟩
end
section
open Go.Shelf
inductive Items (L : List Nd) : Nat -> List Nat -> Prop
 | done : Items L L.length []
 | step {i m : Nat} {s : List Nat} (hi : i < L.length) (hm : behC (L.drop i) 0 = some m) (hs : Items L (i + m) s) : Items L i (i :: s)
theorem Items.lt {L : List Nd} {i : Nat} {s : List Nat} (h : Items L i s) : ∀ x ∈ s, i <= x /\ x < L.length := by
 induction h with
 | done => intro x hx; cases hx
 | step hi hm hs ih =>
  rename_i i' m' s'
  have := zaw _ _ _ hm
  intro x hx
  rcases List.mem_cons.1 hx with rfl | hx
  · exact ⟨Nat.le_refl _, hi⟩
  · have := ih x hx; omega
theorem Items.at_ {L : List Nd} {i : Nat} {s : List Nat} (h : Items L i s) : ∀ x ∈ s, ∃ m, behC (L.drop x) 0 = some m := by
 induction h with
 | done => intro x hx; cases hx
 | step hi hm hs ih =>
  intro x hx
  rcases List.mem_cons.1 hx with rfl | hx
  · exact ⟨_, hm⟩
  · exact ih x hx
theorem Items.len {L : List Nd} {i : Nat} {s : List Nat} (h : Items L i s) : s.length + i <= L.length := by
 induction h with
 | done => simp
 | step hi hm hs ih => have := zaw _ _ _ hm; simp; omega
theorem NIn.kept {w w' : World} {p : Option Addr} {b off cap n₀ : Nat} {L : List Nd} (h : NIn w p b off cap L) (hb : L ≠ [] -> b < n₀) (k : Below n₀ w w') : NIn w' p b off cap L :=
 ⟨h.hp, fun e => Nat.lt_of_lt_of_le (h.hb e) k.size, fun j hj => (agg?_block (k.block b (hb (h.ne hj)))).trans (h.nd j hj), h.cap', h.len⟩
def KpI (n₀ Bs : Nat) (W W' : World) : Prop := Below n₀ W W' /\ W'.heap[Bs]? = W.heap[Bs]?
theorem kpI_t {n₀ Bs : Nat} {A B C : World} (h : KpI n₀ Bs A B) (k : KpI n₀ Bs B C) : KpI n₀ Bs A C := ⟨h.1.trans k.1, k.2.trans h.2⟩
theorem kpI_b {n₀ Bs : Nat} {w : World} (h1 : n₀ <= w.heap.size) (h2 : Bs < w.heap.size) : ∀ (W : World) (l : Nat) (o o' : Obj), w.heap.size <= l -> W.heap[l]? = some o -> o.isCells = false -> o.isWalk = false -> KpI n₀ Bs W (W.putObj l o') := fun W l o o' hz ho hc hw =>
 ⟨belowK_b h1 W l o o' hz ho hc hw, World.putObj_heap_other (by omega)⟩
theorem items_any (p0 : Option Addr) (len cap : Nat) (w : World) : Calls Tryz.prog 51 #[.slice p0 len cap] w fun e w' =>
 e = .returned (.func (.func 101) #[] #[.pointer (some ⟨w.heap.size, 0, none⟩)]) /\ w' = w.alloc (.cells #[.slice p0 len cap] 22) := by
 go_enter Tryz.func51, Tryz.ntmps51
 go_wp2
 go_ret
 exact ⟨rfl, rfl⟩
section
attribute [local go_sem] Oper.semAt_some
theorem items1_in (n : Nat) (hn : 2 <= n) (l Bs n₀ b off cap : Nat) (p0 : Option Addr) (L : List Nd) (s : List Nat) (hs : Items L 0 s) (J Jx : List {i : Nat // i ∈ s} -> World -> Prop)
 (hY : ∀ pre x W, J pre W -> pre.length < s.length -> YieldAt Fence.wide (n - 1) Tryz.prog l #[.int .i64 (x.1 : Nat)] W fun e W' =>
  (e = .returned (.bool true) /\ J (pre ++ [x]) W' /\ KpI n₀ Bs W W') \/ (e = .returned (.bool false) /\ Jx (pre ++ [x]) W'))
 (W : World) (hBs : W.heap[Bs]? = some (.cells #[.slice p0 L.length cap] 22 (0, 0))) (hN : NIn W p0 b off cap L) (hb : L ≠ [] -> b < n₀) (h0 : J [] W) :
 CallsIn Fence.wide n Tryz.prog 101 #[.func (.yield l) #[] #[], .pointer (some ⟨Bs, 0, none⟩)] W fun e W' => (∃ v, e = .returned v) /\
  ((∃ ys : List {i : Nat // i ∈ s}, ys.map (·.1) = s /\ J ys W') \/ (∃ pre : List {i : Nat // i ∈ s}, pre.map (·.1) <+: s /\ Jx pre W')) := by
 have h1 : 1 <= n := by omega
 refine callsIn_of_wp Tryz.func101 rfl trivial ?_ rfl
 simp only [Tryz.ntmps101, List.size_toArray, List.length_cons, List.length_nil, Nat.reduceAdd, Nat.reduceSub, Array.replicate_succ, Array.replicate_zero, List.push_toArray, List.append_toArray, List.nil_append, List.cons_append]
 gi_wp2
 gi_loopw [3] (fun i wr => ∃ (k : Nat) (pre : List {i : Nat // i ∈ s}) (rest : List Nat), i = .int .i64 k /\ s = pre.map (·.1) ++ rest /\ Items L k rest /\ k <= L.length /\ J pre wr /\ KpI n₀ Bs W wr)
  (fun i _ => L.length + 1 - (intOf i).toNat)
 case atStart => exact ⟨0, [], s, rfl, rfl, hs, Nat.zero_le _, h0, Below.refl _ _, rfl⟩
 case round =>
  obtain ⟨k, pre, rest, rfl, hsp, hit, hk, hJ, hkp⟩ := hrel
  have hBk : wr.heap[Bs]? = some (.cells #[.slice p0 L.length cap] 22 (0, 0)) := hkp.2.trans hBs
  have cB : wr.cell? ⟨Bs, 0, none⟩ = some (.slice p0 L.length cap) := by rw [cell?_blk' hBk]; rfl
  have hk1 : (0 : Int) <= (k : Int) := by omega
  have hl := hN.len
  cases hit with
  | done =>
   gi_wp2
   refine ⟨fun _ h => (by cases h), ?_⟩
   gi_wp2
   go_end0
   exact ⟨⟨_, rfl⟩, .inl ⟨pre, (hsp.trans (by simp)).symm, hJ⟩⟩
  | step hi hm hs2 =>
   rename_i m rest'
   have hk2 : (k : Int) < (L.length : Int) := by omega
   have hx : k ∈ s := by rw [hsp]; simp
   obtain ⟨fn, tmps, assign, body, hy, hR⟩ := hY pre ⟨k, hx⟩ wr hJ (by have := congrArg List.length hsp; simp at this; omega)
   gi_wp2
   refine hR.mono ?_
   rintro e W3 (⟨rfl, hJ3, hk3⟩ | ⟨rfl, hJx3⟩)
   ·
    have hB3 : W3.heap[Bs]? = some (.cells #[.slice p0 L.length cap] 22 (0, 0)) := hk3.2.trans hBk
    have c3 : W3.cell? ⟨Bs, 0, none⟩ = some (.slice p0 L.length cap) := by rw [cell?_blk' hB3]; rfl
    have hN3 : NIn W3 p0 b off cap L := hN.kept hb (hkp.1.trans hk3.1)
    have hB := callsIn_wide (n := n - 1).2 (behind_any p0 b off cap L k m W3 hN3 hm)
    gi_wp2
    refine ⟨trivial, hB.mono ?_⟩
    rintro e W4 ⟨rfl, rfl⟩
    gi_wp2
    go_roundw
    case rel => exact ⟨k + m, pre ++ [⟨k, hx⟩], rest', rfl, hsp.trans (by simp), hs2, by have := zaw _ _ _ hm; simp at this; omega, hJ3, kpI_t hkp hk3⟩
    case measure => have := zaw _ _ _ hm; simp [intOf]; omega
   ·
    gi_wp2
    go_end0
    exact ⟨⟨_, rfl⟩, .inr ⟨pre ++ [⟨k, hx⟩], ⟨rest', Eq.trans (by simp) hsp.symm⟩, hJx3⟩⟩
end
theorem zcE (n : Nat) (hn : 2 <= n) (Bs n₀ b off cap : Nat) (p0 : Option Addr) (L : List Nd) (s : List Nat) (hs : Items L 0 s) (w : World) (hBs : w.heap[Bs]? = some (.cells #[.slice p0 L.length cap] 22 (0, 0))) (hN : NIn w p0 b off cap L) (hb : L ≠ [] -> b < n₀) :
 SeqStopsK Fence.wide n Tryz.prog 101 #[.pointer (some ⟨Bs, 0, none⟩)] (fun x : {i : Nat // i ∈ s} => #[.int .i64 (x.1 : Nat)]) (KpI n₀ Bs) (fun ys => ys.map (·.1) = s) (fun pre => pre.map (·.1) <+: s) s.length w := fun l J Jx W hW _ _ hY h0 =>
 items1_in n hn l Bs n₀ b off cap p0 L s hs J Jx hY W ((hW.block Bs (Array.getElem?_eq_some_iff.1 hBs).1).trans hBs) (hN.below hW) hb h0
end
section
section
variable {F : Fence} {n : Nat} {P : Program}
def Turns (B m : Nat) (A : World) (row : Option Nat) : Prop := ∀ r, row = some r -> B <= r /\ (r < B + m \/ ∃ o : Obj, A.heap[r]? = some o /\ o.isCells = false)
def Abides {β : Type} (B m : Nat) (J : β -> World -> Prop) : Prop := ∀ s A C row, J s A -> A.grownBy C row -> Turns B m A row -> J s C
theorem Abides.and {β : Type} {B m : Nat} {J K : β -> World -> Prop} (h : Abides B m J) (k : Abides B m K) : Abides B m (fun s W => J s W /\ K s W) := fun s A C row hs hg hr => ⟨h s A C row hs.1 hg hr, k s A C row hs.2 hg hr⟩
theorem Abides.pure {β : Type} (B m : Nat) (p : β -> Prop) : Abides B m (fun s (_ : World) => p s) := fun _ _ _ _ hs _ _ => hs
theorem Abides.alloc {β : Type} {B m : Nat} {J : β -> World -> Prop} (h : Abides B m J) {s : β} {W : World} (o : Obj) (hs : J s W) : J s (W.alloc o) := h s W _ none hs (World.grownBy_alloc W o none) (fun r e => by cases e)
theorem Abides.put {β : Type} {B m : Nat} {J : β -> World -> Prop} (h : Abides B m J) {s : β} {W : World} {l : Nat} (o : Obj) (hs : J s W) (hB : B <= l) (hl : l < B + m) : J s (W.putObj l o) := h s W _ (some l) hs (grownBy_putObj' W l o) (fun r e => by cases e; exact ⟨hB, .inl hl⟩)
theorem Abides.from {β : Type} {B m B' : Nat} {J : β -> World -> Prop} (h : Abides B m J) (hB : B <= B') : OwnFrom B' J := fun s A C row hs hg hr => h s A C row hs hg (fun r e => ⟨Nat.le_trans hB (hr r e).1, .inr (hr r e).2⟩)
def SeqCells {α : Type} (F : Fence) (n : Nat) (P : Program) (g : Nat) (lb : Array Value) (encs : α -> Array Value) (Kp : Nat -> World -> World -> Prop) (S Sp : List α -> Prop) (N m : Nat) (w : World) : Prop :=
 ∀ (l : Nat) (J Jx : List α -> World -> Prop) (W : World), Below w.heap.size w W -> Abides W.heap.size m J -> Abides W.heap.size m Jx ->
   (∀ pre x A, J pre A -> pre.length < N -> W.heap.size + m <= A.heap.size -> YieldAt F (n - 1) P l (encs x) A fun e C => (e = .returned (.bool true) /\ J (pre ++ [x]) C /\ Kp W.heap.size A C) \/ (e = .returned (.bool false) /\ Jx (pre ++ [x]) C /\ KeepsFrom W.heap.size A C)) ->
   J [] W -> CallsIn F n P g (#[.func (.yield l) #[] #[]] ++ lb) W fun e C => (∃ v, e = .returned v) /\ ((∃ xs, S xs /\ J xs C) \/ (∃ pre, Sp pre /\ Jx pre C))
theorem wpIn_range_cells {α : Type} {g : Operand} {ps : Array Tmp} {assign body : Code} {Q : Exit -> Act -> World -> Prop} {a : Act} {w : World}
 (hro : F.round = none) (h1 : 1 <= n) {gf : Nat} {lb : Array Value} (hg : a.eval g = .func (.func gf) #[] lb) (hFg : F.fn gf) (eg : ∀ args w, (callFunc gf args).run P w = .ok (.enter gf args) w)
 {encs : α -> Array Value} {Kp : Nat -> World -> World -> Prop} {S Sp : List α -> Prop} {N m : Nat} {w0 : World} (hseq : SeqCells F (n - 1) P gf lb encs Kp S Sp N m w0)
 (hKt : ∀ {A B C : World}, Kp (w.heap.size + 2) A B -> Kp (w.heap.size + 2) B C -> Kp (w.heap.size + 2) A C) (hKb : ∀ (W : World) (o : Obj), w.heap.size + 1 < W.heap.size -> Kp (w.heap.size + 2) W (W.putObj (w.heap.size + 1) o)) (hb0 : Below w0.heap.size w0 w) (hps : ∀ x, (encs x).size = ps.size)
 (I : List α -> World -> Prop) (Ix : Code -> List α -> World -> Prop) (hI : Abides w.heap.size (m + 2) I) (hIx : ∀ c, Abides w.heap.size (m + 2) (Ix c)) (h0 : I [] w) (a₁ : α -> Act)
 (hassign : ∀ (l : Nat) (x : α) (W : World) (K : Act -> World -> Prop), K (a₁ x) W -> assign.wpIn (F.inRound l) (n - 1 - 1) P (Exit.then K (fun _ _ _ => False)) { tmps := (ps.zip (encs x)).foldl (fun t (p, v) => t.setIfInBounds p v) a.tmps, defers := [] } W)
 (hbody : ∀ (l : Nat) (pre : List α) (x : α) (W : World), I pre W -> w.heap.size + 2 + m <= W.heap.size -> pre.length < N -> body.wpIn (F.inRound l) (n - 1 - 1) P (ownPostK (Kp (w.heap.size + 2)) I Ix (pre ++ [x]) W) (a₁ x) W)
 (hdone : ∀ (xs : List α) (W : World), S xs -> I xs W -> W.heap[w.heap.size]? = some (.deferred (some [])) -> Q .normal { a with defers := { target := .collected w.heap.size, args := #[] } :: a.defers } W)
 (hstop : ∀ (c : Code) (pre : List α) (W : World), Sp pre -> Ix c pre W -> W.heap[w.heap.size]? = some (.deferred (some [])) -> c.wpIn F n P Q { a with defers := { target := .collected w.heap.size, args := #[] } :: a.defers } W) :
 (Code.rangeFunc g ps assign body).wpIn F n P Q a w := by
 refine wpIn_rangeFunc fun fn hfn => ?_
 rw [hro]
 -- the loop's record in each of its states, and the world in which both blocks lie
 let rec_ : LoopState -> Option Code -> Loop := fun st pe => { state := st, pending := pe, fn, tmps := a.tmps, params := ps, assign, body, defers := w.heap.size }
 have hL1 : ((w.alloc (.deferred (some []))).alloc (.loop (rec_ .ready none))).heap[w.heap.size + 1]? = some (.loop (rec_ .ready none)) := by
  have := World.alloc_heap_new (w.alloc (.deferred (some []))) (.loop (rec_ .ready none)); rwa [World.size_alloc] at this
 have hD1 : ((w.alloc (.deferred (some []))).alloc (.loop (rec_ .ready none))).heap[w.heap.size]? = some (.deferred (some [])) := (Below.heap_alloc _ _ _ (by simp)).trans (World.alloc_heap_new w _)
 have hb1 : Below w0.heap.size w0 ((w.alloc (.deferred (some []))).alloc (.loop (rec_ .ready none))) := hb0.trans ((((Below.refl _ w).alloc (Nat.le_refl _) _).alloc (by simp) _).mono hb0.size)
 have hI1 : I [] ((w.alloc (.deferred (some []))).alloc (.loop (rec_ .ready none))) := hI.alloc _ (hI.alloc _ h0)
 have hz1 : ((w.alloc (.deferred (some []))).alloc (.loop (rec_ .ready none))).heap.size = w.heap.size + 2 := by simp
 have he : (Instr.enterLoop fn a.tmps ps assign body none).run P w = .ok (w.heap.size + 1, [{ target := .collected w.heap.size, args := #[] }]) ((w.alloc (.deferred (some []))).alloc (.loop (rec_ .ready none))) := run_enterLoop_outer _ _ _ _ _
 generalize (w.alloc (.deferred (some []))).alloc (.loop (rec_ .ready none)) = W1 at hL1 hD1 hb1 hI1 hz1 he
 refine ⟨w.heap.size + 1, [{ target := .collected w.heap.size, args := #[] }], W1, { target := .fn (.func gf) lb, args := #[.func (.yield (w.heap.size + 1)) #[] #[]] }, W1, gf, #[.func (.yield (w.heap.size + 1)) #[] #[]] ++ lb, W1,
  he, by simp only [resolve, hg]; simp [go_sem], fun f' hf' => by simp [Target.leads] at hf'; subst hf'; exact hFg, by simp [invoke, go_sem, eg], fun _ => h1, ?_⟩
 have far : ∀ {A : World} {row : Option Nat}, Turns W1.heap.size m A row -> Turns w.heap.size (m + 2) A row := fun h r e => by have := h r e; rw [hz1] at this; exact ⟨by omega, this.2.imp (fun h => by omega) id⟩
 have keep : ∀ {A C : World} {row : Option Nat} {k : Nat} {o : Obj}, Turns W1.heap.size m A row -> A.grownBy C row -> k < w.heap.size + 2 -> A.heap[k]? = some o -> C.heap[k]? = some o := fun ht hgr hk hA => (hgr.block _ (Array.getElem?_eq_some_iff.1 hA).1 (fun e => by have := (ht _ e.symm).1; omega)).trans hA
 refine (hseq (w.heap.size + 1)
  (fun pre W => I pre W /\ W.heap[w.heap.size + 1]? = some (.loop (rec_ .ready none)) /\ W.heap[w.heap.size]? = some (.deferred (some [])))
  (fun pre W => ∃ c, Ix c pre W /\ W.heap[w.heap.size + 1]? = some (.loop (rec_ .done (some c))) /\ W.heap[w.heap.size]? = some (.deferred (some [])))
  W1 hb1 (fun s A C row hs hgr ht => ⟨hI s A C row hs.1 hgr (far ht), keep ht hgr (by omega) hs.2.1, keep ht hgr (by omega) hs.2.2⟩)
  (fun s A C row hs hgr ht => by obtain ⟨c, h2, h3, h4⟩ := hs; exact ⟨c, hIx c s A C row h2 hgr (far ht), keep ht hgr (by omega) h3, keep ht hgr (by omega) h4⟩)
  ?round ⟨hI1, hL1, hD1⟩).mono ?behind
 case round =>
  rintro pre x A ⟨hi, hl, hd⟩ hlen hsz
  rw [hz1] at hsz
  have hlt : w.heap.size + 1 < A.heap.size := (Array.getElem?_eq_some_iff.1 hl).1
  refine ⟨fn, _, assign, body, run_yield (P := P) (args := encs x) hl (hps x), roundIn_of_wpIn hfn (hassign _ x A _ ⟨_, run_beginRound hl rfl, ?_⟩)⟩
  rw [hz1]
  have hl2 : (A.putObj (w.heap.size + 1) (.loop { rec_ .ready none with state := .busy })).heap[w.heap.size + 1]? = some (.loop { rec_ .ready none with state := .busy }) := World.putObj_heap_same hlt
  have hd2 : (A.putObj (w.heap.size + 1) (.loop { rec_ .ready none with state := .busy })).heap[w.heap.size]? = some (.deferred (some [])) := (World.putObj_heap_other (by omega)).trans hd
  have hi2 : I pre (A.putObj (w.heap.size + 1) (.loop { rec_ .ready none with state := .busy })) := hI.put _ hi (by omega) (by omega)
  have hz2 : w.heap.size + 2 + m <= (A.putObj (w.heap.size + 1) (.loop { rec_ .ready none with state := .busy })).heap.size := by rw [World.putObj_size]; exact hsz
  have hk2 := hKb A (.loop { rec_ .ready none with state := .busy }) hlt
  have hf2 : KeepsFrom (w.heap.size + 2) A (A.putObj (w.heap.size + 1) (.loop { rec_ .ready none with state := .busy })) := KeepsFrom.of_grownBy (grownBy_putObj' A _ _) (fun j e => by cases e; omega)
  generalize A.putObj (w.heap.size + 1) (.loop { rec_ .ready none with state := .busy }) = A2 at hl2 hd2 hi2 hk2 hf2 hz2 ⊢
  have fin : ∀ (jump : Option Code) (C : World), KeepsOthers A2 C -> (Instr.endRound (w.heap.size + 1) jump).run P C = .ok (.bool jump.isNone) (C.putObj (w.heap.size + 1) (.loop (rec_ (if jump.isNone then .ready else .done) jump))) /\ w.heap.size + 1 < C.heap.size /\
   (C.putObj (w.heap.size + 1) (.loop (rec_ (if jump.isNone then .ready else .done) jump))).heap[w.heap.size + 1]? = some (.loop (rec_ (if jump.isNone then .ready else .done) jump)) /\
   (C.putObj (w.heap.size + 1) (.loop (rec_ (if jump.isNone then .ready else .done) jump))).heap[w.heap.size]? = some (.deferred (some [])) := fun jump C hk => by
   have hl3 := hk.same _ _ hl2 rfl
   have hlt3 := (Array.getElem?_eq_some_iff.1 hl3).1
   exact ⟨run_endRound (P := P) jump hl3, hlt3, World.putObj_heap_same hlt3, (World.putObj_heap_other (by omega)).trans (hk.same _ _ hd2 rfl)⟩
  refine wpIn_mono (hbody _ pre x A2 hi2 hz2 hlen) ?_
  have out : ∀ (c : Code) (C : World), KeepsOthers A2 C -> Ix c (pre ++ [x]) C -> ∃ v C', (Instr.endRound (w.heap.size + 1) (some c)).run P C = .ok v C' /\ ((Ending.returned v = .returned (.bool true) /\ (I (pre ++ [x]) C' /\ C'.heap[w.heap.size + 1]? = some (.loop (rec_ .ready none)) /\ C'.heap[w.heap.size]? = some (.deferred (some []))) /\ Kp (w.heap.size + 2) A C') \/
   (Ending.returned v = .returned (.bool false) /\ (∃ c, Ix c (pre ++ [x]) C' /\ C'.heap[w.heap.size + 1]? = some (.loop (rec_ .done (some c))) /\ C'.heap[w.heap.size]? = some (.deferred (some []))) /\ KeepsFrom (w.heap.size + 2) A C')) := fun c C hk hx => by
   obtain ⟨hr, _, h3, h4⟩ := fin (some c) C hk
   exact ⟨_, _, hr, .inr ⟨rfl, ⟨c, (hIx c).put _ hx (by omega) (by omega), h3, h4⟩, (hf2.trans (hk.from _)).trans (KeepsFrom.of_grownBy (grownBy_putObj' C _ _) (fun j e => by cases e; omega))⟩⟩
  rintro e a3 C hp
  cases e with
  | normal =>
   obtain ⟨hk, hkp, hi3⟩ := hp
   obtain ⟨hr, hlt3, h3, h4⟩ := fin none C hk
   exact ⟨_, _, hr, .inl ⟨rfl, ⟨hI.put _ hi3 (by omega) (by omega), h3, h4⟩, hKt (hKt hk2 hkp) (hKb _ _ hlt3)⟩⟩
  | ret => exact out .ret C hp.1 hp.2
  | exit id => exact out (.exit id) C hp.1 hp.2
  | goto t => exact out (.goto t) C hp.1 hp.2
  | panic ch => exact hp.elim
  | outgrown => exact hp.elim
 case behind =>
  rintro e C ⟨⟨v, rfl⟩, (⟨xs, hS, hi, hl, hd⟩ | ⟨pre, hSp, c, hi, hl, hd⟩)⟩
  · exact ⟨none, _, run_endLoop (P := P) hl (fun e => by cases e), hdone xs _ hS (hI.put _ hi (by omega) (by omega)) ((World.putObj_heap_other (by omega)).trans hd)⟩
  · exact ⟨some c, _, run_endLoop (P := P) hl (fun e => by cases e), hstop c pre _ hSp ((hIx c).put _ hi (by omega) (by omega)) ((World.putObj_heap_other (by omega)).trans hd)⟩
end
end
end Go.Proofs.YtaehkbbdmamfpaaGreatDoor
