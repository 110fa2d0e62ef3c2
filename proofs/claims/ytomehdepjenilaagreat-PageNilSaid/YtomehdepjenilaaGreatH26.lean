/-
  The laws' own trial of the page builder: its small functions.
-/
import Derived.Test.YtomehdepjenilaaGreatH23
import Derived.Test.YtomehdepjenilaaGreatH21
import Derived.Test.YtomehdepjenilaaGreatH24
set_option maxHeartbeats 16000000
namespace Go.Proofs.YtomehdepjenilaaGreat
open Go.ChangeShapes Go.WideShapes Go.ChangeAt Go.RowKit
theorem pt13 (n : Int) (hn : 0 ≤ n ∧ n ≤ 1000) (w : World) : Calls Tryz.prog 36 #[.int .i64 n] w fun e w' => e = .returned (.int .i64 (n * 65536)) ∧ w' = w := by
  go_enter Tryz.func36, Tryz.ntmps36
  go_wp2_with fail
  go_ret
  exact ⟨rfl, rfl⟩
theorem num13 (n : Int) (w : World) : Calls Tryz.prog 11 #[.int .i64 n] w fun e w' => e = .returned (.int .i64 n) ∧ w' = w := by
  go_enter Tryz.func11, Tryz.ntmps11
  go_wp2_with fail
  go_ret
  exact ⟨rfl, rfl⟩
@[go_sem] theorem run_bdKbox (h : Int) (w : World) : (bdNd #[(0, .int .i64 4), (4, .int .i64 h)]).run Tryz.prog w = .ok (.agg ({ Nd.zero with kind := 4, h := h } : Nd).arr) w := by kernel_rfl
@[go_sem] theorem run_bdKskip (g : Gl) (w : World) : (bdNd #[(0, .int .i64 7), (7, .agg g.arr)]).run Tryz.prog w = .ok (.agg ({ Nd.zero with kind := 7, glue := g } : Nd).arr) w := by kernel_rfl
def bdGlK (parts : Array (Nat × Value)) : Sem Value := Instr.build 23 parts
@[go_sem ↓] theorem execOp_buildGlK (ρ : Operand → Value) (dst : Option Tmp) (x : Array (Nat × Operand)) (ty : TypeId) (pos : String) (after : Array Edge) (guard : Option (Nat × Bool)) :
    execOp ρ { dst, op := .build 23 x, type := ty, pos, after, guard } = (do pure (.value (← bdGlK (x.map fun (i, y) => (i, ρ y))))) := rfl
@[go_sem] theorem run_bdGlK (a b : Int) (w : World) : (bdGlK #[(0, .int .i64 a), (1, .int .i64 b)]).run Tryz.prog w = .ok (.agg (Gl.mk a b 0 0 0).arr) w := by kernel_rfl
def bdGpK (parts : Array (Nat × Value)) : Sem Value := Instr.build 34 parts
@[go_sem ↓] theorem execOp_buildGpK (ρ : Operand → Value) (dst : Option Tmp) (x : Array (Nat × Operand)) (ty : TypeId) (pos : String) (after : Array Edge) (guard : Option (Nat × Bool)) :
    execOp ρ { dst, op := .build 34 x, type := ty, pos, after, guard } = (do pure (.value (← bdGpK (x.map fun (i, y) => (i, ρ y))))) := rfl
@[go_sem] theorem run_bdGpK (a b : Int) (w : World) : (bdGpK #[(0, .int .i64 a), (1, .int .i64 b)]).run Tryz.prog w = .ok (.agg (Gp.mk a b ⟨0, 0, 0, 0, 0⟩ none 0 0).arr) w := by kernel_rfl
theorem box13 (n : Int) (hn : 0 ≤ n ∧ n ≤ 1000) (w : World) : Calls Tryz.prog 37 #[.int .i64 n] w fun e w' => e = .returned (.slice (some ⟨w.heap.size, 0, none⟩) 2 2) ∧ w' = w.alloc (.cells ((kBox n).flatMap Nd.cells).toArray 49) := by
  have HP := Lib.hid (pt13 n hn)
  go_enter Tryz.func37, Tryz.ntmps37
  go_wp2_with (go_at_call 36; refine (HP.out _).mono ?_; rintro e w2 ⟨rfl, rfl⟩)
  go_ret
  exact ⟨rfl, congrArg (fun c => w2.alloc (.cells c 49)) rfl⟩
theorem skip13 (w : World) : Calls Tryz.prog 38 #[] w fun e w' => e = .returned (.agg kSkip.arr) ∧ Below w.heap.size w w' := by
  have HP := Lib.hid pt13
  go_enter Tryz.func38, Tryz.ntmps38
  go_wp2_with (go_at_call 36; refine (HP.out _ (by decide) _).mono ?_; rintro e w2 ⟨rfl, rfl⟩)
  exact ret_nd rfl w.heap.size 0 _ rfl (agg?_nd _ _ _ _ _ rfl) rfl ⟨rfl, (Below.refl _ _).alloc (Nat.le_refl _) _⟩
theorem come_F {g : Gr} {all : Bool} {σ σ' : St} {out out' : List PgP} (h : ComeTo g all σ out σ' out') : ∀ {n : Nat} {σ2 : St} {out2 : List PgP}, comeF g all n σ out = some (σ2, out2) → σ' = σ2 ∧ out' = out2 := by
  induction h with
  | nil hw =>
    intro n σ2 out2 hc
    cases n with
    | zero => cases hc
    | succ n =>
      rw [comeF, hw] at hc
      simp only [Option.some.injEq, Prod.mk.injEq] at hc
      exact hc
  | stop hw hs =>
    intro n σ2 out2 hc
    cases n with
    | zero => cases hc
    | succ n =>
      rw [comeF, hw] at hc
      simp only [hs, if_true, Option.some.injEq, Prod.mk.injEq] at hc
      exact hc
  | step hw hs hp _ ih =>
    intro n σ2 out2 hc
    cases n with
    | zero => cases hc
    | succ n =>
      rw [comeF, hw] at hc
      simp only [hs, hp] at hc
      exact ih hc
  | page hw hs hp hl _ ih =>
    intro n σ2 out2 hc
    cases n with
    | zero => cases hc
    | succ n =>
      rw [comeF, hw] at hc
      simp only [hs, hp] at hc
      rw [if_neg (by decide), if_neg (by omega)] at hc
      exact ih hc
  | full hw hs hp hl =>
    intro n σ2 out2 hc
    cases n with
    | zero => cases hc
    | succ n =>
      rw [comeF, hw] at hc
      simp only [hs, hp] at hc
      rw [if_neg (by decide), if_pos (by omega)] at hc
      simp only [Option.some.injEq, Prod.mk.injEq] at hc
      exact hc
theorem knows_put : putC kList ⟨freshS kGoal, [], ⟨#[]⟩⟩ = 0 ∧ ∃ σ2 out2, comeF kGoal false 40 ⟨freshS kGoal, [] ++ itemsOf kList, ⟨#[]⟩⟩ [] = some (σ2, out2) ∧ out2.map (fun p => (p.box.length, p.cost)) = [(6, 0), (3, -10000)] := by
  have h := knows_run
  unfold putF at h
  by_cases hp : putC kList ⟨freshS kGoal, [], ⟨#[]⟩⟩ = 0
  · refine ⟨hp, ?_⟩
    rw [if_pos hp] at h
    cases hc : comeF kGoal false 40 ⟨freshS kGoal, [] ++ itemsOf kList, ⟨#[]⟩⟩ [] with
    | none =>
      have hc2 : comeF kGoal false 40 { s := freshS kGoal, waits := (⟨freshS kGoal, [], ⟨#[]⟩⟩ : St).waits ++ itemsOf kList, bot := ⟨#[]⟩ } [] = none := hc
      rw [hc2] at h
      cases h
    | some x =>
      have hc2 : comeF kGoal false 40 { s := freshS kGoal, waits := (⟨freshS kGoal, [], ⟨#[]⟩⟩ : St).waits ++ itemsOf kList, bot := ⟨#[]⟩ } [] = some x := hc
      rw [hc2] at h
      simp only [Option.map_some, Option.some.injEq, Prod.mk.injEq] at h
      exact ⟨x.1, x.2, rfl, h.1⟩
  · rw [if_neg hp] at h
    simp only [Option.map_some, Option.some.injEq, Prod.mk.injEq, List.map_nil] at h
    cases h.1
theorem kItems : itemsOf kList = [kBox 60, [kSkip], kBox 30, [kSkip], kBox 30, [ejectN]] := by kernel_rfl
theorem kInv : Inv0 600000000000 0 ⟨freshS kGoal, [] ++ itemsOf kList, ⟨#[]⟩⟩ := by
  have hb : ∀ n, Item0 (kBox n) := fun n => ⟨rfl, .inr (.inl rfl), (by show (0 : Int) ≤ 0 ∧ (0 : Int) ≤ 3; decide), (by show (0 : Int) ≤ 0 ∧ (0 : Int) ≤ 3; decide)⟩
  have hk : Item0 [kSkip] := ⟨rfl, by decide, by decide, by decide⟩
  have he : Item0 [ejectN] := ⟨rfl, by decide, by decide, by decide⟩
  rw [List.nil_append, kItems]
  refine ⟨fun x hx => ?_, fun x hx => (by cases hx), Nat.le_refl _, fun e => (by cases e), fun _ => rfl, fun e => (by cases e), rfl, rfl, by decide⟩
  simp only [List.mem_cons, List.not_mem_nil, or_false] at hx
  rcases hx with rfl | rfl | rfl | rfl | rfl | rfl
  · exact hb 60
  · exact hk
  · exact hb 30
  · exact hk
  · exact hb 30
  · exact he
structure KRow (w1 : World) (L : List Nd) (v : Value) (W : World) : Prop where
  below : Below w1.heap.size w1 W
  row : W.ownsRow w1.heap.size 49 19 v L.length (L.flatMap Nd.cells)
theorem KRow.lit (w1 : World) (L : List Nd) (n : Nat) (hn : n = L.length) (hm : n ≤ 1000) : KRow w1 L (.slice (some ⟨w1.heap.size, 0, none⟩) n n) (w1.alloc (.cells (L.flatMap Nd.cells).toArray 49)) := by
  subst hn
  exact ⟨(Below.refl _ _).alloc (Nat.le_refl _) _, World.ownsRow_lit (base := w1.heap.size) (e := 49) (size := 19) w1 (L.flatMap Nd.cells).toArray L.length (Nat.le_refl _) (by unfold maxLen; omega) (by rw [List.size_toArray, flat_len])⟩
theorem KRow.still {w1 W W' : World} {L : List Nd} {v : Value} (h : KRow w1 L v W) (hb : Below W.heap.size W W') : KRow w1 L v W' := ⟨h.below.trans (hb.mono h.below.size), ownsRow_below h.row hb⟩
theorem KRow.app {w1 W w' : World} {L M : List Nd} {v : Value} {g cap n m : Nat} {o : Obj} {xs : List Value} (h : KRow w1 L v W) (hn : n = L.length) (hm : m = M.length) (hx : xs = L.flatMap Nd.cells ++ M.flatMap Nd.cells)
    (hown : w'.ownsRow w1.heap.size 49 19 (.slice (some ⟨g, 0, none⟩) (n + m) cap) (n + m) xs) (hg : (W.alloc o).grownBy w' v.ownBlock) : KRow w1 (L ++ M) (.slice (some ⟨g, 0, none⟩) (n + m) cap) w' := by
  refine ⟨(h.below.alloc h.below.size o).grown hg (by rw [World.size_alloc]; have := h.below.size; omega) fun k hk => (h.row.lt k hk).1, ?_⟩
  rw [List.length_append, ← hn, ← hm, List.flatMap_append, ← hx]
  exact hown
theorem kTwo {w : World} {base : Nat} {v : Value} {out : List PgP} {Ts : List Pc} {own : Nat → Prop} (h : PgRow w base v out Ts own) (hm : out.map (fun p => (p.box.length, p.cost)) = [(6, 0), (3, -10000)]) :
    ∃ g c A C, v = .slice (some ⟨g, 0, none⟩) 2 c ∧ w.cell? ⟨g, 0, none⟩ = some (.slice A 6 C) ∧ w.cell? ⟨g, 4, none⟩ = some (.int .i64 0) ∧ w.cell? ⟨g, 12, none⟩ = some (.int .i64 (-10000)) := by
  obtain ⟨p0, p1, rfl⟩ : ∃ p0 p1, out = [p0, p1] := by
    have hl : out.length = 2 := by have := congrArg List.length hm; simpa using this
    cases out with
    | nil => cases hl
    | cons a l =>
      cases l with
      | nil => cases hl
      | cons b r =>
        cases r with
        | nil => exact ⟨a, b, rfl⟩
        | cons _ _ => simp at hl
  obtain ⟨T0, T1, rfl⟩ : ∃ T0 T1, Ts = [T0, T1] := by
    have hl : Ts.length = 2 := h.len
    cases Ts with
    | nil => cases hl
    | cons a l =>
      cases l with
      | nil => cases hl
      | cons b r =>
        cases r with
        | nil => exact ⟨a, b, rfl⟩
        | cons _ _ => simp at hl
  simp only [List.map_cons, List.map_nil, List.cons.injEq, Prod.mk.injEq, and_true] at hm
  obtain ⟨⟨m1, m2⟩, m3, m4⟩ := hm
  have p0' := h.pg 0 T0 p0 rfl rfl
  have p1' := h.pg 1 T1 p1 rfl rfl
  rcases h.row.2 with ⟨_, h0⟩ | ⟨g, cap, cur, e, _⟩
  · cases h0
  · subst e
    have a0 := ownk_at pc_len h.row 0 (Nat.zero_lt_succ _)
    have a1 := ownk_at pc_len h.row 1 (Nat.lt_succ_self _)
    have e0 := owns_len p0'.box
    refine ⟨g, cap, T0.boxA, T0.boxC, rfl, ?_, ?_, ?_⟩
    · have := agg_cell a0 0 _ (Pc.get0 T0)
      rw [e0, m1] at this
      exact this
    · have := agg_cell a0 4 _ (Pc.get4 T0)
      rw [p0'.cost, m2] at this
      exact this
    · have := agg_cell a1 4 _ (Pc.get4 T1)
      rw [p1'.cost, m4] at this
      exact this
theorem kGoal_ok : goalC kGoal = 0 := by decide +kernel
set_option maxRecDepth 100000 in
theorem knows13 (w : World) : Calls Tryz.prog 13 #[] w fun e w' => e = .returned (.bool true) ∧ Below w.heap.size w w' := by
  have HP := Lib.hid pt13
  have HX := Lib.hid box13
  have HK := Lib.hid skip13
  have HNew := Lib.hid new_none
  obtain ⟨i0, hi0', hz0, hz1, hz2'⟩ := info_parts info_node
  go_enter Tryz.func13, Tryz.ntmps13
  go_upto_region 2 with (first | (go_at_call 36; refine (HP.out _ (by decide) _).mono ?_; rintro e wp ⟨rfl, hwp⟩; rw [hwp]; clear hwp) | (go_at_call 9; refine (HNew.out _ _ _ _).mono ?_; rintro e w1 hN; obtain ⟨B, b, c, r, rfl, hB⟩ := hN.good kGoal_ok; have hb1 := hN.below; clear hN))
  have HB := Lib.hid hB
  have Hb1 := Lib.hid hb1
  clear hB hb1 HNew HP
  have hK0 := KRow.lit w1 (kBox 60) 2 rfl (by decide)
  go_upto_region 3 with (first
    | (go_at_call 37; refine (HX.out _ (by decide) _).mono ?_; rintro e wb ⟨rfl, rfl⟩)
    | (go_at_call 38; refine (HK.out _).mono ?_; rintro e w2 ⟨rfl, hbs⟩; have hK1 := KRow.still hK0 hbs; clear hbs)
    | (at_builtin; refine wpList_append_lies _ rfl _ _ _ rfl w1.heap.size 49 i0 (.agg Nd.zero.arr) 19 160 Tryz.underlying27 hi0' hz0 hz1 hz2' rfl (by decide) _ 2 _ rfl (hK1.row.alloc _) ⟨w2.heap.size, 0, none⟩ 1 1 ([kSkip].flatMap Nd.cells) rfl rfl (World.news_of_block (cs := ([kSkip].flatMap Nd.cells).toArray) (heap_alloc_new _ _)) (nodes_one _) (by decide) (by decide) (by decide) (by have := hK1.below.size; simp; omega) _ rfl ?_; intro g3 cap3 w3 hown3 hgrow3 hat3 hlt3; have hK2 := hK1.app (M := [kSkip]) rfl rfl rfl hown3 hgrow3; clear hK1 hown3 hgrow3 hat3 hlt3)
    | (at_builtin; refine wpList_append_lies _ rfl _ _ _ rfl w1.heap.size 49 i0 (.agg Nd.zero.arr) 19 160 Tryz.underlying27 hi0' hz0 hz1 hz2' rfl (by decide) _ 3 _ rfl (hK2.row.alloc _) ⟨w3.heap.size, 0, none⟩ 2 2 ((kBox 30).flatMap Nd.cells) rfl rfl (World.news_of_block (cs := ((kBox 30).flatMap Nd.cells).toArray) (heap_alloc_new _ _)) (nodes_one _) (by decide) (by decide) (by decide) (by have := hK2.below.size; simp; omega) _ rfl ?_; intro g4 cap4 w4 hown4 hgrow4 hat4 hlt4; have hK3 := hK2.app (M := (kBox 30)) rfl rfl rfl hown4 hgrow4; clear hK2 hown4 hgrow4 hat4 hlt4))
  go_upto_region 4 with (first
    | (go_at_call 37; refine (HX.out _ (by decide) _).mono ?_; rintro e wb ⟨rfl, rfl⟩)
    | (go_at_call 38; refine (HK.out _).mono ?_; rintro e w5 ⟨rfl, hbs⟩; have hK4 := KRow.still hK3 hbs; clear hbs)
    | (at_builtin; refine wpList_append_lies _ rfl _ _ _ rfl w1.heap.size 49 i0 (.agg Nd.zero.arr) 19 160 Tryz.underlying27 hi0' hz0 hz1 hz2' rfl (by decide) _ 5 _ rfl (hK4.row.alloc _) ⟨w5.heap.size, 0, none⟩ 1 1 ([kSkip].flatMap Nd.cells) rfl rfl (World.news_of_block (cs := ([kSkip].flatMap Nd.cells).toArray) (heap_alloc_new _ _)) (nodes_one _) (by decide) (by decide) (by decide) (by have := hK4.below.size; simp; omega) _ rfl ?_; intro g6 cap6 w6 hown6 hgrow6 hat6 hlt6; have hK5 := hK4.app (M := [kSkip]) rfl rfl rfl hown6 hgrow6; clear hK4 hown6 hgrow6 hat6 hlt6)
    | (at_builtin; refine wpList_append_lies _ rfl _ _ _ rfl w1.heap.size 49 i0 (.agg Nd.zero.arr) 19 160 Tryz.underlying27 hi0' hz0 hz1 hz2' rfl (by decide) _ 6 _ rfl (hK5.row.alloc _) ⟨w6.heap.size, 0, none⟩ 2 2 ((kBox 30).flatMap Nd.cells) rfl rfl (World.news_of_block (cs := ((kBox 30).flatMap Nd.cells).toArray) (heap_alloc_new _ _)) (nodes_one _) (by decide) (by decide) (by decide) (by have := hK5.below.size; simp; omega) _ rfl ?_; intro g7 cap7 w7 hown7 hgrow7 hat7 hlt7; have hK6 := hK5.app (M := (kBox 30)) rfl rfl rfl hown7 hgrow7; clear hK5 hown7 hgrow7 hat7 hlt7))
  go_upto_region 5 with (at_builtin; refine wpList_append_lies _ rfl _ _ _ rfl w1.heap.size 49 i0 (.agg Nd.zero.arr) 19 160 Tryz.underlying27 hi0' hz0 hz1 hz2' rfl (by decide) _ 8 _ rfl (hK6.row.alloc _) ⟨w7.heap.size, 0, none⟩ 1 1 ([ejectN].flatMap Nd.cells) rfl rfl (World.news_of_block (cs := ([ejectN].flatMap Nd.cells).toArray) (heap_alloc_new _ _)) (nodes_one _) (by decide) (by decide) (by decide) (by have := hK6.below.size; simp; omega) _ rfl ?_; intro g8 cap8 w8 hown8 hgrow8 hat8 hlt8; have hK7 := hK6.app (M := [ejectN]) rfl rfl rfl hown8 hgrow8; clear hK6 hown8 hgrow8 hat8 hlt8)
  have hK : KRow w1 kList (.slice (some ⟨g8, 0, none⟩) 9 cap8) w8 := hK7
  obtain ⟨_, p9, q9, c9, e9, hN9, _⟩ := row_nodes hK.row (by decide)
  simp only [Value.slice.injEq] at e9
  obtain ⟨ea, _, ec⟩ := e9
  rw [← ea, ← ec] at hN9
  have HPut : Hid (Calls Tryz.prog 14 #[.pointer (some ⟨B, 0, none⟩), .slice (some ⟨g8, 0, none⟩) 9 cap8] w8 (PutPost (Inv0 600000000000) w8 w.heap.size B r kGoal ⟨freshS kGoal, [], ⟨#[]⟩⟩ kList)) :=
    Lib.hid (put_ok kGoal (Inv0 600000000000) (run_zero ⟨by decide, by decide⟩ false (Nat.le_refl _)) w8 w.heap.size B r b c ⟨freshS kGoal, [], ⟨#[]⟩⟩ (HB.out.below hK.below) (some ⟨g8, 0, none⟩) q9 0 cap8 kList hN9 (by decide) (by decide) fun _ => kInv)
  have Hb8 := Lib.hid (Hb1.out.trans (hK.below.mono Hb1.out.size))
  clear hK hK0 hK3 hK7 hN9 ea ec c9 p9 HX HK hi0' hz0 hz1 hz2' Hb1
  go_upto_region 6 with (go_at_call 14; refine HPut.out.mono ?_; clear HPut; rintro e w9 ⟨v9, rfl, hcase⟩; rw [knows_put.1])
  have hx : ∃ σ' out, ComeTo kGoal false ⟨freshS kGoal, [] ++ itemsOf kList, ⟨#[]⟩⟩ [] σ' out ∧ ComeR w8 w.heap.size B r kGoal σ' v9 out w9 := by
    rcases hcase with ⟨h1, _⟩ | ⟨_, σ', out, h2, _, h3⟩
    · exact absurd knows_put.1 h1
    · exact ⟨σ', out, h2, h3⟩
  obtain ⟨σ', out, hct, hcr⟩ := hx
  obtain ⟨σ2, out2, hcF, hmap⟩ := knows_put.2
  obtain ⟨_, rfl⟩ := come_F hct hcF
  obtain ⟨⟨b9, c9, r9, Ts, _, _, hP9⟩, hf9⟩ := hcr
  obtain ⟨g, cc, A, C, rfl, y0, y4, y12⟩ := kTwo hP9 hmap
  have hb9 : Below w.heap.size w w9 := Hb8.out.trans (hf9.below Hb8.out.size fun k ⟨i, e⟩ => (HB.out.sht.own.lt i k e).1)
  have Hb9 := Lib.hid hb9
  have HNum := Lib.hid num13
  clear hb9 hP9 hf9 hct hcF hmap hcase HB Hb8
  go_wp2_with (go_at_call 11; refine (HNum.out _ _).mono ?_; rintro e w10 ⟨rfl, rfl⟩)
  go_ret
  exact ⟨rfl, Hb9.out⟩
end Go.Proofs.YtomehdepjenilaaGreat
