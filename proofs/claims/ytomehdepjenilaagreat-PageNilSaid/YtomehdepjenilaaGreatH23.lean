/-
  The page builder: a new builder, without classes of inserts.
-/
import Derived.Test.YtomehdepjenilaaGreatH12
import Derived.Test.YtomehdepjenilaaGreatH22
import Derived.Test.YtomehdepjenilaaGreatH1b
set_option maxRecDepth 100000
set_option maxHeartbeats 8000000
namespace Go.Proofs.YtomehdepjenilaaGreat
open Go.ChangeShapes Go.WideShapes Go.ChangeAt Go.RowKit
def bsGl1 (parts : Array (Nat × Value)) : Sem Value := Instr.buildSlice 79 1 parts
@[go_sem ↓] theorem execOp_bsGl1 (ρ : Operand → Value) (dst : Option Tmp) (x : Array (Nat × Operand)) (ty : TypeId) (pos : String) (after : Array Edge) (guard : Option (Nat × Bool)) :
    execOp ρ { dst, op := .buildSlice 79 1 x, type := ty, pos, after, guard } = (do pure (.value (← bsGl1 (x.map fun (i, y) => (i, ρ y))))) := rfl
theorem fill_gl1 (g : Gl) : Instr.fill (fun i => some (i * 5, 5)) ((Array.range (1 * 5)).map ((Value.agg Gl.zero.arr).cells[· % (Value.agg Gl.zero.arr).cells.size]!)) [(0, .agg g.arr)] = some g.arr := by kernel_rfl
theorem info_gl0 : (Tryz.prog.info? 23).map (fun i => (i.zero, i.size)) = some (some (.agg Gl.zero.arr), 5) := by kernel_rfl
@[go_sem] theorem run_bsGl1 (g : Gl) (w : World) : (bsGl1 #[(0, .agg g.arr)]).run Tryz.prog w = .ok (.slice (some ⟨w.heap.size, 0, none⟩) 1 1) (w.alloc (.cells g.arr 23)) := by
  obtain ⟨i, hi, hzz⟩ := Option.map_eq_some_iff.1 info_gl0
  simp only [Prod.mk.injEq] at hzz
  obtain ⟨hz, hs⟩ := hzz
  refine run_buildSlice w _ 23 1 _ g.arr i (.agg Gl.zero.arr) Tryz.underlying79 hi hz (by rw [hs]; decide) (by rw [hs]; decide) ?_
  rw [hs]
  exact fill_gl1 g
def newA (p : Gp) : Array Value := (p.cells ++ ([.pointer none, .slice none 0 0, .string ⟨#[]⟩] : List Value)).toArray
def bdBd (parts : Array (Nat × Value)) : Sem Value := Instr.build 71 parts
@[go_sem ↓] theorem execOp_buildBd (ρ : Operand → Value) (dst : Option Tmp) (x : Array (Nat × Operand)) (ty : TypeId) (pos : String) (after : Array Edge) (guard : Option (Nat × Bool)) :
    execOp ρ { dst, op := .build 71 x, type := ty, pos, after, guard } = (do pure (.value (← bdBd (x.map fun (i, y) => (i, ρ y))))) := rfl
@[go_sem] theorem run_bdBd (p : Gp) (w : World) : (bdBd #[(0, .agg p.arr)]).run Tryz.prog w = .ok (.agg (newA p)) w := by kernel_rfl
theorem clone_clsnil (w : World) : Calls Tryz.prog 32 #[.slice none 0 0] w fun e w' => e = .returned (.slice none 0 0) ∧ w' = w := by
  have hq := eql_nilC
  go_enter Tryz.func32, Tryz.ntmps32
  go_wp2_with fail
  go_ret
  exact ⟨rfl, rfl⟩
def newRo (B S mh mc : Nat) (q : Option Nat) : Nat → Option Nat := fun i => if i = 0 then some B else if i = 1 then some S else if i = 4 then some mh else if i = 5 then some mc else if i = 7 then q else none
theorem newRo_cases {B S mh mc : Nat} {q : Option Nat} {i x : Nat} (h : newRo B S mh mc q i = some x) : (i = 0 ∧ x = B) ∨ (i = 1 ∧ x = S) ∨ (i = 4 ∧ x = mh) ∨ (i = 5 ∧ x = mc) ∨ (i = 7 ∧ q = some x) := by
  unfold newRo at h
  split at h
  · rename_i e; cases h; exact .inl ⟨e, rfl⟩
  split at h
  · rename_i e; cases h; exact .inr (.inl ⟨e, rfl⟩)
  split at h
  · rename_i e; cases h; exact .inr (.inr (.inl ⟨e, rfl⟩))
  split at h
  · rename_i e; cases h; exact .inr (.inr (.inr (.inl ⟨e, rfl⟩)))
  split at h
  · rename_i e; exact .inr (.inr (.inr (.inr ⟨e, h⟩)))
  · cases h
theorem BdR.new {w7 : World} {base B S mh mc n c : Nat} {A : Option Addr} {g : Gr} (hb : Cb w7 B (Bc.mk g.height g.depth g.top A n c S none 0 0 ⟨#[]⟩).arr 71) (hA : CpIn w7 A n c g.cls) (hq : ∀ q, blkA A = some q → base ≤ q ∧ q < B)
    (hB : base ≤ B) (h1 : B < mh) (h2 : mh < mc) (h3 : mc < S) (h4 : S < w7.heap.size) (m1 : MapF w7 mh (fun _ => none)) (m2 : MapF w7 mc (fun _ => none)) (hs : ScAt w7 S (freshC g.height mh mc)) :
    BdR w7 base B (newRo B S mh mc (blkA A)) (Bc.mk g.height g.depth g.top A n c S none 0 0 ⟨#[]⟩) (freshC g.height mh mc) g ⟨#[]⟩ [] (freshR g.height) := by
  refine ⟨⟨hs, ⟨rfl, rfl, rfl, rfl, rfl, rfl, rfl, rfl, rfl, rfl, World.ownsRow_nil _ _ _ _, World.ownsRow_nil _ _ _ _, m1, m2⟩, ⟨fun i x e => ?_, fun i j x hne e1 e2 => ?_⟩, ⟨rfl, rfl, rfl, rfl, rfl⟩, by omega⟩, hb, ⟨rfl, rfl, rfl, rfl, hA, rfl, 0, 0, ⟨fun e => absurd rfl e, fun e => absurd rfl e, fun j hj => by simp at hj, Nat.le_refl _, by simp⟩, fun a e => by cases e⟩, rfl, rfl, rfl⟩
  · rcases newRo_cases e with ⟨_, rfl⟩ | ⟨_, rfl⟩ | ⟨_, rfl⟩ | ⟨_, rfl⟩ | ⟨_, e⟩
    · omega
    · omega
    · omega
    · omega
    · have := hq x e; omega
  · rcases newRo_cases e1 with ⟨rfl, rfl⟩ | ⟨rfl, rfl⟩ | ⟨rfl, rfl⟩ | ⟨rfl, rfl⟩ | ⟨rfl, e1⟩ <;> rcases newRo_cases e2 with ⟨rfl, e⟩ | ⟨rfl, e⟩ | ⟨rfl, e⟩ | ⟨rfl, e⟩ | ⟨rfl, e⟩
    all_goals first
      | (exact absurd rfl hne)
      | omega
      | (have := hq _ e; omega)
      | (have := hq _ e1; omega)
structure NewPost (w : World) (g : Gr) (e : Ending) (w' : World) : Prop where
  below : Below w.heap.size w w'
  bad : goalC g ≠ 0 → e = .returned (.tuple #[.pointer none, .int .i64 (goalC g)])
  good : goalC g = 0 → ∃ B b c r, e = .returned (.tuple #[.pointer (some ⟨B, 0, none⟩), .int .i64 0]) ∧ BdR w' w.heap.size B r b c g ⟨#[]⟩ [] (freshR g.height)
theorem new_none (w : World) (h d : Int) (top : Gl) : Calls Tryz.prog 9 #[.agg (Gp.mk h d top none 0 0).arr] w (NewPost w ⟨h, d, top, []⟩) := by
  have HD := Lib.hid pdimen
  obtain ⟨G, hG⟩ : ∃ G, goalC ⟨h, d, top, []⟩ = G := ⟨_, rfl⟩
  have HG : Hid (G = if dimenB h && dimenB d && decide (0 < h) then (if top.good && (top.shr == 0 || top.ho == 0) then 0 else 30) else 1) := Lib.hid (by rw [← hG]; unfold goalC firmG; simp)
  have HGe := Lib.hid hG
  clear hG
  have hmm := @run_makeMap Tryz.prog
  have c0 : (w.alloc (.cells (Gp.mk h d top none 0 0).arr 34)).cell? ⟨w.heap.size, 0, none⟩ = some (.int .i64 h) := (Cb.new w _ _).cell 0 _ (Gp.get0 _)
  go_enter Tryz.func9, Tryz.ntmps9
  go_upto_region 1 with (fail)
  have hY := Cb.new w (Gp.mk h d top none 0 0).arr 34
  have hb1 : Below w.heap.size w (w.alloc (.cells (Gp.mk h d top none 0 0).arr 34)) := (Below.refl _ _).alloc (Nat.le_refl _) _
  have hs1 : (w.alloc (.cells (Gp.mk h d top none 0 0).arr 34)).heap.size = w.heap.size + 1 := by simp
  clear c0
  generalize w.alloc (.cells (Gp.mk h d top none 0 0).arr 34) = w1 at hY hb1 hs1 ⊢
  obtain ⟨Y, hYz⟩ : ∃ Y, w.heap.size = Y := ⟨_, rfl⟩
  rw [hYz] at hY hs1
  simp only [hYz]
  have HYz := Lib.hid hYz
  clear hYz
  have y0 := hY.cell 0 _ (Gp.get0 _)
  have y1 := hY.cell 1 _ (Gp.get1 _)
  have y7 := hY.cell 7 _ (Gp.get7 _)
  have yt : agg? w1 Y 2 5 = some top.arr := hY.agg 2 5 (by rw [Gp.size_arr]; decide)
  obtain ⟨ok, hok⟩ : ∃ ok, (dimenB h && dimenB d && decide (0 < h)) = ok := ⟨_, rfl⟩
  rw [hok] at HG
  have Hok := Lib.hid hok
  clear hok
  have HY := Lib.hid (And.intro hY (And.intro hb1 hs1))
  clear hY hb1 hs1
  go_cut [4] from 12 to 30 (fun s4 wx => s4 = .bool ok ∧ wx = w1)
  case first =>
    cases e1 : dimenB h
    · have hv : Hid (ok = false) := Lib.hid (by rw [← Hok.out, e1]; rfl)
      go_wp2_with (go_at_call 29; refine (HD.out _ _).mono ?_; rintro e w2 ⟨rfl, rfl⟩)
      go_meet
      exact ⟨by rw [hv.out], rfl⟩
    · cases e2 : dimenB d
      · have hv : Hid (ok = false) := Lib.hid (by rw [← Hok.out, e1, e2]; rfl)
        go_wp2_with (go_at_call 29; refine (HD.out _ _).mono ?_; rintro e w2 ⟨rfl, rfl⟩)
        go_meet
        exact ⟨by rw [hv.out], rfl⟩
      · by_cases e3 : 0 < h
        · have hv : Hid (ok = true) := Lib.hid (by rw [← Hok.out, e1, e2, decide_eq_true e3]; rfl)
          have e4 : decide (h > 0) = true := decide_eq_true e3
          go_wp2_with (go_at_call 29; refine (HD.out _ _).mono ?_; rintro e w2 ⟨rfl, rfl⟩)
          go_meet
          exact ⟨by rw [hv.out], rfl⟩
        · have hv : Hid (ok = false) := Lib.hid (by rw [← Hok.out, e1, e2, decide_eq_false e3]; rfl)
          have e4 : decide (h > 0) = false := decide_eq_false e3
          go_wp2_with (go_at_call 29; refine (HD.out _ _).mono ?_; rintro e w2 ⟨rfl, rfl⟩)
          go_meet
          exact ⟨by rw [hv.out], rfl⟩
  case rest =>
    obtain ⟨rfl, rfl⟩ := hcut
    go_upto_region 4 with (fail)
    have hb3 : Below wc.heap.size wc ((wc.alloc (.cells top.arr 23)).alloc (.map #[] 0)) := ((Below.refl _ _).alloc (Nat.le_refl _) _).alloc (by simp) _
    have ht3 : Cb ((wc.alloc (.cells top.arr 23)).alloc (.map #[] 0)) wc.heap.size top.arr 23 := (Cb.new wc top.arr 23).alloc _
    have hY3 := HY.out.1.below hb3
    clear hmm y0 y1 y7 yt HD
    generalize (wc.alloc (.cells top.arr 23)).alloc (.map #[] 0) = w3 at hb3 ht3 hY3 ⊢
    obtain ⟨T, hTz⟩ : ∃ T, wc.heap.size = T := ⟨_, rfl⟩
    rw [hTz] at ht3
    simp only [hTz]
    have HB3 := Lib.hid (HY.out.2.1.trans (hb3.mono HY.out.2.1.size))
    have HT3 := Lib.hid ht3
    have HY3 := Lib.hid hY3
    have y7 := hY3.cell 7 _ (Gp.get7 _)
    clear hTz hb3 ht3 hY3 HY
    go_wp2_with fail
    clear y7
    go_loopg [4, 5, 38] 1 (fun gg t4 t5 t38 wr => gg = 1 ∧ t4 = .bool ok ∧ t5 = .slice (some ⟨T, 0, none⟩) 1 1 ∧ t38 = .int .i64 0 ∧ wr = w3)
    case atStart => exact ⟨rfl, rfl, rfl, rfl, rfl⟩
    case round =>
      obtain ⟨rfl, rfl, rfl, rfl, rfl⟩ := hrel
      cases ok
      · have hG : Hid (goalC ⟨h, d, top, []⟩ = 1) := Lib.hid (HGe.out.trans (HG.out.trans (if_neg (by decide))))
        go_wp2_with fail
        go_ret2
        exact ⟨HB3.out, fun _ => by rw [hG.out]; rfl, fun e => by rw [hG.out] at e; cases e⟩
      · obtain ⟨fg, hfg⟩ : ∃ fg, (top.good && (top.shr == 0 || top.ho == 0)) = fg := ⟨_, rfl⟩
        rw [hfg, if_pos rfl] at HG
        have Hfg := Lib.hid hfg
        clear hfg
        go_wp2_with fail
        have HGC := Lib.hid (gcheck_any top)
        have HFC := Lib.hid (pfirm top)
        go_loopg [93] 2 (fun gg t93 wx => (gg = 2 ∧ t93 = .int .i64 0 ∧ wx = wr) ∨ (gg = 1 ∧ t93 = .int .i64 1 ∧ fg = true ∧ Below wr.heap.size wr wx))
        case atStart => exact .inl ⟨rfl, rfl, rfl⟩
        case round =>
          rcases hrel with ⟨rfl, rfl, rfl⟩ | ⟨rfl, rfl, rfl, hbx⟩
          · have at0 : agg? wr T 0 5 = some top.arr := HT3.out.agg 0 5 (by rw [Gl.size_arr]; decide)
            have hTl : T < wr.heap.size := HT3.out.lt
            cases e1 : top.good
            · have hv : Hid (fg = false) := Lib.hid (by rw [← Hfg.out, e1]; rfl)
              have hG : Hid (goalC ⟨h, d, top, []⟩ = 30) := Lib.hid (by rw [HGe.out, HG.out, hv.out]; rfl)
              rw [e1] at HGC
              go_wp2_with (first | (go_at_call 30; refine (HGC.out _).mono ?_; rintro e w4 ⟨rfl, hb4⟩))
              go_ret2
              exact ⟨HB3.out.trans ((((Below.refl _ _).alloc (Nat.le_refl _) _).trans (hb4.mono (by simp))).mono HB3.out.size), fun _ => by rw [hG.out]; rfl, fun e => by rw [hG.out] at e; cases e⟩
            · rw [e1] at HGC
              cases e2 : (top.shr == 0 || top.ho == 0)
              · have hv : Hid (fg = false) := Lib.hid (by rw [← Hfg.out, e1, e2]; rfl)
                have hG : Hid (goalC ⟨h, d, top, []⟩ = 30) := Lib.hid (by rw [HGe.out, HG.out, hv.out]; rfl)
                rw [e2] at HFC
                clear e2
                go_wp2_with (first | (go_at_call 30; refine (HGC.out _).mono ?_; rintro e w4 ⟨rfl, hb4⟩; have at4 : agg? w4 wr.heap.size 0 5 = some top.arr := (Cb.below (Cb.new wr top.arr 23) hb4).agg 0 5 (by rw [Gl.size_arr]; decide)) | (go_at_call 31; refine (HFC.out _).mono ?_; rintro e w5 ⟨rfl, hb5⟩))
                go_ret2
                exact ⟨HB3.out.trans ((((Below.refl _ _).alloc (Nat.le_refl _) _).trans ((hb4.trans (hb5.mono hb4.size)).mono (by simp))).mono HB3.out.size), fun _ => by rw [hG.out]; rfl, fun e => by rw [hG.out] at e; cases e⟩
              · have hv : Hid (fg = true) := Lib.hid (by rw [← Hfg.out, e1, e2]; rfl)
                rw [e2] at HFC
                clear e2
                go_wp2_with (first | (go_at_call 30; refine (HGC.out _).mono ?_; rintro e w4 ⟨rfl, hb4⟩; have at4 : agg? w4 wr.heap.size 0 5 = some top.arr := (Cb.below (Cb.new wr top.arr 23) hb4).agg 0 5 (by rw [Gl.size_arr]; decide)) | (go_at_call 31; refine (HFC.out _).mono ?_; rintro e w5 ⟨rfl, hb5⟩))
                go_roundg 1
                case measure => omega
                case rel => exact .inr ⟨rfl, by go_num, hv.out, (((Below.refl _ _).alloc (Nat.le_refl _) _).trans ((hb4.trans (hb5.mono hb4.size)).mono (by simp)))⟩
          · have hG : Hid (goalC ⟨h, d, top, []⟩ = 0) := Lib.hid (by rw [HGe.out, HG.out]; rfl)
            have hY4 := HY3.out.below hbx
            have y7 := hY4.cell 7 _ (Gp.get7 _)
            have f7 := hY4.frozen 7
            have HY4 := Lib.hid hY4
            have Hbx := Lib.hid hbx
            clear hbx hY4 HGC HFC
            go_upto_region 20 with (go_at_call 32; refine (clone_clsnil _).mono ?_; rintro e w5 ⟨rfl, rfl⟩)
            have hY5 : Cb (w5.setCell ⟨Y, 7, none⟩ (.slice none 0 0)) Y (Gp.mk h d top none 0 0).arr 34 := HY4.out.set 7 _ (Gp.set7 _ _ _ _)
            have hYw : w.heap.size ≤ Y := by rw [HYz.out]; exact Nat.le_refl _
            have hb5 : Below w.heap.size w (w5.setCell ⟨Y, 7, none⟩ (.slice none 0 0)) := (HB3.out.trans (Hbx.out.mono HB3.out.size)).setCell hYw _
            clear y7 f7 HY4 Hbx
            generalize w5.setCell ⟨Y, 7, none⟩ (.slice none 0 0) = w5b at hY5 hb5 ⊢
            have ya : agg? w5b Y 0 8 = some (Gp.mk h d top none 0 0).arr := hY5.agg 0 8 (by rw [Gp.size_arr]; decide)
            go_upto_region 21 with (fail)
            have hB6 := Cb.new w5b (newA (Gp.mk h d top none 0 0)) 71
            have hb6 : Below w.heap.size w (w5b.alloc (.cells (newA (Gp.mk h d top none 0 0)) 71)) := hb5.alloc hb5.size _
            have hz6 : (w5b.alloc (.cells (newA (Gp.mk h d top none 0 0)) 71)).heap.size = w5b.heap.size + 1 := by simp
            have hBw := hb5.size
            clear ya hY5 hb5
            generalize w5b.alloc (.cells (newA (Gp.mk h d top none 0 0)) 71) = w6 at hB6 hb6 hz6 ⊢
            generalize w5b.heap.size = B at hB6 hz6 hBw ⊢
            have HFr := Lib.hid (bfresh w6 B h _ hB6 rfl ⟨_, rfl⟩)
            have Hb6 := Lib.hid hb6
            clear hB6 hb6
            go_wp2_with (go_at_call 33; refine HFr.out.mono ?_; clear HFr; rintro e w7 ⟨rfl, S, mh, mc, h1, h2, h3, h4, m1, m2, hs, hb, hf7⟩)
            go_ret2
            refine ⟨Hb6.out.trans (hf7.below Hb6.out.size fun k e => by omega), fun e => absurd hG.out e, fun _ => ⟨B, _, _, _, rfl, BdR.new (g := ⟨h, d, top, []⟩) (A := none) (n := 0) (c := 0) hb ⟨rfl, Nat.le_refl _, fun e => absurd rfl e⟩ (fun q e => by cases e) hBw (by omega) h2 h3 h4 m1 m2 hs⟩⟩
end Go.Proofs.YtomehdepjenilaaGreat
