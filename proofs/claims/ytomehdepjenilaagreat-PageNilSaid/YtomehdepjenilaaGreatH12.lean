/-
  The page builder: does an item fall away; where the first item ends.
-/
import Derived.Test.YtomehdepjenilaaGreatH8
import Derived.Test.YtomehdepjenilaaGreatQ13
import Derived.Lib.SliceRun
set_option maxRecDepth 100000
set_option maxHeartbeats 8000000
namespace Go.Proofs.YtomehdepjenilaaGreat
open Go.ChangeShapes Go.WideShapes Go.ChangeAt Go.RowKit
theorem pfalls (n : Nd) (w : World) : Calls Tryz.prog 105 #[.agg n.arr] w fun e w' => e = .returned (.bool (fallsK n.kind)) ∧ Below w.heap.size w w' := by
  cases h0 : (n.kind == 7)
  rotate_left
  · go_enter Tryz.func105, Tryz.ntmps105
    go_wp2_with fail
    go_ret
    exact ⟨ret_bool (by simp [fallsK, h0]), (Below.refl _ _).alloc (Nat.le_refl _) _⟩
  cases h1 : (n.kind == 8)
  rotate_left
  · go_enter Tryz.func105, Tryz.ntmps105
    go_wp2_with fail
    go_ret
    exact ⟨ret_bool (by simp [fallsK, h0, h1]), (Below.refl _ _).alloc (Nat.le_refl _) _⟩
  cases h2 : (n.kind == 9)
  rotate_left
  · go_enter Tryz.func105, Tryz.ntmps105
    go_wp2_with fail
    go_ret
    exact ⟨ret_bool (by simp [fallsK, h0, h1, h2]), (Below.refl _ _).alloc (Nat.le_refl _) _⟩
  go_enter Tryz.func105, Tryz.ntmps105
  go_wp2_with fail
  go_ret
  exact ⟨ret_bool (by simp [fallsK, h0, h1, h2]), (Below.refl _ _).alloc (Nat.le_refl _) _⟩

theorem pend (p0 : Option Addr) (b off cap : Nat) (L : List Nd) (m : Nat) (w : World) (h : NIn w p0 b off cap L) (hm : behC L 0 = some m) :
    Calls Tryz.prog 66 #[.slice p0 L.length cap] w fun e w' => e = .returned (.int .i64 (m : Int)) ∧ Below w.heap.size w w' := by
  have H := Lib.hid h
  have hl := h.len
  have Hm := Lib.hid hm
  clear h hm
  go_enter Tryz.func66, Tryz.ntmps66
  go_wp2_with fail
  go_loopg [3, 8] (L.length + 1) (fun g t3 t8 wr => ∃ (j k : Nat) (n : Int), g = L.length + 1 - j ∧ t8 = .int .i64 j ∧ t3 = .int .i64 n ∧ behC (L.drop j) n = some k ∧ j + k = m ∧ (-(j : Int) ≤ n ∧ n ≤ j) ∧ Below w.heap.size w wr)
  case atStart => exact ⟨0, m, 0, rfl, rfl, rfl, Hm.out, by omega, by omega, Below.refl _ _⟩
  case round =>
    clear Hm
    obtain ⟨j, k, n, rfl, rfl, rfl, hk, hjk, hn, hbr⟩ := hrel
    have hlt : j < L.length := by have := behC_pos _ _ _ hk; simp at this; omega
    have hNr := H.out.below hbr
    have ax : agg? wr b (off + j * 19) 19 = some (L[j]).arr := hNr.nd j hlt
    have hbl : b < wr.heap.size := hNr.lt hlt
    obtain rfl := H.out.at_ hlt
    have hj1 : (0 : Int) ≤ (j : Int) := by omega
    have hj2 : (j : Int) < (L.length : Int) := by omega
    have hj3 : j < L.length := hlt
    obtain ⟨hn1, hn2⟩ := hn
    have HB := Lib.hid (behC_at hlt hk)
    have Hjk := Lib.hid hjk
    have Hl := Lib.hid hlt
    have hdj : decide (j < L.length) = true := decide_eq_true hlt
    generalize L[j] = nd at ax HB
    clear hk hjk hlt
    have HBr := Lib.hid (hbr.alloc hbr.size (.cells nd.arr 49))
    have dX := Cb.new wr nd.arr 49
    go_upto_region 5 with (fail)
    clear hNr hbr ax hbl
    have x1 := dX.cell 0 _ (Nd.get0 nd)
    generalize wr.alloc (.cells nd.arr 49) = ws at HBr dX x1 ⊢
    generalize wr.heap.size = Xb at dX x1 ⊢
    generalize nd.kind = kd at x1 HB
    clear dX hdj
    rcases kinds_split kd with ⟨h4, ho⟩ | ⟨h4, h5, ho⟩ | ⟨h4, h5, h10, ho⟩ | ⟨h4, h5, h10, h13, ho⟩ | ⟨h4, h5, h10, h13, h17, ho⟩ | ⟨h4, h5, h10, h13, h17, ho⟩
    rotate_right
    · cases h6 : (kd == 6)
      · have hb : behN kd n = n := by unfold behN; rw [ho, if_neg (by simp), if_neg (by simpa using h6)]
        have HB := HB.out
        rw [hb] at HB
        clear hb ho
        rcases HB with ⟨hz, hk1⟩ | ⟨hz, k1, hk1, hk2⟩
        · subst hz
          go_wp2_with fail
          go_ret
          exact ⟨ret_int (by have := Hjk.out; omega), HBr.out⟩
        · have Hk2 := Lib.hid hk2
          have hz' : (n == 0) = false := by simpa using hz
          clear hk2 hz
          go_wp2_with fail
          go_roundg (L.length + 1 - (j + 1))
          case measure => have := Hl.out; omega
          case rel => exact ⟨j + 1, k1, n, rfl, by go_num, rfl, Hk2.out, by have := Hjk.out; omega, by omega, HBr.out⟩
      · have hb : behN kd n = n - 1 := by unfold behN; rw [ho, if_neg (by simp), if_pos (by simpa using h6)]
        have HB := HB.out
        rw [hb] at HB
        clear hb ho
        rcases HB with ⟨hz, hk1⟩ | ⟨hz, k1, hk1, hk2⟩
        · have hz' : ((n - 1 : Int) == 0) = true := by simpa using hz
          clear hz
          go_wp2_with fail
          go_ret
          exact ⟨ret_int (by have := Hjk.out; omega), HBr.out⟩
        · have Hk2 := Lib.hid hk2
          have hz' : ((n - 1 : Int) == 0) = false := by simpa using hz
          clear hk2 hz
          go_wp2_with fail
          go_roundg (L.length + 1 - (j + 1))
          case measure => have := Hl.out; omega
          case rel => exact ⟨j + 1, k1, n - 1, rfl, by go_num, rfl, Hk2.out, by have := Hjk.out; omega, by omega, HBr.out⟩
    all_goals
      have hb : behN kd n = n + 1 := by unfold behN; rw [ho, if_pos rfl]
      have HB := HB.out
      rw [hb] at HB
      clear hb ho
      rcases HB with ⟨hz, hk1⟩ | ⟨hz, k1, hk1, hk2⟩
      · have hz' : ((n + 1 : Int) == 0) = true := by simpa using hz
        clear hz
        go_wp2_with fail
        go_ret
        exact ⟨ret_int (by have := Hjk.out; omega), HBr.out⟩
      · have Hk2 := Lib.hid hk2
        have hz' : ((n + 1 : Int) == 0) = false := by simpa using hz
        clear hk2 hz
        go_wp2_with fail
        go_roundg (L.length + 1 - (j + 1))
        case measure => have := Hl.out; omega
        case rel => exact ⟨j + 1, k1, n + 1, rfl, by go_num, rfl, Hk2.out, by have := Hjk.out; omega, by omega, HBr.out⟩
def freshC (h : Int) (mh mc : Nat) : Sc := ⟨none, 0, 0, false, false, h, ⟨0, 0, 0, 0, 0, 0, 0, 0, 0⟩, 0, mh, mc, none, 0, 0, 0, 0, 1073741823, false, Nd.zero⟩
def freshR (h : Int) : Rw := ⟨[], [], false, false, h, ⟨0, 0, 0, 0, 0, 0, 0, 0, 0⟩, 0, fun _ => none, fun _ => false, 0, 0, 1073741823, false, Nd.zero⟩
def bestV (c : Int) : Value := .agg #[.int .i64 0, .int .i64 c, .bool false]
def bdBs (parts : Array (Nat × Value)) : Sem Value := Instr.build 96 parts
@[go_sem ↓] theorem execOp_buildBs (ρ : Operand → Value) (dst : Option Tmp) (x : Array (Nat × Operand)) (ty : TypeId) (pos : String) (after : Array Edge) (guard : Option (Nat × Bool)) :
    execOp ρ { dst, op := .build 96 x, type := ty, pos, after, guard } = (do pure (.value (← bdBs (x.map fun (i, y) => (i, ρ y))))) := rfl
@[go_sem] theorem run_bdBs (c : Int) (w : World) : (bdBs #[(1, .int .i64 c)]).run Tryz.prog w = .ok (bestV c) w := by kernel_rfl
def bdSh (parts : Array (Nat × Value)) : Sem Value := Instr.build 98 parts
@[go_sem ↓] theorem execOp_buildSh (ρ : Operand → Value) (dst : Option Tmp) (x : Array (Nat × Operand)) (ty : TypeId) (pos : String) (after : Array Edge) (guard : Option (Nat × Bool)) :
    execOp ρ { dst, op := .build 98 x, type := ty, pos, after, guard } = (do pure (.value (← bdSh (x.map fun (i, y) => (i, ρ y))))) := rfl
@[go_sem] theorem run_bdSh (h : Int) (mh mc : Nat) (w : World) : (bdSh #[(3, .int .i64 h), (6, .map (some mh)), (7, .map (some mc)), (10, bestV 1073741823)]).run Tryz.prog w = .ok (.agg (freshC h mh mc).arr) w := by kernel_rfl
def freshRo (r : Nat → Option Nat) (S mh mc : Nat) : Nat → Option Nat := fun i => if i = 1 then some S else if i = 2 then none else if i = 4 then some mh else if i = 5 then some mc else if i = 6 then none else r i
theorem freshRo_cases {r : Nat → Option Nat} {S mh mc i q : Nat} (h : freshRo r S mh mc i = some q) : (r i = some q ∧ i ≠ 1 ∧ i ≠ 4 ∧ i ≠ 5) ∨ (i = 1 ∧ q = S) ∨ (i = 4 ∧ q = mh) ∨ (i = 5 ∧ q = mc) := by
  unfold freshRo at h
  split at h
  · rename_i e; cases h; exact .inr (.inl ⟨e, rfl⟩)
  split at h
  · cases h
  split at h
  · rename_i e; cases h; exact .inr (.inr (.inl ⟨e, rfl⟩))
  split at h
  · rename_i e; cases h; exact .inr (.inr (.inr ⟨e, rfl⟩))
  split at h
  · cases h
  · exact .inl ⟨h, by assumption, by assumption, by assumption⟩
theorem freshRo_own {base : Nat} {r : Nat → Option Nat} {w w' : World} {S mh mc : Nat} (h : Own base r w) (hB : base ≤ w.heap.size) (h1 : w.heap.size ≤ mh) (h2 : mh < mc) (h3 : mc < S) (h4 : S < w'.heap.size) : Own base (freshRo r S mh mc) w' := by
  refine ⟨fun i q e => ?_, fun i j q hne e1 e2 => ?_⟩
  · rcases freshRo_cases e with ⟨e, _⟩ | ⟨_, rfl⟩ | ⟨_, rfl⟩ | ⟨_, rfl⟩
    · have := h.lt i q e; omega
    · omega
    · omega
    · omega
  · rcases freshRo_cases e1 with ⟨a, _⟩ | ⟨rfl, rfl⟩ | ⟨rfl, rfl⟩ | ⟨rfl, rfl⟩ <;> rcases freshRo_cases e2 with ⟨b, _⟩ | ⟨f1, f2⟩ | ⟨f1, f2⟩ | ⟨f1, f2⟩
    · exact h.sep i j q hne a b
    all_goals first
      | (have := (h.lt i q a).2; omega)
      | (have := (h.lt j _ b).2; omega)
      | omega
theorem bfresh (w : World) (B : Nat) (h : Int) (a : Array Value) (ha : Cb w B a 71) (h0 : a[0]? = some (.int .i64 h)) (h8 : ∃ v, a[8]? = some v) :
    Calls Tryz.prog 33 #[.pointer (some ⟨B, 0, none⟩)] w fun e w' => e = .returned (.tuple #[]) ∧ ∃ S mh mc, w.heap.size ≤ mh ∧ mh < mc ∧ mc < S ∧ S < w'.heap.size ∧ MapF w' mh (fun _ => none) ∧ MapF w' mc (fun _ => none) ∧ ScAt w' S (freshC h mh mc) ∧
      Cb w' B (a.setIfInBounds 8 (.pointer (some ⟨S, 0, none⟩))) 71 ∧ Frm (· = B) w w' := by
  obtain ⟨v8, h8⟩ := h8
  have c0 := ha.cell 0 _ h0
  have c8 := ha.cell 8 _ h8
  have f8 := ha.frozen 8
  have hl := ha.lt
  have hl1 : B < w.heap.size + 1 := by omega
  have hl2 : B < w.heap.size + 1 + 1 := by omega
  have H := Lib.hid ha
  have H0 := Lib.hid (And.intro h0 h8)
  clear ha h0 h8
  have hmm := @run_makeMap Tryz.prog
  go_enter Tryz.func33, Tryz.ntmps33
  go_wp2_with fail
  have hz : (w.setCell ⟨B, 8, none⟩ (.pointer (some ⟨w.heap.size + 1 + 1, 0, none⟩))).heap.size = w.heap.size := by simp [World.setCell]
  have hB : Cb (w.setCell ⟨B, 8, none⟩ (.pointer (some ⟨w.heap.size + 1 + 1, 0, none⟩))) B (a.setIfInBounds 8 (.pointer (some ⟨w.heap.size + 1 + 1, 0, none⟩))) 71 := H.out.set 8 _ rfl
  have hF : Frm (· = B) w (w.setCell ⟨B, 8, none⟩ (.pointer (some ⟨w.heap.size + 1 + 1, 0, none⟩))) := (Frm.refl _ _).set1 8 _
  refine ⟨rfl, _, results_none rfl _ _ _, rfl, w.heap.size + 1 + 1, w.heap.size, w.heap.size + 1, Nat.le_refl _, by omega, by omega, ?_⟩
  generalize w.setCell ⟨B, 8, none⟩ (.pointer (some ⟨w.heap.size + 1 + 1, 0, none⟩)) = w0 at hz hB hF ⊢
  rw [← hz] at hB ⊢
  have m1 := MapF.new w0
  have m2 := MapF.new (w0.alloc (.map #[] 0))
  have z2 : (w0.alloc (.map #[] 0)).heap.size = w0.heap.size + 1 := by simp
  have z3 : ((w0.alloc (.map #[] 0)).alloc (.map #[] 0)).heap.size = w0.heap.size + 1 + 1 := by simp
  rw [z2] at m2
  have s3 := Cb.new ((w0.alloc (.map #[] 0)).alloc (.map #[] 0)) (freshC h w0.heap.size (w0.heap.size + 1)).arr 98
  rw [z3] at s3
  refine ⟨by simp, ?_, ?_, s3, ((hB.alloc _).alloc _).alloc _, ((hF.alloc _).alloc _).alloc _⟩
  · exact m1.same ((Below.heap_alloc _ _ _ (by rw [z3]; omega)).trans (Below.heap_alloc _ _ _ (by rw [z2]; omega)))
  · exact m2.same (Below.heap_alloc _ _ _ (by rw [z3]; omega))
theorem BdR.fresh {w w' : World} {base B : Nat} {r : Nat → Option Nat} {b : Bc} {g : Gr} {bot : ByteArray} {W : List Nd} (hO : Own base r w) (hB : base ≤ w.heap.size) (ho : BcOf w b g bot W) (r0 : r 0 = some B) (r3 : r 3 = blkA b.waitsA) (r7 : r 7 = blkA b.clsA)
    {S mh mc : Nat} (h1 : w.heap.size ≤ mh) (h2 : mh < mc) (h3 : mc < S) (h4 : S < w'.heap.size) (m1 : MapF w' mh (fun _ => none)) (m2 : MapF w' mc (fun _ => none)) (hs : ScAt w' S (freshC g.height mh mc)) (hb : Cb w' B ({ b with sheet := S } : Bc).arr 71) (hf : Frm (· = B) w w') :
    BdR w' base B (freshRo r S mh mc) { b with sheet := S } (freshC g.height mh mc) g bot W (freshR g.height) ∧ later r (freshRo r S mh mc) w := by
  have hne : ∀ i q, i ≠ 0 → r i = some q → q ≠ B := fun i q hi e e2 => hO.sep i 0 q hi e (by rw [r0, e2])
  have ho' : BcOf w' b g bot W := ho.same hf.size (fun q e hq => hf.block q hq (hne 3 q (by decide) (by rw [r3, e]))) (fun q e hq => hf.block q hq (hne 7 q (by decide) (by rw [r7, e])))
  refine ⟨⟨⟨hs, ⟨rfl, rfl, rfl, rfl, rfl, rfl, rfl, rfl, rfl, rfl, World.ownsRow_nil _ _ _ _, World.ownsRow_nil _ _ _ _, m1, m2⟩, freshRo_own hO hB h1 h2 h3 h4, ⟨rfl, rfl, rfl, rfl, rfl⟩, Nat.le_trans hB hf.size⟩, hb, ⟨ho'.height, ho'.depth, ho'.top, ho'.bot, ho'.cls, ho'.wn, ho'.waits⟩, r0, r3, r7⟩, fun i q e => ?_⟩
  rcases freshRo_cases e with ⟨e, _⟩ | ⟨_, rfl⟩ | ⟨_, rfl⟩ | ⟨_, rfl⟩
  · exact .inl e
  · exact .inr (by omega)
  · exact .inr h1
  · exact .inr (by omega)
def bsNd0 (parts : Array (Nat × Value)) : Sem Value := Instr.buildSlice 27 0 parts
@[go_sem ↓] theorem execOp_bsNd0 (ρ : Operand → Value) (dst : Option Tmp) (x : Array (Nat × Operand)) (ty : TypeId) (pos : String) (after : Array Edge) (guard : Option (Nat × Bool)) :
    execOp ρ { dst, op := .buildSlice 27 0 x, type := ty, pos, after, guard } = (do pure (.value (← bsNd0 (x.map fun (i, y) => (i, ρ y))))) := rfl
@[go_sem] theorem run_bsNd0 (w : World) : (bsNd0 #[]).run Tryz.prog w = .ok (.slice (some ⟨w.heap.size, 0, none⟩) 0 0) (w.alloc (.cells #[] 49)) := by
  obtain ⟨i, hi, hz, hs, hb⟩ := info_parts info_node
  unfold bsNd0
  simp [Instr.buildSlice, run_underlying Tryz.underlying27, sizeOf, typeInfo, hi, newRow, Instr.fill]
  exact congrArg (fun c => w.alloc (.cells c 49)) (Array.eq_empty_of_size_eq_zero (by simp))
theorem eql_nil (w : World) (a : Option Addr) (n c : Nat) : (binOp .eql 27 (.slice a n c) (.slice none 0 0)).run Tryz.prog w = .ok (.bool a.isNone) w := Lib.run_eql_slice_nil w _ _ a n c 0 0 Tryz.underlying27
theorem own_empty (w : World) : (w.alloc (.cells #[] 49)).ownsRow w.heap.size 49 19 (.slice (some ⟨w.heap.size, 0, none⟩) 0 0) 0 [] :=
  ⟨rfl, .inr ⟨w.heap.size, 0, #[], rfl, Nat.le_refl _, heap_alloc_new w _, Nat.le_refl _, by decide, rfl, rfl⟩⟩
theorem clone_nil (w : World) : Calls Tryz.prog 41 #[.slice none 0 0] w fun e w' => e = .returned (.slice none 0 0) ∧ w' = w := by
  have hq := eql_nil
  go_enter Tryz.func41, Tryz.ntmps41
  go_wp2_with fail
  go_ret
  exact ⟨rfl, rfl⟩
theorem clone_some (a : Addr) (b off cap : Nat) (L : List Nd) (w : World) (hN : NIn w (some a) b off cap L) (hlen : L.length ≤ 800000000000) : Calls Tryz.prog 41 #[.slice (some a) L.length cap] w fun e w' => (∃ v, e = .returned v ∧ NRow w v L w') ∧ Below w.heap.size w w' := by
  have hb1 : Below w.heap.size w (w.alloc (.cells #[] 49)) := (Below.refl _ _).alloc (Nat.le_refl _) _
  obtain ⟨i0, hi0', hz0, hz1, hz2'⟩ := info_parts info_node
  have HO := Lib.hid (own_empty w)
  have hN1 := hN.below hb1
  have HN1 := Lib.hid hN1
  have Hb1 := Lib.hid hb1
  have Hnews := Lib.hid (And.intro hN1.news (nodes_one L))
  clear hN1 hb1
  have hq := eql_nil
  by_cases hne : L = []
  · subst hne
    go_enter Tryz.func41, Tryz.ntmps41
    go_wp2_with (at_builtin; refine wpList_append_own _ rfl _ _ _ rfl w.heap.size 49 i0 (.agg Nd.zero.arr) 19 160 Tryz.underlying27 hi0' hz0 hz1 hz2' rfl (by decide) (.slice (some ⟨w.heap.size, 0, none⟩) 0 0) 0 [] rfl HO.out a 0 cap [] rfl rfl (fun j u h => by simp at h) (fun u h => by cases h) (by decide) (by decide) (by simp) ?_; intro v7 w7 hown7 hgrow7 hw7)
    go_ret
    exact ⟨⟨_, rfl, hown7⟩, Hb1.out.grown hgrow7 Hb1.out.size (fun k hk => by simp only [Value.ownBlock, Option.some.injEq] at hk; omega)⟩
  · obtain rfl := Option.some.inj (hN.hp hne)
    have hp : 0 < L.length := by cases L with | nil => exact absurd rfl hne | cons => simp
    clear hN
    go_enter Tryz.func41, Tryz.ntmps41
    go_wp2_with (at_builtin; refine wpList_append_lies _ rfl _ _ _ rfl w.heap.size 49 i0 (.agg Nd.zero.arr) 19 160 Tryz.underlying27 hi0' hz0 hz1 hz2' rfl (by decide) (.slice (some ⟨w.heap.size, 0, none⟩) 0 0) 0 [] rfl HO.out ⟨b, off, none⟩ L.length _ (L.flatMap Nd.cells) rfl (flat_len L) Hnews.out.1 Hnews.out.2 hp (by unfold maxLen; omega) (by omega) (by simp) _ rfl ?_; intro g7 cap7 w7 hown7 hgrow7 hat7 hlt7)
    go_ret
    refine ⟨⟨_, rfl, ?_⟩, Hb1.out.grown hgrow7 Hb1.out.size (fun k hk => by simp only [Value.ownBlock, Option.some.injEq] at hk; omega)⟩
    unfold NRow
    simpa using hown7
theorem ins_sort0 (w : World) (f : Value) : Calls Tryz.prog 181 #[.slice none 0 0, .int .i64 0, .int .i64 0, f] w fun e w' => e = .returned (.tuple #[]) ∧ w' = w := by
  go_enter Tryz.func181, Tryz.ntmps181
  go_wp2_with fail
  go_loopg [8] 1 (fun gg t8 wr => gg = 1 ∧ t8 = .int .i64 1 ∧ wr = w)
  case atStart => exact ⟨rfl, rfl, rfl⟩
  case round =>
    obtain ⟨rfl, rfl, rfl⟩ := hrel
    go_wp2_with fail
    exact ⟨rfl, _, results_none rfl _ _ _, rfl, rfl⟩
theorem len64_0 (w : World) : Calls Tryz.prog 190 #[.int .u64 0] w fun e w' => e = .returned (.int .i64 0) ∧ w' = w := by
  go_enter Tryz.func190, Tryz.ntmps190
  go_wp2_with fail
  go_ret
  exact ⟨by first | rfl | kernel_rfl | decide, rfl⟩
theorem bitsLen_0 (w : World) : Calls Tryz.prog 173 #[.int .u64 0] w fun e w' => e = .returned (.int .i64 0) ∧ w' = w := by
  go_enter Tryz.func173, Tryz.ntmps173
  go_wp2_with (go_at_call 190; refine (len64_0 _).mono ?_; rintro e w1 ⟨rfl, rfl⟩)
  go_ret
  exact ⟨rfl, rfl⟩
theorem pdq_0 (w : World) (f : Value) : Calls Tryz.prog 172 #[.slice none 0 0, .int .i64 0, .int .i64 0, .int .i64 0, f] w fun e w' => e = .returned (.tuple #[]) ∧ w' = w := by
  go_enter Tryz.func172, Tryz.ntmps172
  go_wp2_with fail
  go_loopg [1, 2, 3] 1 (fun gg t1 t2 t3 wr => gg = 1 ∧ t1 = .int .i64 0 ∧ t2 = .int .i64 0 ∧ t3 = .int .i64 0 ∧ wr = w)
  case atStart => exact ⟨rfl, rfl, rfl, rfl, rfl⟩
  case round =>
    obtain ⟨rfl, rfl, rfl, rfl, rfl⟩ := hrel
    go_wp2_with (go_at_call 181; refine (ins_sort0 _ _).mono ?_; rintro e w1 ⟨rfl, rfl⟩)
    exact ⟨rfl, _, results_none rfl _ _ _, rfl, rfl⟩
theorem sort_0 (w : World) (f : Value) : Calls Tryz.prog 157 #[.slice none 0 0, f] w fun e w' => e = .returned (.tuple #[]) ∧ w' = w := by
  go_enter Tryz.func157, Tryz.ntmps157
  go_wp2_with (first | (go_at_call 173; refine (bitsLen_0 _).mono ?_; rintro e w1 ⟨rfl, rfl⟩) | (go_at_call 172; refine (pdq_0 _ _).mono ?_; rintro e w1 ⟨rfl, rfl⟩))
  exact ⟨rfl, _, results_none rfl _ _ _, rfl, rfl⟩
end Go.Proofs.YtomehdepjenilaaGreat
