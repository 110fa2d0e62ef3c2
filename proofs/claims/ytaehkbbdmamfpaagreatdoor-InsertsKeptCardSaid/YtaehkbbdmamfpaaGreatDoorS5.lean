/-
  vlist.measured: what stands ahead of a place of a good column.
-/
import Derived.Test.YtaehkbbdmamfpaaGreatDoorS4
import Derived.Test.YtaehkbbdmamfpaaGreatDoorVBs
import Derived.Test.YtaehkbbdmamfpaaGreatDoorV11a
namespace Go.Proofs.YtaehkbbdmamfpaaGreatDoor
open Go.ChangeShapes Go.WideShapes Go.ChangeAt Go.RowKit Go.Shelf
attribute [local go_sem] Oper.semAt_some
def foldM (L : List Nd) (depth : Int) (pre : List Nat) : Mt := pre.foldl (fun m i => passM (nth L i) m) ⟨.zero, 0, depth⟩
theorem foldM_snoc (L : List Nd) (depth : Int) (pre : List Nat) (x : Nat) : foldM L depth (pre ++ [x]) = passM (nth L x) (foldM L depth pre) := by simp [foldM]
theorem passM_depth (n : Nd) (m : Mt) : (passM n m).depth = m.depth := by unfold passM; split <;> try rfl
                                                                          split <;> try rfl
                                                                          split <;> try rfl
                                                                          split <;> rfl
theorem foldM_depth (L : List Nd) (depth : Int) (pre : List Nat) : (foldM L depth pre).depth = depth := by
  unfold foldM
  suffices h : ∀ m : Mt, (pre.foldl (fun m i => passM (nth L i) m) m).depth = m.depth by exact h _
  induction pre with
  | nil => intro m; rfl
  | cons a r ih => intro m; rw [List.foldl_cons, ih, passM_depth]
theorem foldM_bound (L : List Nd) (depth : Int) : ∀ (pre : List Nat) (m : Mt) (K : Int), MtB K m → (∀ i ∈ pre, NdB (nth L i)) → MtB (K + pre.length * 4294967296) (pre.foldl (fun m i => passM (nth L i) m) m)
  | [], m, K, h, _ => by simpa using h
  | a :: r, m, K, h, hn => by
    have := foldM_bound L depth r (passM (nth L a) m) (K + 4294967296) (h.pass (hn a List.mem_cons_self)) (fun i hi => hn i (List.mem_cons_of_mem _ hi))
    rw [List.foldl_cons]
    have e : K + 4294967296 + (r.length : Int) * 4294967296 = K + ((a :: r).length : Int) * 4294967296 := by simp; omega
    rw [e] at this
    exact this
theorem mtB_zero (depth : Int) : MtB 0 ⟨.zero, 0, depth⟩ := ⟨by simp [Tt.zero], fun j => by match j with | 0 | 1 | 2 | _ + 3 => simp [Tt.st, Tt.zero], fun j => by match j with | 0 | 1 | 2 | _ + 3 => simp [Tt.sh, Tt.zero], by simp⟩
theorem foldM_ok {L : List Nd} {depth : Int} {pre : List Nat} (hn : ∀ i ∈ pre, NdB (nth L i)) (hl : pre.length ≤ 2001) : MtB 8800000000000 (foldM L depth pre) := by
  have this : MtB (0 + pre.length * 4294967296) (foldM L depth pre) := foldM_bound L depth pre _ 0 (mtB_zero depth) hn
  have hb : (0 : Int) + (pre.length : Int) * 4294967296 ≤ 8800000000000 := by omega
  exact ⟨⟨by have := this.nat; omega, by have := this.nat; omega⟩, fun j => ⟨by have := this.st j; omega, by have := this.st j; omega⟩, fun j => ⟨by have := this.sh j; omega, by have := this.sh j; omega⟩, this.d⟩
def aheadP (s : List Nat) (t : Nat) : List Nat := s.takeWhile (· != t)
def measP (L : List Nd) (s : List Nat) (t : Nat) (depth : Int) : Tt × Int := sizeM (foldM L depth (aheadP s t))
theorem ahead_none {s : List Nat} {t : Nat} (h : ∀ x ∈ s, x ≠ t) : aheadP s t = s := by
  unfold aheadP
  induction s with
  | nil => rfl
  | cons a r ih => rw [List.takeWhile_cons, if_pos (by simpa using h a List.mem_cons_self), ih (fun x hx => h x (List.mem_cons_of_mem _ hx))]
theorem ahead_at {s pre : List Nat} {t : Nat} (h : ∀ x ∈ pre, x ≠ t) (hp : pre ++ [t] <+: s) : aheadP s t = pre := by
  obtain ⟨r, rfl⟩ := hp
  unfold aheadP
  rw [List.append_assoc]
  induction pre with
  | nil => simp
  | cons a q ih => rw [List.cons_append, List.takeWhile_cons, if_pos (by simpa using h a List.mem_cons_self), ih (fun x hx => h x (List.mem_cons_of_mem _ hx))]
def MeI (w : World) (Bs S T Z M Q : Nat) (p0 : Option Addr) (cap : Nat) (L : List Nd) (s : List Nat) (t : Nat) (depth : Int) (pre : List {i : Nat // i ∈ s}) (W : World) : Prop :=
  (Boxed W S 22 (.slice p0 L.length cap) ∧ Boxed W T 3 (.int .i64 (t : Nat)) ∧ Boxed W Q 149 (.pointer (some ⟨M, 0, none⟩)) ∧ Boxed W Bs 22 (.slice p0 L.length cap)) ∧
    (TAt W Z ⟨0, 0, 0, 0, 0, 0, 0, 0, 0⟩ ∧ MAt W M (foldM L depth (pre.map (·.1)))) ∧ (∀ x ∈ pre, x.1 ≠ t) ∧ Below w.heap.size w W
def MeX (w : World) (Z M Q : Nat) (L : List Nd) (s : List Nat) (t : Nat) (depth : Int) (id : Nat) (c : Code) (prex : List {i : Nat // i ∈ s}) (W : World) : Prop :=
  (c = .exit id ∧ ∃ (pre : List {i : Nat // i ∈ s}) (x : {i : Nat // i ∈ s}), prex = pre ++ [x] ∧ x.1 = t ∧ (∀ x ∈ pre, x.1 ≠ t) ∧ MAt W M (foldM L depth (pre.map (·.1)))) ∧ Boxed W Q 149 (.pointer (some ⟨M, 0, none⟩)) ∧ TAt W Z ⟨0, 0, 0, 0, 0, 0, 0, 0, 0⟩ ∧ Below w.heap.size w W
theorem cells_own {β : Type} (B : Nat) (f : β → Array Value) (t : TypeId) : Own (fun s W => W.heap[B]? = some (.cells (f s) t (0, 0))) := fun s X Y row hs hg hrow =>
  (hg.block B (Array.getElem?_eq_some_iff.1 hs).1 (fun e' => by obtain ⟨o, ho, hc⟩ := hrow B e'.symm; rw [hs] at ho; cases ho; cases hc)).trans hs
theorem mat_own {β : Type} (B : Nat) (f : β → Mt) : Own (fun s W => MAt W B (f s)) := cells_own B (fun s => (f s).arr) _
theorem tat_own {β : Type} (B : Nat) (f : β → Tt) : Own (fun s W => TAt W B (f s)) := cells_own B (fun s => (f s).arr) _
theorem meI_own {w : World} {Bs S T Z M Q B : Nat} {p0 : Option Addr} {cap : Nat} {L : List Nd} {s : List Nat} {t : Nat} {depth : Int} (hB : w.heap.size ≤ B) : OwnFrom B (MeI w Bs S T Z M Q p0 cap L s t depth) :=
  OwnFrom.and (OwnFrom.and (Own.from (boxed_own _ _ _) _) (OwnFrom.and (Own.from (boxed_own _ _ _) _) (OwnFrom.and (Own.from (boxed_own _ _ _) _) (Own.from (boxed_own _ _ _) _))))
    (OwnFrom.and (OwnFrom.and (Own.from (tat_own _ _) _) (Own.from (mat_own _ _) _)) (OwnFrom.and (ownFrom_pure _ _) (ownFrom_below (Nat.le_refl _) hB)))
theorem meX_own {w : World} {Z M Q B : Nat} {L : List Nd} {s : List Nat} {t : Nat} {depth : Int} {id : Nat} (hB : w.heap.size ≤ B) (c : Code) : OwnFrom B (MeX w Z M Q L s t depth id c) :=
  OwnFrom.and (OwnFrom.and (ownFrom_pure _ _) (Own.from (fun prex X Y row hs hg hrow => by
    obtain ⟨pre, x, h1, h2, h3, h4⟩ := hs
    exact ⟨pre, x, h1, h2, h3, mat_own (β := Unit) M (fun _ => foldM L depth (pre.map (·.1))) () X Y row h4 hg hrow⟩) _))
    (OwnFrom.and (Own.from (boxed_own _ _ _) _) (OwnFrom.and (Own.from (tat_own _ _) _) (ownFrom_below (Nat.le_refl _) hB)))
theorem met_box {W W' : World} {b X : Nat} {t : TypeId} {v : Value} (h : Met1 W W' b) (hb : Boxed W X t v) (hne : X ≠ b) : Boxed W' X t v := (h.by_.block X hb.lt (fun e => hne (by cases e; rfl))).trans hb
theorem met_below {W W' : World} {b n : Nat} (h : Met1 W W' b) (hn : n ≤ b) (hW : n ≤ W.heap.size) : Below n W W' := (Below.refl n W).grown h.by_ hW (fun k e => by cases e; exact hn)
set_option maxRecDepth 100000 in
set_option maxHeartbeats 8000000 in
theorem vmeasured (p0 : Option Addr) (b off cap : Nat) (L : List Nd) (s : List Nat) (hs : Items L 0 s) (hl : L.length ≤ 2000) (hr : ∀ n ∈ L, rightB n = true) (t : Nat) (depth : Int) (hd : -1073741823 ≤ depth ∧ depth ≤ 1073741823) (w : World) (hN : NIn w p0 b off cap L) :
    Calls Tryz.prog 53 #[.slice p0 L.length cap, .int .i64 (t : Nat), .int .i64 depth] w fun e w' => e = .returned (.tuple #[.agg (measP L s t depth).1.arr, .int .i64 (measP L s t depth).2]) ∧ Below w.heap.size w w' := by
  have HN := Lib.hid hN
  have HR := Lib.hid hr
  have Hd := Lib.hid hd
  clear hN hr hd
  refine (callsIn_wide (n := 8)).1 ?_
  refine callsIn_of_wp_marks Tryz.func53 rfl trivial ?_ rfl
  simp only [Tryz.ntmps53, List.size_toArray, List.length_cons, List.length_nil, Nat.reduceAdd, Nat.reduceSub, Array.replicate_succ, Array.replicate_zero, List.push_toArray, List.append_toArray, List.nil_append, List.cons_append]
  gi_upto_region 2 with (fail)
  have hb1 : Below w.heap.size w (((((w.alloc (.cells #[.slice p0 L.length cap] 22)).alloc (.cells #[.int .i64 (t : Nat)] 3)).alloc (.cells (Tt.mk 0 0 0 0 0 0 0 0 0).arr 43)).alloc (.cells (Mt.mk .zero 0 depth).arr 151)).alloc (.cells #[.pointer (some ⟨w.heap.size + 1 + 1 + 1, 0, none⟩)] 149)) := by
    refine (((((Below.refl _ w).alloc (Nat.le_refl _) _).alloc ?_ _).alloc ?_ _).alloc ?_ _).alloc ?_ _
    all_goals simp only [World.size_alloc]; omega
  have b0 := ((((Boxed.new w 22 (.slice p0 L.length cap)).alloc (.cells #[.int .i64 (t : Nat)] 3)).alloc (.cells (Tt.mk 0 0 0 0 0 0 0 0 0).arr 43)).alloc (.cells (Mt.mk .zero 0 depth).arr 151)).alloc (.cells #[.pointer (some ⟨w.heap.size + 1 + 1 + 1, 0, none⟩)] 149)
  have b1 := (((Boxed.new (w.alloc (.cells #[.slice p0 L.length cap] 22)) 3 (.int .i64 (t : Nat))).alloc (.cells (Tt.mk 0 0 0 0 0 0 0 0 0).arr 43)).alloc (.cells (Mt.mk .zero 0 depth).arr 151)).alloc (.cells #[.pointer (some ⟨w.heap.size + 1 + 1 + 1, 0, none⟩)] 149)
  have b4 := Boxed.new ((((w.alloc (.cells #[.slice p0 L.length cap] 22)).alloc (.cells #[.int .i64 (t : Nat)] 3)).alloc (.cells (Tt.mk 0 0 0 0 0 0 0 0 0).arr 43)).alloc (.cells (Mt.mk .zero 0 depth).arr 151)) 149 (.pointer (some ⟨w.heap.size + 1 + 1 + 1, 0, none⟩))
  have b2 := heap_alloc_new ((w.alloc (.cells #[.slice p0 L.length cap] 22)).alloc (.cells #[.int .i64 (t : Nat)] 3)) (.cells (Tt.mk 0 0 0 0 0 0 0 0 0).arr 43)
  have b2' := (Below.heap_alloc ((((w.alloc (.cells #[.slice p0 L.length cap] 22)).alloc (.cells #[.int .i64 (t : Nat)] 3)).alloc (.cells (Tt.mk 0 0 0 0 0 0 0 0 0).arr 43)).alloc (.cells (Mt.mk .zero 0 depth).arr 151)) (.cells #[.pointer (some ⟨w.heap.size + 1 + 1 + 1, 0, none⟩)] 149) _ (by simp)).trans ((Below.heap_alloc _ (.cells (Mt.mk .zero 0 depth).arr 151) _ (by simp)).trans b2)
  have b3 := heap_alloc_new (((w.alloc (.cells #[.slice p0 L.length cap] 22)).alloc (.cells #[.int .i64 (t : Nat)] 3)).alloc (.cells (Tt.mk 0 0 0 0 0 0 0 0 0).arr 43)) (.cells (Mt.mk .zero 0 depth).arr 151)
  have b3' := (Below.heap_alloc _ (.cells #[.pointer (some ⟨w.heap.size + 1 + 1 + 1, 0, none⟩)] 149) _ (by simp)).trans b3
  simp only [World.size_alloc] at b1 b4 b2' b3'
  clear b2 b3
  have hsz : (((((w.alloc (.cells #[.slice p0 L.length cap] 22)).alloc (.cells #[.int .i64 (t : Nat)] 3)).alloc (.cells (Tt.mk 0 0 0 0 0 0 0 0 0).arr 43)).alloc (.cells (Mt.mk .zero 0 depth).arr 151)).alloc (.cells #[.pointer (some ⟨w.heap.size + 1 + 1 + 1, 0, none⟩)] 149)).heap.size = w.heap.size + 1 + 1 + 1 + 1 + 1 := by simp
  have HSz := Lib.hid hsz
  clear hsz
  generalize ((((w.alloc (.cells #[.slice p0 L.length cap] 22)).alloc (.cells #[.int .i64 (t : Nat)] 3)).alloc (.cells (Tt.mk 0 0 0 0 0 0 0 0 0).arr 43)).alloc (.cells (Mt.mk .zero 0 depth).arr 151)).alloc (.cells #[.pointer (some ⟨w.heap.size + 1 + 1 + 1, 0, none⟩)] 149) = w2 at hb1 b0 b1 b4 b2' b3' HSz ⊢
  have hZ0 : Hid (w.heap.size < w.heap.size + 1 ∧ w.heap.size + 1 < w.heap.size + 1 + 1 ∧ w.heap.size + 1 + 1 < w.heap.size + 1 + 1 + 1 ∧ w.heap.size + 1 + 1 + 1 < w.heap.size + 1 + 1 + 1 + 1) := Lib.hid (by omega)
  generalize w.heap.size + 1 + 1 + 1 + 1 = Q at b4 hZ0 HSz ⊢
  generalize w.heap.size + 1 + 1 + 1 = M at b3' b4 hZ0 ⊢
  generalize w.heap.size + 1 + 1 = Z at b2' hZ0 ⊢
  generalize w.heap.size + 1 = T at b1 hZ0 ⊢
  obtain ⟨z1, z2, z3, z4⟩ := hZ0.out
  have hQw : Q < w2.heap.size := by have := HSz.out; omega
  clear hZ0 HSz
  have c0 := b0.cell
  have HI := Lib.hid (items_any p0 L.length cap w2)
  gi_wp2
  refine ⟨trivial, (callsIn_wide.2 HI.out).mono ?_⟩
  clear HI
  rintro e w4 ⟨rfl, rfl⟩
  have e0 := b0.alloc (.cells #[.slice p0 L.length cap] 22)
  have e1 := b1.alloc (.cells #[.slice p0 L.length cap] 22)
  have e4 := b4.alloc (.cells #[.slice p0 L.length cap] 22)
  have e2 : TAt (w2.alloc (.cells #[.slice p0 L.length cap] 22)) Z ⟨0, 0, 0, 0, 0, 0, 0, 0, 0⟩ := (Below.heap_alloc _ _ _ (by omega)).trans b2'
  have e3 : MAt (w2.alloc (.cells #[.slice p0 L.length cap] 22)) M (foldM L depth []) := (Below.heap_alloc _ _ _ (by omega)).trans b3'
  have eS := Boxed.new w2 22 (.slice p0 L.length cap)
  have eB := hb1.alloc hb1.size (.cells #[.slice p0 L.length cap] 22)
  clear b0 b1 b4 b2' b3' hb1 c0
  gi_wp2
  generalize w2.alloc (.cells #[.slice p0 L.length cap] 22) = w5 at e0 e1 e2 e3 e4 eS eB ⊢
  generalize w2.heap.size = Bs at eS hQw ⊢
  have hBs := eS.lt
  refine wpIn_rangeFunc_ownF rfl (by decide) (gf := 101) (lb := #[.pointer (some ⟨Bs, 0, none⟩)]) rfl trivial (enters_of Tryz.func101 (by kernel_rfl) rfl)
    (items_stops 7 (by decide) Bs w.heap.size b off cap p0 L s hs w5 eS (HN.out.below eB) (fun e => HN.out.hb e)) kpI_t (kpI_b eB.size hBs) (Below.refl _ _) (fun _ => rfl)
    (MeI w Bs w.heap.size T Z M Q p0 cap L s t depth) (MeX w Z M Q L s t depth 0) (meI_own eB.size) (meX_own eB.size)
    ⟨⟨e0, e1, e4, eS⟩, ⟨e2, e3⟩, (fun _ h => by cases h), eB⟩ ?a₁ ?assign ?body ?done ?stop
  case assign =>
    intro l x W K hK
    gi_wp2
    exact hK
  case body =>
    rintro l pre x W ⟨⟨i0, i1, i4, iS⟩, ⟨i2, i3⟩, i6, i5⟩ hlt
    obtain ⟨hx1, hx2⟩ := hs.lt x.1 x.2
    have hN := HN.out.below i5
    have xa := hN.nth hx2
    have hnb : NdB (nth L x.1) := nb_of (HR.out _ (by rw [nth_get hx2]; exact List.getElem_mem _))
    have hmb := foldM_ok (depth := depth) (pre := pre.map (·.1)) (L := L) (fun i hi => by
      obtain ⟨y, hy, rfl⟩ := List.mem_map.1 hi
      have := (hs.lt y.1 y.2).2
      exact nb_of (HR.out _ (by rw [nth_get this]; exact List.getElem_mem _))) (by rw [List.length_map]; have := hs.len; omega)
    have hsn := foldM_snoc L depth (pre.map (·.1)) x.1
    obtain ⟨n, hn⟩ : ∃ n, nth L x.1 = n := ⟨_, rfl⟩
    rw [hn] at xa hnb hsn
    obtain rfl := hN.at_ hx2
    have hx3 : (0 : Int) ≤ (x.1 : Int) := by omega
    have hx4 : (x.1 : Int) < (L.length : Int) := by omega
    have c0 := i0.cell
    have c1 := i1.cell
    have c4 := i4.cell
    obtain ⟨m, hm⟩ : ∃ m, foldM L depth (pre.map (·.1)) = m := ⟨_, rfl⟩
    rw [hm] at i3 hmb hsn
    by_cases hxt : x.1 = t
    · have HX : Hid (KeepsOthers W W ∧ MeX w Z M Q L s t depth 0 (.exit 0) (pre ++ [x]) W) := Lib.hid ⟨KeepsOthers.refl _, ⟨rfl, pre, x, rfl, hxt, i6, by rw [hm]; exact i3⟩, i4, i2, i5⟩
      have hxe : ((x.1 : Int) == (t : Int)) = true := by simp [hxt]
      clear i0 i1 i4 iS i2 i3 i6 i5 hsn hxt hn hm hlt
      gi_wp2
      exact HX.out
    · have hxe : ((x.1 : Int) == (t : Int)) = false := by simp; omega
      have HP := Lib.hid (mpass n m 8800000000000 M W.drew i3 hnb hmb (by decide))
      have HMe : Hid (∀ W3, Met1 W.drew W3 M → MAt W3 M (passM n m) → KeepsOthers W W3 ∧ KpI w.heap.size Bs W W3 ∧ MeI w Bs w.heap.size T Z M Q (some ⟨b, off, none⟩) cap L s t depth (pre ++ [x]) W3) := Lib.hid fun W3 h1 h2 => by
        have h1' : Met1 W W3 M := (Met1.refl W M).drew.trans h1
        have hz := i5.size
        refine ⟨h1'.others, ⟨met_below h1' (by omega) hz, h1'.by_.block Bs iS.lt (fun e => by cases e; omega)⟩, ⟨met_box h1' i0 (by omega), met_box h1' i1 (by omega), met_box h1' i4 (by omega), met_box h1' iS (by omega)⟩, ⟨(h1'.by_.block Z i2.lt (fun e => by cases e; omega)).trans i2, ?_⟩, fun y hy => ?_, i5.trans (met_below h1' (by omega) hz)⟩
        · rw [show (pre ++ [x]).map (·.1) = pre.map (·.1) ++ [x.1] by simp, hsn]; exact h2
        · rcases List.mem_append.1 hy with hy | hy
          · exact i6 y hy
          · simp only [List.mem_singleton] at hy; rw [hy]; exact hxt
      clear i0 i1 i4 iS i2 i3 i6 i5 hsn hxt hn hm hlt hnb hmb
      gi_wp2
      refine wpIn_still_tail 5 (by kernel_rfl) (by kernel_rfl) (by kernel_rfl) ?_
      simp only [List.take_succ_cons, List.take_zero, List.drop_succ_cons, List.drop_zero]
      repeat still_step
      refine wpStill_nil ?_
      change wpList _ _ _ _ _ W.drew
      go_wp2_with (go_at_call 103; refine HP.out.mono ?_; rintro e w3 ⟨rfl, hM3, h3⟩)
      have HF := Lib.hid (HMe.out _ h3 hM3)
      clear HMe HP h3 hM3
      refine qn_intro ?_
      gi_wp2
      exact HF.out
  case done =>
    rintro D pre W hD hpre ⟨⟨i0, i1, i4, iS⟩, ⟨i2, i3⟩, i6, i5⟩ hK
    have hmb := foldM_ok (depth := depth) (pre := pre.map (·.1)) (L := L) (fun i hi => by
      obtain ⟨y, hy, rfl⟩ := List.mem_map.1 hi
      have := (hs.lt y.1 y.2).2
      exact nb_of (HR.out _ (by rw [nth_get this]; exact List.getElem_mem _))) (by rw [hpre]; have := hs.len; omega)
    have hme : measP L s t depth = sizeM (foldM L depth (pre.map (·.1))) := by
      unfold measP
      rw [ahead_none (fun x hx => by rw [← hpre] at hx; obtain ⟨y, hy, rfl⟩ := List.mem_map.1 hx; exact i6 y hy), hpre]
    have HMs := Lib.hid (msize _ 8800000000000 M W i3 hmb (by decide) (by rw [foldM_depth]; exact Hd.out))
    have Hme := Lib.hid hme
    have c4 := i4.cell
    clear hmb hme i3 i0 i1 iS i6
    gi_wp2
    refine ⟨trivial, (callsIn_wide.2 HMs.out).mono ?_⟩
    clear HMs
    rintro e w7 ⟨rfl, hb7⟩
    rw [← Hme.out]
    have hDw := (Array.getElem?_eq_some_iff.1 hK).1
    have hK7 := (hb7.block D hDw).trans hK
    have i2' : TAt w7 Z ⟨0, 0, 0, 0, 0, 0, 0, 0, 0⟩ := (hb7.block Z i2.lt).trans i2
    have hb := i5.trans (hb7.mono i5.size)
    have thZ := i2'.there
    clear i4 i2 i5 c4 hb7 hK
    gi_wp2
    have hZD : Z ≠ D := by omega
    have hK8 : (setAgg w7 Z 0 (measP L s t depth).1.arr).heap[D]? = some (.deferred (some [])) := (heap_setCells_other Z D (fun e => hZD e.symm) _ _ _).trans hK7
    refine ⟨by simp, .inl ⟨_, _, rfl, run_takeDeferred hK8, ?_⟩⟩
    have hT9 : TAt ((setAgg w7 Z 0 (measP L s t depth).1.arr).putObj D (.deferred none)) Z (measP L s t depth).1 := (World.putObj_heap_other hZD).trans i2'.store
    have hbE : Below w.heap.size w (setAgg w7 Z 0 (measP L s t depth).1.arr) := Below.setAgg hb (by omega) _ _
    exact ⟨_, results_tt2 rfl _ _ Z _ rfl hT9.agg, rfl, hbE.trans (belowK_b (w := w) (Nat.le_refl _) _ D _ _ (by omega) hK8 rfl rfl)⟩
  case stop =>
    rintro D c prex W hD hp ⟨⟨rfl, pre, x, rfl, hxt, i6, i3⟩, i4, i2, i5⟩ hK
    have hpp : pre.map (·.1) ++ [t] <+: s := by rw [← hxt]; simpa using hp
    have hmb := foldM_ok (depth := depth) (pre := pre.map (·.1)) (L := L) (fun i hi => by
      obtain ⟨y, hy, rfl⟩ := List.mem_map.1 hi
      have := (hs.lt y.1 y.2).2
      exact nb_of (HR.out _ (by rw [nth_get this]; exact List.getElem_mem _))) (by have := hpp.length_le; have := hs.len; simp at *; omega)
    have hme : measP L s t depth = sizeM (foldM L depth (pre.map (·.1))) := by
      unfold measP
      rw [ahead_at (fun x hx => by obtain ⟨y, hy, rfl⟩ := List.mem_map.1 hx; exact i6 y hy) hpp]
    have HMs := Lib.hid (msize _ 8800000000000 M W i3 hmb (by decide) (by rw [foldM_depth]; exact Hd.out))
    have Hme := Lib.hid hme
    have c4 := i4.cell
    clear hmb hme i3 i6 hpp hp
    gi_wp2
    refine ⟨trivial, (callsIn_wide.2 HMs.out).mono ?_⟩
    clear HMs
    rintro e w7 ⟨rfl, hb7⟩
    rw [← Hme.out]
    have hDw := (Array.getElem?_eq_some_iff.1 hK).1
    have hK7 := (hb7.block D hDw).trans hK
    have i2' : TAt w7 Z ⟨0, 0, 0, 0, 0, 0, 0, 0, 0⟩ := (hb7.block Z i2.lt).trans i2
    have hb := i5.trans (hb7.mono i5.size)
    have thZ := i2'.there
    clear i4 i2 i5 c4 hb7 hK
    gi_wp2
    have hZD : Z ≠ D := by omega
    have hK8 : (setAgg w7 Z 0 (measP L s t depth).1.arr).heap[D]? = some (.deferred (some [])) := (heap_setCells_other Z D (fun e => hZD e.symm) _ _ _).trans hK7
    refine ⟨by simp, .inl ⟨_, _, rfl, run_takeDeferred hK8, ?_⟩⟩
    have hT9 : TAt ((setAgg w7 Z 0 (measP L s t depth).1.arr).putObj D (.deferred none)) Z (measP L s t depth).1 := (World.putObj_heap_other hZD).trans i2'.store
    have hbE : Below w.heap.size w (setAgg w7 Z 0 (measP L s t depth).1.arr) := Below.setAgg hb (by omega) _ _
    exact ⟨_, results_tt2 rfl _ _ Z _ rfl hT9.agg, rfl, hbE.trans (belowK_b (w := w) (Nat.le_refl _) _ D _ _ (by omega) hK8 rfl rfl)⟩
end Go.Proofs.YtaehkbbdmamfpaaGreatDoor
