/-
  vlist.Size: what stands ahead of a place.
-/
import Derived.Test.YtaehkbbdmamfpaaGreatDoorS5
import Derived.Test.YtaehkbbdmamfpaaGreatDoorV11a
import Derived.Deep.CutBlock
namespace Go.Proofs.YtaehkbbdmamfpaaGreatDoor
open Go.ChangeShapes Go.WideShapes Go.ChangeAt Go.RowKit Go.Shelf
attribute [local go_sem] Oper.semAt_some
def foundB (L : List Nd) (s : List Nat) (tk : Int) : Bool := (tk == (L.length : Int)) || s.any fun x => (x : Int) == tk
def sizeR (L : List Nd) (s : List Nat) (tk depth : Int) : Tt × Int × Int :=
  if colP L s = 0 then (if foundB L s tk then (if dimenB depth then ((measP L s tk.toNat depth).1, (measP L s tk.toNat depth).2, 0) else (.zero, 0, 11)) else (.zero, 0, 3)) else (.zero, 0, colP L s)
theorem found_nat {L : List Nd} {s : List Nat} {tk : Int} (h : foundB L s tk = true) : ∃ t : Nat, tk = (t : Int) := by
  unfold foundB at h
  simp only [Bool.or_eq_true, List.any_eq_true] at h
  rcases h with h | ⟨x, _, h⟩
  · exact ⟨_, by simpa using h⟩
  · exact ⟨x, by have : (x : Int) = tk := by simpa using h
                 exact this.symm⟩
def FdI (w : World) (Bs T Z F : Nat) (p0 : Option Addr) (cap : Nat) (L : List Nd) (s : List Nat) (tk : Int) (pre : List {i : Nat // i ∈ s}) (W : World) : Prop :=
  (Boxed W T 3 (.int .i64 tk) ∧ Boxed W F 4 (.bool ((tk == (L.length : Int)) || (pre.map (·.1) : List Nat).any fun x : Nat => (x : Int) == tk)) ∧ Boxed W Bs 22 (.slice p0 L.length cap)) ∧ TAt W Z ⟨0, 0, 0, 0, 0, 0, 0, 0, 0⟩ ∧ Below w.heap.size w W
theorem fdI_own {w : World} {Bs T Z F B : Nat} {p0 : Option Addr} {cap : Nat} {L : List Nd} {s : List Nat} {tk : Int} (hB : w.heap.size ≤ B) : OwnFrom B (FdI w Bs T Z F p0 cap L s tk) :=
  OwnFrom.and (OwnFrom.and (Own.from (boxed_own _ _ _) _) (OwnFrom.and (Own.from (boxed_own _ _ _) _) (Own.from (boxed_own _ _ _) _))) (OwnFrom.and (Own.from (tat_own _ _) _) (ownFrom_below (Nat.le_refl _) hB))
set_option maxRecDepth 100000 in
set_option maxHeartbeats 8000000 in
theorem vsize (p0 : Option Addr) (b off cap : Nat) (L : List Nd) (s : List Nat) (hs : checkC L = 0 → Items L 0 s) (tk depth : Int) (w : World) (hN : NIn w p0 b off cap L) :
    Calls Tryz.prog 26 #[.slice p0 L.length cap, .int .i64 tk, .int .i64 depth] w fun e w' => e = .returned (.tuple #[.agg (sizeR L s tk depth).1.arr, .int .i64 (sizeR L s tk depth).2.1, .int .i64 (sizeR L s tk depth).2.2]) ∧ Below w.heap.size w w' := by
  have hlen := hN.len
  have HN := Lib.hid hN
  have Hs := Lib.hid hs
  have HC : Hid (∀ W, Below w.heap.size w W → Calls Tryz.prog 50 #[.slice p0 L.length cap] W fun e w' => e = .returned (.int .i64 (colP L s)) ∧ Below W.heap.size W w') := Lib.hid fun W hb => column_any p0 b off cap L s Hs.out W (HN.out.below hb)
  have b0 : Boxed ((w.alloc (.cells #[.int .i64 tk] 3)).alloc (.cells (Tt.mk 0 0 0 0 0 0 0 0 0).arr 43)) w.heap.size 3 (.int .i64 tk) := (Boxed.new w _ _).alloc _
  have b1 : TAt ((w.alloc (.cells #[.int .i64 tk] 3)).alloc (.cells (Tt.mk 0 0 0 0 0 0 0 0 0).arr 43)) (w.heap.size + 1) ⟨0, 0, 0, 0, 0, 0, 0, 0, 0⟩ := by have := heap_alloc_new (w.alloc (.cells #[.int .i64 tk] 3)) (.cells (Tt.mk 0 0 0 0 0 0 0 0 0).arr 43); rwa [World.size_alloc] at this
  have hb1 : Below w.heap.size w ((w.alloc (.cells #[.int .i64 tk] 3)).alloc (.cells (Tt.mk 0 0 0 0 0 0 0 0 0).arr 43)) := ((Below.refl _ _).alloc (Nat.le_refl _) _).alloc (by simp) _
  clear hN hs
  refine (callsIn_wide (n := 8)).1 ?_
  refine callsIn_of_wp_marks Tryz.func26 rfl trivial ?_ rfl
  simp only [Tryz.ntmps26, List.size_toArray, List.length_cons, List.length_nil, Nat.reduceAdd, Nat.reduceSub, Array.replicate_succ, Array.replicate_zero, List.push_toArray, List.append_toArray, List.nil_append, List.cons_append]
  gi_wp2
  refine ⟨trivial, (callsIn_wide.2 (HC.out _ hb1)).mono ?_⟩
  rintro e w2 ⟨rfl, hb2⟩
  have d0 : Boxed w2 w.heap.size 3 (.int .i64 tk) := (hb2.block _ b0.lt).trans b0
  have d1 : TAt w2 (w.heap.size + 1) ⟨0, 0, 0, 0, 0, 0, 0, 0, 0⟩ := (hb2.block _ b1.lt).trans b1
  have hbw := hb1.trans (hb2.mono hb1.size)
  clear b0 b1 hb1 hb2 HC
  obtain ⟨Z, hZ⟩ : ∃ Z, w.heap.size + 1 = Z := ⟨_, rfl⟩
  rw [hZ] at d1 ⊢
  have hZ1 : w.heap.size < Z := by omega
  clear hZ
  have c0 := d0.cell
  have th := d1.there
  by_cases hck : colP L s = 0
  · have hs := Hs.out (colP_check hck)
    have hl := (checkC_zero (colP_check hck)).1
    have hr := check_right (colP_check hck)
    have Hr := Lib.hid hr
    have Hck := Lib.hid hck
    rw [hck]
    have HI := Lib.hid fun A => items_any p0 L.length cap A
    clear hck Hs hr
    gi_upto_region 5 with (fail)
    have g0 := d0.alloc (.cells #[.bool (tk == (L.length : Int))] 4)
    have g1 : TAt (w2.alloc (.cells #[.bool (tk == (L.length : Int))] 4)) Z ⟨0, 0, 0, 0, 0, 0, 0, 0, 0⟩ := (Below.heap_alloc _ _ _ d1.lt).trans d1
    have gF := Boxed.new w2 4 (.bool (tk == (L.length : Int)))
    have gb := hbw.alloc hbw.size (.cells #[.bool (tk == (L.length : Int))] 4)
    have hF : Z < w2.heap.size := d1.lt
    clear d0 d1 hbw c0 th
    generalize w2.alloc (.cells #[.bool (tk == (L.length : Int))] 4) = w3 at g0 g1 gF gb ⊢
    generalize w2.heap.size = F at gF hF ⊢
    gi_wp2
    refine ⟨trivial, (callsIn_wide.2 (HI.out _)).mono ?_⟩
    clear HI
    rintro e w4 ⟨rfl, rfl⟩
    have e0 := g0.alloc (.cells #[.slice p0 L.length cap] 22)
    have e1 : TAt (w3.alloc (.cells #[.slice p0 L.length cap] 22)) Z ⟨0, 0, 0, 0, 0, 0, 0, 0, 0⟩ := (Below.heap_alloc _ _ _ g1.lt).trans g1
    have eF := gF.alloc (.cells #[.slice p0 L.length cap] 22)
    have eS := Boxed.new w3 22 (.slice p0 L.length cap)
    have eB := gb.alloc gb.size (.cells #[.slice p0 L.length cap] 22)
    have hFS := gF.lt
    clear g0 g1 gF gb
    gi_wp2
    generalize w3.alloc (.cells #[.slice p0 L.length cap] 22) = w5 at e0 e1 eF eS eB ⊢
    generalize w3.heap.size = Bs at eS hFS ⊢
    have hBs := eS.lt
    refine wpIn_rangeFunc_ownF rfl (by decide) (gf := 101) (lb := #[.pointer (some ⟨Bs, 0, none⟩)]) rfl trivial (enters_of Tryz.func101 (by kernel_rfl) rfl)
      (items_stops 7 (by decide) Bs w.heap.size b off cap p0 L s hs w5 eS (HN.out.below eB) (fun e => HN.out.hb e)) kpI_t (kpI_b eB.size hBs) (Below.refl _ _) (fun _ => rfl)
      (FdI w Bs w.heap.size Z F p0 cap L s tk) (fun _ _ _ => False) (fdI_own eB.size) (fun _ => ownFrom_pure _ _)
      ⟨⟨e0, by simpa using eF, eS⟩, e1, eB⟩ ?a₁ ?assign ?body ?done ?stop
    case assign =>
      intro l x W K hK
      gi_wp2
      exact hK
    case body =>
      rintro l pre x W ⟨⟨i0, iF, iS⟩, i1, i5⟩ hlt
      have c0 := i0.cell
      have cF := iF.cell
      have fF := iF.frozen
      have e1 : ((pre ++ [x]).map (·.1) : List Nat).any (fun x : Nat => (x : Int) == tk) = ((pre.map (·.1) : List Nat).any (fun x : Nat => (x : Int) == tk) || ((x.1 : Int) == tk)) := by simp
      have HSt : Hid (∀ v : Bool, ((tk == (L.length : Int)) || (pre.map (·.1) : List Nat).any (fun x : Nat => (x : Int) == tk) || ((x.1 : Int) == tk)) = v → KeepsOthers W (W.setCell ⟨F, 0, none⟩ (.bool v)) ∧ KpI w.heap.size Bs W (W.setCell ⟨F, 0, none⟩ (.bool v)) ∧ FdI w Bs w.heap.size Z F p0 cap L s tk (pre ++ [x]) (W.setCell ⟨F, 0, none⟩ (.bool v))) := Lib.hid fun v hv => by
        have hz := i5.size
        refine ⟨KeepsOthers.setCell _ _ _, ⟨(Below.refl _ _).setCell (p := ⟨F, 0, none⟩) (by simp only; omega) _, Below.heap_setCell _ _ _ _ (by simp only; omega)⟩, ⟨i0.other (by omega) _, ?_, iS.other (by omega) _⟩, (Below.heap_setCell _ _ _ _ (by simp only; omega)).trans i1, i5.setCell (p := ⟨F, 0, none⟩) (by simp only; omega) _⟩
        rw [e1, ← Bool.or_assoc, hv]
        exact Boxed.set _ iF
      clear i0 iF iS i1 i5 hlt e1
      cases h1 : ((tk == (L.length : Int)) || (pre.map (·.1) : List Nat).any (fun x : Nat => (x : Int) == tk))
      · rw [h1] at cF HSt
        cases h2 : ((x.1 : Int) == tk)
        · have HF := Lib.hid (HSt.out false (by rw [h2]; rfl))
          clear HSt h1
          gi_wp2
          exact HF.out
        · have HF := Lib.hid (HSt.out true (by rw [h2]; rfl))
          clear HSt h1
          gi_wp2
          exact HF.out
      · rw [h1] at cF HSt
        have HF := Lib.hid (HSt.out true (by simp))
        clear HSt h1
        gi_wp2
        exact HF.out
    case done =>
      rintro D pre W hD hpre ⟨⟨i0, iF, iS⟩, i1, i5⟩ hK
      rw [hpre] at iF
      have cF := iF.cell
      have c0 := i0.cell
      have th := i1.there
      have hZD : Z ≠ D := by omega
      have hfin : ∀ (A : World) (T : Tt), Below W.heap.size W A → (setAgg A Z 0 T.arr).heap[D]? = some (.deferred (some [])) ∧ TAt ((setAgg A Z 0 T.arr).putObj D (.deferred none)) Z T ∧ Below w.heap.size w ((setAgg A Z 0 T.arr).putObj D (.deferred none)) := fun A T hA => by
        have hDw := (Array.getElem?_eq_some_iff.1 hK).1
        have i1' : TAt A Z ⟨0, 0, 0, 0, 0, 0, 0, 0, 0⟩ := (hA.block Z i1.lt).trans i1
        have hK8 : (setAgg A Z 0 T.arr).heap[D]? = some (.deferred (some [])) := (heap_setCells_other Z D (fun e => hZD e.symm) _ _ _).trans ((hA.block D hDw).trans hK)
        exact ⟨hK8, (World.putObj_heap_other hZD).trans i1'.store, (Below.setAgg (i5.trans (hA.mono i5.size)) (by omega) _ _).trans (belowK_b (w := w) (Nat.le_refl _) _ D _ _ (by omega) hK8 rfl rfl)⟩
      have HFin := Lib.hid hfin
      have HD := Lib.hid (vdimen_any depth W)
      have I1 := Lib.hid i1
      have I5 := Lib.hid i5
      have hsz : sizeR L s tk depth = if foundB L s tk then (if dimenB depth then ((measP L s tk.toNat depth).1, (measP L s tk.toNat depth).2, 0) else (.zero, 0, 11)) else (.zero, 0, 3) := by unfold sizeR; rw [if_pos Hck.out]
      have HSz := Lib.hid hsz
      clear hfin i0 iF iS i1 i5 hK hpre hsz
      cases hf : ((tk == (L.length : Int)) || s.any fun x => (x : Int) == tk)
      · have hR : sizeR L s tk depth = (.zero, 0, 3) := by rw [HSz.out, if_neg (by unfold foundB; rw [hf]; simp)]
        have HRz := Lib.hid hR
        rw [hf] at cF
        clear hf hR
        gi_wp2
        obtain ⟨k1, k2, k3⟩ := HFin.out W (Tt.mk 0 0 0 0 0 0 0 0 0) (Below.refl _ _)
        refine ⟨by simp, .inl ⟨_, _, rfl, run_takeDeferred k1, ?_⟩⟩
        exact ⟨_, results_tt3 rfl _ _ Z _ rfl k2.agg, by rw [HRz.out]; rfl, k3⟩
      · have hfb : foundB L s tk = true := hf
        obtain ⟨t, rfl⟩ := found_nat hfb
        rw [hf] at cF
        cases hdm : dimenB depth
        · have hR : sizeR L s t depth = (.zero, 0, 11) := by rw [HSz.out, if_pos hfb, hdm]; rfl
          have HRz := Lib.hid hR
          rw [hdm] at HD
          clear hf hfb hdm hR
          gi_wp2
          refine ⟨trivial, (callsIn_wide.2 HD.out).mono ?_⟩
          clear HD
          rintro e w7 ⟨rfl, rfl⟩
          gi_wp2
          obtain ⟨k1, k2, k3⟩ := HFin.out W (Tt.mk 0 0 0 0 0 0 0 0 0) (Below.refl _ _)
          refine ⟨by simp, .inl ⟨_, _, rfl, run_takeDeferred k1, ?_⟩⟩
          exact ⟨_, results_tt3 rfl _ _ Z _ rfl k2.agg, by rw [HRz.out]; rfl, k3⟩
        · have hR : sizeR L s t depth = ((measP L s t depth).1, (measP L s t depth).2, 0) := by rw [HSz.out, if_pos hfb, hdm, Int.toNat_natCast]; rfl
          have HRz := Lib.hid hR
          have HMe := Lib.hid (vmeasured p0 b off cap L s hs hl Hr.out t depth (by simpa [dimenB] using hdm) W (HN.out.below I5.out))
          rw [hdm] at HD
          clear hf hfb hdm hR
          gi_wp2
          refine ⟨trivial, (callsIn_wide.2 HD.out).mono ?_⟩
          clear HD
          rintro e w7 ⟨rfl, rfl⟩
          gi_wp2
          refine ⟨trivial, (callsIn_wide.2 HMe.out).mono ?_⟩
          clear HMe
          rintro e w8 ⟨rfl, hb8⟩
          have i1' : TAt w8 Z ⟨0, 0, 0, 0, 0, 0, 0, 0, 0⟩ := (hb8.block Z I1.out.lt).trans I1.out
          have th8 := i1'.there
          have hst := i1'.store (U := (measP L s t depth).1)
          have ag8 := hst.agg
          have th9 := hst.there
          obtain ⟨k1, k2, k3⟩ := HFin.out w8 (measP L s t depth).1 hb8
          have hb9 : Below w.heap.size w (setAgg w8 Z 0 (measP L s t depth).1.arr) := Below.setAgg (I5.out.trans (hb8.mono I5.out.size)) (by omega) _ _
          clear k2 k3 I1 I5 hb8 HFin
          gi_upto_region 13 with (fail)
          generalize setAgg w8 Z 0 (measP L s t depth).1.arr = w9 at hst ag8 th9 k1 hb9 ⊢
          clear th8 i1'
          gi_wp2
          have hK10 : (setAgg w9 Z 0 (measP L s t depth).1.arr).heap[D]? = some (.deferred (some [])) := (heap_setCells_other Z D (fun e => hZD e.symm) _ _ _).trans k1
          refine ⟨by simp, .inl ⟨_, _, rfl, run_takeDeferred hK10, ?_⟩⟩
          have hT10 : TAt ((setAgg w9 Z 0 (measP L s t depth).1.arr).putObj D (.deferred none)) Z (measP L s t depth).1 := (World.putObj_heap_other hZD).trans hst.store
          exact ⟨_, results_tt3 rfl _ _ Z _ rfl hT10.agg, by rw [HRz.out]; rfl, (Below.setAgg hb9 (by omega) _ _).trans (belowK_b (w := w) (Nat.le_refl _) _ D _ _ (by omega) hK10 rfl rfl)⟩
    case stop =>
      rintro D c pre W hD hp h
      exact h.elim
  · have hck' : ((colP L s : Int) != 0) = true := by simpa using hck
    have HR := Lib.hid (show sizeR L s tk depth = (.zero, 0, colP L s) by unfold sizeR; rw [if_neg hck])
    clear hck
    gi_wp2
    refine ⟨_, results_tt3 rfl _ _ Z _ rfl d1.store.agg, by rw [HR.out]; rfl, Below.setAgg hbw (by omega) _ _⟩
end Go.Proofs.YtaehkbbdmamfpaaGreatDoor
namespace Go.Proofs.YtaehkbbdmamfpaaGreatDoor
open Go.ChangeShapes Go.WideShapes Go.ChangeAt Go.RowKit
def alongN (n : Nd) : Int := if solidK n.kind then n.h + n.d else if n.kind == 8 then n.w else if n.kind == 7 then n.glue.nat else 0
def sumN (n : Nd) (T : Tt) : Tt := let T1 : Tt := { T with nat := T.nat + alongN n }; if n.kind == 7 then T1.glue n.glue else T1
def sumP (L : List Nd) (s : List Nat) : Tt := s.foldl (fun T i => sumN (nth L i) T) .zero
theorem glue_nat (T : Tt) (g : Gl) (a : Int) : ({ T with nat := a } : Tt).glue g = { T.glue g with nat := a } := by
  simp only [Tt.glue]
  generalize g.so.toNat = i
  generalize g.ho.toNat = j
  match i with
  | 0 | 1 | 2 | _ + 3 => match j with | 0 | 1 | 2 | _ + 3 => rfl
def Mt.all (m : Mt) : Tt := { m.t with nat := m.t.nat + m.d }
theorem light_not {k : Int} (h : lightK k = true) : solidK k = false ∧ (k == 8) = false ∧ (k == 7) = false := by
  simp [lightK] at h
  simp [solidK]
  omega
theorem all_pass (n : Nd) (m : Mt) : (passM n m).all = sumN n m.all := by
  unfold passM sumN alongN
  cases hl : lightK n.kind
  · cases hs : solidK n.kind
    · cases h8 : (n.kind == 8)
      · cases h7 : (n.kind == 7)
        · simp [Mt.all]
        · simp only [Mt.all, if_true, Bool.false_eq_true, if_false, glue_nat, Int.add_zero]
      · have h7 : (n.kind == 7) = false := by have : n.kind = 8 := by simpa using h8
                                              rw [this]; rfl
        simp [Mt.all, h7]
    · have h7 : (n.kind == 7) = false := by simp [solidK] at hs; simp; omega
      simp [Mt.all, h7]; omega
  · obtain ⟨h1, h2, h3⟩ := light_not hl
    simp [Mt.all, h1, h2, h3]
theorem sum_all (L : List Nd) (depth : Int) (s : List Nat) : sumP L s = (foldM L depth s).all := by
  unfold sumP foldM
  suffices h : ∀ m : Mt, s.foldl (fun T i => sumN (nth L i) T) m.all = (s.foldl (fun m i => passM (nth L i) m) m).all by
    exact h ⟨.zero, 0, depth⟩
  induction s with
  | nil => intro m; rfl
  | cons a r ih => intro m; rw [List.foldl_cons, List.foldl_cons, ← all_pass, ih]
theorem sumP_snoc (L : List Nd) (s : List Nat) (x : Nat) : sumP L (s ++ [x]) = sumN (nth L x) (sumP L s) := by simp [sumP]
theorem behC_take : ∀ (l : List Nd) (n : Int) (m k : Nat), behC l n = some m → m ≤ k → behC (l.take k) n = some m
  | [], _, _, _, h, _ => by cases h
  | x :: l, n, m, k, h, hk => by
    have hm := behC_pos _ _ _ h
    obtain ⟨k', rfl⟩ : ∃ k', k = k' + 1 := ⟨k - 1, by omega⟩
    rw [List.take_succ_cons]
    unfold behC at h ⊢
    split
    · rename_i h0; rw [if_pos h0] at h; exact h
    · rename_i h0
      rw [if_neg h0] at h
      obtain ⟨q, hq, rfl⟩ := Option.map_eq_some_iff.1 h
      rw [behC_take l _ q k' hq (by omega)]
      rfl
theorem items_take {L : List Nd} {i t : Nat} {s : List Nat} (h : Items L i s) (ht : t ∈ s ∨ t = L.length) : Items (L.take t) i (aheadP s t) := by
  induction h with
  | done =>
    obtain rfl : t = L.length := by
      rcases ht with h | h
      · cases h
      · exact h
    rw [List.take_length]
    exact .done
  | step hi hm hs ih =>
    rename_i i m r
    have hp := behC_pos _ _ _ hm
    rw [List.length_drop] at hp
    unfold aheadP
    rw [List.takeWhile_cons]
    by_cases e : i = t
    · subst e
      rw [if_neg (by simp)]
      have := Items.done (L := L.take i)
      rw [List.length_take, Nat.min_eq_left (by omega)] at this
      exact this
    · rw [if_pos (by simpa using e)]
      have ht2 : t ∈ r ∨ t = L.length := by
        rcases ht with h | h
        · rcases List.mem_cons.1 h with h | h
          · exact absurd h.symm e
          · exact .inl h
        · exact .inr h
      have hit : i + m ≤ t := by
        rcases ht2 with h | h
        · exact (hs.lt t h).1
        · omega
      refine .step (by rw [List.length_take]; omega) ?_ (ih ht2)
      rw [List.drop_take]
      exact behC_take _ _ _ _ hm (by omega)
attribute [local go_sem ↓] Go.wp_at_zero Go.wp_at_succ
theorem TAt.cell {W : World} {b : Nat} {T : Tt} (h : TAt W b T) (k : Nat) (v : Value) (hv : T.arr[k]? = some v) : W.cell? ⟨b, k, none⟩ = some v := by rw [cell?_blk' h, hv]
theorem sum_bound {L : List Nd} {s : List Nat} (hn : ∀ i ∈ s, NdB (nth L i)) (hl : s.length ≤ 2001) : (-8900000000000 ≤ (sumP L s).nat ∧ (sumP L s).nat ≤ 8900000000000) ∧ (∀ j, -8800000000000 ≤ (sumP L s).st j ∧ (sumP L s).st j ≤ 8800000000000) ∧ (∀ j, -8800000000000 ≤ (sumP L s).sh j ∧ (sumP L s).sh j ≤ 8800000000000) := by
  have h := foldM_ok (depth := 0) hn hl
  rw [sum_all L 0]
  have h1 := h.nat
  have h2 := h.d
  refine ⟨⟨by show _ ≤ (foldM L 0 s).t.nat + (foldM L 0 s).d; omega, by show (foldM L 0 s).t.nat + (foldM L 0 s).d ≤ _; omega⟩, fun j => ?_, fun j => ?_⟩
  · have := h.st j
    have e : (foldM L 0 s).all.st j = (foldM L 0 s).t.st j := by match j with | 0 | 1 | 2 | _ + 3 => rfl
    rw [e]; exact this
  · have := h.sh j
    have e : (foldM L 0 s).all.sh j = (foldM L 0 s).t.sh j := by match j with | 0 | 1 | 2 | _ + 3 => rfl
    rw [e]; exact this
end Go.Proofs.YtaehkbbdmamfpaaGreatDoor
namespace Go.Proofs.YtaehkbbdmamfpaaGreatDoor
open Go.ChangeShapes Go.WideShapes Go.ChangeAt Go.RowKit
attribute [local go_sem ↓] Go.wp_at_zero Go.wp_at_succ
theorem ahead_sub {s : List Nat} {t : Nat} : ∀ x ∈ aheadP s t, x ∈ s := fun _ hx => (List.takeWhile_prefix _).subset hx
end Go.Proofs.YtaehkbbdmamfpaaGreatDoor

