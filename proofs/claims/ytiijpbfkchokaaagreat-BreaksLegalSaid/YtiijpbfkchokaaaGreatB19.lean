/-
  A paragraph is opened: the program's open.
-/
import Derived.Test.YtiijpbfkchokaaaGreatF2
import Derived.Test.YtiijpbfkchokaaaGreatB17
namespace Go.Proofs.YtiijpbfkchokaaaGreat
open Go.ChangeShapes Go.WideShapes Go.ChangeAt Go.RowKit
attribute [local go_sem ↓] Go.wp_at_zero Go.wp_at_succ
def bdPx (parts : Array (Nat × Value)) : Sem Value := Instr.build 101 parts
@[go_sem ↓] theorem execOp_buildPx (ρ : Operand → Value) (dst : Option Tmp) (x : Array (Nat × Operand)) (ty : TypeId) (pos : String) (after : Array Edge) (guard : Option (Nat × Bool)) :
    execOp ρ { dst, op := .build 101 x, type := ty, pos, after, guard } = (do pure (.value (← bdPx (x.map fun (i, y) => (i, ρ y))))) := rfl
@[go_sem] theorem run_bdPx (p : Option Addr) (n c : Nat) (P : Pm) (mb : Nat) (w : World) : (bdPx #[(0, .slice p n c), (1, .agg P.arr), (3, .map (some mb))]).run Tryz.prog w = .ok (.agg (pxArr (.slice p n c) P (.slice none 0 0) (.map (some mb)) (.slice none 0 0) (.slice none 0 0) (.slice none 0 0))) w := by kernel_rfl
/-- what open tells of errors -/
def opE (P : Pm) (S : List Sh2) (L : List Nd) (s : List Nat) : Int := if pmC P S = 0 then paC L s else pmC P S
/-- what open leaves -/
structure OpenPost (w : World) (P : Pm) (L : List Nd) (b off cap : Nat) (p0 : Option Addr) (s : List Nat) (E : Int) (e : Ending) (w' : World) : Prop where
  good : E = 0 → ∃ X mb B vs, e = .returned (.tuple #[.pointer (some ⟨X, 0, none⟩), .int .i64 0]) ∧ ParaL w' X mb B P vs L b off cap p0 (s ++ [L.length]) (sumsP L s) (atsI (brkP L P s)) (pensI (brkP L P s)) ∧ w.heap.size ≤ mb
  bad : E ≠ 0 → e = .returned (.tuple #[.pointer none, .int .i64 E])
  below : Below w.heap.size w w'
theorem FrX.below {B X mb K : Nat} {W W' : World} (h : FrX B X mb W W') (hB : K ≤ B) (hX : K ≤ X) (hm : K ≤ mb) : Below K W W' := ⟨h.os, h.tape, h.output, h.size, fun k hk => h.block k (by omega) (by omega) (by omega)⟩
/-- what stands ahead of each of some items -/
def sumsK (L : List Nd) (d : List Nat) : List Tt := (List.range d.length).map fun j => sumA L (d.take j)
theorem sumsK_snoc (L : List Nd) (d : List Nat) (x : Nat) : sumsK L (d ++ [x]) = sumsK L d ++ [sumA L d] := by
  unfold sumsK
  rw [List.length_append, List.length_singleton, List.range_succ, List.map_append]
  congr 1
  · refine List.map_congr_left fun j hj => ?_
    rw [List.take_append_of_le_length (by have := List.mem_range.1 hj; omega)]
  · simp
theorem sumsK_all (L : List Nd) (s : List Nat) : sumsK L s ++ [sumA L s] = sumsP L s := by
  unfold sumsK sumsP
  rw [List.range_succ, List.map_append]
  simp
theorem sumsK_len (L : List Nd) (d : List Nat) : (sumsK L d).length = d.length := by simp [sumsK]
theorem NIn.sl {w : World} {b off cap : Nat} {L : List Nd} (h : NIn w (some ⟨b, off, none⟩) b off cap L) {i m : Nat} (hi : i ≤ L.length) : NIn w (some ⟨b, off + i * 19, none⟩) b (off + i * 19) (cap - i) (sl L i m) := (h.drop i hi).take m
theorem empty_para {W : World} {X mb B : Nat} {p0 : Option Addr} {P : Pm} {L : List Nd} {b off cap : Nat} (hX : W.heap[X]? = some (.cells (pxArr (.slice p0 L.length cap) P (.slice none 0 0) (.map (some mb)) (.slice none 0 0) (.slice none 0 0) (.slice none 0 0)) 101 (0, 0))) (hm : MapV W mb []) (h1 : mb < X) (h2 : X < B) (hN : NIn W p0 b off cap L) (hl : L.length ≤ 2000) (hb : L ≠ [] → b < mb) :
    ParaL W X mb B P (fun _ => .slice none 0 0) L b off cap p0 [] [] [] [] :=
  ⟨⟨hX, fun j _ => by rcases j with _ | _ | _ | j <;> exact World.ownsRow_nil _ _ _ _, (fun i j _ _ _ q hq => by cases hq), hm, h1, h2⟩, hN, (fun x hx => by cases hx), hl, hb⟩
theorem Items.inv {L : List Nd} {i : Nat} {s : List Nat} (h : Items L i s) : (s = [] ∧ i = L.length) ∨ ∃ m r, s = i :: r ∧ i < L.length ∧ behC (L.drop i) 0 = some m ∧ Items L (i + m) r := by
  cases h with
  | done => exact .inl ⟨rfl, rfl⟩
  | step hi hm hs => exact .inr ⟨_, _, rfl, hi, hm, hs⟩
theorem agg?_subN {w : World} {b o n k m : Nat} {C : Array Value} (h : agg? w b o n = some C) (hm : k + m ≤ n) : agg? w b (o + k) m = some (C.extract k (k + m)) := by
  unfold agg? at h ⊢
  split at h
  · rename_i c t fr hb
    split at h
    · rename_i hle
      cases h
      rw [if_pos (by omega)]
      simp only [Array.extract_extract]
      congr 2
      omega
    · cases h
  · cases h
theorem ParaL.put {w w' : World} {X mb B : Nat} {P : Pm} {vs vs' : Nat → Value} {L : List Nd} {b off cap : Nat} {p0 : Option Addr} {IT IT' : List Nat} {SU SU' : List Tt} {AT PE AT' PE' : List Int} (h : ParaL w X mb B P vs L b off cap p0 IT SU AT PE) (hp : ParaI w' X mb B (.slice p0 L.length cap) P vs' IT' SU' AT' PE') (hF : FrX B X mb w w') (hle : ∀ x ∈ IT', x ≤ L.length) : ParaL w' X mb B P vs' L b off cap p0 IT' SU' AT' PE' := by
  refine ⟨hp, h.nodes.same fun e => ?_, hle, h.len, h.nb⟩
  have h1 := h.nb e
  have h2 := hp.lt1
  have h3 := hp.lt2
  exact hF.block b (by omega) (by omega) (by omega)
theorem ParaL.setZ {w : World} {X mb B : Nat} {P : Pm} {vs : Nat → Value} {L : List Nd} {b off cap : Nat} {p0 : Option Addr} {IT : List Nat} {SU : List Tt} {AT PE : List Int} (h : ParaL w X mb B P vs L b off cap p0 IT SU AT PE) {Z : Nat} (h1 : X < Z) (h2 : Z < B) (c : Array Value) : ParaL (setAgg w Z 0 c) X mb B P vs L b off cap p0 IT SU AT PE := by
  have h3 := h.para.lt1
  refine ⟨⟨(heap_setCells_other _ _ (by omega) _ _ _).trans h.para.blk, fun j hj => ownsRow_same (h.para.rows j hj) fun g hg _ => heap_setCells_other _ _ (by have := ((h.para.rows j hj).lt g hg).1; omega) _ _ _, h.para.ne, h.para.map.same (heap_setCells_other _ _ (by omega) _ _ _), h.para.lt1, h.para.lt2⟩, h.nodes.same fun e => heap_setCells_other _ _ (by have := h.nb e; omega) _ _ _, h.le, h.len, h.nb⟩
theorem TAt.still {W W' : World} {b : Nat} {T : Tt} (h : TAt W b T) (hb : Below W.heap.size W W') : TAt W' b T := (hb.block b h.lt).trans h
theorem firmN_9 (n : Nd) : firmN n = (!(n.kind == 7) || firm9 n.glue) := by unfold firmN firm9; rw [Bool.or_assoc]
set_option maxRecDepth 100000 in
set_option maxHeartbeats 8000000 in
theorem vopen (P : Pm) (g off2 : Nat) (S : List Sh2) (L : List Nd) (b off cap : Nat) (p0 : Option Addr) (s : List Nat) (hs : checkC L = 0 → Items L 0 s) (w : World) (hS : ShIn w P g off2 S) (hN : NIn w p0 b off cap L) :
    Calls Tryz.prog 38 #[.slice p0 L.length cap, .agg P.arr] w (OpenPost w P L b off cap p0 s (opE P S L s)) := by
  have hb0 : Below w.heap.size w (w.alloc (.cells P.arr 27)) := (Below.refl _ _).alloc (Nat.le_refl _) _
  have d0 : PAt (w.alloc (.cells P.arr 27)) w.heap.size P := heap_alloc_new w _
  obtain ⟨X0, hX0⟩ : ∃ X0, w.heap.size = X0 := ⟨_, rfl⟩
  have HX := Lib.hid hX0
  rw [hX0] at d0
  have H := Lib.hid hN
  have HS := Lib.hid hS
  clear hS hN hX0
  go_enter Tryz.func38, Tryz.ntmps38
  go_upto_region 1 with (fail)
  rw [HX.out]
  have hl0 : X0 < (w.alloc (.cells P.arr 27)).heap.size := d0.lt
  generalize w.alloc (.cells P.arr 27) = w1 at hb0 d0 hl0 ⊢
  have a0 : agg? w1 X0 0 24 = some P.arr := by rw [agg?_blk' d0 0 24 (by rw [Pm.size_arr]; decide)]; simp [Pm.arr, Pm.cells]
  have HC := Lib.hid (vcheckP P g off2 S w1 (HS.out.below hb0))
  obtain ⟨pc, hpc⟩ : ∃ pc, pmC P S = pc := ⟨_, rfl⟩
  rw [hpc] at HC
  have Hpc := Lib.hid hpc
  have Hb0 := Lib.hid hb0
  clear hpc hb0
  go_upto_region 2 with (go_at_call 20; refine HC.out.mono ?_; rintro e w2 ⟨rfl, hb2⟩)
  have Hb2 := Lib.hid (Hb0.out.trans (hb2.mono Hb0.out.size))
  have Hd2 := Lib.hid (d0.still hb2)
  clear a0 HC hb2 d0 hl0 Hb0
  by_cases hp0 : pc = 0
  · subst hp0
    obtain ⟨cc, hcc⟩ : ∃ cc, checkC L = cc := ⟨_, rfl⟩
    have HN := Lib.hid (check_any p0 b off cap L w2 (H.out.below Hb2.out))
    rw [hcc] at HN
    have Hcc := Lib.hid hcc
    clear hcc
    go_upto_region 5 with (go_at_call 60; refine HN.out.mono ?_; rintro e w3 ⟨rfl, hb3⟩)
    have Hb3 := Lib.hid (Hb2.out.trans (hb3.mono Hb2.out.size))
    have Hd3 := Lib.hid (Hd2.out.still hb3)
    clear HN hb3 Hd2 Hb2
    by_cases hc0 : cc = 0
    · subst hc0
      have hc := Hcc.out
      have hs0 := hs hc
      have hr := check_right hc
      have hll := (checkC_zero hc).1
      have hE : opE P S L s = if s.all (fun i => firmN (nth L i)) then 0 else 30 := by unfold opE paC; rw [if_pos Hpc.out, if_pos hc]
      have HE := Lib.hid hE
      have Hr := Lib.hid hr
      have Hs0 := Lib.hid hs0
      have Hc := Lib.hid hc
      have hsl := hs0.len
      have a0 : agg? w3 X0 0 24 = some P.arr := by rw [agg?_blk' Hd3.out 0 24 (by rw [Pm.size_arr]; decide)]; simp [Pm.arr, Pm.cells]
      have hl3 : X0 < w3.heap.size := Hd3.out.lt
      obtain ⟨M, hM⟩ : ∃ M, w3.heap.size = M := ⟨_, rfl⟩
      have hz3 := Hb3.out.size
      rw [HX.out, hM] at hz3
      have HM := Lib.hid hM
      clear hc hs0 hr hE hs
      have hmm := @run_makeMap Tryz.prog
      go_upto_region 9 with (fail)
      have hbm : Below w3.heap.size w3 (w3.alloc (.map #[] 0)) := (Below.refl _ _).alloc (Nat.le_refl _) _
      have hmv : MapV (w3.alloc (.map #[] 0)) M [] := by rw [← hM]; exact MapV.new w3
      have s1 : (w3.alloc (.map #[] 0)).heap.size = M + 1 := by rw [World.size_alloc, hM]
      generalize w3.alloc (.map #[] 0) = w4 at hbm hmv s1 ⊢
      have hbx : Below w4.heap.size w4 (w4.alloc (.cells (pxArr (.slice p0 L.length cap) P (.slice none 0 0) (.map (some M)) (.slice none 0 0) (.slice none 0 0) (.slice none 0 0)) 101)) := (Below.refl _ _).alloc (Nat.le_refl _) _
      have hX := heap_alloc_new w4 (.cells (pxArr (.slice p0 L.length cap) P (.slice none 0 0) (.map (some M)) (.slice none 0 0) (.slice none 0 0) (.slice none 0 0)) 101)
      have s2 : (w4.alloc (.cells (pxArr (.slice p0 L.length cap) P (.slice none 0 0) (.map (some M)) (.slice none 0 0) (.slice none 0 0) (.slice none 0 0)) 101)).heap.size = M + 2 := by rw [World.size_alloc, s1]
      rw [s1] at hX
      have hmv2 := hmv.same (hbx.block M (by omega))
      have hb4 := hbm.trans (hbx.mono hbm.size)
      clear hbx hbm hmv hmm
      generalize w4.alloc (.cells (pxArr (.slice p0 L.length cap) P (.slice none 0 0) (.map (some M)) (.slice none 0 0) (.slice none 0 0) (.slice none 0 0)) 101) = w5 at hX s2 hmv2 hb4 ⊢
      have hbz : Below w5.heap.size w5 (w5.alloc (.cells (Tt.mk 0 0 0 0 0 0 0 0 0).arr 62)) := (Below.refl _ _).alloc (Nat.le_refl _) _
      have hT : TAt (w5.alloc (.cells (Tt.mk 0 0 0 0 0 0 0 0 0).arr 62)) (M + 2) .zero := by have := heap_alloc_new w5 (.cells (Tt.mk 0 0 0 0 0 0 0 0 0).arr 62); rwa [s2] at this
      have s3 : (w5.alloc (.cells (Tt.mk 0 0 0 0 0 0 0 0 0).arr 62)).heap.size = M + 3 := by rw [World.size_alloc, s2]
      have hX3 := (hbz.block (M + 1) (by omega)).trans hX
      have hmv3 := hmv2.same (hbz.block M (by omega))
      have hb5 := Hb3.out.trans ((hb4.trans (hbz.mono hb4.size)).mono Hb3.out.size)
      have hbM : L ≠ [] → b < M := fun e => by have := H.out.hb e; rw [HX.out] at this; omega
      clear hbz hb4 hX hmv2 s2 s1 a0
      generalize w5.alloc (.cells (Tt.mk 0 0 0 0 0 0 0 0 0).arr 62) = w6 at hT s3 hX3 hmv3 hb5 ⊢
      have hP6 := Lib.hid (empty_para (X := M + 1) (mb := M) (B := M + 3) hX3 hmv3 (by omega) (by omega) (H.out.below hb5) hll hbM)
      have HT6 := Lib.hid hT
      have HB6 := Lib.hid hb5
      have HZ6 : Hid (M + 3 ≤ w6.heap.size) := Lib.hid (Nat.le_of_eq s3.symm)
      clear hT s3 hX3 hmv3 hb5 hbM hM
      go_wp2_with fail
      go_loopg [10] (s.length + 1) (fun gg t10 wr => ∃ (pos : Nat) (d r : List Nat) (vs : Nat → Value), gg = r.length + 1 ∧ t10 = .int .i64 pos ∧ s = d ++ r ∧ Items L pos r ∧ (∀ x ∈ d, firmN (nth L x) = true) ∧ ParaL wr (M + 1) M (M + 3) P vs L b off cap p0 d (sumsK L d) [] [] ∧ TAt wr (M + 2) (sumA L d) ∧ Below w.heap.size w wr ∧ M + 3 ≤ wr.heap.size)
      case atStart => exact ⟨0, [], s, _, rfl, rfl, rfl, Hs0.out, (fun x hx => by cases hx), hP6.out, HT6.out, HB6.out, HZ6.out⟩
      case round =>
        clear hP6 HT6 HB6 HZ6
        obtain ⟨pos, d, r, vs, rfl, rfl, hsd, hit, hfd, hI, hT, hb, hz⟩ := hrel
        have hdl : d.length ≤ 2000 := by rw [hsd, List.length_append] at hsl; omega
        have Hsd := Lib.hid hsd
        have Hfd := Lib.hid hfd
        have HI := Lib.hid hI
        have HT := Lib.hid hT
        have HB := Lib.hid hb
        have HZ := Lib.hid hz
        rcases hit.inv with ⟨rfl, rfl⟩ | ⟨m, r, rfl, hi, hm, hs2⟩
        · clear hit
          have hsd2 : s = d := by rw [hsd, List.append_nil]
          have hE2 : opE P S L s = 0 := by
            rw [HE.out, if_pos]
            rw [List.all_eq_true]
            intro x hx
            rw [hsd2] at hx
            exact hfd x hx
          have HE2 := Lib.hid hE2
          have HSd := Lib.hid hsd2
          have hnd : L.length ∉ d := fun h => by rw [← hsd2] at h; have := (Hs0.out.lt _ h).2; omega
          obtain ⟨T, hTd⟩ : ∃ T, sumA L d = T := ⟨_, rfl⟩
          have HTd := Lib.hid hTd
          have HPu := Lib.hid (vput (M + 1) M (M + 3) (.slice p0 L.length cap) P vs d (sumsK L d) [] [] L.length (sumA L d) hnd (by omega) (by rw [sumsK_len]; omega) wr hz hI.para)
          have aT := hT.agg
          rw [hTd] at HPu aT
          clear hsd hfd hI hT hb hz hsd2 hE2 hnd hTd
          go_upto_region 18 with (go_at_call 62; refine HPu.out.mono ?_; rintro e w8 ⟨rfl, ⟨vs8, hI8, _, _⟩, hF8⟩)
          have hL8 := ParaL.put HI.out hI8 hF8 (fun x hx => by
            rcases List.mem_append.1 hx with h1 | h1
            · exact HI.out.le x h1
            · have := List.mem_singleton.1 h1; omega)
          rw [← HTd.out, sumsK_all, ← HSd.out] at hL8
          have hB8 : Below w.heap.size w w8 := HB.out.trans (hF8.below (by rw [HX.out]; omega) (by rw [HX.out]; omega) (by rw [HX.out]; omega))
          have hZ8 : M + 3 ≤ w8.heap.size := Nat.le_trans HZ.out hF8.size
          have HBr := Lib.hid (vbreaks (M + 1) M (M + 3) P vs8 L b off cap p0 s (s ++ [L.length]) (sumsP L s) Hc.out Hs0.out rfl w8 hZ8 hL8)
          have HB8 := Lib.hid hB8
          clear hI8 hF8 hL8 hB8 hZ8 aT HPu
          go_wp2_with (go_at_call 65; refine HBr.out.mono ?_; rintro e w9 ⟨rfl, ⟨vs9, hL9⟩, hF9⟩)
          go_ret2
          rw [HE2.out]
          exact ⟨fun _ => ⟨M + 1, M, M + 3, vs9, rfl, hL9, by rw [HX.out]; omega⟩, fun h => absurd rfl h, HB8.out.trans (hF9.below (by rw [HX.out]; omega) (by rw [HX.out]; omega) (by rw [HX.out]; omega))⟩
        · clear hit
          have hps : pos ∈ s := by rw [hsd]; exact List.mem_append_right _ List.mem_cons_self
          have hmp := behC_pos _ _ _ hm
          rw [List.length_drop] at hmp
          have hnd : pos ∉ d := fun h => by
            have h1 := items_pairwise Hs0.out
            rw [hsd, List.pairwise_append] at h1
            have := h1.2.2 pos h pos List.mem_cons_self
            omega
          have hp1 : (0 : Int) ≤ (pos : Int) := by omega
          have hp2 : (pos : Int) < (L.length : Int) := by omega
          have HBe := Lib.hid (behind9 p0 b off cap L pos m wr hI.nodes hm)
          obtain rfl := H.out.at_ hi
          have HPu := Lib.hid (vput (M + 1) M (M + 3) (.slice (some ⟨b, off, none⟩) L.length cap) P vs d (sumsK L d) [] [] pos (sumA L d) hnd (by omega) (by rw [sumsK_len]; omega) wr hz hI.para)
          have HS2 := Lib.hid hs2
          have Hm := Lib.hid hm
          have Hps := Lib.hid hps
          have hcp := H.out.cap'
          have aT := hT.agg
          clear hsd hfd hI hT hb hz hs2 hnd hm hps
          obtain ⟨q, hq⟩ : ∃ q, pos + m = q := ⟨_, rfl⟩
          rw [hq] at HBe HS2
          obtain ⟨T, hTd⟩ : ∃ T, sumA L d = T := ⟨_, rfl⟩
          rw [hTd] at HPu aT
          have Hq := Lib.hid hq
          have HTd := Lib.hid hTd
          clear hTd
          go_upto_region 13 with (first | (go_at_call 61; refine HBe.out.mono ?_; rintro e w7 ⟨rfl, rfl⟩) | (go_at_call 62; refine HPu.out.mono ?_; rintro e w8 ⟨rfl, ⟨vs8, hI8, _, _⟩, hF8⟩))
          have hle8 : ∀ x ∈ d ++ [pos], x ≤ L.length := fun x hx => by
            rcases List.mem_append.1 hx with h1 | h1
            · exact HI.out.le x h1
            · have := List.mem_singleton.1 h1; omega
          have hL8 := ParaL.put HI.out hI8 hF8 hle8
          have hT8 : TAt w8 (M + 2) T := by rw [← HTd.out]; exact (hF8.block (M + 2) (by omega) (by omega) (by omega)).trans HT.out
          have hB8 : Below w.heap.size w w8 := HB.out.trans (hF8.below (by rw [HX.out]; omega) (by rw [HX.out]; omega) (by rw [HX.out]; omega))
          have hZ8 : M + 3 ≤ w8.heap.size := Nat.le_trans HZ.out hF8.size
          have c0 : w8.cell? ⟨b, off + pos * 19, none⟩ = some (.int .i64 (nth L pos).kind) := agg_cell (hL8.nodes.nth hi) 0 _ (Nd.get0 _)
          have ag : agg? w8 b (off + pos * 19 + 7) 5 = some (nth L pos).glue.arr := by rw [agg?_subN (hL8.nodes.nth hi) (by decide), Nd.getGlue]
          have HL8 := Lib.hid hL8
          have HT8 := Lib.hid hT8
          have HB8 := Lib.hid hB8
          have HZ8 := Lib.hid hZ8
          obtain ⟨fb, hfb⟩ : ∃ fb, firmN (nth L pos) = fb := ⟨_, rfl⟩
          have hf9 := firmN_9 (nth L pos)
          rw [hfb] at hf9
          have Hfb := Lib.hid hfb
          have Hf9 := Lib.hid hf9
          have HFi := Lib.hid (fun W => vfirm (nth L pos).glue W)
          clear aT hI8 hF8 hle8 hL8 hT8 hB8 hZ8 hfb hf9 HI HT HB HZ HBe HPu
          generalize firm9 (nth L pos).glue = f9 at Hf9 HFi
          generalize (nth L pos).glue = gl at ag HFi
          generalize (nth L pos).kind = kd at c0 Hf9
          go_cut [52] from 38 to 52 (fun s52 wx => s52 = .bool (!fb) ∧ ParaL wx (M + 1) M (M + 3) P vs8 L b off cap (some ⟨b, off, none⟩) (d ++ [pos]) (sumsK L d ++ [T]) [] [] ∧ TAt wx (M + 2) T ∧ Below w.heap.size w wx ∧ M + 3 ≤ wx.heap.size)
          case first =>
            cases k7 : (kd == 7)
            · have e1 : fb = true := by rw [Hf9.out, k7]; rfl
              subst e1
              go_wp2_with fail
              go_meet
              exact ⟨rfl, HL8.out, HT8.out, HB8.out, HZ8.out⟩
            · have e1 : fb = f9 := by rw [Hf9.out, k7]; rfl
              subst e1
              go_wp2_with (go_at_call 46; refine (HFi.out _).mono ?_; rintro e w9 ⟨rfl, hb9⟩)
              go_meet
              exact ⟨rfl, HL8.out.still hb9, HT8.out.still hb9, HB8.out.trans (hb9.mono HB8.out.size), Nat.le_trans HZ8.out hb9.size⟩
          case rest =>
            clear HL8 HT8 HB8 HZ8 c0 ag
            obtain ⟨rfl, hL8, hT8, hB8, hZ8⟩ := hcut
            cases hb : fb
            · subst hb
              have hb1 : s.all (fun i => firmN (nth L i)) = false := by
                rw [List.all_eq_false]
                exact ⟨pos, Hps.out, by rw [Hfb.out]; decide⟩
              have HE2 := Lib.hid (HE.out.trans (by rw [hb1]; rfl : _ = (30 : Int)))
              clear hb1 hL8 hT8 hZ8
              go_wp2_with fail
              go_ret2
              rw [HE2.out]
              exact ⟨fun h => absurd h (by decide), fun _ => rfl, hB8⟩
            · subst hb
              obtain ⟨U, hU⟩ : ∃ U, itT L pos = U := ⟨_, rfl⟩
              obtain ⟨V, hV⟩ : ∃ V, T.plus U = V := ⟨_, rfl⟩
              have hsl9 := sl_len (L := L) (i := pos) (m := m) (by omega)
              have HTo : Hid (∀ W, ParaL W (M + 1) M (M + 3) P vs8 L b off cap (some ⟨b, off, none⟩) (d ++ [pos]) (sumsK L d ++ [T]) [] [] → Calls Tryz.prog 64 #[.slice (some ⟨b, off + pos * 19, none⟩) m (cap - pos)] W fun e w' => e = .returned (.agg U.arr) ∧ Below W.heap.size W w') := Lib.hid fun W hL => by
                have h1 := total_item Hc.out Hs0.out Hps.out Hm.out (some ⟨b, off + pos * 19, none⟩) b (off + pos * 19) (cap - pos) W (hL.nodes.sl (by omega))
                rw [hsl9, hU] at h1
                exact h1
              have HA2 : Hid (∀ W, Calls Tryz.prog 63 #[.agg T.arr, .agg U.arr, .int .i64 1] W fun e w' => e = .returned (.agg V.arr) ∧ Below W.heap.size W w') := Lib.hid fun W => by
                have h2 : TtB 4400000000000 T := by
                  rw [← HTd.out]
                  obtain ⟨k, hk⟩ := items_tail Hs0.out d.length (by rw [Hsd.out]; simp)
                  exact sum_pre Hc.out Hs0.out Hr.out hll d _ k (by rw [Hsd.out, List.drop_left]) hk
                have h3 : TtB 4400000000000 U := by rw [← hU]; exact (it_bound Hc.out Hs0.out Hr.out Hps.out Hm.out).mono (by omega)
                have h1 := vadd T U 1 (.inl rfl) (h2.mono (by omega)) (h3.mono (by omega)) W
                rw [addS_one, hV] at h1
                exact h1
              have HV : Hid (sumA L (d ++ [pos]) = V) := Lib.hid (by rw [sumA_snoc, HTd.out, hU, hV])
              have hq1 : (pos : Int) ≤ (q : Int) := by have := Hq.out; omega
              have hq2 : (q : Int) ≤ (cap : Int) := by have := Hq.out; omega
              have hq3 : (0 : Int) ≤ (q : Int) := by omega
              have hq4 : pos ≤ q := by omega
              have hq5 : ¬ cap = pos := by omega
              have hq6 : (q - pos : Nat) = m := by have := Hq.out; omega
              have HL8 := Lib.hid hL8
              have HT8 := Lib.hid hT8
              have HB8 := Lib.hid hB8
              have HZ8 := Lib.hid hZ8
              clear hU hV hsl9 hL8 hT8 hB8 hZ8
              go_upto_region 15 with (fail)
              refine Rest.region follows ?_
              refine Rest.tame 7 (fun W => ParaL W (M + 1) M (M + 3) P vs8 L b off cap (some ⟨b, off, none⟩) (d ++ [pos]) (sumsK L d ++ [T]) [] [] ∧ TAt W (M + 2) T ∧ Below wc.heap.size wc W) (by kernel_rfl) ⟨HL8.out.still ((Below.refl _ _).drew), HT8.out, (Below.refl _ _).drew⟩ ?_
              simp only [Nat.reduceSub, List.drop_zero, List.take_succ_cons, List.take_zero]
              iterate 7 first
                | (refine TW.cons_n rfl _ (by intro wT hT R hR K hK; simp only [Act.put, List.setIfInBounds_toArray, List.set_cons_zero, List.set_cons_succ] at hK; have yt := hT.2.1.agg; go_step; first | ((with_reducible refine (HTo.out _ hT.1).mono ?_); rintro e w9 ⟨rfl, h9⟩; exact hK _ _ (hR _ ⟨hT.1.still h9, hT.2.1.still h9, hT.2.2.trans (h9.mono hT.2.2.size)⟩)) | ((with_reducible refine (HA2.out _).mono ?_); rintro e w9 ⟨rfl, h9⟩; exact hK _ _ (hR _ ⟨hT.1.still h9, hT.2.1.still h9, hT.2.2.trans (h9.mono hT.2.2.size)⟩)) | exact hK _ _ (hR _ hT)) ?_; try simp only [Act.put, List.setIfInBounds_toArray, List.set_cons_zero, List.set_cons_succ])
              refine TW.nil fun w9 h9 => ?_
              obtain ⟨hL9, hT9, hb9⟩ := h9
              have t9 := hT9.there
              have HL9 := Lib.hid (hL9.setZ (Z := M + 2) (by omega) (by omega) V.arr)
              have HT9 := Lib.hid (hT9.store (U := V))
              have HB9 := Lib.hid (Below.setAgg (HB8.out.trans (hb9.mono HB8.out.size)) (b := M + 2) (by rw [HX.out]; omega) 0 V.arr)
              have HZ9 : Hid (M + 3 ≤ (setAgg w9 (M + 2) 0 V.arr).heap.size) := Lib.hid (by rw [size_setAgg]; exact Nat.le_trans HZ8.out hb9.size)
              clear hL9 hT9 hb9 HL8 HT8 HB8 HZ8
              refine Rest.seq (by kernel_rfl) ?_
              simp only [List.drop_succ_cons, List.drop_zero]
              go_upto_region 16 with (fail)
              generalize setAgg w9 (M + 2) 0 V.arr = w10 at HL9 HT9 HB9 HZ9 ⊢
              clear t9
              go_wp2_with fail
              go_roundg (r.length + 1)
              case measure => simp
              case rel => exact ⟨q, d ++ [pos], r, vs8, rfl, rfl, by rw [Hsd.out]; simp, HS2.out, (fun x hx => by
                rcases List.mem_append.1 hx with h1 | h1
                · exact Hfd.out x h1
                · rw [List.mem_singleton.1 h1]; exact Hfb.out), by rw [sumsK_snoc, HTd.out]; exact HL9.out, by rw [HV.out]; exact HT9.out, HB9.out, HZ9.out⟩
    · have hE : opE P S L s = cc := by unfold opE paC; rw [if_pos Hpc.out, if_neg (by rw [Hcc.out]; exact hc0), Hcc.out]
      have HE := Lib.hid hE
      have hne : (cc != 0) = true := by simpa using hc0
      clear hE hs
      go_wp2_with fail
      go_ret2
      rw [HE.out]
      exact ⟨fun h => absurd h hc0, fun _ => rfl, Hb3.out⟩
  · have hE : opE P S L s = pc := by unfold opE; rw [if_neg (by rw [Hpc.out]; exact hp0), Hpc.out]
    have HE := Lib.hid hE
    have hne : (pc != 0) = true := by simpa using hp0
    clear hE hs
    go_wp2_with fail
    go_ret2
    rw [HE.out]
    exact ⟨fun h => absurd h hp0, fun _ => rfl, Hb2.out⟩
end Go.Proofs.YtiijpbfkchokaaaGreat
