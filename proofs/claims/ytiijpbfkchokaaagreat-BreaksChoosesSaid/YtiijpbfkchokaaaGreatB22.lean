/-
  A paragraph is opened: the program's open.
-/
import Derived.Test.YtiijpbfkchokaaaGreatF2
import Derived.Test.YtiijpbfkchokaaaGreatB4
import Derived.Test.YtiijpbfkchokaaaGreatB17
import Derived.Deep.CutBlock
set_option maxRecDepth 100000
set_option maxHeartbeats 8000000
namespace Go.Proofs.YtiijpbfkchokaaaGreat
open Go.ChangeShapes Go.WideShapes Go.ChangeAt Go.RowKit
attribute [local go_sem ↓] Go.wp_at_zero Go.wp_at_succ
def bdPx (parts : Array (Nat × Value)) : Sem Value := Instr.build 101 parts
@[go_sem ↓] theorem execOp_buildPx (ρ : Operand → Value) (dst : Option Tmp) (x : Array (Nat × Operand)) (ty : TypeId) (pos : String) (after : Array Edge) (guard : Option (Nat × Bool)) :
    execOp ρ { dst, op := .build 101 x, type := ty, pos, after, guard } = (do pure (.value (← bdPx (x.map fun (i, y) => (i, ρ y))))) := rfl
@[go_sem] theorem run_bdPx (p : Option Addr) (n c : Nat) (P : Pm) (mb : Nat) (w : World) : (bdPx #[(0, .slice p n c), (1, .agg P.arr), (3, .map (some mb))]).run Tryz.prog w = .ok (.agg (pxArr (.slice p n c) P (.slice none 0 0) (.map (some mb)) (.slice none 0 0) (.slice none 0 0) (.slice none 0 0))) w := by kernel_rfl
def opE (P : Pm) (S : List Sh2) (L : List Nd) (s : List Nat) : Int := if pmC P S = 0 then paC L s else pmC P S
structure OpenPost (w : World) (P : Pm) (L : List Nd) (b off cap : Nat) (p0 : Option Addr) (s : List Nat) (E : Int) (e : Ending) (w' : World) : Prop where
  good : E = 0 → ∃ X mb B vs, e = .returned (.tuple #[.pointer (some ⟨X, 0, none⟩), .int .i64 0]) ∧ ParaL w' X mb B P vs L b off cap p0 (s ++ [L.length]) (sumsP L s) (atsI (brkP L P s)) (pensI (brkP L P s)) ∧ w.heap.size ≤ mb
  bad : E ≠ 0 → e = .returned (.tuple #[.pointer none, .int .i64 E])
  below : Below w.heap.size w w'
theorem FrX.below {B X mb K : Nat} {W W' : World} (h : FrX B X mb W W') (hB : K ≤ B) (hX : K ≤ X) (hm : K ≤ mb) : Below K W W' := ⟨h.os, h.tape, h.output, h.size, fun k hk => h.block k (by omega) (by omega) (by omega)⟩
def sumsK (L : List Nd) (d : List Nat) : List Tt := (List.range d.length).map fun j => sumA L (d.take j)
theorem sumsK_snoc (L : List Nd) (d : List Nat) (x : Nat) : sumsK L (d ++ [x]) = sumsK L d ++ [sumA L d] := by
  unfold sumsK
  rw [List.length_append, List.length_singleton, List.range_succ, List.map_append]
  congr 1
  · refine List.map_congr_left fun j hj => ?_
    rw [List.take_append_of_le_length (by have := List.mem_range.1 hj; omega)]
  · simp
theorem sumsK_all (L : List Nd) (s : List Nat) : sumsK L s ++ [sumA L s] = sumsP L s := by
  unfold sumsK sumsP
  rw [List.range_succ, List.map_append]
  simp
theorem sumsK_len (L : List Nd) (d : List Nat) : (sumsK L d).length = d.length := by simp [sumsK]
theorem NIn.sl {w : World} {b off cap : Nat} {L : List Nd} (h : NIn w (some ⟨b, off, none⟩) b off cap L) {i m : Nat} (hi : i ≤ L.length) : NIn w (some ⟨b, off + i * 19, none⟩) b (off + i * 19) (cap - i) (sl L i m) := (h.drop i hi).take m
theorem empty_para {W : World} {X mb B : Nat} {p0 : Option Addr} {P : Pm} {L : List Nd} {b off cap : Nat} (hX : W.heap[X]? = some (.cells (pxArr (.slice p0 L.length cap) P (.slice none 0 0) (.map (some mb)) (.slice none 0 0) (.slice none 0 0) (.slice none 0 0)) 101 (0, 0))) (hm : MapV W mb []) (h1 : mb < X) (h2 : X < B) (hN : NIn W p0 b off cap L) (hl : L.length ≤ 2000) (hb : L ≠ [] → b < mb) :
    ParaL W X mb B P (fun _ => .slice none 0 0) L b off cap p0 [] [] [] [] :=
  ⟨⟨hX, fun j _ => by rcases j with _ | _ | _ | j <;> exact World.ownsRow_nil _ _ _ _, (fun i j _ _ _ q hq => by cases hq), hm, h1, h2⟩, hN, (fun x hx => by cases hx), hl, hb⟩
theorem Items.inv {L : List Nd} {i : Nat} {s : List Nat} (h : Items L i s) : (s = [] ∧ i = L.length) ∨ ∃ m r, s = i :: r ∧ i < L.length ∧ behC (L.drop i) 0 = some m ∧ Items L (i + m) r := by
  cases h with
  | done => exact .inl ⟨rfl, rfl⟩
  | step hi hm hs => exact .inr ⟨_, _, rfl, hi, hm, hs⟩
theorem agg?_subN {w : World} {b o n k m : Nat} {C : Array Value} (h : agg? w b o n = some C) (hm : k + m ≤ n) : agg? w b (o + k) m = some (C.extract k (k + m)) := by
  unfold agg? at h ⊢
  split at h
  · rename_i c t fr hb
    split at h
    · rename_i hle
      cases h
      rw [if_pos (by omega)]
      simp only [Array.extract_extract]
      congr 2
      omega
    · cases h
  · cases h
theorem ParaL.put {w w' : World} {X mb B : Nat} {P : Pm} {vs vs' : Nat → Value} {L : List Nd} {b off cap : Nat} {p0 : Option Addr} {IT IT' : List Nat} {SU SU' : List Tt} {AT PE AT' PE' : List Int} (h : ParaL w X mb B P vs L b off cap p0 IT SU AT PE) (hp : ParaI w' X mb B (.slice p0 L.length cap) P vs' IT' SU' AT' PE') (hF : FrX B X mb w w') (hle : ∀ x ∈ IT', x ≤ L.length) : ParaL w' X mb B P vs' L b off cap p0 IT' SU' AT' PE' := by
  refine ⟨hp, h.nodes.same fun e => ?_, hle, h.len, h.nb⟩
  have h1 := h.nb e
  have h2 := hp.lt1
  have h3 := hp.lt2
  exact hF.block b (by omega) (by omega) (by omega)
theorem ParaL.setZ {w : World} {X mb B : Nat} {P : Pm} {vs : Nat → Value} {L : List Nd} {b off cap : Nat} {p0 : Option Addr} {IT : List Nat} {SU : List Tt} {AT PE : List Int} (h : ParaL w X mb B P vs L b off cap p0 IT SU AT PE) {Z : Nat} (h1 : X < Z) (h2 : Z < B) (c : Array Value) : ParaL (setAgg w Z 0 c) X mb B P vs L b off cap p0 IT SU AT PE := by
  have h3 := h.para.lt1
  refine ⟨⟨(heap_setCells_other _ _ (by omega) _ _ _).trans h.para.blk, fun j hj => ownsRow_same (h.para.rows j hj) fun g hg _ => heap_setCells_other _ _ (by have := ((h.para.rows j hj).lt g hg).1; omega) _ _ _, h.para.ne, h.para.map.same (heap_setCells_other _ _ (by omega) _ _ _), h.para.lt1, h.para.lt2⟩, h.nodes.same fun e => heap_setCells_other _ _ (by have := h.nb e; omega) _ _ _, h.le, h.len, h.nb⟩
theorem TAt.still {W W' : World} {b : Nat} {T : Tt} (h : TAt W b T) (hb : Below W.heap.size W W') : TAt W' b T := (hb.block b h.lt).trans h
theorem firmN_9 (n : Nd) : firmN n = (!(n.kind == 7) || firm9 n.glue) := by unfold firmN firm9; rw [Bool.or_assoc]
theorem vopen (P : Pm) (g off2 : Nat) (S : List Sh2) (L : List Nd) (b off cap : Nat) (p0 : Option Addr) (s : List Nat) (hs : checkC L = 0 → Items L 0 s) (w : World) (hS : ShIn w P g off2 S) (hN : NIn w p0 b off cap L) :
    Calls Tryz.prog 38 #[.slice p0 L.length cap, .agg P.arr] w (OpenPost w P L b off cap p0 s (opE P S L s)) := by
  have hb0 : Below w.heap.size w (w.alloc (.cells P.arr 27)) := (Below.refl _ _).alloc (Nat.le_refl _) _
  have d0 : PAt (w.alloc (.cells P.arr 27)) w.heap.size P := heap_alloc_new w _
  obtain ⟨X0, hX0⟩ : ∃ X0, w.heap.size = X0 := ⟨_, rfl⟩
  have HX := Lib.hid hX0
  rw [hX0] at d0
  have H := Lib.hid hN
  have HS := Lib.hid hS
  clear hS hN hX0
  go_enter Tryz.func38, Tryz.ntmps38
  go_upto_region 1 with (fail)
  rw [HX.out]
  have hl0 : X0 < (w.alloc (.cells P.arr 27)).heap.size := d0.lt
  generalize w.alloc (.cells P.arr 27) = w1 at hb0 d0 hl0 ⊢
  have a0 : agg? w1 X0 0 24 = some P.arr := by rw [agg?_blk' d0 0 24 (by rw [Pm.size_arr]; decide)]; simp [Pm.arr, Pm.cells]
  have HC := Lib.hid (vcheckP P g off2 S w1 (HS.out.below hb0))
  obtain ⟨pc, hpc⟩ : ∃ pc, pmC P S = pc := ⟨_, rfl⟩
  rw [hpc] at HC
  have Hpc := Lib.hid hpc
  have Hb0 := Lib.hid hb0
  clear hpc hb0
  go_upto_region 2 with (go_at_call 20; refine HC.out.mono ?_; rintro e w2 ⟨rfl, hb2⟩)
  have Hb2 := Lib.hid (Hb0.out.trans (hb2.mono Hb0.out.size))
  have Hd2 := Lib.hid (d0.still hb2)
  clear a0 HC hb2 d0 hl0 Hb0
  by_cases hp0 : pc = 0
  · subst hp0
    obtain ⟨cc, hcc⟩ : ∃ cc, checkC L = cc := ⟨_, rfl⟩
    have HN := Lib.hid (check_any p0 b off cap L w2 (H.out.below Hb2.out))
    rw [hcc] at HN
    have Hcc := Lib.hid hcc
    clear hcc
    go_upto_region 5 with (go_at_call 60; refine HN.out.mono ?_; rintro e w3 ⟨rfl, hb3⟩)
    have Hb3 := Lib.hid (Hb2.out.trans (hb3.mono Hb2.out.size))
    have Hd3 := Lib.hid (Hd2.out.still hb3)
    clear HN hb3 Hd2 Hb2
    by_cases hc0 : cc = 0
    · subst hc0
      have hc := Hcc.out
      have hs0 := hs hc
      have hr := check_right hc
      have hll := (checkC_zero hc).1
      have hE : opE P S L s = if s.all (fun i => firmN (nth L i)) then 0 else 30 := by unfold opE paC; rw [if_pos Hpc.out, if_pos hc]
      have HE := Lib.hid hE
      have Hr := Lib.hid hr
      have Hs0 := Lib.hid hs0
      have Hc := Lib.hid hc
      have hsl := hs0.len
      have a0 : agg? w3 X0 0 24 = some P.arr := by rw [agg?_blk' Hd3.out 0 24 (by rw [Pm.size_arr]; decide)]; simp [Pm.arr, Pm.cells]
      have hl3 : X0 < w3.heap.size := Hd3.out.lt
      obtain ⟨M, hM⟩ : ∃ M, w3.heap.size = M := ⟨_, rfl⟩
      have hz3 := Hb3.out.size
      rw [HX.out, hM] at hz3
      have HM := Lib.hid hM
      clear hc hs0 hr hE hs
      have hmm := @run_makeMap Tryz.prog
      go_upto_region 9 with (fail)
      have hbm : Below w3.heap.size w3 (w3.alloc (.map #[] 0)) := (Below.refl _ _).alloc (Nat.le_refl _) _
      have hmv : MapV (w3.alloc (.map #[] 0)) M [] := by rw [← hM]; exact MapV.new w3
      have s1 : (w3.alloc (.map #[] 0)).heap.size = M + 1 := by rw [World.size_alloc, hM]
      generalize w3.alloc (.map #[] 0) = w4 at hbm hmv s1 ⊢
      have hbx : Below w4.heap.size w4 (w4.alloc (.cells (pxArr (.slice p0 L.length cap) P (.slice none 0 0) (.map (some M)) (.slice none 0 0) (.slice none 0 0) (.slice none 0 0)) 101)) := (Below.refl _ _).alloc (Nat.le_refl _) _
      have hX := heap_alloc_new w4 (.cells (pxArr (.slice p0 L.length cap) P (.slice none 0 0) (.map (some M)) (.slice none 0 0) (.slice none 0 0) (.slice none 0 0)) 101)
      have s2 : (w4.alloc (.cells (pxArr (.slice p0 L.length cap) P (.slice none 0 0) (.map (some M)) (.slice none 0 0) (.slice none 0 0) (.slice none 0 0)) 101)).heap.size = M + 2 := by rw [World.size_alloc, s1]
      rw [s1] at hX
      have hmv2 := hmv.same (hbx.block M (by omega))
      have hb4 := hbm.trans (hbx.mono hbm.size)
      clear hbx hbm hmv hmm
      generalize w4.alloc (.cells (pxArr (.slice p0 L.length cap) P (.slice none 0 0) (.map (some M)) (.slice none 0 0) (.slice none 0 0) (.slice none 0 0)) 101) = w5 at hX s2 hmv2 hb4 ⊢
      have hbz : Below w5.heap.size w5 (w5.alloc (.cells (Tt.mk 0 0 0 0 0 0 0 0 0).arr 62)) := (Below.refl _ _).alloc (Nat.le_refl _) _
      have hT : TAt (w5.alloc (.cells (Tt.mk 0 0 0 0 0 0 0 0 0).arr 62)) (M + 2) .zero := by have := heap_alloc_new w5 (.cells (Tt.mk 0 0 0 0 0 0 0 0 0).arr 62); rwa [s2] at this
      have s3 : (w5.alloc (.cells (Tt.mk 0 0 0 0 0 0 0 0 0).arr 62)).heap.size = M + 3 := by rw [World.size_alloc, s2]
      have hX3 := (hbz.block (M + 1) (by omega)).trans hX
      have hmv3 := hmv2.same (hbz.block M (by omega))
      have hb5 := Hb3.out.trans ((hb4.trans (hbz.mono hb4.size)).mono Hb3.out.size)
      have hbM : L ≠ [] → b < M := fun e => by have := H.out.hb e; rw [HX.out] at this; omega
      clear hbz hb4 hX hmv2 s2 s1 a0
      generalize w5.alloc (.cells (Tt.mk 0 0 0 0 0 0 0 0 0).arr 62) = w6 at hT s3 hX3 hmv3 hb5 ⊢
      have hP6 := Lib.hid (empty_para (X := M + 1) (mb := M) (B := M + 3) hX3 hmv3 (by omega) (by omega) (H.out.below hb5) hll hbM)
      have HT6 := Lib.hid hT
      have HB6 := Lib.hid hb5
      have HZ6 : Hid (M + 3 ≤ w6.heap.size) := Lib.hid (Nat.le_of_eq s3.symm)
      clear hT s3 hX3 hmv3 hb5 hbM hM
      go_wp2_with fail
      go_loopg [10] (s.length + 1) (fun gg t10 wr => ∃ (pos : Nat) (d r : List Nat) (vs : Nat → Value), gg = r.length + 1 ∧ t10 = .int .i64 pos ∧ s = d ++ r ∧ Items L pos r ∧ (∀ x ∈ d, firmN (nth L x) = true) ∧ ParaL wr (M + 1) M (M + 3) P vs L b off cap p0 d (sumsK L d) [] [] ∧ TAt wr (M + 2) (sumA L d) ∧ Below w.heap.size w wr ∧ M + 3 ≤ wr.heap.size)
      case atStart => exact ⟨0, [], s, _, rfl, rfl, rfl, Hs0.out, (fun x hx => by cases hx), hP6.out, HT6.out, HB6.out, HZ6.out⟩
      case round =>
        clear hP6 HT6 HB6 HZ6
        obtain ⟨pos, d, r, vs, rfl, rfl, hsd, hit, hfd, hI, hT, hb, hz⟩ := hrel
        have hdl : d.length ≤ 2000 := by rw [hsd, List.length_append] at hsl; omega
        have Hsd := Lib.hid hsd
        have Hfd := Lib.hid hfd
        have HI := Lib.hid hI
        have HT := Lib.hid hT
        have HB := Lib.hid hb
        have HZ := Lib.hid hz
        rcases hit.inv with ⟨rfl, rfl⟩ | ⟨m, r, rfl, hi, hm, hs2⟩
        · clear hit
          have hsd2 : s = d := by rw [hsd, List.append_nil]
          have hE2 : opE P S L s = 0 := by
            rw [HE.out, if_pos]
            rw [List.all_eq_true]
            intro x hx
            rw [hsd2] at hx
            exact hfd x hx
          have HE2 := Lib.hid hE2
          have HSd := Lib.hid hsd2
          have hnd : L.length ∉ d := fun h => by rw [← hsd2] at h; have := (Hs0.out.lt _ h).2; omega
          obtain ⟨T, hTd⟩ : ∃ T, sumA L d = T := ⟨_, rfl⟩
          have HTd := Lib.hid hTd
          have HPu := Lib.hid (vput (M + 1) M (M + 3) (.slice p0 L.length cap) P vs d (sumsK L d) [] [] L.length (sumA L d) hnd (by omega) (by rw [sumsK_len]; omega) wr hz hI.para)
          have aT := hT.agg
          rw [hTd] at HPu aT
          clear hsd hfd hI hT hb hz hsd2 hE2 hnd hTd
          go_upto_region 18 with (go_at_call 62; refine HPu.out.mono ?_; rintro e w8 ⟨rfl, ⟨vs8, hI8, _, _⟩, hF8⟩)
          have hL8 := ParaL.put HI.out hI8 hF8 (fun x hx => by
            rcases List.mem_append.1 hx with h1 | h1
            · exact HI.out.le x h1
            · have := List.mem_singleton.1 h1; omega)
          rw [← HTd.out, sumsK_all, ← HSd.out] at hL8
          have hB8 : Below w.heap.size w w8 := HB.out.trans (hF8.below (by rw [HX.out]; omega) (by rw [HX.out]; omega) (by rw [HX.out]; omega))
          have hZ8 : M + 3 ≤ w8.heap.size := Nat.le_trans HZ.out hF8.size
          have HBr := Lib.hid (vbreaks (M + 1) M (M + 3) P vs8 L b off cap p0 s (s ++ [L.length]) (sumsP L s) Hc.out Hs0.out rfl w8 hZ8 hL8)
          have HB8 := Lib.hid hB8
          clear hI8 hF8 hL8 hB8 hZ8 aT HPu
          go_wp2_with (go_at_call 65; refine HBr.out.mono ?_; rintro e w9 ⟨rfl, ⟨vs9, hL9⟩, hF9⟩)
          go_ret2
          rw [HE2.out]
          exact ⟨fun _ => ⟨M + 1, M, M + 3, vs9, rfl, hL9, by rw [HX.out]; omega⟩, fun h => absurd rfl h, HB8.out.trans (hF9.below (by rw [HX.out]; omega) (by rw [HX.out]; omega) (by rw [HX.out]; omega))⟩
        · clear hit
          have hps : pos ∈ s := by rw [hsd]; exact List.mem_append_right _ List.mem_cons_self
          have hmp := behC_pos _ _ _ hm
          rw [List.length_drop] at hmp
          have hnd : pos ∉ d := fun h => by
            have h1 := items_pairwise Hs0.out
            rw [hsd, List.pairwise_append] at h1
            have := h1.2.2 pos h pos List.mem_cons_self
            omega
          have hp1 : (0 : Int) ≤ (pos : Int) := by omega
          have hp2 : (pos : Int) < (L.length : Int) := by omega
          have HBe := Lib.hid (behind9 p0 b off cap L pos m wr hI.nodes hm)
          obtain rfl := H.out.at_ hi
          have HPu := Lib.hid (vput (M + 1) M (M + 3) (.slice (some ⟨b, off, none⟩) L.length cap) P vs d (sumsK L d) [] [] pos (sumA L d) hnd (by omega) (by rw [sumsK_len]; omega) wr hz hI.para)
          have HS2 := Lib.hid hs2
          have Hm := Lib.hid hm
          have Hps := Lib.hid hps
          have hcp := H.out.cap'
          have aT := hT.agg
          clear hsd hfd hI hT hb hz hs2 hnd hm hps
          obtain ⟨q, hq⟩ : ∃ q, pos + m = q := ⟨_, rfl⟩
          rw [hq] at HBe HS2
          obtain ⟨T, hTd⟩ : ∃ T, sumA L d = T := ⟨_, rfl⟩
          rw [hTd] at HPu aT
          have Hq := Lib.hid hq
          have HTd := Lib.hid hTd
          clear hTd
          go_upto_region 13 with (first | (go_at_call 61; refine HBe.out.mono ?_; rintro e w7 ⟨rfl, rfl⟩) | (go_at_call 62; refine HPu.out.mono ?_; rintro e w8 ⟨rfl, ⟨vs8, hI8, _, _⟩, hF8⟩))
          have hle8 : ∀ x ∈ d ++ [pos], x ≤ L.length := fun x hx => by
            rcases List.mem_append.1 hx with h1 | h1
            · exact HI.out.le x h1
            · have := List.mem_singleton.1 h1; omega
          have hL8 := ParaL.put HI.out hI8 hF8 hle8
          have hT8 : TAt w8 (M + 2) T := by rw [← HTd.out]; exact (hF8.block (M + 2) (by omega) (by omega) (by omega)).trans HT.out
          have hB8 : Below w.heap.size w w8 := HB.out.trans (hF8.below (by rw [HX.out]; omega) (by rw [HX.out]; omega) (by rw [HX.out]; omega))
          have hZ8 : M + 3 ≤ w8.heap.size := Nat.le_trans HZ.out hF8.size
          have c0 : w8.cell? ⟨b, off + pos * 19, none⟩ = some (.int .i64 (nth L pos).kind) := agg_cell (hL8.nodes.nth hi) 0 _ (Nd.get0 _)
          have ag : agg? w8 b (off + pos * 19 + 7) 5 = some (nth L pos).glue.arr := by rw [agg?_subN (hL8.nodes.nth hi) (by decide), Nd.getGlue]
          have HL8 := Lib.hid hL8
          have HT8 := Lib.hid hT8
          have HB8 := Lib.hid hB8
          have HZ8 := Lib.hid hZ8
          obtain ⟨fb, hfb⟩ : ∃ fb, firmN (nth L pos) = fb := ⟨_, rfl⟩
          have hf9 := firmN_9 (nth L pos)
          rw [hfb] at hf9
          have Hfb := Lib.hid hfb
          have Hf9 := Lib.hid hf9
          have HFi := Lib.hid (fun W => vfirm (nth L pos).glue W)
          clear aT hI8 hF8 hle8 hL8 hT8 hB8 hZ8 hfb hf9 HI HT HB HZ HBe HPu
          generalize firm9 (nth L pos).glue = f9 at Hf9 HFi
          generalize (nth L pos).glue = gl at ag HFi
          generalize (nth L pos).kind = kd at c0 Hf9
          go_cut [52] from 38 to 52 (fun s52 wx => s52 = .bool (!fb) ∧ ParaL wx (M + 1) M (M + 3) P vs8 L b off cap (some ⟨b, off, none⟩) (d ++ [pos]) (sumsK L d ++ [T]) [] [] ∧ TAt wx (M + 2) T ∧ Below w.heap.size w wx ∧ M + 3 ≤ wx.heap.size)
          case first =>
            cases k7 : (kd == 7)
            · have e1 : fb = true := by rw [Hf9.out, k7]; rfl
              subst e1
              go_wp2_with fail
              go_meet
              exact ⟨rfl, HL8.out, HT8.out, HB8.out, HZ8.out⟩
            · have e1 : fb = f9 := by rw [Hf9.out, k7]; rfl
              subst e1
              go_wp2_with (go_at_call 46; refine (HFi.out _).mono ?_; rintro e w9 ⟨rfl, hb9⟩)
              go_meet
              exact ⟨rfl, HL8.out.still hb9, HT8.out.still hb9, HB8.out.trans (hb9.mono HB8.out.size), Nat.le_trans HZ8.out hb9.size⟩
          case rest =>
            clear HL8 HT8 HB8 HZ8 c0 ag
            obtain ⟨rfl, hL8, hT8, hB8, hZ8⟩ := hcut
            cases hb : fb
            · subst hb
              have hb1 : s.all (fun i => firmN (nth L i)) = false := by
                rw [List.all_eq_false]
                exact ⟨pos, Hps.out, by rw [Hfb.out]; decide⟩
              have HE2 := Lib.hid (HE.out.trans (by rw [hb1]; rfl : _ = (30 : Int)))
              clear hb1 hL8 hT8 hZ8
              go_wp2_with fail
              go_ret2
              rw [HE2.out]
              exact ⟨fun h => absurd h (by decide), fun _ => rfl, hB8⟩
            · subst hb
              obtain ⟨U, hU⟩ : ∃ U, itT L pos = U := ⟨_, rfl⟩
              obtain ⟨V, hV⟩ : ∃ V, T.plus U = V := ⟨_, rfl⟩
              have hsl9 := sl_len (L := L) (i := pos) (m := m) (by omega)
              have HTo : Hid (∀ W, ParaL W (M + 1) M (M + 3) P vs8 L b off cap (some ⟨b, off, none⟩) (d ++ [pos]) (sumsK L d ++ [T]) [] [] → Calls Tryz.prog 64 #[.slice (some ⟨b, off + pos * 19, none⟩) m (cap - pos)] W fun e w' => e = .returned (.agg U.arr) ∧ Below W.heap.size W w') := Lib.hid fun W hL => by
                have h1 := total_item Hc.out Hs0.out Hps.out Hm.out (some ⟨b, off + pos * 19, none⟩) b (off + pos * 19) (cap - pos) W (hL.nodes.sl (by omega))
                rw [hsl9, hU] at h1
                exact h1
              have HA2 : Hid (∀ W, Calls Tryz.prog 63 #[.agg T.arr, .agg U.arr, .int .i64 1] W fun e w' => e = .returned (.agg V.arr) ∧ Below W.heap.size W w') := Lib.hid fun W => by
                have h2 : TtB 4400000000000 T := by
                  rw [← HTd.out]
                  obtain ⟨k, hk⟩ := items_tail Hs0.out d.length (by rw [Hsd.out]; simp)
                  exact sum_pre Hc.out Hs0.out Hr.out hll d _ k (by rw [Hsd.out, List.drop_left]) hk
                have h3 : TtB 4400000000000 U := by rw [← hU]; exact (it_bound Hc.out Hs0.out Hr.out Hps.out Hm.out).mono (by omega)
                have h1 := vadd T U 1 (.inl rfl) (h2.mono (by omega)) (h3.mono (by omega)) W
                rw [addS_one, hV] at h1
                exact h1
              have HV : Hid (sumA L (d ++ [pos]) = V) := Lib.hid (by rw [sumA_snoc, HTd.out, hU, hV])
              have hq1 : (pos : Int) ≤ (q : Int) := by have := Hq.out; omega
              have hq2 : (q : Int) ≤ (cap : Int) := by have := Hq.out; omega
              have hq3 : (0 : Int) ≤ (q : Int) := by omega
              have hq4 : pos ≤ q := by omega
              have hq5 : ¬ cap = pos := by omega
              have hq6 : (q - pos : Nat) = m := by have := Hq.out; omega
              have HL8 := Lib.hid hL8
              have HT8 := Lib.hid hT8
              have HB8 := Lib.hid hB8
              have HZ8 := Lib.hid hZ8
              clear hU hV hsl9 hL8 hT8 hB8 hZ8
              go_upto_region 15 with (fail)
              refine Rest.region follows ?_
              refine Rest.tame 7 (fun W => ParaL W (M + 1) M (M + 3) P vs8 L b off cap (some ⟨b, off, none⟩) (d ++ [pos]) (sumsK L d ++ [T]) [] [] ∧ TAt W (M + 2) T ∧ Below wc.heap.size wc W) (by kernel_rfl) ⟨HL8.out.still ((Below.refl _ _).drew), HT8.out, (Below.refl _ _).drew⟩ ?_
              simp only [Nat.reduceSub, List.drop_zero, List.take_succ_cons, List.take_zero]
              iterate 7 first
                | (refine TW.cons_n rfl _ (by intro wT hT R hR K hK; simp only [Act.put, lsA, lsB, lsC] at hK; have yt := hT.2.1.agg; go_step; first | ((with_reducible refine (HTo.out _ hT.1).mono ?_); rintro e w9 ⟨rfl, h9⟩; exact hK _ _ (hR _ ⟨hT.1.still h9, hT.2.1.still h9, hT.2.2.trans (h9.mono hT.2.2.size)⟩)) | ((with_reducible refine (HA2.out _).mono ?_); rintro e w9 ⟨rfl, h9⟩; exact hK _ _ (hR _ ⟨hT.1.still h9, hT.2.1.still h9, hT.2.2.trans (h9.mono hT.2.2.size)⟩)) | exact hK _ _ (hR _ hT)) ?_; try simp only [Act.put, lsA, lsB, lsC])
              refine TW.nil fun w9 h9 => ?_
              obtain ⟨hL9, hT9, hb9⟩ := h9
              have t9 := hT9.there
              have HL9 := Lib.hid (hL9.setZ (Z := M + 2) (by omega) (by omega) V.arr)
              have HT9 := Lib.hid (hT9.store (U := V))
              have HB9 := Lib.hid (Below.setAgg (HB8.out.trans (hb9.mono HB8.out.size)) (b := M + 2) (by rw [HX.out]; omega) 0 V.arr)
              have HZ9 : Hid (M + 3 ≤ (setAgg w9 (M + 2) 0 V.arr).heap.size) := Lib.hid (by rw [size_setAgg]; exact Nat.le_trans HZ8.out hb9.size)
              clear hL9 hT9 hb9 HL8 HT8 HB8 HZ8
              refine Rest.seq (by kernel_rfl) ?_
              simp only [List.drop_succ_cons, List.drop_zero]
              go_upto_region 16 with (fail)
              generalize setAgg w9 (M + 2) 0 V.arr = w10 at HL9 HT9 HB9 HZ9 ⊢
              clear t9
              go_wp2_with fail
              go_roundg (r.length + 1)
              case measure => simp
              case rel => exact ⟨q, d ++ [pos], r, vs8, rfl, rfl, by rw [Hsd.out]; simp, HS2.out, (fun x hx => by
                rcases List.mem_append.1 hx with h1 | h1
                · exact Hfd.out x h1
                · rw [List.mem_singleton.1 h1]; exact Hfb.out), by rw [sumsK_snoc, HTd.out]; exact HL9.out, by rw [HV.out]; exact HT9.out, HB9.out, HZ9.out⟩
    · have hE : opE P S L s = cc := by unfold opE paC; rw [if_pos Hpc.out, if_neg (by rw [Hcc.out]; exact hc0), Hcc.out]
      have HE := Lib.hid hE
      have hne : (cc != 0) = true := by simpa using hc0
      clear hE hs
      go_wp2_with fail
      go_ret2
      rw [HE.out]
      exact ⟨fun h => absurd h hc0, fun _ => rfl, Hb3.out⟩
  · have hE : opE P S L s = pc := by unfold opE; rw [if_neg (by rw [Hpc.out]; exact hp0), Hpc.out]
    have HE := Lib.hid hE
    have hne : (pc != 0) = true := by simpa using hp0
    clear hE hs
    go_wp2_with fail
    go_ret2
    rw [HE.out]
    exact ⟨fun h => absurd h hp0, fun _ => rfl, Hb2.out⟩
end Go.Proofs.YtiijpbfkchokaaaGreat
namespace Go.Proofs.YtiijpbfkchokaaaGreat
open Go.ChangeShapes Go.WideShapes Go.ChangeAt Go.RowKit
attribute [local go_sem ↓] Go.wp_at_zero Go.wp_at_succ
def bdBk (parts : Array (Nat × Value)) : Sem Value := Instr.build 91 parts
@[go_sem ↓] theorem execOp_buildBk (ρ : Operand → Value) (dst : Option Tmp) (x : Array (Nat × Operand)) (ty : TypeId) (pos : String) (after : Array Edge) (guard : Option (Nat × Bool)) :
    execOp ρ { dst, op := .build 91 x, type := ty, pos, after, guard } = (do pure (.value (← bdBk (x.map fun (i, y) => (i, ρ y))))) := rfl
@[go_sem] theorem run_bdBk (x : Int) (w : World) : (bdBk #[(0, .int .i64 x)]).run Tryz.prog w = .ok (.agg (Bk.mk x 0 0 0 0 false).arr) w := by kernel_rfl
def BkAt (W : World) (b : Nat) (x : Bk) : Prop := W.heap[b]? = some (.cells x.arr 91 (0, 0))
theorem BkAt.lt {W : World} {b : Nat} {x : Bk} (h : BkAt W b x) : b < W.heap.size := (Array.getElem?_eq_some_iff.1 h).1
theorem BkAt.still {W W' : World} {b : Nat} {x : Bk} (h : BkAt W b x) (hb : Below W.heap.size W W') : BkAt W' b x := (hb.block b h.lt).trans h
theorem BkAt.cell {W : World} {b : Nat} {x : Bk} (h : BkAt W b x) (k : Nat) (v : Value) (hv : x.arr[k]? = some v) : W.cell? ⟨b, k, none⟩ = some v := by rw [cell?_blk' h, hv]
theorem BkAt.frozen {W : World} {b : Nat} {x : Bk} (h : BkAt W b x) (k : Nat) : W.frozen? ⟨b, k, none⟩ = false := frozen_of_row W b k _ _ h
theorem BkAt.agg {W : World} {b : Nat} {x : Bk} (h : BkAt W b x) : agg? W b 0 6 = some x.arr := by rw [agg?_blk' h 0 6 (by simp [Bk.size_arr])]; simp [Bk.arr, Bk.cells]
theorem BkAt.there {W : World} {b : Nat} {x : Bk} (h : BkAt W b x) : there? W b 0 6 = true := there_blk h 0 6 (by simp [Bk.size_arr])
theorem BkAt.set {W : World} {b : Nat} {x y : Bk} (h : BkAt W b x) (k : Nat) (v : Value) (hm : x.arr.setIfInBounds k v = y.arr) : BkAt (W.setCell ⟨b, k, none⟩ v) b y := by
  unfold BkAt
  rw [heap_setCell_same _ _ _ _ _ _ h, hm]
theorem BkAt.store {W : World} {b : Nat} {x y : Bk} (h : BkAt W b x) : BkAt (setAgg W b 0 y.arr) b y := by
  unfold BkAt setAgg
  rw [heap_setCells_same b _ _ _ 0 _ W h, show y.arr.toList = y.cells from rfl, setMany_Bk]
structure TryIn (W : World) (Y X mb B : Nat) (P : Pm) (vs : Nat → Value) (L : List Nd) (b off cap : Nat) (p0 : Option Addr) (s : List Nat) (g off2 : Nat) (S : List Sh2) (tol ext : Int) : Prop where
  para : ParaL W X mb B P vs L b off cap p0 (s ++ [L.length]) (sumsP L s) (atsI (brkP L P s)) (pensI (brkP L P s))
  try_ : W.heap[Y]? = some (.cells #[.pointer (some ⟨X, 0, none⟩), .int .i64 tol, .int .i64 ext] 118 (0, 0))
  shape : ShIn W P g off2 S
section
variable {W W' : World} {Y X mb B : Nat} {P : Pm} {vs : Nat → Value} {L : List Nd} {b off cap : Nat} {p0 : Option Addr} {s : List Nat} {g off2 : Nat} {S : List Sh2} {tol ext : Int}
theorem TryIn.still (h : TryIn W Y X mb B P vs L b off cap p0 s g off2 S tol ext) (hb : Below W.heap.size W W') : TryIn W' Y X mb B P vs L b off cap p0 s g off2 S tol ext :=
  ⟨h.para.still hb, (hb.block Y (Array.getElem?_eq_some_iff.1 h.try_).1).trans h.try_, h.shape.below hb⟩
theorem TryIn.cell (h : TryIn W Y X mb B P vs L b off cap p0 s g off2 S tol ext) : W.cell? ⟨Y, 0, none⟩ = some (.pointer (some ⟨X, 0, none⟩)) ∧ W.cell? ⟨Y, 1, none⟩ = some (.int .i64 tol) ∧ W.cell? ⟨Y, 2, none⟩ = some (.int .i64 ext) := by
  refine ⟨?_, ?_, ?_⟩ <;> (rw [cell?_blk' h.try_]; rfl)
end
structure TryOk (P : Pm) (S : List Sh2) (L : List Nd) (s : List Nat) (tol ext : Int) : Prop where
  pm : pmC P S = 0
  chk : checkC L = 0
  items : Items L 0 s
  tol : 0 ≤ tol ∧ tol ≤ 1073741823
  ext : 0 ≤ ext ∧ ext ≤ 1073741823
structure PmN (P : Pm) : Prop where
  b : PmB P
  linep : -2147483647 ≤ P.linep ∧ P.linep ≤ 2147483647
  adj : -2147483647 ≤ P.adj ∧ P.adj ≤ 2147483647
  dbl : -2147483647 ≤ P.dbl ∧ P.dbl ≤ 2147483647
  fin : -2147483647 ≤ P.fin ∧ P.fin ≤ 2147483647
  loose : -2147483647 ≤ P.loose ∧ P.loose ≤ 2147483647
  left : P.left.good = true
  right : P.right.good = true
theorem pmC_zero {P : Pm} {S : List Sh2} (h : pmC P S = 0) : PmN P := by
  rw [pmC_ok] at h
  split at h
  · rename_i h1
    split at h
    · rename_i h2
      unfold okP at h1
      simp only [List.all_cons, List.all_nil, Bool.and_true, Bool.and_eq_true] at h1 h2
      obtain ⟨⟨⟨⟨a1, a2, a3, a4, a5, a6, a7, a8, a9, _, _, _, a10⟩, h2', h3, h4⟩, h5⟩, h6⟩ := h1
      simp only [numB, dimenB, withinB, decide_eq_true_eq] at a3 a6 a7 a8 a9 a10 h2' h3
      simp only [firmG, Bool.and_eq_true] at h2
      exact ⟨⟨by omega, by omega, by omega⟩, by omega, by omega, by omega, by omega, by omega, h2.1.1, h2.2.1⟩
    · cases h
  · cases h
theorem sq_bd {d N : Int} (h1 : -N ≤ d) (h2 : d ≤ N) : 0 ≤ d * d ∧ d * d ≤ N * N := by
  have a1 : 0 ≤ (N - d) * (N + d) := Int.mul_nonneg (by omega) (by omega)
  have a2 : (N - d) * (N + d) = N * N - d * d := by
    rw [Int.sub_mul, Int.mul_add, Int.mul_add, Int.mul_comm d N]
    omega
  have a3 : 0 ≤ d * d := by
    rcases Int.le_total 0 d with h | h
    · exact Int.mul_nonneg h h
    · have := Int.mul_nonneg (a := -d) (b := -d) (by omega) (by omega)
      rwa [Int.neg_mul_neg] at this
  omega
theorem dropTo_drop (L : List Nd) (q : Nat) : ∀ l : List Nat, ∃ k, dropTo L q l = l.drop k
  | [] => ⟨0, rfl⟩
  | x :: r => by
    unfold dropTo
    split
    · obtain ⟨k, hk⟩ := dropTo_drop L q r
      exact ⟨k + 1, hk⟩
    · exact ⟨0, rfl⟩
theorem line_bound {L : List Nd} {P : Pm} {s : List Nat} (hc : checkC L = 0) (hs : Items L 0 s) (hPl : P.left.good = true) (hPr : P.right.good = true) {f : Option Nat} {q : Nat} (hf : ∀ x, f = some x → x ∈ s) (hq : q ∈ s ++ [L.length]) : TtB 14000000000000 (lineT L P s f q) := by
  have hr := check_right hc
  have hll := (checkC_zero hc).1
  obtain ⟨m, hm⟩ : ∃ m, (s ++ [L.length])[m]? = some q := List.mem_iff_getElem?.1 hq
  have hpos := pos_at hs hm
  have hi : ∃ i, fromP L s f q = s.drop i := by
    rw [fromP_start hs hf]
    split
    · obtain ⟨k, hk⟩ := dropTo_drop L q (s.drop (startI L s f).1)
      exact ⟨_, by rw [hk, List.drop_drop]⟩
    · exact ⟨_, rfl⟩
  obtain ⟨i, hi⟩ := hi
  rw [lineT_eq hpos hi]
  have key : ∀ x, x ∈ s → discB L x = true → TtB 2200000000000 (.wide (rowN (threeP L x).2.1)) ∧ TtB 2200000000000 (.wide (rowN (threeP L x).1)) := fun x hx hd => by
    have hk10 : (nth L x).kind = 10 := by
      simp only [discB, Bool.and_eq_true, beq_iff_eq] at hd
      exact hd.2
    obtain ⟨md, u, hda⟩ := disc_at hc hs hx hk10
    obtain ⟨hok, hlen3⟩ := disc_ok hda
    have hlt3 := hda.lt
    have h5 := row_bound hok.b hr
    have h6 := row_bound hok.a hr
    exact ⟨.wide (by omega) (by omega), .wide (by omega) (by omega)⟩
  have h1 : TtB 2200000000000 (.wide (preN L f)) := by
    cases f with
    | none => exact TtB.zero.mono (by omega)
    | some x =>
      simp only [preN]
      split
      · rename_i hd; exact (key x (hf x rfl) hd).1
      · exact TtB.zero.mono (by omega)
  have h2 : TtB 8800000000000 (midT L s i m) := by
    unfold midT
    have := hpos.le
    split
    · exact ((sum_take hc hs hr hll m (by omega)).minus (sum_take hc hs hr hll i (by omega))).mono (by omega)
    · exact TtB.zero.mono (by omega)
  have h3 : TtB 2200000000000 (.wide (sufN L q)) := by
    unfold sufN
    split
    · rename_i hd
      refine (key q ?_ hd).2
      simp only [discB, Bool.and_eq_true, decide_eq_true_eq] at hd
      rcases List.mem_append.1 hq with h | h
      · exact h
      · have := List.mem_singleton.1 h; omega
    · exact TtB.zero.mono (by omega)
  exact (((h1.plus h2).plus h3).plus ((glueT_good hPl).plus (glueT_good hPr))).mono (by omega)
theorem brkF_mem {L : List Nd} {P : Pm} : ∀ (l : List Nat) (pr : Option Nat) (x : Nat × Int), x ∈ brkF L P pr l → x.1 ∈ l ∧ x.2 < 10000
  | [], _, x, h => by cases h
  | y :: r, pr, x, h => by
    unfold brkF at h
    split at h
    · rename_i q hq
      split at h
      · rename_i hlt
        rcases List.mem_cons.1 h with h | h
        · rw [h]; exact ⟨List.mem_cons_self, hlt⟩
        · have := brkF_mem r _ x h
          exact ⟨List.mem_cons_of_mem _ this.1, this.2⟩
      · have := brkF_mem r _ x h
        exact ⟨List.mem_cons_of_mem _ this.1, this.2⟩
    · have := brkF_mem r _ x h
      exact ⟨List.mem_cons_of_mem _ this.1, this.2⟩
theorem brkP_mem {L : List Nd} {P : Pm} {s : List Nat} {x : Nat × Int} (h : x ∈ brkP L P s) : x.1 ∈ s ++ [L.length] ∧ x.2 < 10000 := by
  unfold brkP at h
  rcases List.mem_append.1 h with h | h
  · have := brkF_mem _ _ _ h
    exact ⟨List.mem_append_left _ this.1, this.2⟩
  · rw [List.mem_singleton.1 h]
    exact ⟨List.mem_append_right _ (List.mem_singleton.2 rfl), by show (-10000 : Int) < 10000; decide⟩
end Go.Proofs.YtiijpbfkchokaaaGreat
namespace Go.Proofs.YtiijpbfkchokaaaGreat
open Go.ChangeShapes Go.WideShapes Go.ChangeAt Go.RowKit
attribute [local go_sem ↓] Go.wp_at_zero Go.wp_at_succ
def tryE (P : Pm) (S : List Sh2) (L : List Nd) (s : List Nat) (tol ext : Int) : Int := if opE P S L s = 0 then (if tol < 0 ∨ ext < 0 ∨ 1073741823 < tol ∨ 1073741823 < ext then 11 else 0) else opE P S L s
structure BegunPost (w : World) (P : Pm) (L : List Nd) (b off cap : Nat) (p0 : Option Addr) (s : List Nat) (g off2 : Nat) (S : List Sh2) (tol ext : Int) (e : Ending) (w' : World) : Prop where
  good : tryE P S L s tol ext = 0 → ∃ Y X mb B vs, e = .returned (.tuple #[.pointer (some ⟨Y, 0, none⟩), .int .i64 0]) ∧ TryIn w' Y X mb B P vs L b off cap p0 s g off2 S tol ext ∧ w.heap.size ≤ mb
  bad : tryE P S L s tol ext ≠ 0 → e = .returned (.tuple #[.pointer none, .int .i64 (tryE P S L s tol ext)])
  below : Below w.heap.size w w'
theorem vbegun (P : Pm) (g off2 : Nat) (S : List Sh2) (L : List Nd) (b off cap : Nat) (p0 : Option Addr) (s : List Nat) (hs : checkC L = 0 → Items L 0 s) (tol ext : Int) (w : World) (hS : ShIn w P g off2 S) (hN : NIn w p0 b off cap L) :
    Calls Tryz.prog 27 #[.slice p0 L.length cap, .agg P.arr, .int .i64 tol, .int .i64 ext] w (BegunPost w P L b off cap p0 s g off2 S tol ext) := by
  have hb0 : Below w.heap.size w (w.alloc (.cells P.arr 27)) := (Below.refl _ _).alloc (Nat.le_refl _) _
  have d0 : PAt (w.alloc (.cells P.arr 27)) w.heap.size P := heap_alloc_new w _
  have HO := Lib.hid (vopen P g off2 S L b off cap p0 s hs _ (hS.below hb0) (hN.below hb0))
  have HS := Lib.hid (hS.below hb0)
  clear hs hS hN
  go_enter Tryz.func27, Tryz.ntmps27
  go_upto_region 1 with (fail)
  obtain ⟨X0, hX0⟩ : ∃ X0, w.heap.size = X0 := ⟨_, rfl⟩
  have HX := Lib.hid hX0
  rw [hX0] at d0 ⊢
  generalize w.alloc (.cells P.arr 27) = w1 at hb0 d0 HO HS ⊢
  have a0 : agg? w1 X0 0 24 = some P.arr := by rw [agg?_blk' d0 0 24 (by rw [Pm.size_arr]; decide)]; simp [Pm.arr, Pm.cells]
  generalize hE : opE P S L s = E at HO
  have HE := Lib.hid hE
  have Hb0 := Lib.hid hb0
  clear hE hb0 d0 hX0
  by_cases h0 : E = 0
  · subst h0
    go_upto_region 4 with (go_at_call 38; refine HO.out.mono ?_; clear HO; rintro e w2 ho; obtain ⟨X, mb, B, vs, rfl, hL, hmb⟩ := ho.good rfl; have hb2 := ho.below)
    have HL := Lib.hid hL
    have Hb2 := Lib.hid (Hb0.out.trans (hb2.mono Hb0.out.size))
    have HS2 := Lib.hid (HS.out.below hb2)
    have Hmb : Hid (w.heap.size ≤ mb) := Lib.hid (Nat.le_trans Hb0.out.size hmb)
    clear hL hb2 ho hmb a0
    obtain ⟨cb, hcb⟩ : ∃ cb, decide (tol < 0 ∨ ext < 0 ∨ 1073741823 < tol ∨ 1073741823 < ext) = cb := ⟨_, rfl⟩
    have Hcb := Lib.hid hcb
    clear hcb
    go_cut [34] from 21 to 34 (fun s34 wx => s34 = .bool cb ∧ w2 = wx)
    case first =>
      by_cases h1 : tol < 0
      · have h2 : decide (tol < 0) = true := decide_eq_true h1
        have e1 : cb = true := by rw [← Hcb.out]; simp [h1]
        subst e1
        clear h1
        go_wp2_with fail
        go_meet
        exact ⟨rfl, rfl⟩
      · have h2 : decide (tol < 0) = false := decide_eq_false h1
        by_cases h3 : ext < 0
        · have h4 : decide (ext < 0) = true := decide_eq_true h3
          have e1 : cb = true := by rw [← Hcb.out]; simp [h3]
          subst e1
          clear h1 h3
          go_wp2_with fail
          go_meet
          exact ⟨rfl, rfl⟩
        · have h4 : decide (ext < 0) = false := decide_eq_false h3
          by_cases h5 : 1073741823 < tol
          · have h6 : decide (1073741823 < tol) = true := decide_eq_true h5
            have e1 : cb = true := by rw [← Hcb.out]; simp [h5]
            subst e1
            clear h1 h3 h5
            go_wp2_with fail
            go_meet
            exact ⟨rfl, rfl⟩
          · have h6 : decide (1073741823 < tol) = false := decide_eq_false h5
            have e1 : decide (1073741823 < ext) = cb := by rw [← Hcb.out]; simp [h1, h3, h5]
            clear h1 h3 h5
            go_wp2_with fail
            go_meet
            exact ⟨rfl, rfl⟩
    case rest =>
      obtain ⟨rfl, rfl⟩ := hcut
      cases hb : cb
      · subst hb
        have hw := Lib.hid (show tryE P S L s tol ext = 0 by unfold tryE; rw [if_pos HE.out, if_neg (of_decide_eq_false Hcb.out)])
        obtain ⟨Y, hY⟩ : ∃ Y, w2.heap.size = Y := ⟨_, rfl⟩
        have hba := (Below.refl w2.heap.size w2).alloc (Nat.le_refl _) (.cells #[.pointer (some ⟨X, 0, none⟩), .int .i64 tol, .int .i64 ext] 118)
        have hYa := heap_alloc_new w2 (.cells #[.pointer (some ⟨X, 0, none⟩), .int .i64 tol, .int .i64 ext] 118)
        rw [hY] at hYa
        have HYa := Lib.hid hYa
        have Hba := Lib.hid hba
        clear hYa hba
        go_wp2_with fail
        go_ret2
        exact ⟨fun _ => ⟨Y, X, mb, B, vs, rfl, ⟨HL.out.still Hba.out, HYa.out, HS2.out.below Hba.out⟩, Hmb.out⟩, fun h => absurd hw.out h, Hb2.out.trans (Hba.out.mono Hb2.out.size)⟩
      · subst hb
        have hw := Lib.hid (show tryE P S L s tol ext = 11 by unfold tryE; rw [if_pos HE.out, if_pos (of_decide_eq_true Hcb.out)])
        go_wp2_with fail
        go_ret2
        exact ⟨(fun h => by rw [hw.out] at h; cases h), (fun _ => by rw [hw.out]; rfl), Hb2.out⟩
  · have hne : (E != 0) = true := by simpa using h0
    have hw := Lib.hid (show tryE P S L s tol ext = E by unfold tryE; rw [if_neg (by rw [HE.out]; exact h0), HE.out])
    go_wp2_with (go_at_call 38; refine HO.out.mono ?_; clear HO; rintro e w2 ho; obtain rfl := ho.bad h0; have hb2 := ho.below; clear ho)
    go_ret2
    exact ⟨(fun h => absurd (hw.out.symm.trans h) h0), (fun _ => by rw [hw.out]; rfl), Hb0.out.trans (hb2.mono Hb0.out.size)⟩
end Go.Proofs.YtiijpbfkchokaaaGreat
