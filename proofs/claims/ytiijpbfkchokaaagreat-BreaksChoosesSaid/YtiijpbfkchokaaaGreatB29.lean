/-
  One more way to a break: the program's ways$1.
-/
import Derived.Test.YtiijpbfkchokaaaGreatL5
import Derived.Test.YtiijpbfkchokaaaGreatB28
import Derived.Test.YtiijpbfkchokaaaGreatTame4
import Derived.Great.BuildSlice
import Derived.BigRegion
import Derived.RegionTactic
import Derived.Outline
namespace Go.Proofs.YtiijpbfkchokaaaGreat
open Go.ChangeShapes Go.WideShapes Go.ChangeAt Go.RowKit
attribute [local go_sem ↓] Go.wp_at_zero Go.wp_at_succ
structure ReachPost (w0 : World) (N Y n : Nat) (all : Bool) (vals : Nat → Value) (E : Nat → List Wy) (k ck : Nat) (l : List Wy) (e : Ending) (w' : World) : Prop where
  ret : e = .returned (.tuple #[])
  out : ∃ vals' D', WaI w0 N Y n all vals' D' (upE E k l) w' ∧ ∀ j, j ≠ k → vals' j = vals j
  ck : w'.heap[ck]? = some (.cells #[.int .i64 k] 3 (0, 0))
structure RcI (w0 : World) (N Y n : Nat) (all : Bool) (vals : Nat → Value) (D : List (St3 × Nat)) (E : Nat → List Wy) (k ck SB : Nat) (st : St3) (po : Option Nat) (a : Wy) (W : World) : Prop where
  wa : WaI w0 N Y n all vals D E W
  ck : W.heap[ck]? = some (.cells #[.int .i64 k] 3 (0, 0))
  st : W.heap[SB]? = some (.cells st.arr 122 (0, 0))
  po : (po = none ∧ a = Wy.start) ∨ ∃ p, po = some p ∧ WayAt W p a
theorem RcI.still {w0 : World} {N Y n : Nat} {all : Bool} {vals : Nat → Value} {D : List (St3 × Nat)} {E : Nat → List Wy} {k ck SB : Nat} {st : St3} {po : Option Nat} {a : Wy} {W W' : World} (h : RcI w0 N Y n all vals D E k ck SB st po a W) (hb : Below W.heap.size W W') : RcI w0 N Y n all vals D E k ck SB st po a W' :=
  ⟨h.wa.still hb, (hb.block _ (Array.getElem?_eq_some_iff.1 h.ck).1).trans h.ck, (hb.block _ (Array.getElem?_eq_some_iff.1 h.st).1).trans h.st, h.po.imp id fun ⟨p, h1, h2⟩ => ⟨p, h1, h2.keep (.of_below hb)⟩⟩
theorem info_stb : (Tryz.prog.info? 122).map (fun i => (i.zero, i.size, i.bytes)) = some (some (.agg (St3.mk 0 0 0).arr), 3, 24) := by kernel_rfl
theorem info_stz : (Tryz.prog.info? 122).map (fun i => (i.zero, i.size)) = some (some (.agg (St3.mk 0 0 0).arr), 3) := by kernel_rfl
theorem of_step {P : Program} {ops : Array Oper} {o : Oper} {a : Act} {w : World} {K : Act → World → Prop} {Q : Exit → Act → World → Prop} (hg : o.guard = none) (h : if Region.wanted o (yielded ops a.tmps) = true then Oper.wp P o a w K Q else True) : Oper.wp P o a w K Q := by
  rwa [if_pos (by simp [Region.wanted, hg])] at h
def bsSt1 (parts : Array (Nat × Value)) : Sem Value := Instr.buildSlice 125 1 parts
@[go_sem ↓] theorem execOp_bsSt1 (ρ : Operand → Value) (dst : Option Tmp) (x : Array (Nat × Operand)) (ty : TypeId) (pos : String) (after : Array Edge) (guard : Option (Nat × Bool)) :
    execOp ρ { dst, op := .buildSlice 125 1 x, type := ty, pos, after, guard } = (do pure (.value (← bsSt1 (x.map fun (i, y) => (i, ρ y))))) := rfl
theorem fill_st1 (n : St3) : Instr.fill (fun i => some (i * 3, 3)) ((Array.range (1 * 3)).map ((Value.agg (St3.mk 0 0 0).arr).cells[· % (Value.agg (St3.mk 0 0 0).arr).cells.size]!)) [(0, .agg n.arr)] = some n.arr := by kernel_rfl
@[go_sem] theorem run_bsSt1 (n : St3) (w : World) : (bsSt1 #[(0, .agg n.arr)]).run Tryz.prog w = .ok (.slice (some ⟨w.heap.size, 0, none⟩) 1 1) (w.alloc (.cells n.arr 122)) := by
  obtain ⟨i, hi, hzz⟩ := Option.map_eq_some_iff.1 info_stz
  simp only [Prod.mk.injEq] at hzz
  obtain ⟨hz, hs⟩ := hzz
  refine run_buildSlice w _ 122 1 _ n.arr i (.agg (St3.mk 0 0 0).arr) Tryz.underlying125 hi hz (by rw [hs]; decide) (by rw [hs]; decide) ?_
  rw [hs]
  exact fill_st1 n
theorem WB.set0 {W : World} {p : Nat} {ov bd tt : Int} {pa : Option Nat} {x n : Int} (h : WB W p ov bd tt pa x n) (y : Int) : WB (W.setCell ⟨p, 0, none⟩ (.int .i64 y)) p y bd tt pa x n := by
  unfold WB
  rw [heap_setCell_same _ _ _ _ _ _ h]
  rfl
theorem WB.set1 {W : World} {p : Nat} {ov bd tt : Int} {pa : Option Nat} {x n : Int} (h : WB W p ov bd tt pa x n) (y : Int) : WB (W.setCell ⟨p, 1, none⟩ (.int .i64 y)) p ov y tt pa x n := by
  unfold WB
  rw [heap_setCell_same _ _ _ _ _ _ h]
  rfl
theorem WB.set2 {W : World} {p : Nat} {ov bd tt : Int} {pa : Option Nat} {x n : Int} (h : WB W p ov bd tt pa x n) (y : Int) : WB (W.setCell ⟨p, 2, none⟩ (.int .i64 y)) p ov bd y pa x n := by
  unfold WB
  rw [heap_setCell_same _ _ _ _ _ _ h]
  rfl
set_option maxRecDepth 100000 in
set_option maxHeartbeats 8000000 in
theorem vreach (Y X mb B : Nat) (P : Pm) (vs : Nat → Value) (L : List Nd) (b off cap : Nat) (p0 : Option Addr) (s : List Nat) (g off2 : Nat) (S : List Sh2) (tol ext : Int) (hok : TryOk P S L s tol ext) (w0 : World) (ht : TryIn w0 Y X mb B P vs L b off cap p0 s g off2 S tol ext)
    (N n : Nat) (hn : (brkP L P s).length = n) (all : Bool) (k ck : Nat) (x : Nat × Int) (hx : (brkP L P s)[k]? = some x) (f : Option Nat) (hf : ∀ y, f = some y → y ∈ s ∧ y < x.1) (a : Wy) (ha : WyB k a) (st : St3) (hs1 : st.line = a.ats.length) (hs2 : st.cls = a.cls) (po : Option Nat)
    (vals : Nat → Value) (D : List (St3 × Nat)) (E : Nat → List Wy) (w : World) (h : WaI w0 N Y n all vals D E w) (hck : w.heap[ck]? = some (.cells #[.int .i64 k] 3 (0, 0))) (hckN : N + 6 ≤ ck) (hpo : (po = none ∧ a = Wy.start) ∨ ∃ p, po = some p ∧ WayAt w p a) :
    Calls Tryz.prog 54 #[.int .i64 (fI f), .agg st.arr, ptrO po, .pointer (some ⟨N, 0, none⟩), .pointer (some ⟨ck, 0, none⟩), .pointer (some ⟨N + 1, 0, none⟩), .pointer (some ⟨N + 3, 0, none⟩), .pointer (some ⟨N + 5, 0, none⟩)] w
      (ReachPost w0 N Y n all vals E k ck (extW (oneP L P S s tol ext) all f x (E k) a)) := by
  obtain ⟨to_, q⟩ := x
  simp only at hf
  have hkn : k < n := by rw [← hn]; exact (List.getElem?_eq_some_iff.1 hx).1
  have hnl : n ≤ 2001 := by
    rw [← hn]
    have := brkP_len (L := L) (P := P) (s := s)
    have := hok.items.len
    have := (checkC_zero hok.chk).1
    omega
  obtain ⟨p2, c2, e2⟩ := owns_form (ht.para.para.rows 2 (by decide))
  have hna : (atsI (brkP L P s)).length = n := by rw [← hn]; simp [atsI]
  have hpa : pxN (s ++ [L.length]) (sumsP L s) (atsI (brkP L P s)) (pensI (brkP L P s)) 2 = n := hna
  rw [hpa] at e2
  have hr2 := ht.para.para.rows 2 (by decide)
  rw [e2, hpa] at hr2
  obtain ⟨g2, rfl, hx2, hc2, hcg2⟩ := zin_get9 (l := atsI (brkP L P s)) (i := k) hr2 (by rw [hna]; exact hkn)
  clear hx2 hcg2
  have HR : Hid (∀ W, Below w0.heap.size w0 W → W.cell? ⟨Y, 0, none⟩ = some (.pointer (some ⟨X, 0, none⟩)) ∧ W.cell? ⟨X, 28, none⟩ = some (.slice (some ⟨g2, 0, none⟩) n c2) ∧ W.cell? ⟨g2, k, none⟩ = some (.int .i64 to_)) := Lib.hid fun W hb => by
    have h9 := ht.still hb
    refine ⟨h9.cell.1, ?_, ?_⟩
    · have := h9.para.para.cell 28 (vs 2) rfl
      rw [e2] at this
      exact this
    · have hr9 := h9.para.para.rows 2 (by decide)
      rw [e2, hpa] at hr9
      obtain ⟨g9, q1, _, _, q4⟩ := zin_get9 (l := atsI (brkP L P s)) (i := k) hr9 (by rw [hna]; exact hkn)
      cases q1
      rw [q4]
      have : (atsI (brkP L P s))[k]? = some (to_ : Int) := by unfold atsI; rw [List.getElem?_map, hx]; rfl
      rw [(List.getElem?_eq_some_iff.1 this).2]
  have hla : st.line = (a.ats.length : Int) := hs1
  have hlen := ha.len
  obtain ⟨bk, hbk⟩ : ∃ bk, oneP L P S s tol ext f (to_, q) (st.line + 1) st.cls = bk := ⟨_, rfl⟩
  have hbB : BkB bk := by rw [← hbk]; exact one_bound hok (fun y hy => (hf y hy).1) (List.mem_of_getElem? hx) _ _
  have HO : Hid (∀ W, Below w0.heap.size w0 W → Calls Tryz.prog 55 #[.pointer (some ⟨Y, 0, none⟩), .int .i64 (fI f), .int .i64 k, .int .i64 (st.line + 1), .int .i64 st.cls] W fun e w' => e = .returned (.agg bk.arr) ∧ Below W.heap.size W w') := Lib.hid fun W hb => by
    have h1 := vone Y X mb B P vs L b off cap p0 s g off2 S tol ext hok f k (to_, q) hx hf (st.line + 1) st.cls (by omega) (by have := ha.cls; omega) W (ht.still hb)
    rw [hbk] at h1
    exact h1
  have HX9 : Hid (extW (oneP L P S s tol ext) all f (to_, q) (E k) a = if (bk.isBad && !all) = true then E k else addW (E k) (a.ext to_ bk)) := Lib.hid (by unfold extW; rw [← hla, ← hs2, hbk])
  obtain ⟨SB, hSB⟩ : ∃ SB, w.heap.size = SB := ⟨_, rfl⟩
  have hb0 : Below w.heap.size w (w.alloc (.cells st.arr 122)) := (Below.refl _ _).alloc (Nat.le_refl _) _
  have hI : RcI w0 N Y n all vals D E k ck SB st po a (w.alloc (.cells st.arr 122)) :=
    ⟨h.still hb0, (hb0.block _ (Array.getElem?_eq_some_iff.1 hck).1).trans hck, by rw [← hSB]; exact heap_alloc_new w _, hpo.imp id fun ⟨p, h1, h2⟩ => ⟨p, h1, h2.keep (.of_below hb0)⟩⟩
  have hSBk : ck < SB := by rw [← hSB]; exact (Array.getElem?_eq_some_iff.1 hck).1
  have HI := Lib.hid hI
  have HbB := Lib.hid hbB
  have Ha := Lib.hid ha
  have HS := Lib.hid (And.intro hs1 hs2)
  have hl0 : 0 ≤ st.line := by omega
  have hl1 : st.line ≤ 2001 := by omega
  clear h hck hpo hb0 hI hx hf ha hbk hbB e2 hna hpa hr2 hs1 hs2 hla hlen ht hok hn
  rw [ptrO_eq]
  go_enter Tryz.func54, Tryz.ntmps54
  go_upto_region 1 with (fail)
  clear hSB
  generalize w.alloc (.cells st.arr 122) = w1 at HI ⊢
  have y1 : w1.cell? ⟨N, 0, none⟩ = some (.pointer (some ⟨Y, 0, none⟩)) := by rw [cell?_blk' HI.out.wa.cx]; rfl
  have y2 : w1.cell? ⟨ck, 0, none⟩ = some (.int .i64 k) := by rw [cell?_blk' HI.out.ck]; rfl
  have y3 : w1.cell? ⟨SB, 1, none⟩ = some (.int .i64 st.line) := by rw [cell?_blk' HI.out.st]; rfl
  have y4 : w1.cell? ⟨SB, 2, none⟩ = some (.int .i64 st.cls) := by rw [cell?_blk' HI.out.st]; rfl
  have HO1 := Lib.hid (HO.out w1 HI.out.wa.below)
  clear HO
  go_upto_region 2 with (go_at_call 55; refine HO1.out.mono ?_; rintro e w3 ⟨rfl, hb3⟩)
  have hba := (Below.refl w3.heap.size w3).alloc (Nat.le_refl _) (.cells bk.arr 91)
  have hb3' := hb3.trans (hba.mono hb3.size)
  obtain ⟨VB, hVB⟩ : ∃ VB, w3.heap.size = VB := ⟨_, rfl⟩
  have hV4 : BkAt (w3.alloc (.cells bk.arr 91)) VB bk := by rw [← hVB]; exact heap_alloc_new w3 _
  have hI4 := HI.out.still hb3'
  have hSV : SB < VB := by rw [← hVB]; exact Nat.lt_of_lt_of_le (Array.getElem?_eq_some_iff.1 HI.out.st).1 hb3.size
  rw [hVB]
  have HI4 := Lib.hid hI4
  have HV4 := Lib.hid hV4
  clear y1 y2 y3 y4 HO1 hba hb3 hb3' hVB hV4 hI4 HI
  generalize w3.alloc (.cells bk.arr 91) = w4 at HI4 HV4 ⊢
  obtain ⟨cb, hcb⟩ : ∃ cb, (bk.isBad && !all) = cb := ⟨_, rfl⟩
  have Hcb := Lib.hid hcb
  rw [hcb] at HX9
  have y5 : w4.cell? ⟨VB, 5, none⟩ = some (.bool bk.isBad) := HV4.out.cell 5 _ rfl
  have y6 : w4.cell? ⟨N + 1, 0, none⟩ = some (.bool all) := by rw [cell?_blk' HI4.out.wa.ca]; rfl
  clear hcb
  go_cut [30] from 25 to 30 (fun s30 wx => s30 = .bool cb ∧ w4 = wx)
  case first =>
    have h1 := Hcb.out
    cases hib : bk.isBad
    · rw [hib] at h1 y5
      have e1 : cb = false := by rw [← h1]; rfl
      subst e1
      clear h1
      go_wp2_with fail
      go_meet
      exact ⟨rfl, rfl⟩
    · rw [hib] at h1 y5
      have e1 : (!all) = cb := by rw [← h1]; rfl
      clear h1
      go_wp2_with fail
      go_meet
      exact ⟨rfl, rfl⟩
  case rest =>
    obtain ⟨rfl, rfl⟩ := hcut
    clear y5 y6
    cases hb : cb
    case true =>
      subst hb
      have HX2 := Lib.hid (HX9.out.trans (if_pos rfl))
      clear HX9
      go_wp2_with fail
      refine ⟨rfl, _, results_none rfl _ _ _, ⟨rfl, ⟨vals, D, ?_, fun _ _ => rfl⟩, HI4.out.ck⟩⟩
      rw [HX2.out, upE_same]
      exact HI4.out.wa
    case false =>
      subst hb
      have HX2 := Lib.hid (HX9.out.trans (if_neg (by decide)))
      clear HX9
      go_upto_region 3 with (fail)
      refine Rest.region follows ?_
      refine Rest.tame 18 (fun W => w4.drew = W) (by kernel_rfl) rfl ?_
      simp only [Nat.reduceSub, List.drop_zero, List.take_succ_cons, List.take_zero]
      have hI5 := HI4.out.still ((Below.refl _ _).drew)
      have hV5 : BkAt w4.drew VB bk := HV4.out
      obtain ⟨y0, y28, yg⟩ := HR.out _ hI5.wa.below
      have z0 := hV5.cell 4 _ rfl
      have z1 := hV5.cell 3 _ rfl
      have z2 : w4.drew.cell? ⟨N, 0, none⟩ = some (.pointer (some ⟨Y, 0, none⟩)) := by rw [cell?_blk' hI5.wa.cx]; rfl
      have z3 : w4.drew.cell? ⟨ck, 0, none⟩ = some (.int .i64 k) := by rw [cell?_blk' hI5.ck]; rfl
      have z4 : w4.drew.cell? ⟨SB, 1, none⟩ = some (.int .i64 st.line) := by rw [cell?_blk' hI5.st]; rfl
      have hk0 : (0 : Int) ≤ (k : Int) := by omega
      have hk1 : (k : Int) < (n : Int) := by omega
      have HI5 := Lib.hid hI5
      have HV5 := Lib.hid hV5
      clear hI5 hV5 HI4 HV4
      generalize w4.drew = w5 at HI5 HV5 y0 y28 yg z0 z1 z2 z3 z4 ⊢
      iterate 18 first
        | (refine TW.cons_n rfl _ (by intro wT hT R hR K hK; simp only [Act.put, lsA, lsB, lsC] at hK; subst hT; go_step; exact hK _ _ (hR _ rfl)) ?_; try simp only [Act.put, lsA, lsB, lsC])
      refine TW.nil fun w6 h6 => ?_
      subst h6
      refine Rest.seq (by kernel_rfl) ?_
      simp only [List.drop_succ_cons, List.drop_zero]
      go_upto_region 4 with (fail)
      obtain ⟨WP, hWP⟩ : ∃ WP, w5.heap.size = WP := ⟨_, rfl⟩
      have hba := (Below.refl w5.heap.size w5).alloc (Nat.le_refl _) (.cells (wayArr bk.over 0 bk.dem (ptrO po) to_ (st.line + 1)) 79)
      have hI6 := HI5.out.still hba
      have hV6 := HV5.out.still hba
      have hW6 : WB (w5.alloc (.cells (wayArr bk.over 0 bk.dem (ptrO po) to_ (st.line + 1)) 79)) WP bk.over 0 bk.dem po to_ (st.line + 1) := by rw [← hWP]; exact heap_alloc_new w5 _
      have hVW : VB < WP := by rw [← hWP]; exact HV5.out.lt
      have hpW : Hid (∀ p, po = some p → p < WP) := Lib.hid fun p hp => by
        rcases HI5.out.po with ⟨h1, _⟩ | ⟨p', h1, h2⟩
        · rw [h1] at hp; cases hp
        · rw [h1] at hp; cases hp; rw [← hWP]; exact h2.lt
      rw [hWP, ← ptrO_eq]
      have HWP := Lib.hid hWP
      have hb56 : Below w5.heap.size w5 (w5.alloc (.cells (wayArr bk.over 0 bk.dem (ptrO po) to_ (st.line + 1)) 79)) := hba
      clear hWP hba y0 y28 yg z0 z1 z2 z3 z4
      generalize w5.alloc (.cells (wayArr bk.over 0 bk.dem (ptrO po) to_ (st.line + 1)) 79) = w6 at hI6 hV6 hW6 hb56 ⊢
      have Hb56 := Lib.hid hb56
      clear hb56
      have HI6 := Lib.hid hI6
      have HV6 := Lib.hid hV6
      have HW6 := Lib.hid hW6
      clear hI6 hV6 hW6
      go_cut [52] from 51 to 52 (fun s52 wx => s52 = .bool po.isSome ∧ w6 = wx)
      case first =>
        cases hpo : po
        · subst hpo
          simp only [ptrO]
          go_wp2_with fail
          go_meet
          exact ⟨rfl, rfl⟩
        · subst hpo
          simp only [ptrO]
          go_wp2_with fail
          go_meet
          exact ⟨rfl, rfl⟩
      case rest =>
        obtain ⟨rfl, rfl⟩ := hcut
        go_upto_if 52 with (fail)
        go_cut [] from 53 to 79 (fun wx => Below w5.heap.size w5 wx ∧ WB wx WP (a.over + bk.over) a.bad (a.total + bk.dem) po to_ (st.line + 1))
        case first =>
          rcases HI6.out.po with ⟨rfl, hst⟩ | ⟨p, rfl, hwa⟩
          · have e1 : a.over = 0 ∧ a.bad = 0 ∧ a.total = 0 := by rw [hst]; exact ⟨rfl, rfl, rfl⟩
            have E1 := Lib.hid e1
            clear e1 hst
            simp only [Option.isSome_none]
            go_wp2_with fail
            go_meet
            rw [E1.out.1, E1.out.2.1, E1.out.2.2, Int.zero_add, Int.zero_add]
            exact ⟨Hb56.out, HW6.out⟩
          · have h3 := hwa.three
            have hpl := hpW.out p rfl
            have q0 := h3.over
            have q1 := h3.bad
            have q2 := h3.total
            have z3 : w6.cell? ⟨VB, 3, none⟩ = some (.int .i64 bk.dem) := HV6.out.cell 3 _ rfl
            have z4 : w6.cell? ⟨VB, 4, none⟩ = some (.int .i64 bk.over) := HV6.out.cell 4 _ rfl
            have v0 := HW6.out.cell 0 _ rfl
            have v1 := HW6.out.cell 1 _ rfl
            have v2 := HW6.out.cell 2 _ rfl
            have f0 := frozen_of_row w6 WP 0 _ _ HW6.out
            have f1 := frozen_of_row w6 WP 1 _ _ HW6.out
            have f2 := frozen_of_row w6 WP 2 _ _ HW6.out
            have ho1 := Ha.out.over
            have ho2 := Ha.out.total
            have ho3 := Ha.out.len
            have ho4 := HbB.out.over
            have ho5 := HbB.out.dem
            have hs1 : IntKind.i64.wrap (a.over + bk.over) = a.over + bk.over := Go.IntWalk.i64_in _ (by omega)
            have hs2 : IntKind.i64.wrap (a.total + bk.dem) = a.total + bk.dem := Go.IntWalk.i64_in _ (by omega)
            have hne1 : p ≠ WP := by omega
            have hne2 : VB ≠ WP := by omega
            clear ho1 ho2 ho3 ho4 ho5 h3
            simp only [ptrO, Option.isSome_some]
            go_upto_region 5 with (fail)
            go_region
            have hbF := ((((Hb56.out.setCell (p := ⟨WP, 0, none⟩) (by rw [HWP.out]; exact Nat.le_refl _) (.int .i64 (a.over + bk.over))).setCell (p := ⟨WP, 1, none⟩) (by rw [HWP.out]; exact Nat.le_refl _) (.int .i64 a.bad)).setCell (p := ⟨WP, 2, none⟩) (by rw [HWP.out]; exact Nat.le_refl _) (.int .i64 (a.total + bk.dem))).drew)
            have hWF := ((HW6.out.set0 (a.over + bk.over)).set1 a.bad).set2 (a.total + bk.dem)
            clear q0 q1 q2 z3 z4 v0 v1 v2 f0 f1 f2 hs1 hs2 hne1 hne2 hpl
            go_wp2_with fail
            go_meet
            exact ⟨hbF, hWF⟩
        case rest =>
          clear HI6 HV6 HW6 Hb56
          obtain ⟨hb7, hW7⟩ := hcut
          have Hb7 := Lib.hid hb7
          have HW7 := Lib.hid hW7
          have y5 : wc.cell? ⟨VB, 5, none⟩ = some (.bool bk.isBad) := (HV5.out.still hb7).cell 5 _ rfl
          have v1 : wc.cell? ⟨WP, 1, none⟩ = some (.int .i64 a.bad) := hW7.cell 1 _ rfl
          have f1 := frozen_of_row wc WP 1 _ _ hW7
          have ho3 := Ha.out.bad
          have ho4 := Ha.out.len
          have hs1 : IntKind.i64.wrap (a.bad + 1) = a.bad + 1 := Go.IntWalk.i64_in _ (by omega)
          clear hb7 hW7
          go_upto_if 81 with (fail)
          go_cut [] from 80 to 88 (fun wx => Below w5.heap.size w5 wx ∧ WB wx WP (a.over + bk.over) (a.bad + (if bk.isBad then 1 else 0)) (a.total + bk.dem) po to_ (st.line + 1))
          case first =>
            cases hib : bk.isBad
            · clear y5 hs1 ho3 ho4
              go_wp2_with fail
              go_meet
              rw [hib]
              refine ⟨Hb7.out, ?_⟩
              have := HW7.out
              simpa using this
            · have hbF := Hb7.out.setCell (p := ⟨WP, 1, none⟩) (by rw [HWP.out]; exact Nat.le_refl _) (.int .i64 (a.bad + 1))
              have hWF := HW7.out.set1 (a.bad + 1)
              go_wp2_with fail
              go_meet
              rw [hib]
              exact ⟨hbF, hWF⟩
          case rest =>
            clear Hb7 HW7 y5 v1 f1 ho3 ho4 hs1
            obtain ⟨hb8, hW8⟩ := hcut
            obtain ⟨a2, ha2⟩ : ∃ a2, a.ext to_ bk = a2 := ⟨_, rfl⟩
            have hrev : a2.ats.reverse = to_ :: a.ats.reverse := by rw [← ha2]; simp [Wy.ext]
            have hI8 := HI5.out.still hb8
            have hV8 := HV5.out.still hb8
            have hWA : WayAt wc WP a2 := by
              refine ⟨to_, a.ats.reverse, po, hrev, ?_, ?_⟩
              · have e1 : st.line + 1 = ((a.ats.reverse.length + 1 : Nat) : Int) := by rw [List.length_reverse, HS.out.1]; omega
                rw [← e1, ← ha2]
                exact hW8
              · rcases hI8.po with ⟨h1, h2⟩ | ⟨p, h1, h2⟩
                · rw [h1, h2]; exact .nil
                · rw [h1]; exact h2.chain
            have hB2 : WyB (k + 1) a2 := by rw [← ha2]; exact Ha.out.ext HbB.out to_
            have hkey : (St3.mk (k : Int) (st.line + 1) bk.cls) = stOf k a2 := by
              rw [← ha2]
              simp only [stOf, Wy.ext, List.length_append, List.length_singleton, HS.out.1]
              congr 1
            rw [ha2] at HX2
            have HI8 := Lib.hid hI8
            have HV8 := Lib.hid hV8
            have HWA := Lib.hid hWA
            have HB2 := Lib.hid hB2
            have HKey := Lib.hid hkey
            have y2 : wc.cell? ⟨VB, 2, none⟩ = some (.int .i64 bk.cls) := hV8.cell 2 _ rfl
            have z3 : wc.cell? ⟨ck, 0, none⟩ = some (.int .i64 k) := by rw [cell?_blk' hI8.ck]; rfl
            have z4 : wc.cell? ⟨SB, 1, none⟩ = some (.int .i64 st.line) := by rw [cell?_blk' hI8.st]; rfl
            clear hb8 hW8 hrev ha2 hI8 hV8 hWA hB2 hkey HI5 HV5 hpW
            go_upto_region 9 with (fail)
            rw [HKey.out]
            obtain ⟨key, hkey⟩ : ∃ key, stOf k a2 = key := ⟨_, rfl⟩
            have HKy := Lib.hid hkey
            rw [hkey]
            obtain ⟨TB, hTB⟩ : ∃ TB, wc.heap.size = TB := ⟨_, rfl⟩
            have hba := (Below.refl wc.heap.size wc).alloc (Nat.le_refl _) (.cells key.arr 122)
            have HI9 := Lib.hid (HI8.out.still hba)
            have HWA9 := Lib.hid (HWA.out.keep (.of_below hba))
            have hTB9 : (wc.alloc (.cells key.arr 122)).heap[TB]? = some (.cells key.arr 122 (0, 0)) := by rw [← hTB]; exact heap_alloc_new wc _
            have hTW : WP < TB := by rw [← hTB]; exact HWA.out.lt
            have hTc : ck < TB := by rw [← hTB]; exact (Array.getElem?_eq_some_iff.1 HI8.out.ck).1
            rw [hTB]
            have HrT : Hid (∀ q, (vals k).ownBlock = some q → q < TB) := Lib.hid fun q hq => by have h1 := (HI8.out.wa.row_ge hkn hq).2; omega
            have HTB := Lib.hid hTB
            clear y2 z3 z4 hTB hba hkey HKey HI8 HWA HV8
            generalize wc.alloc (.cells key.arr 122) = w9 at HI9 HWA9 hTB9 ⊢
            have HTb9 := Lib.hid hTB9
            have v3 : w9.cell? ⟨N + 3, 0, none⟩ = some (.map (some (N + 2))) := by rw [cell?_blk' HI9.out.wa.cb]; rfl
            have aT : agg? w9 TB 0 3 = some key.arr := by rw [agg?_blk' hTB9 0 3 (by simp [St3.size_arr])]; simp [St3.arr, St3.cells]
            have hlk := run_lookStOk HI9.out.wa.map key
            clear hTB9
            cases hgs : getS D key with
            | none =>
              rw [hgs] at hlk
              have Hgs := Lib.hid hgs
              clear hgs
              go_upto_region 11 with (fail)
              clear hlk
              obtain ⟨pv, cv, ev⟩ := owns_form (HI9.out.wa.rows k hkn)
              obtain ⟨ln, hln⟩ : ∃ ln, (E k).length = ln := ⟨_, rfl⟩
              rw [hln] at ev
              have Hln := Lib.hid hln
              have Ev := Lib.hid ev
              have hbd : Below w9.heap.size w9 w9.drew := (Below.refl _ w9).drew
              have hI10 := HI9.out.still hbd
              have hI11 := HI9.out.still (hbd.alloc hbd.size (.cells key.arr 122))
              have cell4 : ∀ {W : World}, RcI w0 N Y n all vals D E k ck SB st po a W → W.cell? ⟨N + 5, 0, none⟩ = some (.slice (some ⟨N + 4, 0, none⟩) n n) ∧ W.cell? ⟨ck, 0, none⟩ = some (.int .i64 k) ∧ W.cell? ⟨N + 4, k, none⟩ = some (.slice pv ln cv) := fun {W} hW => by
                refine ⟨by rw [cell?_blk' hW.wa.co]; rfl, by rw [cell?_blk' hW.ck]; rfl, ?_⟩
                rw [cell?_blk' hW.wa.ob, ← Ev.out]
                rw [List.getElem?_toArray, List.getElem?_map, List.getElem?_range hkn]
                rfl
              obtain ⟨x5, xk, x4⟩ := cell4 hI10
              obtain ⟨x5b, xkb, x4b⟩ := cell4 hI11
              have aTd : agg? w9.drew TB 0 3 = some key.arr := aT
              have x5b' : (w9.alloc (.cells key.arr 122)).drew.cell? ⟨N + 5, 0, none⟩ = some (.slice (some ⟨N + 4, 0, none⟩) n n) := x5b
              have xkb' : (w9.alloc (.cells key.arr 122)).drew.cell? ⟨ck, 0, none⟩ = some (.int .i64 k) := xkb
              have x4b' : (w9.alloc (.cells key.arr 122)).drew.cell? ⟨N + 4, k, none⟩ = some (.slice pv ln cv) := x4b
              obtain ⟨i0, hi0', hz0, hz1, hz2'⟩ := info_parts info_stb
              have hrow := hI11.wa.rows k hkn
              rw [ev, hln] at hrow
              have Hrow : Hid ((w9.drew.alloc (.cells key.arr 122)).ownsRow (N + 6) 122 3 (.slice pv ln cv) ln ((E k).flatMap fun z => (stOf k z).cells)) := Lib.hid hrow
              have H1 : Hid (∀ u ∈ key.cells, u.oneCell' = true) := Lib.hid (by have := St3.one key; simp only [St3.arr] at this; simpa using this)
              have hlb : ln ≤ 100000 := by
                have h1 := HI9.out.wa.len hkn
                rw [Hln.out] at h1
                omega
              have hbase : N + 6 ≤ (w9.drew.alloc (.cells key.arr 122)).heap.size := by
                have h1 := (Array.getElem?_eq_some_iff.1 hI11.ck).1
                omega
              have Hob : Hid (∀ w11, (w9.drew.alloc (.cells key.arr 122)).grownBy w11 (Value.slice pv ln cv).ownBlock → w11.cell? ⟨N + 4, k, none⟩ = some (.slice pv ln cv) ∧ w11.frozen? ⟨N + 4, k, none⟩ = false ∧ w11.cell? ⟨N + 5, 0, none⟩ = some (.slice (some ⟨N + 4, 0, none⟩) n n) ∧ w11.cell? ⟨ck, 0, none⟩ = some (.int .i64 k)) := Lib.hid fun w11 hg => by
                have h2 : w11.heap[N + 4]? = _ := (hg.block (N + 4) (Array.getElem?_eq_some_iff.1 hI11.wa.ob).1 (fun e => by
                  rw [← Ev.out] at e
                  have := (hI11.wa.row_ge hkn e.symm).1
                  omega)).trans hI11.wa.ob
                have h5 : w11.heap[N + 5]? = _ := (hg.block (N + 5) (Array.getElem?_eq_some_iff.1 hI11.wa.co).1 (fun e => by
                  rw [← Ev.out] at e
                  have := (hI11.wa.row_ge hkn e.symm).1
                  omega)).trans hI11.wa.co
                have h6 : w11.heap[ck]? = _ := (hg.block ck (Array.getElem?_eq_some_iff.1 hI11.ck).1 (fun e => by
                  rw [← Ev.out] at e
                  obtain ⟨cur, hc⟩ := row_typ (hI11.wa.rows k hkn) e.symm
                  rw [hI11.ck] at hc
                  simp only [Option.some.injEq, Obj.cells.injEq] at hc
                  exact absurd hc.2.1 (by decide))).trans hI11.ck
                refine ⟨?_, frozen_of_row w11 (N + 4) k _ _ h2, by rw [cell?_blk' h5]; rfl, by rw [cell?_blk' h6]; rfl⟩
                rw [cell?_blk' h2, ← Ev.out]
                rw [List.getElem?_toArray, List.getElem?_map, List.getElem?_range hkn]
                rfl
              have HI10 := Lib.hid hI10
              have HI11 := Lib.hid hI11
              clear ev hln hbd hI10 hI11 cell4 hrow v3 aT x5b xkb x4b
              have hTB9 := HTb9.out
              refine Rest.region follows ?_
              refine Rest.mix 7 9 (fun W => W.cell? ⟨N + 5, 0, none⟩ = some (.slice (some ⟨N + 4, 0, none⟩) n n) ∧ W.cell? ⟨ck, 0, none⟩ = some (.int .i64 k) ∧ W.cell? ⟨N + 4, k, none⟩ = some (.slice pv ln cv) ∧ agg? W TB 0 3 = some key.arr) (by kernel_rfl) ⟨x5, xk, x4, aTd⟩ ?_
              simp only [Nat.reduceSub, List.drop_zero, List.take_succ_cons, List.take_zero]
              iterate 7 first
                | (refine TL.cons_n rfl _ (by intro wT hT K hK; simp only [Act.put, lsA, lsB, lsC] at hK; obtain ⟨t5, tk, t4, ta⟩ := hT; go_step; exact hK _ rfl) ?_; try simp only [Act.put, lsA, lsB, lsC])
              refine TL.nil ?_
              simp only [List.drop_succ_cons, List.drop_zero, List.take_succ_cons, List.take_zero]
              refine BW.step rfl fun R hR => ?_
              simp only [Act.put, lsA, lsB, lsC] at hR
              go_step
              have aTe : agg? (w9.alloc (.cells key.arr 122)).drew TB 0 3 = some key.arr := by
                have h1 : (w9.alloc (.cells key.arr 122)).heap[TB]? = some (.cells key.arr 122 (0, 0)) := (((Below.refl w9.heap.size w9).alloc (Nat.le_refl _) _).block TB (Array.getElem?_eq_some_iff.1 hTB9).1).trans hTB9
                have h2 : agg? (w9.alloc (.cells key.arr 122)) TB 0 3 = some key.arr := by rw [agg?_blk' h1 0 3 (by simp [St3.size_arr])]; simp [St3.arr, St3.cells]
                exact h2
              refine hR _ _ ⟨x5b', xkb', x4b', aTe⟩ ?_
              clear hR R
              obtain ⟨w10, hw10⟩ : ∃ w10, (w9.alloc (.cells key.arr 122)).drew = w10 := ⟨_, rfl⟩
              have hH : w10.heap.size = w9.heap.size + 1 := by rw [← hw10]; show (w9.alloc (.cells key.arr 122)).heap.size = _; simp
              have hnew : w10.heap[w9.heap.size]? = some (.cells key.cells.toArray 122 (0, 0)) := by rw [← hw10]; exact heap_alloc_new w9 _
              have hown : w10.ownsRow (N + 6) 122 3 (.slice pv ln cv) ln ((E k).flatMap fun z => (stOf k z).cells) := by rw [← hw10]; exact Hrow.out
              have Hob2 : Hid (∀ w11, w10.grownBy w11 (Value.slice pv ln cv).ownBlock → w11.cell? ⟨N + 4, k, none⟩ = some (.slice pv ln cv) ∧ w11.frozen? ⟨N + 4, k, none⟩ = false ∧ w11.cell? ⟨N + 5, 0, none⟩ = some (.slice (some ⟨N + 4, 0, none⟩) n n) ∧ w11.cell? ⟨ck, 0, none⟩ = some (.int .i64 k) ∧ w11.heap[TB]? = some (.cells key.arr 122 (0, 0)) ∧ MapV w11 (N + 2) (stM D) ∧ w11.heap[N + 3]? = some (.cells #[.map (some (N + 2))] 119 (0, 0)) ∧ w11.heap[N + 4]? = some (.cells ((List.range n).map vals).toArray 125 (0, 0)) ∧ w11.heap[ck]? = some (.cells #[.int .i64 k] 3 (0, 0))) := Lib.hid fun w11 hg => by
                have hg' : (w9.drew.alloc (.cells key.arr 122)).grownBy w11 (Value.slice pv ln cv).ownBlock := by rw [← hw10] at hg; exact hg
                obtain ⟨c1, c2', c3, c4⟩ := Hob.out w11 hg'
                have hge : ∀ q, (Value.slice pv ln cv).ownBlock = some q → N + 6 ≤ q ∧ q < TB := fun q hq => by
                  rw [← Ev.out] at hq
                  exact ⟨(HI11.out.wa.row_ge hkn hq).1, HrT.out q hq⟩
                refine ⟨c1, c2', c3, c4, ?_, ?_, ?_, ?_, ?_⟩
                · have h1 : w10.heap[TB]? = some (.cells key.arr 122 (0, 0)) := by rw [← hw10]; exact (((Below.refl w9.heap.size w9).alloc (Nat.le_refl _) _).block TB (Array.getElem?_eq_some_iff.1 hTB9).1).trans hTB9
                  exact (hg.block TB (Array.getElem?_eq_some_iff.1 h1).1 (fun e => by have := (hge TB e.symm).2; omega)).trans h1
                · exact HI11.out.wa.map.same (hg'.block _ HI11.out.wa.map.lt (fun e => by have := (hge _ e.symm).1; omega))
                · exact (hg'.block _ (Array.getElem?_eq_some_iff.1 HI11.out.wa.cb).1 (fun e => by have := (hge _ e.symm).1; omega)).trans HI11.out.wa.cb
                · exact (hg'.block _ (Array.getElem?_eq_some_iff.1 HI11.out.wa.ob).1 (fun e => by have := (hge _ e.symm).1; omega)).trans HI11.out.wa.ob
                · refine (hg'.block ck (Array.getElem?_eq_some_iff.1 HI11.out.ck).1 (fun e => by
                    rw [← Ev.out] at e
                    obtain ⟨cur, hc⟩ := row_typ (HI11.out.wa.rows k hkn) e.symm
                    rw [HI11.out.ck] at hc
                    simp only [Option.some.injEq, Obj.cells.injEq] at hc
                    exact absurd hc.2.1 (by decide))).trans HI11.out.ck
              have hbase2 : N + 6 ≤ w10.heap.size := by rw [← hw10]; exact hbase
              have Hw10 : Hid (w10 = w9.drew.alloc (.cells key.arr 122)) := Lib.hid (by rw [← hw10]; rfl)
              rw [hw10]
              clear hw10 x5 xk x4 x5b' xkb' x4b' aTe aTd hbase Hob Hrow
              refine BW.step rfl fun R hR => ?_
              simp only [Act.put, lsA, lsB, lsC] at hR
              refine of_step (ops := #[]) rfl ?_
              refine step_append_lies rfl (.tmp 109) (.tmp 111) 125 rfl (N + 6) 122 i0 (.agg (St3.mk 0 0 0).arr) 3 24 Tryz.underlying125 hi0' hz0 hz1 hz2' rfl (by decide) (.slice pv ln cv) ln ((E k).flatMap fun z => (stOf k z).cells) rfl hown ⟨w9.heap.size, 0, none⟩ 1 1 key.cells rfl rfl (World.news_of_block (cs := key.cells.toArray) hnew) H1.out (by decide) (by unfold maxLen; omega) (by omega) hbase2 _ hH ?_
              intro g11 cap11 w11 hown11 hgrow11 hat11 hlt11
              obtain ⟨c1, c3, c5, c6, hT11, hm11, hb11, ho11, hk11⟩ := Hob2.out w11 hgrow11
              simp only [Act.put, lsA, lsB, lsC]
              have aT11 : agg? w11 TB 0 3 = some key.arr := by rw [agg?_blk' hT11 0 3 (by simp [St3.size_arr])]; simp [St3.arr, St3.cells]
              refine hR _ _ ⟨c5, c6, c1, aT11⟩ ?_
              clear hR R Hob2
              refine BW.nil ?_
              refine Rest.seq (by kernel_rfl) ?_
              simp only [List.drop_succ_cons, List.drop_zero]
              have hTN : TB ≠ N + 4 := by omega
              have v11 : (w11.setCell ⟨N + 4, k, none⟩ (.slice (some ⟨g11, 0, none⟩) (ln + 1) cap11)).cell? ⟨N + 3, 0, none⟩ = some (.map (some (N + 2))) := by rw [cell?_blk' ((Below.heap_setCell _ _ _ _ (by simp only; omega)).trans hb11)]; rfl
              have aT12 : agg? (w11.setCell ⟨N + 4, k, none⟩ (.slice (some ⟨g11, 0, none⟩) (ln + 1) cap11)) TB 0 3 = some key.arr := by rw [agg?_blk' ((Below.heap_setCell _ _ _ _ (by simp only; omega)).trans hT11) 0 3 (by simp [St3.size_arr])]; simp [St3.arr, St3.cells]
              have hm12 : MapV (w11.setCell ⟨N + 4, k, none⟩ (.slice (some ⟨g11, 0, none⟩) (ln + 1) cap11)) (N + 2) (stM D) := hm11.same (Below.heap_setCell _ _ _ _ (by simp only; omega))
              have hg9 : Hid ((w11.setCell ⟨N + 4, k, none⟩ (.slice (some ⟨g11, 0, none⟩) (ln + 1) cap11)).grownBy (w11.setCell ⟨N + 4, k, none⟩ (.slice (some ⟨g11, 0, none⟩) (ln + 1) cap11)) none) := Lib.hid (.refl _ _)
              have hk12 : (w11.setCell ⟨N + 4, k, none⟩ (.slice (some ⟨g11, 0, none⟩) (ln + 1) cap11)).heap[ck]? = some (.cells #[.int .i64 k] 3 (0, 0)) := (Below.heap_setCell _ _ _ _ (by simp only; omega)).trans hk11
              go_upto_region 12 with (fail)
              obtain ⟨w12, hw12⟩ : ∃ w12, w11.setCell ⟨N + 4, k, none⟩ (.slice (some ⟨g11, 0, none⟩) (ln + 1) cap11) = w12 := ⟨_, rfl⟩
              rw [hw12] at v11 aT12 hm12 hk12 ⊢
              have Hw12 := Lib.hid hw12
              clear hw12 hT11 hm11 hb11 ho11 hk11 aT11 c1 c3 c5 c6 hg9
              have Hown11 := Lib.hid hown11
              have Hgrow11 := Lib.hid hgrow11
              have Hat11 := Lib.hid hat11
              have HH := Lib.hid hH
              clear hown11 hgrow11 hat11 hH hown hnew hlt11
              go_upto_region 13 with (fail)
              go_wp2_with (at_mapUpdate; refine wpList_upSt rfl (.tmp 121) (.tmp 122) (.tmp 123) rfl (N + 2) D rfl hm12 key WP rfl rfl ?_; intro w13 hm13 hg13)
              refine ⟨rfl, _, results_none rfl _ _ _, ⟨rfl, ⟨fun j => if j = k then .slice (some ⟨g11, 0, none⟩) (ln + 1) cap11 else vals j, upS D key WP, ?_, fun j hj => if_neg hj⟩, ?_⟩⟩
              · have hnew : ∀ z ∈ E k, stOf k z ≠ stOf k a2 := fun z hz e => by
                  obtain ⟨q, h1, _⟩ := HI9.out.wa.ways k z hkn hz
                  rw [e, HKy.out, Hgs.out] at h1
                  cases h1
                rw [HX2.out, addW_new k a2 (E k) hnew, ← HKy.out]
                have e1 : key = stOf k a2 := HKy.out.symm
                have h1 := Hown11.out
                rw [e1] at h1
                have h3 := hm13
                rw [e1] at h3
                refine WaI.fresh (g := g11) (c := cap11) (m := ln + 1) (W1 := w10) (W2 := w11) (W3 := w13) HI10.out.wa hkn (HWA9.out.keep (.of_below ((Below.refl _ w9).drew))) HB2.out (by rw [← e1]; exact Hgs.out) Hw10.out (by rw [Hln.out]) h1 (by rw [Ev.out]; exact Hgrow11.out) ?_ h3 (by have h4 := hg13; rw [← Hw12.out] at h4; exact h4)
                rw [Ev.out, HH.out]
                exact Hat11.out
              · exact (hg13.block ck (Array.getElem?_eq_some_iff.1 hk12).1 (fun e => by simp only [Option.some.injEq] at e; omega)).trans hk12
            | some p =>
              rw [hgs] at hlk
              have hky := HI9.out.wa.keys key p hgs
              have hyy : ∃ y, y ∈ E k ∧ stOf k y = key ∧ WayAt w9 p y := by
                obtain ⟨j, y, hj, h1, h2⟩ := hky
                have hjk : j = k := by
                  have h3 := congrArg St3.k (h1.symm.trans HKy.out.symm)
                  simp only [stOf] at h3
                  omega
                subst hjk
                obtain ⟨q9, h4, h5⟩ := HI9.out.wa.ways j y hj h2
                rw [← h1, hgs] at h4
                cases h4
                exact ⟨y, h2, h1.symm, h5⟩
              obtain ⟨y, hyE, hyk, hyW⟩ := hyy
              have HBt : Hid (∀ m, Calls Tryz.prog 56 #[.pointer (some ⟨WP, 0, none⟩), .pointer (some ⟨p, 0, none⟩)] (w9.drewN m) fun e w' => e = .returned (.bool (betB a2 y)) ∧ ∃ n, w' = (w9.drewN m).drewN n) := Lib.hid fun m => vbetter WP p a2 y (w9.drewN m) (HWA9.out.keep (keep_drewN _ _)) (hyW.keep (keep_drewN _ _))
              have HB0 := Lib.hid (vbetter WP p a2 y w9 HWA9.out hyW)
              have HyE := Lib.hid (And.intro hyE hyk)
              clear hky hyE hyk hyW hgs
              simp only [ptrO, Option.isSome_some] at hlk
              go_upto_region 12 with (fail)
              clear hlk
              obtain ⟨bt, hbt⟩ : ∃ bt, betB a2 y = bt := ⟨_, rfl⟩
              rw [hbt] at HB0
              have hold := addW_old k a2 y (E k) HyE.out.1 (HyE.out.2.trans HKy.out.symm) (HI9.out.wa.uq k hkn)
              have Hold := Lib.hid hold
              have Hbt := Lib.hid hbt
              clear hold hbt HBt
              cases hb9 : bt
              · subst hb9
                have hE : upE E k (extW (oneP L P S s tol ext) all f (to_, q) (E k) a) = E := by rw [HX2.out, Hold.out.1 Hbt.out, upE_same]
                have HE := Lib.hid hE
                clear hE
                go_wp2_with (go_at_call 56; refine HB0.out.mono ?_; rintro e w10 ⟨rfl, n10, rfl⟩)
                have hI10 := HI9.out.still (below_drewN_refl w9.heap.size w9 n10)
                refine ⟨rfl, _, results_none rfl _ _ _, ⟨rfl, ⟨vals, D, ?_, fun _ _ => rfl⟩, hI10.ck⟩⟩
                rw [HE.out]
                exact hI10.wa
              · subst hb9
                go_upto_region 13 with (go_at_call 56; refine HB0.out.mono ?_; rintro e w10 ⟨rfl, n10, rfl⟩)
                have hI10 := HI9.out.still (below_drewN_refl w9.heap.size w9 n10)
                have hW10 := HWA9.out.keep (keep_drewN w9 n10)
                have v4 : (w9.drewN n10).cell? ⟨N + 3, 0, none⟩ = some (.map (some (N + 2))) := v3
                have aT4 : agg? (w9.drewN n10) TB 0 3 = some key.arr := aT
                have HI10 := Lib.hid hI10
                have HW10 := Lib.hid hW10
                clear hI10 hW10 v3 aT HI9 HWA9 HTb9 HB0
                generalize w9.drewN n10 = w10 at HI10 HW10 v4 aT4 ⊢
                go_wp2_with (at_mapUpdate; refine wpList_upSt rfl (.tmp 121) (.tmp 122) (.tmp 123) rfl (N + 2) D rfl HI10.out.wa.map key WP rfl rfl ?_; intro w12 hm12 hg12)
                refine ⟨rfl, _, results_none rfl _ _ _, ⟨rfl, ⟨vals, upS D key WP, ?_, fun _ _ => rfl⟩, ?_⟩⟩
                · rw [HX2.out, ← HKy.out]
                  refine HI10.out.wa.better hkn HW10.out HB2.out HyE.out.1 (HyE.out.2.trans HKy.out.symm) Hbt.out ?_ hg12
                  rw [HKy.out]; exact hm12
                · exact (hg12.block ck (Array.getElem?_eq_some_iff.1 HI10.out.ck).1 (fun e => by simp only [Option.some.injEq] at e; omega)).trans HI10.out.ck
end Go.Proofs.YtiijpbfkchokaaaGreat
