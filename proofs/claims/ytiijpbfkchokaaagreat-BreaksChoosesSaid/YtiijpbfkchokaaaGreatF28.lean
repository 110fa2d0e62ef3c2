/-
  The document's side of layer 9: the best of some ways (Best), walked.
-/
import Derived.Test.YtiijpbfkchokaaaGreatB26
import Derived.Test.YtiijpbfkchokaaaGreatB32
import Derived.Test.YtiijpbfkchokaaaGreatF26
namespace Go.Proofs.YtiijpbfkchokaaaGreat
open Go.ChangeShapes Go.WideShapes Go.ChangeAt Go.RowKit
attribute [local go_sem ↓] Go.wp_at_zero Go.wp_at_succ
def bdQw (parts : Array (Nat × Value)) : Sem Value := Instr.build 86 parts
@[go_sem ↓] theorem execOp_buildQw9 (ρ : Operand → Value) (dst : Option Tmp) (x : Array (Nat × Operand)) (ty : TypeId) (pos : String) (after : Array Edge) (guard : Option (Nat × Bool)) :
    execOp ρ { dst, op := .build 86 x, type := ty, pos, after, guard } = (do pure (.value (← bdQw (x.map fun (i, y) => (i, ρ y))))) := rfl
@[go_sem] theorem run_bdQw_0 (w : World) : (bdQw #[]).run Tryz.prog w = .ok (.agg (Qw.mk none 0 0 0 0 0 0).arr) w := by kernel_rfl
@[go_sem] theorem run_bdQw_1 (k : Int) (w : World) : (bdQw #[(1, .int .i64 k)]).run Tryz.prog w = .ok (.agg (Qw.mk none 0 0 k 0 0 0).arr) w := by kernel_rfl
@[go_sem] theorem run_bdQw_5 (p : Option Addr) (n c : Nat) (a b d e : Int) (w : World) : (bdQw #[(0, .slice p n c), (1, .int .i64 a), (2, .int .i64 b), (3, .int .i64 d), (4, .int .i64 e)]).run Tryz.prog w = .ok (.agg (Qw.mk p n c a b d e).arr) w := by kernel_rfl
theorem ret_qw2 {fn : Func} {R : Ending → World → Prop} {a : Act} {w : World} {p q : Tmp} (h : fn.results = #[.cell p 86, .tmp q]) (b o : Nat) (n : Qw) (v : Value) (hp : a.tmps.getD p undef = .pointer (some ⟨b, o, none⟩)) (hv : a.tmps.getD q undef = v) (hc : agg? w b o 5 = some n.arr) (hdf : a.defers = []) (hR : R (.returned (.tuple #[.agg n.arr, v])) w) : bodyPost Tryz.prog fn R .ret a w := by
  refine ⟨hdf, .tuple #[.agg n.arr, v], ?_, hR⟩
  have hl : (loadVar 86 ⟨b, o, none⟩).run Tryz.prog w = .ok (.agg n.arr) w := by
    have := run_loadAt_row (P := Tryz.prog) 86 5 _ u_qw rfl i_qw b o w
    rw [hc, ldRow_some] at this
    simpa [Instr.loadAt, Instr.sureAddr] using this
  have hp' : a.tmps[p]?.getD undef = .pointer (some ⟨b, o, none⟩) := by simpa using hp
  have hv' : a.tmps[q]?.getD undef = v := by simpa using hv
  simp [results, h, hp', hv', asAddr, hl]
structure BestPost (w : World) (B : Nat) (r : Option Wy) (e : Ending) (w' : World) : Prop where
  out : ∃ xb, e = .returned (.tuple #[.agg xb.arr, .bool r.isSome]) ∧ (∀ y, r = some y → QwIs w' B xb y) ∧ (r = none → xb = ⟨none, 0, 0, 0, 0, 0, 0⟩)
  below : Below w.heap.size w w'
set_option maxRecDepth 100000 in
set_option maxHeartbeats 8000000 in
theorem q9best (B : Nat) (v : Value) (xs : List Qw) (l : List Wy) (m : Int) (hl : l.length ≤ 1000000) (hla : ∀ z ∈ l, z.ats.length ≤ 4000) (w : World) (h : QL w B v xs l) :
    Calls Tryz.prog 33 #[v, .int .i64 m] w (BestPost w B (pickW m l none)) := by
  have hb1 : Below w.heap.size w ((w.alloc (.cells (Qw.mk none 0 0 0 0 0 0).arr 86)).alloc (.cells (Qw.mk none 0 0 0 0 0 0).arr 86)) := ((Below.refl _ _).alloc (Nat.le_refl _) _).alloc (by simp) _
  have hx1 : QwAt ((w.alloc (.cells (Qw.mk none 0 0 0 0 0 0).arr 86)).alloc (.cells (Qw.mk none 0 0 0 0 0 0).arr 86)) w.heap.size ⟨none, 0, 0, 0, 0, 0, 0⟩ := (Below.heap_alloc _ _ _ (by simp)).trans (heap_alloc_new w _)
  have hy1 : QwAt ((w.alloc (.cells (Qw.mk none 0 0 0 0 0 0).arr 86)).alloc (.cells (Qw.mk none 0 0 0 0 0 0).arr 86)) (w.heap.size + 1) ⟨none, 0, 0, 0, 0, 0, 0⟩ := by
    have := heap_alloc_new (w.alloc (.cells (Qw.mk none 0 0 0 0 0 0).arr 86)) (.cells (Qw.mk none 0 0 0 0 0 0).arr 86)
    rwa [World.size_alloc] at this
  obtain ⟨pv, cv, ev⟩ := owns_form h.row
  obtain ⟨X, hX⟩ : ∃ X, w.heap.size = X := ⟨_, rfl⟩
  have Hla := Lib.hid hla
  subst ev
  obtain ⟨n, hn⟩ : ∃ n, l.length = n := ⟨_, rfl⟩
  have Hn := Lib.hid hn
  rw [hn] at hl h ⊢
  have HQ := Lib.hid h
  obtain ⟨R, hR⟩ : ∃ R, pickW m l none = R := ⟨_, rfl⟩
  rw [hR]
  have HR := Lib.hid hR
  clear hn hla h hR
  go_enter Tryz.func33, Tryz.ntmps33
  go_upto_region 2 with (fail)
  rw [hX] at hx1 hy1
  try rw [hX]
  have HXe := Lib.hid hX
  clear hX
  generalize (w.alloc (.cells (Qw.mk none 0 0 0 0 0 0).arr 86)).alloc (.cells (Qw.mk none 0 0 0 0 0 0).arr 86) = w1 at hb1 hx1 hy1 ⊢
  have H1 := Lib.hid (And.intro hb1 (And.intro hx1 hy1))
  clear hb1 hx1 hy1
  go_wp2_with fail
  go_loopg [7, 8] (n + 1) (fun gg t7 t8 wr => ∃ (k : Nat) (o : Option Wy) (xb : Qw), gg = n + 1 - k ∧ k ≤ n ∧ t7 = .bool o.isSome ∧ t8 = .int .i64 k ∧ pickW m (l.drop k) o = R ∧ ((o = none ∧ xb = ⟨none, 0, 0, 0, 0, 0, 0⟩) ∨ ∃ (j : Nat) (y : Wy), o = some y ∧ l[j]? = some y ∧ xs[j]? = some xb) ∧ Below w.heap.size w wr ∧ QwAt wr X ⟨none, 0, 0, 0, 0, 0, 0⟩ ∧ QwAt wr (X + 1) xb)
  case atStart => exact ⟨0, none, _, rfl, Nat.zero_le _, rfl, rfl, by rw [List.drop_zero]; exact HR.out, .inl ⟨rfl, rfl⟩, H1.out.1, H1.out.2.1, H1.out.2.2⟩
  case round =>
    clear HR
    obtain ⟨k, o, xb, rfl, hk, rfl, rfl, hrn, hox, hb, hX0, hX1⟩ := hrel
    have Hrn := Lib.hid hrn
    have HB := Lib.hid hb
    have Hox := Lib.hid hox
    have HX0 := Lib.hid hX0
    have HX1 := Lib.hid hX1
    have hk0 : (0 : Int) ≤ (k : Int) := by omega
    clear hrn hb hox hX0 hX1
    by_cases hlt : k < n
    · have hk1 : (k : Int) < (n : Int) := by omega
      have hlt2 : decide (k < n) = true := decide_eq_true hlt
      have hkl : k < l.length := by rw [Hn.out]; exact hlt
      have hq : QL wr B (.slice pv n cv) xs l := HQ.out.still HB.out
      rw [← Hn.out] at hq
      obtain ⟨g, cap, x1, e1, hcap, hgB, a1, hxk, hxi⟩ := hq.get hkl
      simp only [Value.slice.injEq] at e1
      obtain ⟨rfl, _, rfl⟩ := e1
      rw [Hn.out] at hcap
      obtain ⟨z, hz⟩ : ∃ z, l[k] = z := ⟨_, rfl⟩
      rw [hz] at hxi
      have hzm : z ∈ l := by rw [← hz]; exact List.getElem_mem hkl
      have hzl := Hla.out z hzm
      have Hz := Lib.hid (show l[k]? = some z by rw [List.getElem?_eq_getElem hkl, hz])
      have Hxk := Lib.hid hxk
      have hdr : l.drop k = z :: l.drop (k + 1) := by rw [List.drop_eq_getElem_cons hkl, hz]
      have hpk := Hrn.out
      rw [hdr, pick_cons] at hpk
      obtain ⟨nz, hnz⟩ : ∃ nz, z.ats.length = nz := ⟨_, rfl⟩
      rw [hnz] at hpk
      have HK : Hid (∀ W, Below wr.heap.size wr W → W.cell? ⟨g, k * 5, none⟩ = some (.slice x1.atA nz x1.atC) ∧ agg? W g (k * 5) 5 = some x1.arr ∧ agg? W (X + 1) 0 5 = some xb.arr) := Lib.hid fun W hW => by
        have hg : g < wr.heap.size := (hq.row.lt g rfl).2
        have a2 : agg? W g (k * 5) 5 = some x1.arr := ((bfacts hW).2.2.1 _ _ _ hg).trans a1
        refine ⟨?_, a2, (HX1.out.still hW).agg⟩
        have := agg_cell a2 0 _ (Qw.get0 x1)
        rw [hxi.len, hnz] at this
        exact this
      have HBt : Hid (∀ y, o = some y → ∀ W, Below wr.heap.size wr W → Calls Tryz.prog 59 #[.agg x1.arr, .agg xb.arr] W fun e w' => e = .returned (.bool (betB z y)) ∧ Below W.heap.size W w') := Lib.hid fun y ho W hW => by
        rcases Hox.out with ⟨h1, _⟩ | ⟨j, y', h1, h2, h3⟩
        · rw [ho] at h1; cases h1
        · rw [ho] at h1
          cases h1
          have hw := HB.out.trans (hW.mono HB.out.size)
          exact q9better B x1 xb z y (by rw [hnz] at hzl; rw [hnz]; exact hzl) (Hla.out y (List.mem_of_getElem? h2)) W (hxi.keep (KeepZ.of_below hW)) ((HQ.out.each j xb y h3 h2).keep (KeepZ.of_below hw))
      obtain ⟨cc, hcc⟩ : ∃ cc, (decide (m = 0 ∨ (nz : Int) = m) && picks o z) = cc := ⟨_, rfl⟩
      have Hcc := Lib.hid hcc
      have Hpk : Hid (pickW m (l.drop (k + 1)) (if cc = true then some z else o) = R) := Lib.hid (by
        rw [← hpk, ← hcc]
        congr 1
        simp only [Bool.and_eq_true, decide_eq_true_eq])
      clear hz hzm hq hxi hxk hdr hpk hnz hcc a1 hlt Hrn
      go_upto_region 6 with (fail)
      go_cut [39] from 16 to 39 (fun s39 wx => s39 = .bool cc ∧ Below wr.heap.size wr wx)
      case first =>
        by_cases h1 : m = 0 ∨ (nz : Int) = m
        · have hc1 : decide (m = 0 ∨ (nz : Int) = m) = true := decide_eq_true h1
          have hc2 : picks o z = cc := by rw [← Hcc.out, hc1]; rfl
          have e0 : (m == 0) = true ∨ ((m == 0) = false ∧ ((nz : Int) == m) = true) := by
            by_cases h0 : m = 0
            · exact .inl (by simpa using h0)
            · refine .inr ⟨by simpa using h0, ?_⟩
              rcases h1 with h | h
              · exact absurd h h0
              · simpa using h
          clear hc1 h1 Hcc
          cases o with
          | none =>
            obtain rfl : true = cc := hc2
            simp only [Option.isSome_none]
            rcases e0 with e0 | ⟨e0, e1⟩
            all_goals
              refine Rest.region follows ?_
              refine Rest.tame 24 (fun W => Below wr.heap.size wr W) (by kernel_rfl) (Below.refl _ _).drew ?_
              simp only [Nat.reduceSub, List.drop_zero, List.take_succ_cons, List.take_zero]
              iterate 24 first
                | (refine TW.cons_n rfl _ (by intro wT hT R hR K hK; simp only [Act.put, lsA, lsB, lsC] at hK; obtain ⟨c0, c1, c2⟩ := HK.out _ hT; go_step; exact hK _ _ (hR _ hT)) ?_; try simp only [Act.put, lsA, lsB, lsC])
                | (refine TW.skip_g _ _ _ rfl rfl rfl ?_; try simp only [Act.put, lsA, lsB, lsC])
                | (refine TW.skip_u _ _ _ rfl rfl rfl ?_; try simp only [Act.put, lsA, lsB, lsC])
                | (refine TW.cons_g _ _ _ rfl rfl rfl _ (by intro wT hT R hR K hK; simp only [Act.put, lsA, lsB, lsC] at hK; obtain ⟨c0, c1, c2⟩ := HK.out _ hT; go_step; exact hK _ _ (hR _ hT)) ?_; try simp only [Act.put, lsA, lsB, lsC])
              refine TW.nil fun w9 h9 => ?_
              refine Rest.done ?_
              go_wp2_with fail
              go_meet
              exact ⟨rfl, h9⟩
          | some y =>
            have hc3 : betB z y = cc := hc2
            simp only [Option.isSome_some]
            have HB2 := Lib.hid (HBt.out y rfl)
            rw [hc3] at HB2
            clear HBt Hpk Hox hc2 hc3
            rcases e0 with e0 | ⟨e0, e1⟩
            all_goals
              refine Rest.region follows ?_
              refine Rest.tame 24 (fun W => Below wr.heap.size wr W) (by kernel_rfl) (Below.refl _ _).drew ?_
              simp only [Nat.reduceSub, List.drop_zero, List.take_succ_cons, List.take_zero]
              iterate 24 first
                | (refine TW.cons_n rfl _ (by intro wT hT R hR K hK; simp only [Act.put, lsA, lsB, lsC] at hK; obtain ⟨c0, c1, c2⟩ := HK.out _ hT; go_step; exact hK _ _ (hR _ hT)) ?_; try simp only [Act.put, lsA, lsB, lsC])
                | (refine TW.skip_g _ _ _ rfl rfl rfl ?_; try simp only [Act.put, lsA, lsB, lsC])
                | (refine TW.skip_u _ _ _ rfl rfl rfl ?_; try simp only [Act.put, lsA, lsB, lsC])
                | (refine TW.cons_g _ _ _ rfl rfl rfl _ (by intro wT hT R hR K hK; simp only [Act.put, lsA, lsB, lsC] at hK; obtain ⟨c0, c1, c2⟩ := HK.out _ hT; go_step; first | (go_at_call 59; refine (HB2.out _ hT).mono ?_; rintro e w9 ⟨rfl, hb9⟩; exact hK _ _ (hR _ (hT.trans (hb9.mono hT.size)))) | exact hK _ _ (hR _ hT)) ?_; try simp only [Act.put, lsA, lsB, lsC])
              refine TW.nil fun w9 h9 => ?_
              refine Rest.done ?_
              go_wp2_with fail
              go_meet
              exact ⟨rfl, h9⟩
        · obtain rfl : false = cc := by rw [← Hcc.out, decide_eq_false h1]; rfl
          have e0 : (m == 0) = false := by rw [beq_eq_false_iff_ne]; intro e; exact h1 (.inl e)
          have e1 : ((nz : Int) == m) = false := by rw [beq_eq_false_iff_ne]; intro e; exact h1 (.inr e)
          clear h1
          refine Rest.region follows ?_
          refine Rest.tame 24 (fun W => Below wr.heap.size wr W) (by kernel_rfl) (Below.refl _ _).drew ?_
          simp only [Nat.reduceSub, List.drop_zero, List.take_succ_cons, List.take_zero]
          iterate 24 first
            | (refine TW.cons_n rfl _ (by intro wT hT R hR K hK; simp only [Act.put, lsA, lsB, lsC] at hK; obtain ⟨c0, c1, c2⟩ := HK.out _ hT; go_step; exact hK _ _ (hR _ hT)) ?_; try simp only [Act.put, lsA, lsB, lsC])
            | (refine TW.skip_g _ _ _ rfl rfl rfl ?_; try simp only [Act.put, lsA, lsB, lsC])
            | (refine TW.skip_u _ _ _ rfl rfl rfl ?_; try simp only [Act.put, lsA, lsB, lsC])
            | (refine TW.cons_g _ _ _ rfl rfl rfl _ (by intro wT hT R hR K hK; simp only [Act.put, lsA, lsB, lsC] at hK; obtain ⟨c0, c1, c2⟩ := HK.out _ hT; go_step; exact hK _ _ (hR _ hT)) ?_; try simp only [Act.put, lsA, lsB, lsC])
          refine TW.nil fun w9 h9 => ?_
          refine Rest.done ?_
          go_wp2_with fail
          go_meet
          exact ⟨rfl, h9⟩
      case rest =>
        obtain ⟨rfl, hb2⟩ := hcut
        have hB2 := HB.out.trans (hb2.mono HB.out.size)
        cases cc with
        | false =>
          go_wp2_with fail
          go_roundg (n + 1 - (k + 1))
          case measure => omega
          case rel => exact ⟨k + 1, o, xb, rfl, by omega, rfl, by go_num, by have := Hpk.out; rwa [if_neg (by decide)] at this, Hox.out, hB2, HX0.out.still hb2, HX1.out.still hb2⟩
        | true =>
          have c1 := (HK.out _ hb2).2.1
          have hX9 := HX1.out.still hb2
          have t9 := hX9.there
          have HX9 := Lib.hid hX9
          have HXz := Lib.hid (HX0.out.still hb2)
          clear hX9
          go_wp2_with fail
          go_roundg (n + 1 - (k + 1))
          case measure => omega
          case rel =>
            refine ⟨k + 1, some z, x1, rfl, by omega, rfl, by go_num, by have := Hpk.out; simpa using this, .inr ⟨k, z, rfl, Hz.out, Hxk.out⟩, Below.setAgg hB2 (by rw [HXe.out]; omega) _ _, ?_, HX9.out.store⟩
            exact (heap_setCells_other _ _ (by omega) _ _ _).trans HXz.out
    · have hlt2 : decide (k < n) = false := decide_eq_false hlt
      have hoR : o = R := by
        have := Hrn.out
        rw [List.drop_eq_nil_of_le (by rw [Hn.out]; omega)] at this
        exact this
      subst hoR
      have a1 := HX1.out.agg
      have t0 := HX0.out.there
      clear hlt Hrn
      go_wp2_with fail
      have hst := HX0.out.store (y := xb)
      refine ret_qw2 rfl X 0 xb _ rfl rfl hst.agg rfl ⟨⟨xb, rfl, fun y hy => ?_, fun hy => ?_⟩, Below.setAgg HB.out (by rw [HXe.out]; exact Nat.le_refl _) _ _⟩
      · rcases Hox.out with ⟨h1, _⟩ | ⟨j, y', h1, h2, h3⟩
        · rw [hy] at h1; cases h1
        · rw [hy] at h1
          cases h1
          exact (HQ.out.each j xb y h3 h2).keep (KeepZ.of_below (Below.setAgg HB.out (by rw [HXe.out]; exact Nat.le_refl _) _ _))
      · rcases Hox.out with ⟨_, h1⟩ | ⟨j, y', h1, _⟩
        · exact h1
        · rw [hy] at h1; cases h1
end Go.Proofs.YtiijpbfkchokaaaGreat
namespace Go.Proofs.YtiijpbfkchokaaaGreat
open Go.ChangeShapes Go.WideShapes Go.ChangeAt Go.RowKit
structure Lok (k : Nat) (l : List Wy) : Prop where
  wb : ∀ a ∈ l, WyB (k + 1) a
  uq : (l.map (stOf k)).Nodup
theorem Lok.nil (k : Nat) : Lok k [] := ⟨fun a h => (by cases h), List.nodup_nil⟩
theorem Lok.len {k : Nat} {l : List Wy} (h : Lok k l) : l.length ≤ 21 * (k + 2) := by
  have h1 : (l.map fun a => a.ats.length * 21 + (a.cls + 10).toNat).Nodup := pair_nodup h.uq fun x hx y hy e => by
    have c1 := (h.wb x hx).cls
    have c2 := (h.wb y hy).cls
    exact stOf_eq.2 ⟨by omega, by omega⟩
  have h2 := nodup_below (21 * (k + 2)) _ h1 fun v hv => by
    obtain ⟨a, ha, rfl⟩ := List.mem_map.1 hv
    have := (h.wb a ha).len
    have := (h.wb a ha).cls
    omega
  rwa [List.length_map] at h2
theorem Lok.add {k : Nat} {l : List Wy} (h : Lok k l) {w : Wy} (hw : WyB (k + 1) w) : Lok k (addW l w) := by
  by_cases hx : ∃ y ∈ l, stOf k y = stOf k w
  · obtain ⟨y, hy, he⟩ := hx
    obtain ⟨h1, h2⟩ := addW_old k w y l hy he h.uq
    cases hb : betB w y with
    | false => rw [h1 hb]; exact h
    | true =>
      obtain ⟨h3, _, _, h4⟩ := h2 hb
      refine ⟨fun a ha => ?_, by rw [h3]; exact h.uq⟩
      rcases h4 a ha with rfl | ⟨h5, _⟩
      · exact hw
      · exact h.wb a h5
  · have hne : ∀ y ∈ l, stOf k y ≠ stOf k w := fun y hy e => hx ⟨y, hy, e⟩
    rw [addW_new k w l hne]
    refine ⟨fun a ha => ?_, ?_⟩
    · rcases List.mem_append.1 ha with h1 | h1
      · exact h.wb a h1
      · rw [List.mem_singleton.1 h1]; exact hw
    · rw [List.map_append, List.map_cons, List.map_nil, List.nodup_append]
      refine ⟨h.uq, by simp, fun a ha b hb e => ?_⟩
      obtain ⟨y, hy, rfl⟩ := List.mem_map.1 ha
      rw [List.mem_singleton.1 hb] at e
      exact hne y hy e
structure EndI (w : World) (Z n : Nat) (vals : Nat → Value) (E : Nat → List Wy) (W : World) : Prop where
  below : Below w.heap.size w W
  zb : w.heap.size ≤ Z
  ob : W.heap[Z]? = some (.cells ((List.range n).map vals).toArray 83 (0, 0))
  rows : ∀ j, j < n → ∃ xs, QL W (Z + 1) (vals j) xs (E j)
  ne : ∀ i j, i < n → j < n → i ≠ j → ∀ q, (vals i).ownBlock = some q → (vals j).ownBlock ≠ some q
theorem EndI.lt {w : World} {Z n : Nat} {vals : Nat → Value} {E : Nat → List Wy} {W : World} (h : EndI w Z n vals E W) : Z < W.heap.size := (Array.getElem?_eq_some_iff.1 h.ob).1
theorem EndI.still {w : World} {Z n : Nat} {vals : Nat → Value} {E : Nat → List Wy} {W W' : World} (h : EndI w Z n vals E W) (hb : Below W.heap.size W W') : EndI w Z n vals E W' :=
  ⟨h.below.trans (hb.mono h.below.size), h.zb, (hb.block Z h.lt).trans h.ob, fun j hj => by obtain ⟨xs, hx⟩ := h.rows j hj; exact ⟨xs, hx.still hb⟩, h.ne⟩
theorem vals_get {n k : Nat} (vals : Nat → Value) (hk : k < n) : ((List.range n).map vals).toArray[k]? = some (vals k) := by
  rw [List.getElem?_toArray, List.getElem?_map, List.getElem?_range hk]; rfl
theorem vals_set {n k : Nat} (vals : Nat → Value) (v : Value) : ((List.range n).map vals).toArray.setIfInBounds k v = ((List.range n).map fun j => if j = k then v else vals j).toArray := by
  apply Array.ext_getElem?
  intro i
  rw [Array.getElem?_setIfInBounds, List.getElem?_toArray, List.getElem?_toArray, List.getElem?_map, List.getElem?_map]
  by_cases hin : i < n
  · rw [List.getElem?_range hin]
    by_cases h : k = i
    · subst h
      rw [if_pos rfl, if_pos (by simpa using hin)]
      simp
    · rw [if_neg h]
      simp only [Option.map_some]
      rw [if_neg (fun e => h e.symm)]
  · have hr : (List.range n)[i]? = none := by simp; omega
    rw [hr]
    by_cases h : k = i
    · rw [if_pos h, if_neg (by simp; omega)]; rfl
    · rw [if_neg h]; rfl
theorem EndI.cell {w : World} {Z n : Nat} {vals : Nat → Value} {E : Nat → List Wy} {W : World} (h : EndI w Z n vals E W) {k : Nat} (hk : k < n) : W.cell? ⟨Z, k, none⟩ = some (vals k) := by rw [cell?_blk' h.ob, vals_get vals hk]
theorem rows_ne_int : (83 : TypeId) ≠ 3 := by decide
theorem EndI.step {w : World} {Z n : Nat} {vals : Nat → Value} {E : Nat → List Wy} {W W' : World} (h : EndI w Z n vals E W) {k : Nat} (hk : k < n) {v' : Value} {xs' : List Qw} {l' : List Wy} (hq : QL W' (Z + 1) v' xs' l') (hK : KeepZ W W' (vals k).ownBlock) (ho : ∀ q, v'.ownBlock = some q → (vals k).ownBlock = some q ∨ W.heap.size ≤ q) :
    EndI w Z n (fun j => if j = k then v' else vals j) (upE E k l') (W'.setCell ⟨Z, k, none⟩ v') := by
  obtain ⟨xk, hxk⟩ := h.rows k hk
  have hown : ∀ q, (vals k).ownBlock = some q → Z + 1 ≤ q ∧ q < W.heap.size := fun q e => hxk.row.lt q e
  have hZk : some Z ≠ (vals k).ownBlock := fun e => by have := (hown Z e.symm).1; omega
  have hob : W'.heap[Z]? = some (.cells ((List.range n).map vals).toArray 83 (0, 0)) := (hK.grown.block Z h.lt hZk).trans h.ob
  have hb' : Below w.heap.size w W' := ⟨hK.grown.os.trans h.below.os, hK.grown.tape.trans h.below.tape, hK.grown.output.trans h.below.output, Nat.le_trans h.below.size hK.grown.size, fun j hj => (hK.grown.block j (Nat.lt_of_lt_of_le hj h.below.size) (fun e => by have := (hown j e.symm).1; have := h.zb; omega)).trans (h.below.block j hj)⟩
  have hK2 : KeepZ W' (W'.setCell ⟨Z, k, none⟩ v') (some Z) := by
    have hb2 : Below Z W' (W'.setCell ⟨Z, k, none⟩ v') := (Below.refl Z W').setCell (p := ⟨Z, k, none⟩) (Nat.le_refl _) _
    refine ⟨⟨hb2.os, hb2.tape, hb2.output, hb2.size, fun j hj hne => Below.heap_setCell _ _ _ _ (fun e => hne (by rw [e]))⟩, fun q hq _ => ?_⟩
    cases hq
    exact ⟨_, _, hob, rows_ne_int⟩
  refine ⟨hb'.setCell (p := ⟨Z, k, none⟩) h.zb _, h.zb, ?_, fun j hj => ?_, fun i j hi hj hij q e => ?_⟩
  · rw [heap_setCell_same _ _ _ _ _ _ hob, vals_set]
  · by_cases e : j = k
    · subst e
      refine ⟨xs', ?_⟩
      simp only [if_true]
      rw [upE_at]
      exact hq.keep hK2 fun q hq2 e2 => by cases e2; have := (hq.row.lt _ hq2).1; omega
    · obtain ⟨xs, hx⟩ := h.rows j hj
      refine ⟨xs, ?_⟩
      simp only [if_neg e]
      rw [upE_ne _ _ e]
      exact (hx.keep hK fun q hq2 e2 => h.ne j k hj hk e q hq2 e2).keep hK2 fun q hq2 e2 => by cases e2; have := (hx.row.lt _ hq2).1; omega
  · by_cases e1 : i = k
    · subst e1
      simp only [if_true] at e
      have hji : ¬ j = i := fun e9 => hij e9.symm
      simp only [if_neg hji]
      rcases ho q e with h1 | h1
      · exact h.ne i j hi hj hij q h1
      · obtain ⟨xs, hx⟩ := h.rows j hj
        intro h2
        have := (hx.row.lt q h2).2
        omega
    · simp only [if_neg e1] at e
      by_cases e2 : j = k
      · subst e2
        simp only [if_true]
        intro h2
        obtain ⟨xs, hx⟩ := h.rows i hi
        rcases ho q h2 with h1 | h1
        · exact h.ne i j hi hj hij q e h1
        · have := (hx.row.lt q e).2
          omega
      · simp only [if_neg e2]
        exact h.ne i j hi hj hij q e
theorem EndI.other {w : World} {Z n : Nat} {vals : Nat → Value} {E : Nat → List Wy} {W W' : World} (h : EndI w Z n vals E W) {k : Nat} (hk : k < n) {v' : Value} (hK : KeepZ W W' (vals k).ownBlock) (ho : ∀ q, v'.ownBlock = some q → (vals k).ownBlock = some q ∨ W.heap.size ≤ q) {va : Value} {xa : List Qw} {la : List Wy} (ha : QL W (Z + 1) va xa la) (hne : ∀ q, va.ownBlock = some q → (vals k).ownBlock ≠ some q) :
    QL (W'.setCell ⟨Z, k, none⟩ v') (Z + 1) va xa la ∧ ∀ q, va.ownBlock = some q → v'.ownBlock ≠ some q := by
  obtain ⟨xk, hxk⟩ := h.rows k hk
  have hown : ∀ q, (vals k).ownBlock = some q → Z + 1 ≤ q ∧ q < W.heap.size := fun q e => hxk.row.lt q e
  have hZk : some Z ≠ (vals k).ownBlock := fun e => by have := (hown Z e.symm).1; omega
  have hob : W'.heap[Z]? = some (.cells ((List.range n).map vals).toArray 83 (0, 0)) := (hK.grown.block Z h.lt hZk).trans h.ob
  have hK2 : KeepZ W' (W'.setCell ⟨Z, k, none⟩ v') (some Z) := by
    have hb2 : Below Z W' (W'.setCell ⟨Z, k, none⟩ v') := (Below.refl Z W').setCell (p := ⟨Z, k, none⟩) (Nat.le_refl _) _
    refine ⟨⟨hb2.os, hb2.tape, hb2.output, hb2.size, fun j hj hne => Below.heap_setCell _ _ _ _ (fun e => hne (by rw [e]))⟩, fun q hq _ => ?_⟩
    cases hq
    exact ⟨_, _, hob, rows_ne_int⟩
  refine ⟨(ha.keep hK fun q hq e => hne q hq e).keep hK2 fun q hq e => by cases e; have := (ha.row.lt _ hq).1; omega, fun q hq e => ?_⟩
  rcases ho q e with h1 | h1
  · exact hne q hq h1
  · have := (ha.row.lt q hq).2
    omega
theorem QL.start {W : World} {B : Nat} (hB : B ≤ W.heap.size) : QL (W.alloc (.cells (Qw.mk none 0 0 2 0 0 0).arr 86)) B (.slice (some ⟨W.heap.size, 0, none⟩) 1 1) [⟨none, 0, 0, 2, 0, 0, 0⟩] [Wy.start] := by
  refine ⟨⟨rfl, .inr ⟨W.heap.size, 1, (Qw.mk none 0 0 2 0 0 0).arr, rfl, hB, heap_alloc_new W _, Nat.le_refl _, by unfold maxLen; omega, rfl, rfl⟩⟩, rfl, fun i x y hx hy => ?_⟩
  cases i with
  | zero =>
    simp only [List.getElem?_cons_zero, Option.some.injEq] at hx hy
    subst hx hy
    exact ⟨World.ownsRow_nil _ _ _ _, rfl, rfl, rfl, rfl, rfl⟩
  | succ i => simp at hx
theorem info_qrows : (Tryz.prog.info? 83).map (fun i => (i.zero, i.size, i.bytes)) = some (some (.slice none 0 0), 1, 24) := by kernel_rfl
theorem run_mkQ (n : Nat) (hn : n ≤ 1000000) (w : World) : (Instr.makeSlice 128 (.int .i64 (n : Int)) (.int .i64 (n : Int))).run Tryz.prog w = .ok (.slice (some ⟨w.heap.size, 0, none⟩) n n) (w.alloc (.cells ((List.range n).map fun _ => Value.slice none 0 0).toArray 83)) := by
  obtain ⟨i, hi, hz, hs, hb⟩ := info_parts info_qrows
  have h := run_make (P := Tryz.prog) w 128 83 i (.slice none 0 0) Tryz.underlying128 hi hz .i64 .i64 n n (by omega) (Int.le_refl _) (by rw [hb]; omega) (by omega)
  rw [hs] at h
  simp only [Int.toNat_natCast] at h
  rw [h, made_none]
theorem EndI.init {w : World} {n : Nat} : EndI w w.heap.size n (fun _ => .slice none 0 0) (fun _ => []) (w.alloc (.cells ((List.range n).map fun _ => Value.slice none 0 0).toArray 83)) :=
  ⟨(Below.refl _ _).alloc (Nat.le_refl _) _, Nat.le_refl _, heap_alloc_new w _, fun _ _ => ⟨[], QL.nil _ _⟩, fun _ _ _ _ _ q e => by cases e⟩
theorem ext_bound {P : Pm} {S : List Sh2} {L : List Nd} {s : List Nat} {tol ext : Int} (hok : TryOk P S L s tol ext) {all : Bool} {f : Option Nat} {x : Nat × Int} (hf : ∀ y, f = some y → y ∈ s) (hx : x ∈ brkP L P s) {k : Nat} {acc : List Wy} (ha : Lok k acc) {a : Wy} (hb : WyB k a) : Lok k (extW (oneP L P S s tol ext) all f x acc a) := by
  unfold extW
  split
  · exact ha
  · exact ha.add (hb.ext (one_bound hok hf hx _ _) _)
end Go.Proofs.YtiijpbfkchokaaaGreat
