/-
  Which of two ways goes ahead: the program's better.
-/
import Derived.Test.YtiijpbfkchokaaaGreatL6
import Derived.Test.YtiijpbfkchokaaaGreatBN
import Derived.Test.YtiijpbfkchokaaaGreatTame4
import Derived.Test.YtiijpbfkchokaaaGreatW9
set_option maxRecDepth 100000
set_option maxHeartbeats 8000000
namespace Go.Proofs.YtiijpbfkchokaaaGreat
open Go.ChangeShapes Go.WideShapes Go.ChangeAt Go.RowKit
attribute [local go_sem ↓] Go.wp_at_zero Go.wp_at_succ
def wayArr (ov bd tt : Int) (pa : Value) (x n : Int) : Array Value := #[.int .i64 ov, .int .i64 bd, .int .i64 tt, pa, .int .i64 x, .int .i64 n]
def WB (W : World) (p : Nat) (ov bd tt : Int) (pa : Option Nat) (x n : Int) : Prop := W.heap[p]? = some (.cells (wayArr ov bd tt (ptrO pa) x n) 79 (0, 0))
inductive ChainAt (W : World) : Option Nat → List Nat → Prop
  | nil : ChainAt W none []
  | cons {p x : Nat} {r : List Nat} {pa : Option Nat} {ov bd tt : Int} : WB W p ov bd tt pa x ((r.length + 1 : Nat) : Int) → ChainAt W pa r → ChainAt W (some p) (x :: r)
def WayAt (W : World) (p : Nat) (a : Wy) : Prop := ∃ (x : Nat) (r : List Nat) (pa : Option Nat), a.ats.reverse = x :: r ∧ WB W p a.over a.bad a.total pa x ((r.length + 1 : Nat) : Int) ∧ ChainAt W pa r
def WKeep (W W' : World) : Prop := ∀ (k : Nat) (c : Array Value), W.heap[k]? = some (.cells c 79 (0, 0)) → W'.heap[k]? = W.heap[k]?
theorem WKeep.trans {A B C : World} (h : WKeep A B) (k : WKeep B C) : WKeep A C := fun i c hi => (k i c ((h i c hi).trans hi)).trans (h i c hi)
theorem WKeep.of_below {W W' : World} (hb : Below W.heap.size W W') : WKeep W W' := fun k _ hk => hb.block k (Array.getElem?_eq_some_iff.1 hk).1
theorem WB.keep {W W' : World} {p : Nat} {ov bd tt : Int} {pa : Option Nat} {x n : Int} (h : WB W p ov bd tt pa x n) (k : WKeep W W') : WB W' p ov bd tt pa x n := (k p _ h).trans h
theorem ChainAt.keep {W W' : World} {p : Option Nat} {l : List Nat} (h : ChainAt W p l) (k : WKeep W W') : ChainAt W' p l := by
  induction h with
  | nil => exact .nil
  | cons hb _ ih => exact .cons (hb.keep k) ih
theorem WayAt.keep {W W' : World} {p : Nat} {a : Wy} (h : WayAt W p a) (k : WKeep W W') : WayAt W' p a := by
  obtain ⟨x, r, pa, h1, h2, h3⟩ := h
  exact ⟨x, r, pa, h1, h2.keep k, h3.keep k⟩
theorem WayAt.chain {W : World} {p : Nat} {a : Wy} (h : WayAt W p a) : ChainAt W (some p) a.ats.reverse := by
  obtain ⟨x, r, pa, h1, h2, h3⟩ := h
  rw [h1]
  exact .cons h2 h3
theorem WayAt.lt {W : World} {p : Nat} {a : Wy} (h : WayAt W p a) : p < W.heap.size := by
  obtain ⟨x, r, pa, h1, h2, h3⟩ := h
  exact (Array.getElem?_eq_some_iff.1 h2).1
theorem WB.cell {W : World} {p : Nat} {ov bd tt : Int} {pa : Option Nat} {x n : Int} (h : WB W p ov bd tt pa x n) (k : Nat) (v : Value) (hv : (wayArr ov bd tt (ptrO pa) x n)[k]? = some v) : W.cell? ⟨p, k, none⟩ = some v := by rw [cell?_blk' h, hv]
structure W3 (W : World) (p : Nat) (a : Wy) : Prop where
  over : W.cell? ⟨p, 0, none⟩ = some (.int .i64 a.over)
  bad : W.cell? ⟨p, 1, none⟩ = some (.int .i64 a.bad)
  total : W.cell? ⟨p, 2, none⟩ = some (.int .i64 a.total)
theorem WayAt.three {W : World} {p : Nat} {a : Wy} (h : WayAt W p a) : W3 W p a := by
  obtain ⟨x, r, pa, h1, h2, h3⟩ := h
  exact ⟨h2.cell 0 _ rfl, h2.cell 1 _ rfl, h2.cell 2 _ rfl⟩
theorem isd {w W : World} (h : ∃ k, W = w.drewN k) : ∃ k, W.drew = w.drewN k := by
  obtain ⟨k, rfl⟩ := h
  exact ⟨k + 1, rfl⟩
theorem ChainAt.inv {W : World} {p : Option Nat} {l : List Nat} (h : ChainAt W p l) : (l = [] ∧ p = none) ∨ ∃ (p1 x : Nat) (r : List Nat) (pc : Option Nat) (ov bd tt : Int), l = x :: r ∧ p = some p1 ∧ WB W p1 ov bd tt pc x ((r.length + 1 : Nat) : Int) ∧ ChainAt W pc r := by
  cases h with
  | nil => exact .inl ⟨rfl, rfl⟩
  | cons hb hc => exact .inr ⟨_, _, _, _, _, _, _, rfl, rfl, hb, hc⟩
theorem keep_drewN (W : World) (n : Nat) : WKeep W (W.drewN n) := fun _ _ _ => rfl
theorem vbetter (p q : Nat) (a b : Wy) (w : World) (ha : WayAt w p a) (hb : WayAt w q b) :
    Calls Tryz.prog 56 #[.pointer (some ⟨p, 0, none⟩), .pointer (some ⟨q, 0, none⟩)] w fun e w' => e = .returned (.bool (betB a b)) ∧ ∃ n, w' = w.drewN n := by
  have HA : Hid (∀ n, W3 (w.drewN n) p a) := Lib.hid fun n => (ha.keep (keep_drewN w n)).three
  have HBB : Hid (∀ n, W3 (w.drewN n) q b) := Lib.hid fun n => (hb.keep (keep_drewN w n)).three
  have HCA := Lib.hid ha.chain
  have HCB := Lib.hid hb.chain
  have Hbe : Hid (betB a b = if a.over = b.over then (if a.bad = b.bad then (if a.total = b.total then lexB a.ats.reverse b.ats.reverse else decide (a.total < b.total)) else decide (a.bad < b.bad)) else decide (a.over < b.over)) := Lib.hid rfl
  clear ha hb
  go_enter Tryz.func56, Tryz.ntmps56
  go_upto_region 1 with (fail)
  by_cases h1 : a.over = b.over
  case neg =>
    have hn1 : (a.over != b.over) = true := by simpa using h1
    have HV := Lib.hid (show betB a b = decide (a.over < b.over) by rw [Hbe.out, if_neg h1])
    clear h1
    refine Rest.region follows ?_
    refine Rest.tame 9 (fun W => ∃ k, W = w.drewN k) (by kernel_rfl) (by first | exact isd ⟨_, rfl⟩ | exact isd ⟨0, rfl⟩) ?_
    simp only [Nat.reduceSub, List.drop_zero, List.take_succ_cons, List.take_zero]
    iterate 9 first
      | (refine TW.cons_n rfl _ (by intro wT hT R hR K hK; simp only [Act.put, lsA, lsB, lsC] at hK; obtain ⟨nt, rfl⟩ := hT; have ya := (HA.out nt).over; have yb := (HBB.out nt).over; go_step; exact hK _ _ (hR _ ⟨_, rfl⟩)) ?_; try simp only [Act.put, lsA, lsB, lsC])
    refine TW.nil fun w9 h9 => ?_
    obtain ⟨n9, rfl⟩ := h9
    refine Rest.done ?_
    go_upto_region 2 with (fail)
    refine Rest.region follows ?_
    refine Rest.tame 10 (fun W => ∃ k, W = w.drewN k) (by kernel_rfl) (by first | exact isd ⟨_, rfl⟩ | exact isd ⟨0, rfl⟩) ?_
    simp only [Nat.reduceSub, List.drop_zero, List.take_succ_cons, List.take_zero]
    iterate 10 first
      | (refine TW.cons_n rfl _ (by intro wT hT R hR K hK; simp only [Act.put, lsA, lsB, lsC] at hK; obtain ⟨nt, rfl⟩ := hT; have ya := (HA.out nt).over; have yb := (HBB.out nt).over; go_step; exact hK _ _ (hR _ ⟨_, rfl⟩)) ?_; try simp only [Act.put, lsA, lsB, lsC])
    refine TW.nil fun w9 h9 => ?_
    obtain ⟨n9, rfl⟩ := h9
    refine Rest.done ?_
    go_wp2_with fail
    go_ret
    exact ⟨by rw [HV.out]; rfl, _, rfl⟩
  have hn1 : (a.over != b.over) = false := by simpa using h1
  have Ho := Lib.hid h1
  clear h1
  refine Rest.region follows ?_
  refine Rest.tame 9 (fun W => ∃ k, W = w.drewN k) (by kernel_rfl) (by first | exact isd ⟨_, rfl⟩ | exact isd ⟨0, rfl⟩) ?_
  simp only [Nat.reduceSub, List.drop_zero, List.take_succ_cons, List.take_zero]
  iterate 9 first
    | (refine TW.cons_n rfl _ (by intro wT hT R hR K hK; simp only [Act.put, lsA, lsB, lsC] at hK; obtain ⟨nt, rfl⟩ := hT; have ya := (HA.out nt).over; have yb := (HBB.out nt).over; go_step; exact hK _ _ (hR _ ⟨_, rfl⟩)) ?_; try simp only [Act.put, lsA, lsB, lsC])
  refine TW.nil fun w9 h9 => ?_
  obtain ⟨n9, rfl⟩ := h9
  refine Rest.done ?_
  clear hn1
  go_upto_region 3 with (fail)
  by_cases h1 : a.bad = b.bad
  case neg =>
    have hn1 : (a.bad != b.bad) = true := by simpa using h1
    have HV := Lib.hid (show betB a b = decide (a.bad < b.bad) by rw [Hbe.out, if_pos Ho.out, if_neg h1])
    clear h1
    refine Rest.region follows ?_
    refine Rest.tame 9 (fun W => ∃ k, W = w.drewN k) (by kernel_rfl) (by first | exact isd ⟨_, rfl⟩ | exact isd ⟨0, rfl⟩) ?_
    simp only [Nat.reduceSub, List.drop_zero, List.take_succ_cons, List.take_zero]
    iterate 9 first
      | (refine TW.cons_n rfl _ (by intro wT hT R hR K hK; simp only [Act.put, lsA, lsB, lsC] at hK; obtain ⟨nt, rfl⟩ := hT; have ya := (HA.out nt).bad; have yb := (HBB.out nt).bad; go_step; exact hK _ _ (hR _ ⟨_, rfl⟩)) ?_; try simp only [Act.put, lsA, lsB, lsC])
    refine TW.nil fun w9 h9 => ?_
    obtain ⟨n9, rfl⟩ := h9
    refine Rest.done ?_
    go_upto_region 4 with (fail)
    refine Rest.region follows ?_
    refine Rest.tame 10 (fun W => ∃ k, W = w.drewN k) (by kernel_rfl) (by first | exact isd ⟨_, rfl⟩ | exact isd ⟨0, rfl⟩) ?_
    simp only [Nat.reduceSub, List.drop_zero, List.take_succ_cons, List.take_zero]
    iterate 10 first
      | (refine TW.cons_n rfl _ (by intro wT hT R hR K hK; simp only [Act.put, lsA, lsB, lsC] at hK; obtain ⟨nt, rfl⟩ := hT; have ya := (HA.out nt).bad; have yb := (HBB.out nt).bad; go_step; exact hK _ _ (hR _ ⟨_, rfl⟩)) ?_; try simp only [Act.put, lsA, lsB, lsC])
    refine TW.nil fun w9 h9 => ?_
    obtain ⟨n9, rfl⟩ := h9
    refine Rest.done ?_
    go_wp2_with fail
    go_ret
    exact ⟨by rw [HV.out]; rfl, _, rfl⟩
  have hn1 : (a.bad != b.bad) = false := by simpa using h1
  have Hb := Lib.hid h1
  clear h1
  refine Rest.region follows ?_
  refine Rest.tame 9 (fun W => ∃ k, W = w.drewN k) (by kernel_rfl) (by first | exact isd ⟨_, rfl⟩ | exact isd ⟨0, rfl⟩) ?_
  simp only [Nat.reduceSub, List.drop_zero, List.take_succ_cons, List.take_zero]
  iterate 9 first
    | (refine TW.cons_n rfl _ (by intro wT hT R hR K hK; simp only [Act.put, lsA, lsB, lsC] at hK; obtain ⟨nt, rfl⟩ := hT; have ya := (HA.out nt).bad; have yb := (HBB.out nt).bad; go_step; exact hK _ _ (hR _ ⟨_, rfl⟩)) ?_; try simp only [Act.put, lsA, lsB, lsC])
  refine TW.nil fun w9 h9 => ?_
  obtain ⟨n9, rfl⟩ := h9
  refine Rest.done ?_
  clear hn1
  go_upto_region 5 with (fail)
  by_cases h1 : a.total = b.total
  case neg =>
    have hn1 : (a.total != b.total) = true := by simpa using h1
    have HV := Lib.hid (show betB a b = decide (a.total < b.total) by rw [Hbe.out, if_pos Ho.out, if_pos Hb.out, if_neg h1])
    clear h1
    refine Rest.region follows ?_
    refine Rest.tame 9 (fun W => ∃ k, W = w.drewN k) (by kernel_rfl) (by first | exact isd ⟨_, rfl⟩ | exact isd ⟨0, rfl⟩) ?_
    simp only [Nat.reduceSub, List.drop_zero, List.take_succ_cons, List.take_zero]
    iterate 9 first
      | (refine TW.cons_n rfl _ (by intro wT hT R hR K hK; simp only [Act.put, lsA, lsB, lsC] at hK; obtain ⟨nt, rfl⟩ := hT; have ya := (HA.out nt).total; have yb := (HBB.out nt).total; go_step; exact hK _ _ (hR _ ⟨_, rfl⟩)) ?_; try simp only [Act.put, lsA, lsB, lsC])
    refine TW.nil fun w9 h9 => ?_
    obtain ⟨n9, rfl⟩ := h9
    refine Rest.done ?_
    go_upto_region 6 with (fail)
    refine Rest.region follows ?_
    refine Rest.tame 10 (fun W => ∃ k, W = w.drewN k) (by kernel_rfl) (by first | exact isd ⟨_, rfl⟩ | exact isd ⟨0, rfl⟩) ?_
    simp only [Nat.reduceSub, List.drop_zero, List.take_succ_cons, List.take_zero]
    iterate 10 first
      | (refine TW.cons_n rfl _ (by intro wT hT R hR K hK; simp only [Act.put, lsA, lsB, lsC] at hK; obtain ⟨nt, rfl⟩ := hT; have ya := (HA.out nt).total; have yb := (HBB.out nt).total; go_step; exact hK _ _ (hR _ ⟨_, rfl⟩)) ?_; try simp only [Act.put, lsA, lsB, lsC])
    refine TW.nil fun w9 h9 => ?_
    obtain ⟨n9, rfl⟩ := h9
    refine Rest.done ?_
    go_wp2_with fail
    go_ret
    exact ⟨by rw [HV.out]; rfl, _, rfl⟩
  have hn1 : (a.total != b.total) = false := by simpa using h1
  have Ht := Lib.hid h1
  clear h1
  refine Rest.region follows ?_
  refine Rest.tame 9 (fun W => ∃ k, W = w.drewN k) (by kernel_rfl) (by first | exact isd ⟨_, rfl⟩ | exact isd ⟨0, rfl⟩) ?_
  simp only [Nat.reduceSub, List.drop_zero, List.take_succ_cons, List.take_zero]
  iterate 9 first
    | (refine TW.cons_n rfl _ (by intro wT hT R hR K hK; simp only [Act.put, lsA, lsB, lsC] at hK; obtain ⟨nt, rfl⟩ := hT; have ya := (HA.out nt).total; have yb := (HBB.out nt).total; go_step; exact hK _ _ (hR _ ⟨_, rfl⟩)) ?_; try simp only [Act.put, lsA, lsB, lsC])
  refine TW.nil fun w9 h9 => ?_
  obtain ⟨n9, rfl⟩ := h9
  refine Rest.done ?_
  clear hn1
  have HV : Hid (betB a b = lexB a.ats.reverse b.ats.reverse) := Lib.hid (by rw [Hbe.out, if_pos Ho.out, if_pos Hb.out, if_pos Ht.out])
  clear Hbe Ho Hb Ht HA HBB
  go_wp2_with fail
  go_loopg [0, 1] (a.ats.reverse.length + 1) (fun gg t0 t1 wr => ∃ (ra rb : List Nat) (pa pb : Option Nat) (n : Nat), gg = ra.length + 1 ∧ t0 = ptrO pa ∧ t1 = ptrO pb ∧ ChainAt w pa ra ∧ ChainAt w pb rb ∧ lexB a.ats.reverse b.ats.reverse = lexB ra rb ∧ wr = w.drewN n)
  case atStart => exact ⟨_, _, some p, some q, _, rfl, rfl, rfl, HCA.out, HCB.out, rfl, rfl⟩
  case round =>
    clear HCA HCB
    obtain ⟨ra, rb, pa, pb, n, rfl, rfl, rfl, hca, hcb, hlx, rfl⟩ := hrel
    have Hlx := Lib.hid (HV.out.trans hlx)
    have Hlx0 := Lib.hid hlx
    clear hlx
    rcases hca.inv with ⟨rfl, rfl⟩ | ⟨p1, x, r, pc, ov, bd, tt, rfl, rfl, hA, hC⟩
    · rcases hcb.inv with ⟨rfl, rfl⟩ | ⟨q1, y, t, qc, ov2, bd2, tt2, rfl, rfl, hB, hD⟩
      · have HV2 := Lib.hid (Hlx.out.trans (show lexB [] [] = false from rfl))
        clear Hlx Hlx0 hca hcb
        simp only [ptrO]
        go_wp2_with fail
        go_ret
        exact ⟨by rw [HV2.out]; rfl, _, rfl⟩
      · have HV2 := Lib.hid (Hlx.out.trans (show lexB [] (y :: t) = true from rfl))
        clear Hlx Hlx0 hca hcb
        simp only [ptrO]
        go_wp2_with fail
        go_ret
        exact ⟨by rw [HV2.out]; rfl, _, rfl⟩
    · rcases hcb.inv with ⟨rfl, rfl⟩ | ⟨q1, y, t, qc, ov2, bd2, tt2, rfl, rfl, hB, hD⟩
      · have HV2 := Lib.hid (Hlx.out.trans (show lexB (x :: r) [] = false from rfl))
        clear Hlx Hlx0 hca hcb
        simp only [ptrO]
        go_wp2_with fail
        go_ret
        exact ⟨by rw [HV2.out]; rfl, _, rfl⟩
      · have HA : Hid (∀ k, (w.drewN k).cell? ⟨p1, 4, none⟩ = some (.int .i64 x) ∧ (w.drewN k).cell? ⟨p1, 3, none⟩ = some (ptrO pc)) := Lib.hid fun k => ⟨(hA.keep (keep_drewN w k)).cell 4 _ rfl, (hA.keep (keep_drewN w k)).cell 3 _ rfl⟩
        have HB : Hid (∀ k, (w.drewN k).cell? ⟨q1, 4, none⟩ = some (.int .i64 y) ∧ (w.drewN k).cell? ⟨q1, 3, none⟩ = some (ptrO qc)) := Lib.hid fun k => ⟨(hB.keep (keep_drewN w k)).cell 4 _ rfl, (hB.keep (keep_drewN w k)).cell 3 _ rfl⟩
        have hlx : lexB (x :: r) (y :: t) = if x = y then lexB r t else decide (x < y) := rfl
        have Hc := Lib.hid hC
        have Hd := Lib.hid hD
        clear hca hcb hA hB hC hD
        simp only [ptrO]
        go_upto_region 8 with (fail)
        by_cases hxy : x = y
        · have hn1 : (x != y) = false := by simpa using hxy
          have hn2 : ((x : Int) != (y : Int)) = false := by rw [hxy]; simp
          have Hl2 := Lib.hid (Hlx0.out.trans (hlx.trans (if_pos hxy)))
          clear hlx Hlx Hlx0 hxy
          refine Rest.region follows ?_
          refine Rest.tame 9 (fun W => ∃ k, W = w.drewN k) (by kernel_rfl) (by first | exact isd ⟨_, rfl⟩ | exact isd ⟨0, rfl⟩) ?_
          simp only [Nat.reduceSub, List.drop_zero, List.take_succ_cons, List.take_zero]
          iterate 9 first
            | (refine TW.cons_n rfl _ (by intro wT hT R hR K hK; simp only [Act.put, lsA, lsB, lsC] at hK; obtain ⟨nt, rfl⟩ := hT; obtain ⟨ya, yc⟩ := HA.out nt; obtain ⟨yb, yd⟩ := HB.out nt; go_step; exact hK _ _ (hR _ ⟨_, rfl⟩)) ?_; try simp only [Act.put, lsA, lsB, lsC])
          refine TW.nil fun w9 h9 => ?_
          obtain ⟨n9, rfl⟩ := h9
          refine Rest.done ?_
          go_upto_region 10 with (fail)
          refine Rest.region follows ?_
          refine Rest.tame 10 (fun W => ∃ k, W = w.drewN k) (by kernel_rfl) (by first | exact isd ⟨_, rfl⟩ | exact isd ⟨0, rfl⟩) ?_
          simp only [Nat.reduceSub, List.drop_zero, List.take_succ_cons, List.take_zero]
          iterate 10 first
            | (refine TW.cons_n rfl _ (by intro wT hT R hR K hK; simp only [Act.put, lsA, lsB, lsC] at hK; obtain ⟨nt, rfl⟩ := hT; obtain ⟨ya, yc⟩ := HA.out nt; obtain ⟨yb, yd⟩ := HB.out nt; go_step; exact hK _ _ (hR _ ⟨_, rfl⟩)) ?_; try simp only [Act.put, lsA, lsB, lsC])
          refine TW.nil fun w9 h9 => ?_
          obtain ⟨n9, rfl⟩ := h9
          refine Rest.done ?_
          go_wp2_with fail
          go_roundg (r.length + 1)
          case measure => simp
          case rel => exact ⟨r, t, pc, qc, _, rfl, rfl, rfl, Hc.out, Hd.out, Hl2.out, rfl⟩
        · have hn1 : (x != y) = true := by simpa using hxy
          have hn2 : ((x : Int) != (y : Int)) = true := by rw [bne_iff_ne]; omega
          have HV2 := Lib.hid (Hlx.out.trans (hlx.trans (if_neg hxy)))
          clear hlx Hlx Hlx0 hxy
          refine Rest.region follows ?_
          refine Rest.tame 9 (fun W => ∃ k, W = w.drewN k) (by kernel_rfl) (by first | exact isd ⟨_, rfl⟩ | exact isd ⟨0, rfl⟩) ?_
          simp only [Nat.reduceSub, List.drop_zero, List.take_succ_cons, List.take_zero]
          iterate 9 first
            | (refine TW.cons_n rfl _ (by intro wT hT R hR K hK; simp only [Act.put, lsA, lsB, lsC] at hK; obtain ⟨nt, rfl⟩ := hT; obtain ⟨ya, yc⟩ := HA.out nt; obtain ⟨yb, yd⟩ := HB.out nt; go_step; exact hK _ _ (hR _ ⟨_, rfl⟩)) ?_; try simp only [Act.put, lsA, lsB, lsC])
          refine TW.nil fun w9 h9 => ?_
          obtain ⟨n9, rfl⟩ := h9
          refine Rest.done ?_
          go_upto_region 9 with (fail)
          refine Rest.region follows ?_
          refine Rest.tame 10 (fun W => ∃ k, W = w.drewN k) (by kernel_rfl) (by first | exact isd ⟨_, rfl⟩ | exact isd ⟨0, rfl⟩) ?_
          simp only [Nat.reduceSub, List.drop_zero, List.take_succ_cons, List.take_zero]
          iterate 10 first
            | (refine TW.cons_n rfl _ (by intro wT hT R hR K hK; simp only [Act.put, lsA, lsB, lsC] at hK; obtain ⟨nt, rfl⟩ := hT; obtain ⟨ya, yc⟩ := HA.out nt; obtain ⟨yb, yd⟩ := HB.out nt; go_step; exact hK _ _ (hR _ ⟨_, rfl⟩)) ?_; try simp only [Act.put, lsA, lsB, lsC])
          refine TW.nil fun w9 h9 => ?_
          obtain ⟨n9, rfl⟩ := h9
          refine Rest.done ?_
          go_wp2_with fail
          go_ret
          exact ⟨by rw [HV2.out]; first | rfl | simp, _, rfl⟩
end Go.Proofs.YtiijpbfkchokaaaGreat
namespace Go.Proofs.YtiijpbfkchokaaaGreat
open Go.ChangeShapes Go.WideShapes Go.ChangeAt Go.RowKit
theorem WayAt.rest {W : World} {p : Nat} {a : Wy} (h : WayAt W p a) : W.cell? ⟨p, 5, none⟩ = some (.int .i64 (a.ats.length : Nat)) ∧ ∃ x r pa, a.ats.reverse = x :: r ∧ W.cell? ⟨p, 4, none⟩ = some (.int .i64 (x : Nat)) ∧ W.cell? ⟨p, 3, none⟩ = some (ptrO pa) ∧ ChainAt W pa r := by
  obtain ⟨x, r, pa, h1, h2, h3⟩ := h
  have hl : a.ats.length = r.length + 1 := by rw [← List.length_reverse, h1]; rfl
  exact ⟨by rw [hl]; exact h2.cell 5 _ rfl, x, r, pa, h1, h2.cell 4 _ rfl, h2.cell 3 _ rfl, h3⟩
structure WysIn (W : World) (p0 : Option Addr) (g c : Nat) (ps : List Nat) (l : List Wy) : Prop where
  hp : l ≠ [] → p0 = some ⟨g, 0, none⟩
  len : ps.length = l.length
  cap : l.length ≤ c
  cell : ∀ (i : Nat) (p : Nat), ps[i]? = some p → W.cell? ⟨g, i, none⟩ = some (.pointer (some ⟨p, 0, none⟩))
  way : ∀ (i : Nat) (p : Nat) (a : Wy), ps[i]? = some p → l[i]? = some a → WayAt W p a
theorem WysIn.drewN {W : World} {p0 : Option Addr} {g c : Nat} {ps : List Nat} {l : List Wy} (h : WysIn W p0 g c ps l) (n : Nat) : WysIn (W.drewN n) p0 g c ps l := ⟨h.hp, h.len, h.cap, fun i p hi => h.cell i p hi, fun i p a hi ha => (h.way i p a hi ha).keep (keep_drewN W n)⟩
def picks : Option Wy → Wy → Bool
  | none, _ => true
  | some y, w => betB w y
theorem pick_cons (n : Int) (w : Wy) (r : List Wy) (o : Option Wy) : pickW n (w :: r) o = pickW n r (if (n = 0 ∨ (w.ats.length : Int) = n) ∧ picks o w = true then some w else o) := by cases o <;> rfl
def OptAt (W : World) : Option Nat → Option Wy → Prop
  | none, none => True
  | some p, some a => WayAt W p a
  | _, _ => False
theorem OptAt.none_ {W : World} {po : Option Nat} (h : OptAt W po none) : po = none := by
  cases po with
  | none => rfl
  | some p => exact h.elim
theorem OptAt.some_ {W : World} {po : Option Nat} {a : Wy} (h : OptAt W po (some a)) : ∃ p, po = some p ∧ WayAt W p a := by
  cases po with
  | none => exact h.elim
  | some p => exact ⟨p, rfl, h⟩
theorem vpick (p0 : Option Addr) (g c : Nat) (ps : List Nat) (l : List Wy) (n : Int) (hl : l.length ≤ 100000000) (w : World) (h : WysIn w p0 g c ps l) :
    Calls Tryz.prog 29 #[.slice p0 l.length c, .int .i64 n] w fun e w' => (∃ po, e = .returned (ptrO po) ∧ OptAt w po (pickW n l none)) ∧ ∃ m, w' = w.drewN m := by
  have H := Lib.hid h
  have hcap := h.cap
  obtain ⟨r9, hr9⟩ : ∃ r9, pickW n l none = r9 := ⟨_, rfl⟩
  rw [hr9]
  have Hr9 := Lib.hid hr9
  obtain ⟨nl, hnl⟩ : ∃ nl, l.length = nl := ⟨_, rfl⟩
  rw [hnl] at hl hcap ⊢
  have Hnl := Lib.hid hnl
  clear h hr9 hnl
  go_enter Tryz.func29, Tryz.ntmps29
  go_wp2_with fail
  go_loopg [5, 10] (nl + 1) (fun gg t5 t10 wr => ∃ (k : Nat) (po : Option Nat) (o : Option Wy) (m : Nat), gg = nl + 1 - k ∧ k ≤ nl ∧ t5 = ptrO po ∧ t10 = .int .i64 k ∧ OptAt w po o ∧ pickW n (l.drop k) o = r9 ∧ wr = w.drewN m)
  case atStart => exact ⟨0, none, none, 0, rfl, Nat.zero_le _, rfl, rfl, trivial, Hr9.out, rfl⟩
  case round =>
    obtain ⟨k, po, o, m, rfl, hk, rfl, rfl, hop, hpk, rfl⟩ := hrel
    have hk1 : (0 : Int) ≤ (k : Int) := by omega
    by_cases hlt : k < nl
    · have hk2 : (k : Int) < (nl : Int) := by omega
      have hkl : k < l.length := by rw [Hnl.out]; exact hlt
      have hkp : k < ps.length := by rw [H.out.len]; exact hkl
      have ck := (H.out.drewN m).cell k ps[k] (List.getElem?_eq_getElem hkp)
      have hwy := H.out.way k ps[k] l[k] (List.getElem?_eq_getElem hkp) (List.getElem?_eq_getElem hkl)
      obtain rfl := H.out.hp (by intro e; rw [e] at hkl; simp at hkl)
      have hpk2 : pickW n (l.drop (k + 1)) (if (n = 0 ∨ (l[k].ats.length : Int) = n) ∧ picks o l[k] = true then some l[k] else o) = r9 := by
        rw [← pick_cons]
        exact (congrArg (fun z => pickW n z o) (List.drop_eq_getElem_cons hkl)).symm.trans hpk
      generalize l[k] = a at hwy hpk2
      generalize ps[k] = p at ck hwy
      have c5 : (w.drewN m).cell? ⟨p, 5, none⟩ = some (.int .i64 (a.ats.length : Nat)) := (hwy.keep (keep_drewN w m)).rest.1
      obtain ⟨la, hla⟩ : ∃ la, a.ats.length = la := ⟨_, rfl⟩
      rw [hla] at c5 hpk2
      have Hwy := Lib.hid hwy
      have Hop := Lib.hid hop
      have Hpk := Lib.hid hpk2
      have hlt2 : decide (k < nl) = true := decide_eq_true hlt
      obtain ⟨c1, hc1⟩ : ∃ c1, (n == 0 || (la : Int) == n) = c1 := ⟨_, rfl⟩
      have hcc : (n = 0 ∨ (la : Int) = n) ↔ c1 = true := by rw [← hc1]; simp
      have Hcc := Lib.hid hcc
      have Hc1 := Lib.hid hc1
      clear hwy hop hpk hpk2 hkl hkp hlt hla hcc hc1
      cases hb1 : c1
      · subst hb1
        have Hpk2 : Hid (pickW n (l.drop (k + 1)) o = r9) := Lib.hid (by have := Hpk.out; rwa [if_neg (by rw [Hcc.out]; simp)] at this)
        have h1 := Hc1.out
        rw [Bool.or_eq_false_iff] at h1
        obtain ⟨hn0, hn1⟩ := h1
        clear Hpk
        go_wp2_with fail
        go_roundg (nl + 1 - (k + 1))
        case measure => omega
        case rel => exact ⟨k + 1, po, o, _, rfl, by omega, rfl, by go_num, Hop.out, Hpk2.out, rfl⟩
      · subst hb1
        cases o with
        | none =>
          obtain rfl := Hop.out.none_
          have Hpk2 : Hid (pickW n (l.drop (k + 1)) (some a) = r9) := Lib.hid (by have := Hpk.out; rwa [if_pos ⟨Hcc.out.2 rfl, rfl⟩] at this)
          clear Hpk
          simp only [ptrO]
          cases hn0 : (n == 0)
          · have hn1 : ((la : Int) == n) = true := by have := Hc1.out; rw [hn0] at this; simpa using this
            go_wp2_with fail
            go_roundg (nl + 1 - (k + 1))
            case measure => omega
            case rel => exact ⟨k + 1, some p, some a, _, rfl, by omega, rfl, by go_num, Hwy.out, Hpk2.out, rfl⟩
          · go_wp2_with fail
            go_roundg (nl + 1 - (k + 1))
            case measure => omega
            case rel => exact ⟨k + 1, some p, some a, _, rfl, by omega, rfl, by go_num, Hwy.out, Hpk2.out, rfl⟩
        | some y =>
          obtain ⟨py, rfl, hpy⟩ := Hop.out.some_
          have HBt := Lib.hid (vbetter p py a y (w.drewN m) (Hwy.out.keep (keep_drewN w m)) (hpy.keep (keep_drewN w m)))
          have Hpy := Lib.hid hpy
          obtain ⟨bt, hbt⟩ : ∃ bt, betB a y = bt := ⟨_, rfl⟩
          rw [hbt] at HBt
          have Hbt := Lib.hid hbt
          clear hpy hbt
          simp only [ptrO]
          go_upto_region 5 with (fail)
          go_cut [32] from 14 to 32 (fun s32 wx => s32 = .bool bt ∧ ∃ m', wx = w.drewN m')
          case first =>
            cases hn0 : (n == 0)
            · have hn1 : ((la : Int) == n) = true := by have := Hc1.out; rw [hn0] at this; simpa using this
              go_wp2_with (go_at_call 56; refine HBt.out.mono ?_; clear HBt; rintro e w5 ⟨rfl, n5, rfl⟩)
              go_meet
              first | exact ⟨rfl, _, rfl⟩ | exact ⟨rfl, _, World.drewN_drewN _ _ _⟩
            · go_wp2_with (go_at_call 56; refine HBt.out.mono ?_; clear HBt; rintro e w5 ⟨rfl, n5, rfl⟩)
              go_meet
              first | exact ⟨rfl, _, rfl⟩ | exact ⟨rfl, _, World.drewN_drewN _ _ _⟩
          case rest =>
            obtain ⟨rfl, m', rfl⟩ := hcut
            clear HBt c5 ck
            cases hb2 : bt
            · subst hb2
              have Hpk2 : Hid (pickW n (l.drop (k + 1)) (some y) = r9) := Lib.hid (by have := Hpk.out; rwa [if_neg (by rw [show picks (some y) a = false from Hbt.out]; simp)] at this)
              clear Hpk
              go_wp2_with fail
              go_roundg (nl + 1 - (k + 1))
              case measure => omega
              case rel => exact ⟨k + 1, some py, some y, _, rfl, by omega, rfl, by go_num, Hpy.out, Hpk2.out, rfl⟩
            · subst hb2
              have Hpk2 : Hid (pickW n (l.drop (k + 1)) (some a) = r9) := Lib.hid (by have := Hpk.out; rwa [if_pos ⟨Hcc.out.2 rfl, Hbt.out⟩] at this)
              clear Hpk
              go_wp2_with fail
              go_roundg (nl + 1 - (k + 1))
              case measure => omega
              case rel => exact ⟨k + 1, some p, some a, _, rfl, by omega, rfl, by go_num, Hwy.out, Hpk2.out, rfl⟩
    · have hlt2 : decide (k < nl) = false := decide_eq_false hlt
      have Ho : Hid (OptAt w po r9) := Lib.hid (by
        rw [List.drop_eq_nil_of_le (by rw [Hnl.out]; omega)] at hpk
        have : o = r9 := hpk
        rw [← this]; exact hop)
      clear hpk hop hlt
      go_wp2_with fail
      go_ret
      exact ⟨⟨po, rfl, Ho.out⟩, _, rfl⟩
end Go.Proofs.YtiijpbfkchokaaaGreat
