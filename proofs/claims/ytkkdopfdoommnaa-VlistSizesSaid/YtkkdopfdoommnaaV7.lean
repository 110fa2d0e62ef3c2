/-
  vlist.items: a column's own items, one by one: the iterator's contract.
-/
import Derived.Test.YtkkdopfdoommnaaV3
import Derived.RangeFuncNested
import Derived.RangeFuncBound
import Derived.RangeFuncCalls
import Derived.RangeFuncLeaves
import Derived.RangeFuncFrom
import Derived.RangeFuncBox
import Derived.Shelf.Abstract
import Derived.Shelf.RegionOpen
import Derived.OwnWalkIn
import Derived.TacticsInMore
import Derived.LoopNIn
import Derived.LoopIn
namespace Go.Proofs.Ytkkdopfdoommnaa
open Go.ChangeShapes Go.WideShapes Go.ChangeAt Go.RowKit Go.Shelf

/-- the beginnings of the items from a place on -/
inductive Items (L : List Nd) : Nat → List Nat → Prop
  | done : Items L L.length []
  | step {i m : Nat} {s : List Nat} (hi : i < L.length) (hm : behC (L.drop i) 0 = some m) (hs : Items L (i + m) s) : Items L i (i :: s)
theorem Items.lt {L : List Nd} {i : Nat} {s : List Nat} (h : Items L i s) : ∀ x ∈ s, i ≤ x ∧ x < L.length := by
  induction h with
  | done => intro x hx; cases hx
  | step hi hm hs ih =>
    rename_i i' m' s'
    have := behC_pos _ _ _ hm
    intro x hx
    rcases List.mem_cons.1 hx with rfl | hx
    · exact ⟨Nat.le_refl _, hi⟩
    · have := ih x hx; omega
theorem Items.at_ {L : List Nd} {i : Nat} {s : List Nat} (h : Items L i s) : ∀ x ∈ s, ∃ m, behC (L.drop x) 0 = some m := by
  induction h with
  | done => intro x hx; cases hx
  | step hi hm hs ih =>
    intro x hx
    rcases List.mem_cons.1 hx with rfl | hx
    · exact ⟨_, hm⟩
    · exact ih x hx
theorem Items.len {L : List Nd} {i : Nat} {s : List Nat} (h : Items L i s) : s.length + i ≤ L.length := by
  induction h with
  | done => simp
  | step hi hm hs ih => have := behC_pos _ _ _ hm; simp; omega
theorem NIn.kept {w w' : World} {p : Option Addr} {b off cap n₀ : Nat} {L : List Nd} (h : NIn w p b off cap L) (hb : L ≠ [] → b < n₀) (k : Below n₀ w w') : NIn w' p b off cap L :=
  ⟨h.hp, fun e => Nat.lt_of_lt_of_le (h.hb e) k.size, fun j hj => (agg?_block (k.block b (hb (h.ne hj)))).trans (h.nd j hj), h.cap', h.len⟩
/-- what a round leaves alone: what lay below n₀, and the box of the iterator -/
def KpI (n₀ Bs : Nat) (W W' : World) : Prop := Below n₀ W W' ∧ W'.heap[Bs]? = W.heap[Bs]?
theorem kpI_t {n₀ Bs : Nat} {A B C : World} (h : KpI n₀ Bs A B) (k : KpI n₀ Bs B C) : KpI n₀ Bs A C := ⟨h.1.trans k.1, k.2.trans h.2⟩
theorem kpI_b {n₀ Bs : Nat} {w : World} (h1 : n₀ ≤ w.heap.size) (h2 : Bs < w.heap.size) : ∀ (W : World) (l : Nat) (o o' : Obj), w.heap.size ≤ l → W.heap[l]? = some o → o.isCells = false → o.isWalk = false → KpI n₀ Bs W (W.putObj l o') := fun W l o o' hz ho hc hw =>
  ⟨belowK_b h1 W l o o' hz ho hc hw, World.putObj_heap_other (by omega)⟩
set_option maxHeartbeats 1000000 in
theorem items_any (p0 : Option Addr) (len cap : Nat) (w : World) : Calls Try.prog 61 #[.slice p0 len cap] w fun e w' =>
    e = .returned (.func (.func 85) #[] #[.pointer (some ⟨w.heap.size, 0, none⟩)]) ∧ w' = w.alloc (.cells #[.slice p0 len cap] 26) := by
  go_enter Try.func61, Try.ntmps61
  go_wp2
  go_ret
  exact ⟨rfl, rfl⟩
section
attribute [local go_sem] Oper.semAt_some
set_option maxRecDepth 100000 in
set_option maxHeartbeats 4000000 in
theorem items1_in (n : Nat) (hn : 2 ≤ n) (l Bs n₀ b off cap : Nat) (p0 : Option Addr) (L : List Nd) (s : List Nat) (hs : Items L 0 s) (J Jx : List {i : Nat // i ∈ s} → World → Prop)
    (hY : ∀ pre x W, J pre W → pre.length < s.length → YieldAt Fence.wide (n - 1) Try.prog l #[.int .i64 (x.1 : Nat)] W fun e W' =>
      (e = .returned (.bool true) ∧ J (pre ++ [x]) W' ∧ KpI n₀ Bs W W') ∨ (e = .returned (.bool false) ∧ Jx (pre ++ [x]) W'))
    (W : World) (hBs : W.heap[Bs]? = some (.cells #[.slice p0 L.length cap] 26 (0, 0))) (hN : NIn W p0 b off cap L) (hb : L ≠ [] → b < n₀) (h0 : J [] W) :
    CallsIn Fence.wide n Try.prog 85 #[.func (.yield l) #[] #[], .pointer (some ⟨Bs, 0, none⟩)] W fun e W' => (∃ v, e = .returned v) ∧
      ((∃ ys : List {i : Nat // i ∈ s}, ys.map (·.1) = s ∧ J ys W') ∨ (∃ pre : List {i : Nat // i ∈ s}, pre.map (·.1) <+: s ∧ Jx pre W')) := by
  have h1 : 1 ≤ n := by omega
  refine callsIn_of_wp Try.func85 rfl trivial ?_ rfl
  simp only [Try.ntmps85, List.size_toArray, List.length_cons, List.length_nil, Nat.reduceAdd, Nat.reduceSub, Array.replicate_succ, Array.replicate_zero, List.push_toArray, List.append_toArray, List.nil_append, List.cons_append]
  gi_wp2
  gi_loopw [3] (fun i wr => ∃ (k : Nat) (pre : List {i : Nat // i ∈ s}) (rest : List Nat), i = .int .i64 k ∧ s = pre.map (·.1) ++ rest ∧ Items L k rest ∧ k ≤ L.length ∧ J pre wr ∧ KpI n₀ Bs W wr)
    (fun i _ => L.length + 1 - (intOf i).toNat)
  case atStart => exact ⟨0, [], s, rfl, rfl, hs, Nat.zero_le _, h0, Below.refl _ _, rfl⟩
  case round =>
    obtain ⟨k, pre, rest, rfl, hsp, hit, hk, hJ, hkp⟩ := hrel
    have hBk : wr.heap[Bs]? = some (.cells #[.slice p0 L.length cap] 26 (0, 0)) := hkp.2.trans hBs
    have cB : wr.cell? ⟨Bs, 0, none⟩ = some (.slice p0 L.length cap) := by rw [cell?_blk' hBk]; rfl
    have hk1 : (0 : Int) ≤ (k : Int) := by omega
    have hl := hN.len
    cases hit with
    | done =>
      gi_wp2
      refine ⟨fun _ h => (by cases h), ?_⟩
      gi_wp2
      go_end0
      exact ⟨⟨_, rfl⟩, .inl ⟨pre, (hsp.trans (by simp)).symm, hJ⟩⟩
    | step hi hm hs2 =>
      rename_i m rest'
      have hk2 : (k : Int) < (L.length : Int) := by omega
      have hx : k ∈ s := by rw [hsp]; simp
      obtain ⟨fn, tmps, assign, body, hy, hR⟩ := hY pre ⟨k, hx⟩ wr hJ (by have := congrArg List.length hsp; simp at this; omega)
      gi_wp2
      refine hR.mono ?_
      rintro e W3 (⟨rfl, hJ3, hk3⟩ | ⟨rfl, hJx3⟩)
      · have hB3 : W3.heap[Bs]? = some (.cells #[.slice p0 L.length cap] 26 (0, 0)) := hk3.2.trans hBk
        have c3 : W3.cell? ⟨Bs, 0, none⟩ = some (.slice p0 L.length cap) := by rw [cell?_blk' hB3]; rfl
        have hN3 : NIn W3 p0 b off cap L := hN.kept hb (hkp.1.trans hk3.1)
        have hB := callsIn_wide (n := n - 1).2 (behind_any p0 b off cap L k m W3 hN3 hm)
        gi_wp2
        refine ⟨trivial, hB.mono ?_⟩
        rintro e W4 ⟨rfl, rfl⟩
        gi_wp2
        go_roundw
        case rel => exact ⟨k + m, pre ++ [⟨k, hx⟩], rest', rfl, hsp.trans (by simp), hs2, by have := behC_pos _ _ _ hm; simp at this; omega, hJ3, kpI_t hkp hk3⟩
        case measure => have := behC_pos _ _ _ hm; simp [intOf]; omega
      · gi_wp2
        go_end0
        exact ⟨⟨_, rfl⟩, .inr ⟨pre ++ [⟨k, hx⟩], ⟨rest', Eq.trans (by simp) hsp.symm⟩, hJx3⟩⟩
end
theorem items_stops (n : Nat) (hn : 2 ≤ n) (Bs n₀ b off cap : Nat) (p0 : Option Addr) (L : List Nd) (s : List Nat) (hs : Items L 0 s) (w : World) (hBs : w.heap[Bs]? = some (.cells #[.slice p0 L.length cap] 26 (0, 0))) (hN : NIn w p0 b off cap L) (hb : L ≠ [] → b < n₀) :
    SeqStopsK Fence.wide n Try.prog 85 #[.pointer (some ⟨Bs, 0, none⟩)] (fun x : {i : Nat // i ∈ s} => #[.int .i64 (x.1 : Nat)]) (KpI n₀ Bs) (fun ys => ys.map (·.1) = s) (fun pre => pre.map (·.1) <+: s) s.length w := fun l J Jx W hW _ _ hY h0 =>
  items1_in n hn l Bs n₀ b off cap p0 L s hs J Jx hY W ((hW.block Bs (Array.getElem?_eq_some_iff.1 hBs).1).trans hBs) (hN.below hW) hb h0
end Go.Proofs.Ytkkdopfdoommnaa
