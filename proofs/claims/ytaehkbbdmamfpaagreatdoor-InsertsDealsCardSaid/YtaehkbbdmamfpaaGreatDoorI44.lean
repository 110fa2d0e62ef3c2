/-
  Inserts, the document's side: an account under way (Book), in memory: numbers, two rows of 255 flags, a row of 255 numbers, sums. No statement of the seat stands here.
-/
import Derived.Test.YtaehkbbdmamfpaaGreatDoorC13
import Derived.Test.YtaehkbbdmamfpaaGreatDoorI7
import Derived.Test.YtaehkbbdmamfpaaGreatDoorJ1
import Derived.Test.YtaehkbbdmamfpaaGreatDoorI9
import Derived.Test.YtaehkbbdmamfpaaGreatDoorI41
import Derived.Test.YtaehkbbdmamfpaaGreatDoorI25
import Derived.BigQuiet
import Derived.Deep.CutBlock
set_option maxRecDepth 100000
set_option maxHeartbeats 16000000
namespace Go.Proofs.YtaehkbbdmamfpaaGreatDoor
open Go.ChangeShapes Go.WideShapes Go.ChangeAt Go.RowKit
section
/-! ### What changes but one block -/
section
variable {W W' W'' : World} {r : Option Nat} {N : Nat}
theorem grown_t (h : W.grownBy W' r) (k : W'.grownBy W'' r) : W.grownBy W'' r :=
 ⟨k.os.trans h.os, k.tape.trans h.tape, k.output.trans h.output, Nat.le_trans h.size k.size, fun q hq hr => (k.block q (Nat.lt_of_lt_of_le hq h.size) hr).trans (h.block q hq hr)⟩
theorem zde (h : Below W.heap.size W W') (r : Option Nat) : W.grownBy W' r := ⟨h.os, h.tape, h.output, h.size, fun q hq _ => h.block q hq⟩
theorem zcX (h : W.grownBy W' (some N)) (j : Nat) (v : Value) : W.grownBy (W'.setCell ⟨N, j, none⟩ v) (some N) := by
 have hb := (Below.refl N W').setCell (p := ⟨N, j, none⟩) (Nat.le_refl _) v
 exact ⟨hb.os.trans h.os, hb.tape.trans h.tape, hb.output.trans h.output, Nat.le_trans h.size hb.size, fun q hq hr => (Below.heap_setCell _ _ _ _ (by simp only; intro e; exact hr (by rw [e]))).trans (h.block q hq hr)⟩
theorem grown_drew (h : W.grownBy W' r) : W.grownBy W'.drew r := grown_t h (zde ((Below.refl _ _).drew) r)
theorem grown_blk {c : Array Value} {t : TypeId} {b : Nat} (h : W.grownBy W' (some N)) (hb : Blk W b c t) (hne : b ≠ N) : Blk W' b c t := (h.block b hb.lt (by intro e; exact hne (Option.some.inj e))).trans hb
theorem grown_nin {p : Option Addr} {b off cap : Nat} {L : List Nd} (h : W.grownBy W' (some N)) (hN : NIn W p b off cap L) (hne : L ≠ [] -> b ≠ N) : NIn W' p b off cap L :=
 hN.other (w' := W') (fun e => h.block b (hN.hb e) (by intro e2; exact hne e (Option.some.inj e2))) h.size
end
/-! ### A Book -/
structure Bks where
 goal : Int
 pens : Int
 depth : Int
 met : Nat -> Bool
 spl : Nat -> Bool
 hold : Nat -> Int
 t : Tt
def zdj (s : Bks) (j : Nat) : Value :=
 if j = 0 then .int .i64 s.goal else if j = 1 then .int .i64 s.pens else if j = 2 then .int .i64 s.depth else
 if j < 258 then .bool (s.met (j - 3)) else if j < 513 then .bool (s.spl (j - 258)) else if j < 768 then .int .i64 (s.hold (j - 513)) else (s.t.cells[j - 768]?).getD undef
structure BkAt (W : World) (N : Nat) (s : Bks) : Prop where
 out : ∃ c, Blk W N c 131 /\ c.size = 777 /\ ∀ j, j < 777 -> c[j]? = some (zdj s j)
section
variable {W W' : World} {N : Nat} {s : Bks}
theorem BkAt.cell (h : BkAt W N s) {j : Nat} (hj : j < 777) : W.cell? ⟨N, j, none⟩ = some (zdj s j) := by
 obtain ⟨c, hb, _, hc⟩ := h.out
 rw [cell?_blk' hb, hc j hj]
theorem BkAt.frozen (h : BkAt W N s) (j : Nat) : W.frozen? ⟨N, j, none⟩ = false := by
 obtain ⟨c, hb, _, _⟩ := h.out
 exact hb.frozen j
theorem BkAt.lt (h : BkAt W N s) : N < W.heap.size := by
 obtain ⟨c, hb, _, _⟩ := h.out
 exact hb.lt
theorem BkAt.below (h : BkAt W N s) (hb : Below W.heap.size W W') : BkAt W' N s := by
 obtain ⟨c, h1, h2, h3⟩ := h.out
 exact ⟨c, h1.below hb, h2, h3⟩
theorem BkAt.drew (h : BkAt W N s) : BkAt W.drew N s := by
 obtain ⟨c, h1, h2, h3⟩ := h.out
 exact ⟨c, h1, h2, h3⟩
theorem BkAt.drewN (h : BkAt W N s) (n : Nat) : BkAt (W.drewN n) N s := by
 obtain ⟨c, h1, h2, h3⟩ := h.out
 exact ⟨c, h1, h2, h3⟩
theorem BkAt.other (h : BkAt W N s) {q k : Nat} (hq : q ≠ N) (v : Value) : BkAt (W.setCell ⟨q, k, none⟩ v) N s := by
 obtain ⟨c, h1, h2, h3⟩ := h.out
 exact ⟨c, h1.other hq v, h2, h3⟩
theorem BkAt.put (h : BkAt W N s) {j : Nat} (hj : j < 777) {v : Value} {s' : Bks} (hs : ∀ i, i < 777 -> zdj s' i = if i = j then v else zdj s i) : BkAt (W.setCell ⟨N, j, none⟩ v) N s' := by
 obtain ⟨c, h1, h2, h3⟩ := h.out
 refine ⟨c.setIfInBounds j v, h1.set j v _ rfl, by simp [h2], fun i hi => ?_⟩
 rw [Array.getElem?_setIfInBounds, hs i hi]
 by_cases e : j = i
 · subst e; rw [if_pos rfl, if_pos (by omega), if_pos rfl]
 · rw [if_neg e, if_neg (Ne.symm e), h3 i hi]
theorem BkAt.cgoal (h : BkAt W N s) : W.cell? ⟨N, 0, none⟩ = some (.int .i64 s.goal) := h.cell (by decide)
theorem BkAt.cpens (h : BkAt W N s) : W.cell? ⟨N, 1, none⟩ = some (.int .i64 s.pens) := h.cell (by decide)
theorem BkAt.cdepth (h : BkAt W N s) : W.cell? ⟨N, 2, none⟩ = some (.int .i64 s.depth) := h.cell (by decide)
theorem BkAt.cmet (h : BkAt W N s) {k : Nat} (hk : k <= 254) : W.cell? ⟨N, 3 + k, none⟩ = some (.bool (s.met k)) := by
 rw [h.cell (by omega)]
 unfold zdj
 rw [if_neg (by omega), if_neg (by omega), if_neg (by omega), if_pos (by omega), Nat.add_sub_cancel_left]
theorem BkAt.cspl (h : BkAt W N s) {k : Nat} (hk : k <= 254) : W.cell? ⟨N, 258 + k, none⟩ = some (.bool (s.spl k)) := by
 rw [h.cell (by omega)]
 unfold zdj
 rw [if_neg (by omega), if_neg (by omega), if_neg (by omega), if_neg (by omega), if_pos (by omega), Nat.add_sub_cancel_left]
theorem BkAt.chold (h : BkAt W N s) {k : Nat} (hk : k <= 254) : W.cell? ⟨N, 513 + k, none⟩ = some (.int .i64 (s.hold k)) := by
 rw [h.cell (by omega)]
 unfold zdj
 rw [if_neg (by omega), if_neg (by omega), if_neg (by omega), if_neg (by omega), if_neg (by omega), if_pos (by omega), Nat.add_sub_cancel_left]
theorem BkAt.ctot (h : BkAt W N s) {q : Nat} (hq : q < 9) {v : Value} (hv : s.t.cells[q]? = some v) : W.cell? ⟨N, 768 + q, none⟩ = some v := by
 rw [h.cell (by omega)]
 unfold zdj
 rw [if_neg (by omega), if_neg (by omega), if_neg (by omega), if_neg (by omega), if_neg (by omega), if_neg (by omega), Nat.add_sub_cancel_left, hv]
 rfl
theorem BkAt.sgoal (h : BkAt W N s) (x : Int) : BkAt (W.setCell ⟨N, 0, none⟩ (.int .i64 x)) N { s with goal := x } := h.put (by decide) fun i hi => by
 unfold zdj
 by_cases e : i = 0
 · subst e; rfl
 · simp only [if_neg e]
theorem BkAt.spens (h : BkAt W N s) (x : Int) : BkAt (W.setCell ⟨N, 1, none⟩ (.int .i64 x)) N { s with pens := x } := h.put (by decide) fun i hi => by
 unfold zdj
 by_cases e : i = 1
 · subst e; rfl
 · simp only [if_neg e]
theorem BkAt.smet (h : BkAt W N s) {k : Nat} (hk : k <= 254) (x : Bool) : BkAt (W.setCell ⟨N, 3 + k, none⟩ (.bool x)) N { s with met := upd s.met k x } := h.put (by omega) fun i hi => by
 unfold zdj
 by_cases e : i = 3 + k
 ·
  subst e
  rw [if_neg (by omega), if_neg (by omega), if_neg (by omega), if_pos (by omega), if_pos rfl, Nat.add_sub_cancel_left]
  exact congrArg Value.bool (zbg _ _ _)
 ·
  rw [if_neg e]
  by_cases h2 : i <= 2
  ·
   have : i = 0 \/ i = 1 \/ i = 2 := by omega
   rcases this with rfl | rfl | rfl <;> rfl
  ·
   have h3 : i - 3 ≠ k := by omega
   simp only [zaN _ _ h3]
theorem BkAt.sspl (h : BkAt W N s) {k : Nat} (hk : k <= 254) (x : Bool) : BkAt (W.setCell ⟨N, 258 + k, none⟩ (.bool x)) N { s with spl := upd s.spl k x } := h.put (by omega) fun i hi => by
 unfold zdj
 by_cases e : i = 258 + k
 ·
  subst e
  rw [if_neg (by omega), if_neg (by omega), if_neg (by omega), if_neg (by omega), if_pos (by omega), if_pos rfl, Nat.add_sub_cancel_left]
  exact congrArg Value.bool (zbg _ _ _)
 ·
  rw [if_neg e]
  by_cases h2 : i < 258
  · simp only [if_pos h2]
  ·
   have h3 : i - 258 ≠ k := by omega
   simp only [zaN _ _ h3]
theorem BkAt.shold (h : BkAt W N s) {k : Nat} (hk : k <= 254) (x : Int) : BkAt (W.setCell ⟨N, 513 + k, none⟩ (.int .i64 x)) N { s with hold := upd s.hold k x } := h.put (by omega) fun i hi => by
 unfold zdj
 by_cases e : i = 513 + k
 ·
  subst e
  rw [if_neg (by omega), if_neg (by omega), if_neg (by omega), if_neg (by omega), if_neg (by omega), if_pos (by omega), if_pos rfl, Nat.add_sub_cancel_left]
  exact congrArg (Value.int .i64) (zbg _ _ _)
 ·
  rw [if_neg e]
  by_cases h2 : i < 513
  · simp only [if_pos h2]
  ·
   have h3 : i - 513 ≠ k := by omega
   simp only [zaN _ _ h3]
theorem BkAt.stot (h : BkAt W N s) {q : Nat} (hq : q < 9) {v : Value} {T : Tt} (hT : T.cells = s.t.cells.set q v) : BkAt (W.setCell ⟨N, 768 + q, none⟩ v) N { s with t := T } := h.put (by omega) fun i hi => by
 unfold zdj
 by_cases e : i = 768 + q
 ·
  subst e
  rw [if_neg (by omega), if_neg (by omega), if_neg (by omega), if_neg (by omega), if_neg (by omega), if_neg (by omega), if_pos rfl, Nat.add_sub_cancel_left]
  show (T.cells[q]?).getD undef = v
  have hl : s.t.cells.length = 9 := rfl
  rw [hT, List.getElem?_set, if_pos rfl, if_pos (by omega)]
  rfl
 ·
  rw [if_neg e]
  by_cases h2 : i < 768
  · simp only [if_pos h2]
  ·
   have h3 : ¬ q = i - 768 := by omega
   have : T.cells[i - 768]? = s.t.cells[i - 768]? := by rw [hT, List.getElem?_set, if_neg h3]
   show (if i = 0 then _ else if i = 1 then _ else if i = 2 then _ else if i < 258 then _ else if i < 513 then _ else if i < 768 then _ else (T.cells[i - 768]?).getD undef) = _
   rw [this]
theorem BkAt.aggT (h : BkAt W N s) : agg? W N 768 9 = some s.t.arr := by
 obtain ⟨c, hb, hsz, hc⟩ := h.out
 refine agg_of_cells (by decide) rfl fun k hk => ?_
 rw [cell?_blk' hb, hc _ (by omega)]
 unfold zdj
 rw [if_neg (by omega), if_neg (by omega), if_neg (by omega), if_neg (by omega), if_neg (by omega), if_neg (by omega), Nat.add_sub_cancel_left]
 have hl : s.t.cells.length = 9 := rfl
 show some ((s.t.cells[k]?).getD undef) = s.t.cells.toArray[k]?
 rw [List.getElem?_toArray, List.getElem?_eq_getElem (by omega)]
 rfl
end
theorem Tt.cells_nat (t : Tt) (x : Int) : ({ t with nat := x } : Tt).cells = t.cells.set 0 (.int .i64 x) := rfl
theorem Tt.cells_st (t : Tt) {j : Nat} (hj : j <= 3) (x : Int) : (t.setS j x).cells = t.cells.set (1 + j) (.int .i64 x) /\ t.cells[1 + j]? = some (.int .i64 (t.st j)) := by
 match j, hj with
 | 0, _ => exact ⟨rfl, rfl⟩
 | 1, _ => exact ⟨rfl, rfl⟩
 | 2, _ => exact ⟨rfl, rfl⟩
 | 3, _ => exact ⟨rfl, rfl⟩
theorem Tt.cells_sh (t : Tt) {j : Nat} (hj : j <= 3) (x : Int) : (t.setH j x).cells = t.cells.set (5 + j) (.int .i64 x) /\ t.cells[5 + j]? = some (.int .i64 (t.sh j)) := by
 match j, hj with
 | 0, _ => exact ⟨rfl, rfl⟩
 | 1, _ => exact ⟨rfl, rfl⟩
 | 2, _ => exact ⟨rfl, rfl⟩
 | 3, _ => exact ⟨rfl, rfl⟩
/-! ### A new Book -/
def Bks.new (g d : Int) : Bks := ⟨g, 0, d, fun _ => false, fun _ => false, fun _ => 0, .zero⟩
noncomputable def bookA (g d : Int) : Array Value := ((Tryz.zeroCells131).setIfInBounds 0 (.int .i64 g)).setIfInBounds 2 (.int .i64 d)
theorem zero_book : Tryz.zeroCells131.toList = (List.range 777).map (zdj (Bks.new 0 0)) := by kernel_rfl
theorem bookA_at (g d : Int) {j : Nat} (hj : j < 777) : (bookA g d)[j]? = some (zdj (Bks.new g d) j) := by
 have hz : ∀ i, i < 777 -> (Tryz.zeroCells131)[i]? = some (zdj (Bks.new 0 0) i) := fun i hi => by
  rw [<- Array.getElem?_toList, zero_book, List.getElem?_map, List.getElem?_range hi]; rfl
 have hs : (Tryz.zeroCells131).size = 777 := by rw [<- Array.length_toList, zero_book]; simp
 unfold bookA
 rw [Array.getElem?_setIfInBounds, Array.getElem?_setIfInBounds, hz j hj]
 by_cases e2 : j = 2
 · subst e2; rw [if_pos rfl, if_pos (by simp [hs])]; rfl
 ·
  rw [if_neg (Ne.symm e2)]
  by_cases e0 : j = 0
  · subst e0; rw [if_pos rfl, if_pos (by rw [hs]; decide)]; rfl
  ·
   rw [if_neg (Ne.symm e0)]
   unfold zdj
   simp only [if_neg e0, if_neg e2]
   rfl
theorem book_new (W : World) (g d : Int) : BkAt (W.alloc (.cells (bookA g d) 131)) W.heap.size (Bks.new g d) := by
 refine ⟨bookA g d, heap_alloc_new _ _, ?_, fun j hj => bookA_at g d hj⟩
 have hs : (Tryz.zeroCells131).size = 777 := by rw [<- Array.length_toList, zero_book]; simp
 unfold bookA
 simp [hs]
attribute [local go_sem ↓] Go.wp_at_zero Go.wp_at_succ
def zcs (s : Bks) (k : Nat) (x : Cl) : Bks := if s.met k = true then s else { s with met := upd s.met k true, goal := s.goal - zaT x.have_ x.scale - x.skip.nat, t := ({ s.t with nat := s.t.nat + x.skip.nat } : Tt).glue x.skip }
structure BkB (K : Int) (s : Bks) : Prop where
 goal : -K <= s.goal /\ s.goal <= K
 pens : -K <= s.pens /\ s.pens <= K
 nat : -K <= s.t.nat /\ s.t.nat <= K
 st : ∀ j, -K <= s.t.st j /\ s.t.st j <= K
 sh : ∀ j, -K <= s.t.sh j /\ s.t.sh j <= K
 hold : ∀ k, k <= 254 -> -K <= s.hold k /\ s.hold k <= K
theorem qbegun (N : Nat) (s : Bks) (k : Nat) (hk : k <= 254) (x : Cl) (hx : ClB x) (W : World) (hB : BkAt W N s) (hb : BkB 600000000000000000 s) :
 Calls Tryz.prog 116 #[.pointer (some ⟨N, 0, none⟩), .int .i64 k, .agg x.arr] W fun e W' => e = .returned (.tuple #[]) /\ BkAt W' N (zcs s k x) /\ W.grownBy W' (some N) := by
 obtain ⟨g1, g2⟩ := hb.goal
 obtain ⟨n1, n2⟩ := hb.nat
 have hk0 : (0 : Int) <= (k : Int) := by omega
 have hk1 : (k : Int) < 255 := by omega
 obtain ⟨o, ho⟩ : ∃ o : Nat, x.skip.so = (o : Int) := ⟨x.skip.so.toNat, by have := hx.so.1; omega⟩
 obtain ⟨q, hq⟩ : ∃ q : Nat, x.skip.ho = (q : Int) := ⟨x.skip.ho.toNat, by have := hx.ho.1; omega⟩
 have ho3 : o <= 3 := by have := hx.so.2; omega
 have hq3 : q <= 3 := by have := hx.ho.2; omega
 have ho0 : (0 : Int) <= (o : Int) := by omega
 have ho4 : (o : Int) < 4 := by omega
 have hq0 : (0 : Int) <= (q : Int) := by omega
 have hq4 : (q : Int) < 4 := by omega
 obtain ⟨m1, m2⟩ := hx.nat
 obtain ⟨t1, t2⟩ := hx.str
 obtain ⟨u1, u2⟩ := hx.shr
 obtain ⟨v1, v2⟩ := hx.have_
 obtain ⟨y1, y2⟩ := hx.scale
 have hsc := zbK x.have_ x.scale
 have Hst := zzh hb.st
 have Hsh := zzh hb.sh
 have hNlt := hB.lt
 have hQ0 := heap_alloc_new W (.cells x.arr 88)
 have hba : Below W.heap.size W (W.alloc (.cells x.arr 88)) := (Below.refl _ _).alloc (Nat.le_refl _) _
 have hB1 := hB.below hba
 have hK1 := zde hba (some N)
 have Ho := zzh (And.intro ho hq)
 clear hB hba ho hq hx hb
 go_enter Tryz.func116, Tryz.ntmps116
 go_upto_region 1 with (fail)
 generalize W.alloc (.cells x.arr 88) = W1 at hQ0 hB1 hK1 ⊢
 obtain ⟨Q, hQ⟩ : ∃ Q, W.heap.size = Q := ⟨_, rfl⟩
 rw [hQ] at hQ0 hNlt ⊢
 have hQN : Q ≠ N := by omega
 clear hQ
 have hQb : Blk W1 Q x.arr 88 := hQ0
 clear hQ0
 have hc := hB1.cmet hk
 have hf := hB1.frozen (3 + k)
 cases hm : s.met k
 case true =>
  rw [hm] at hc
  have hv := zzh (show zcs s k x = s by unfold zcs; rw [if_pos hm])
  have H1 := zzh (And.intro hB1 hK1)
  clear hm hB1 hK1
  go_wp2_with fail
  exact ⟨rfl, _, results_none rfl _ _ _, rfl, by rw [hv.out]; exact H1.out.1, H1.out.2⟩
 rw [hm] at hc
 have Hm := zzh hm
 clear hm
 have hB2 := hB1.smet hk true
 have hK2 := zcX hK1 (3 + k) (.bool true)
 have hQ2 : Blk (W1.setCell ⟨N, 3 + k, none⟩ (.bool true)) Q x.arr 88 := hQb.other (Ne.symm hQN) _
 go_upto_region 3 with (fail)
 generalize W1.setCell ⟨N, 3 + k, none⟩ (.bool true) = W2 at hB2 hK2 hQ2 ⊢
 clear hB1 hK1 hQb hc hf
 obtain ⟨sc, hsc2⟩ : ∃ sc, zaT x.have_ x.scale = sc := ⟨_, rfl⟩
 rw [hsc2] at hsc
 have Hsc := zzh hsc2
 clear hsc2
 have c0 : W2.drew.cell? ⟨N, 0, none⟩ = some (.int .i64 s.goal) := hB2.cgoal
 have f0 : W2.drew.frozen? ⟨N, 0, none⟩ = false := hB2.drew.frozen 0
 have x0 : W2.drew.cell? ⟨Q, 0, none⟩ = some (.int .i64 x.scale) := by rw [cell?_blk' (show Blk W2.drew Q x.arr 88 from hQ2), Cl.get0]
 have x2 : W2.drew.cell? ⟨Q, 2, none⟩ = some (.int .i64 x.have_) := by rw [cell?_blk' (show Blk W2.drew Q x.arr 88 from hQ2), Cl.get2]
 have x3 : W2.drew.cell? ⟨Q, 3, none⟩ = some (.int .i64 x.skip.nat) := by rw [cell?_blk' (show Blk W2.drew Q x.arr 88 from hQ2), Cl.get3]
 have hB3 := (hB2.sgoal (s.goal - sc - x.skip.nat)).drew
 have hK3 := grown_drew (zcX hK2 0 (.int .i64 (s.goal - sc - x.skip.nat)))
 have hQ3 : Blk (W2.setCell ⟨N, 0, none⟩ (.int .i64 (s.goal - sc - x.skip.nat))).drew Q x.arr 88 := hQ2.other (w := W2) (Ne.symm hQN) _
 have HS := zzh (qscaled x.have_ x.scale (by omega) (by omega) y1 y2)
 refine Rest.region follows ?_
 refine Rest.tame 17 (fun W => W = W2.drew) (by kernel_rfl) rfl ?_
 simp only [Nat.reduceSub, List.drop_zero, List.take_succ_cons, List.take_zero]
 iterate 17 first
  | (refine TW.cons_n rfl _ (by intro wT hT R hR K hK; simp only [Act.put, lsA, lsB, lsC] at hK; subst hT; go_step; first | (((with_reducible refine (HS.out _).mono ?_); rintro e w8 ⟨rfl, rfl⟩; rw [Hsc.out]; exact hK _ _ (hR _ rfl))) | exact hK _ _ (hR _ rfl)) ?_; try simp only [Act.put, lsA, lsB, lsC])
 refine TW.nil fun w9 h9 => ?_
 subst h9
 refine Rest.seq (by kernel_rfl) ?_
 simp only [List.drop_succ_cons, List.drop_zero]
 go_upto_region 4 with (fail)
 clear c0 f0 x0 x2 x3 hB2 hK2 hQ2 HS
 generalize (W2.setCell ⟨N, 0, none⟩ (.int .i64 (s.goal - sc - x.skip.nat))).drew = W3 at hB3 hK3 hQ3 ⊢
 have c0 : W3.drew.cell? ⟨N, 768, none⟩ = some (.int .i64 s.t.nat) := hB3.ctot (q := 0) (by decide) rfl
 have f0 : W3.drew.frozen? ⟨N, 768, none⟩ = false := hB3.drew.frozen 768
 have x3 : W3.drew.cell? ⟨Q, 3, none⟩ = some (.int .i64 x.skip.nat) := by rw [cell?_blk' (show Blk W3.drew Q x.arr 88 from hQ3), Cl.get3]
 have hB4 := (hB3.stot (q := 0) (by decide) (T := { s.t with nat := s.t.nat + x.skip.nat }) (Tt.cells_nat _ _)).drew
 have hK4 := grown_drew (zcX hK3 768 (.int .i64 (s.t.nat + x.skip.nat)))
 have hQ4 : Blk (W3.setCell ⟨N, 768, none⟩ (.int .i64 (s.t.nat + x.skip.nat))).drew Q x.arr 88 := hQ3.other (w := W3) (Ne.symm hQN) _
 refine Rest.region follows ?_
 refine Rest.tame 13 (fun W => W = W3.drew) (by kernel_rfl) rfl ?_
 simp only [Nat.reduceSub, List.drop_zero, List.take_succ_cons, List.take_zero]
 iterate 13 first
  | (refine TW.cons_n rfl _ (by intro wT hT R hR K hK; simp only [Act.put, lsA, lsB, lsC] at hK; subst hT; go_step; exact hK _ _ (hR _ rfl)) ?_; try simp only [Act.put, lsA, lsB, lsC])
 refine TW.nil fun w9 h9 => ?_
 subst h9
 refine Rest.seq (by kernel_rfl) ?_
 simp only [List.drop_succ_cons, List.drop_zero]
 go_upto_region 5 with (fail)
 clear c0 f0 x3 hB3 hK3 hQ3
 have hB4' : BkAt (W3.setCell ⟨N, 768, none⟩ (.int .i64 (s.t.nat + x.skip.nat))).drew N _ := hB4
 generalize (W3.setCell ⟨N, 768, none⟩ (.int .i64 (s.t.nat + x.skip.nat))).drew = W4 at hB4' hK4 hQ4 ⊢
 clear hB4
 obtain ⟨T1, hT1⟩ : ∃ T1 : Tt, { s.t with nat := s.t.nat + x.skip.nat } = T1 := ⟨_, rfl⟩
 rw [hT1] at hB4'
 have hb1 : T1.st o = s.t.st o := by rw [<- hT1]; match o, ho3 with | 0, _ => rfl | 1, _ => rfl | 2, _ => rfl | 3, _ => rfl
 have hb2 : T1.sh q = s.t.sh q := by rw [<- hT1]; match q, hq3 with | 0, _ => rfl | 1, _ => rfl | 2, _ => rfl | 3, _ => rfl
 obtain ⟨a1, a2⟩ := Hst.out o
 obtain ⟨e1, e2⟩ := Hsh.out q
 obtain ⟨vs, hvs⟩ : ∃ v, T1.st o = v := ⟨_, rfl⟩
 rw [<- hb1, hvs] at a1 a2
 have Hvs := zzh hvs
 have HT1 := zzh hT1
 have c0 : W4.drew.cell? ⟨N, 769 + o, none⟩ = some (.int .i64 vs) := by
  have := hB4'.ctot (q := 1 + o) (by omega) (v := .int .i64 vs) (by rw [<- hvs]; exact (T1.cells_st ho3 0).2)
  rw [show 768 + (1 + o) = 769 + o by omega] at this
  exact this
 have f0 : W4.drew.frozen? ⟨N, 769 + o, none⟩ = false := hB4'.drew.frozen _
 have x4 : W4.drew.cell? ⟨Q, 4, none⟩ = some (.int .i64 x.skip.str) := by rw [cell?_blk' (show Blk W4.drew Q x.arr 88 from hQ4), Cl.get4]
 have x6 : W4.drew.cell? ⟨Q, 6, none⟩ = some (.int .i64 (o : Int)) := by rw [cell?_blk' (show Blk W4.drew Q x.arr 88 from hQ4), Cl.get6, Ho.out.1]
 have hB5 := (hB4'.stot (q := 1 + o) (by omega) (T := T1.setS o (vs + x.skip.str)) (T1.cells_st ho3 _).1).drew
 rw [show 768 + (1 + o) = 769 + o by omega] at hB5
 have hK5 := grown_drew (zcX hK4 (769 + o) (.int .i64 (vs + x.skip.str)))
 have hQ5 : Blk (W4.setCell ⟨N, 769 + o, none⟩ (.int .i64 (vs + x.skip.str))).drew Q x.arr 88 := hQ4.other (w := W4) (Ne.symm hQN) _
 clear hvs hT1 hb1
 refine Rest.region follows ?_
 refine Rest.tame 21 (fun W => W = W4.drew) (by kernel_rfl) rfl ?_
 simp only [Nat.reduceSub, List.drop_zero, List.take_succ_cons, List.take_zero]
 iterate 21 first
  | (refine TW.cons_n rfl _ (by intro wT hT R hR K hK; simp only [Act.put, lsA, lsB, lsC] at hK; subst hT; go_step; exact hK _ _ (hR _ rfl)) ?_; try simp only [Act.put, lsA, lsB, lsC])
 refine TW.nil fun w9 h9 => ?_
 subst h9
 refine Rest.seq (by kernel_rfl) ?_
 simp only [List.drop_succ_cons, List.drop_zero]
 go_upto_region 6 with (fail)
 clear c0 f0 x4 x6 hB4' hK4 hQ4
 generalize (W4.setCell ⟨N, 769 + o, none⟩ (.int .i64 (vs + x.skip.str))).drew = W5 at hB5 hK5 hQ5 ⊢
 obtain ⟨T2, hT2⟩ : ∃ T2, T1.setS o (vs + x.skip.str) = T2 := ⟨_, rfl⟩
 rw [hT2] at hB5
 have hb3 : T2.sh q = T1.sh q := by rw [<- hT2]; exact zcB _ _ _ _
 obtain ⟨vh, hvh⟩ : ∃ v, T2.sh q = v := ⟨_, rfl⟩
 rw [<- hb2, <- hb3, hvh] at e1 e2
 have Hvh := zzh hvh
 have HT2 := zzh hT2
 have c0 : W5.drew.cell? ⟨N, 773 + q, none⟩ = some (.int .i64 vh) := by
  have := hB5.ctot (q := 5 + q) (by omega) (v := .int .i64 vh) (by rw [<- hvh]; exact (T2.cells_sh hq3 0).2)
  rw [show 768 + (5 + q) = 773 + q by omega] at this
  exact this
 have f0 : W5.drew.frozen? ⟨N, 773 + q, none⟩ = false := hB5.drew.frozen _
 have x5 : W5.drew.cell? ⟨Q, 5, none⟩ = some (.int .i64 x.skip.shr) := by rw [cell?_blk' (show Blk W5.drew Q x.arr 88 from hQ5), Cl.get5]
 have x7 : W5.drew.cell? ⟨Q, 7, none⟩ = some (.int .i64 (q : Int)) := by rw [cell?_blk' (show Blk W5.drew Q x.arr 88 from hQ5), Cl.get7, Ho.out.2]
 have hB6 := (hB5.stot (q := 5 + q) (by omega) (T := T2.setH q (vh + x.skip.shr)) (T2.cells_sh hq3 _).1).drew
 rw [show 768 + (5 + q) = 773 + q by omega] at hB6
 have hK6 := grown_drew (zcX hK5 (773 + q) (.int .i64 (vh + x.skip.shr)))
 have H6 := zzh (And.intro hB6 hK6)
 clear hvh hT2 hb2 hb3 hB5 hB6 hK5 hK6 hQ5
 refine Rest.region follows ?_
 refine Rest.tame 21 (fun W => W = W5.drew) (by kernel_rfl) rfl ?_
 simp only [Nat.reduceSub, List.drop_zero, List.take_succ_cons, List.take_zero]
 iterate 21 first
  | (refine TW.cons_n rfl _ (by intro wT hT R hR K hK; simp only [Act.put, lsA, lsB, lsC] at hK; subst hT; go_step; exact hK _ _ (hR _ rfl)) ?_; try simp only [Act.put, lsA, lsB, lsC])
 refine TW.nil fun w9 h9 => ?_
 subst h9
 refine Rest.seq (by kernel_rfl) ?_
 simp only [List.drop_succ_cons, List.drop_zero]
 go_wp2_with fail
 refine ⟨rfl, _, results_none rfl _ _ _, rfl, ?_, H6.out.2⟩
 have hv : zcs s k x = { s with met := upd s.met k true, goal := s.goal - sc - x.skip.nat, t := T2.setH q (vh + x.skip.shr) } := by
  unfold zcs
  rw [if_neg (by rw [Hm.out]; decide), Hsc.out, HT1.out]
  have hgl : T1.glue x.skip = T2.setH q (vh + x.skip.shr) := by
   unfold Tt.glue
   simp only [Ho.out.1, Ho.out.2, Int.toNat_natCast]
   rw [Hvs.out, HT2.out, Hvh.out]
  rw [hgl]
 rw [hv]
 exact H6.out.1
end
section
attribute [local go_sem ↓] Go.wp_at_zero Go.wp_at_succ
theorem By2.set2 {a b : Nat} {A B : World} (h : By2 a b A B) (k : Nat) (v : Value) : By2 a b A (B.setCell ⟨b, k, none⟩ v) := h.trans (.by2 ⟨rfl, rfl, rfl, (KeepsWalks.setCell B _ v).size, fun j _ hne => Below.heap_setCell _ _ _ j (fun e => hne (by rw [e]))⟩)
theorem By2.drewN {a b : Nat} {A B : World} (h : By2 a b A B) (n : Nat) : By2 a b A (B.drewN n) := h.trans ⟨rfl, rfl, rfl, Nat.le_refl _, fun _ _ _ _ => rfl⟩
theorem By2.nin {a c : Nat} {A B : World} (h : By2 a c A B) {p : Option Addr} {b off cap : Nat} {L : List Nd} (hN : NIn A p b off cap L) (h1 : L ≠ [] -> b ≠ a) (h2 : L ≠ [] -> b ≠ c) : NIn B p b off cap L :=
 hN.other (w' := B) (fun e => h.block b (hN.hb e) (h1 e) (h2 e)) h.size
theorem qparted (N S : Nat) (hNS : N ≠ S) (s : Bks) (sp : Sp) (kc : Cl) (hk : ClB kc) (k : Nat) (hk2 : k <= 254) (room : Int) (hrm : -1152921504606846976 <= room /\ room <= 1152921504606846976) (hbk : BkB 600000000000000000 s)
 (b off cap : Nat) (L : List Nd) (hc : zao L = 0) (x : Nat) (hx : x ∈ itsP L) (hk13 : (nth L x).kind = 13) (hX : colQ (insP L x) = 0) (hs0 : sp.at_ = (x : Int)) (hs1 : sp.cls = (k : Int))
 (W : World) (hN : NIn W (some ⟨b, off, none⟩) b off cap L) (hbN : b ≠ N) (hbS : b ≠ S) (hB : BkAt W N s) (hS : Blk W S sp.arr 85) :
 Calls Tryz.prog 119 #[.pointer (some ⟨N, 0, none⟩), .slice (some ⟨b, off, none⟩) L.length cap, .pointer (some ⟨S, 0, none⟩), .agg kc.arr, .int .i64 room] W fun e W' =>
  e = .returned (.tuple #[]) /\
  BkAt W' N { s with spl := upd s.spl k true, goal := s.goal - zaT (bS (zbX (insP L x) (zbw kc room (s.hold k)) (nth L x).d)) kc.scale, pens := s.pens + penI (insP L x) (bA (zbX (insP L x) (zbw kc room (s.hold k)) (nth L x).d)) } /\
  Blk W' S ({ sp with what := 2, split := bA (zbX (insP L x) (zbw kc room (s.hold k)) (nth L x).d), size := bS (zbX (insP L x) (zbw kc room (s.hold k)) (nth L x).d) } : Sp).arr 85 /\ By2 N S W W' := by
 have hs := zaO hc
 have hlt := (hs.lt x hx).2
 obtain ⟨_, nh, nd, _, _⟩ := ins_nb hc hlt hk13
 obtain ⟨m, hm⟩ := hs.at_ x hx
 have h2m := opens_two hlt (by rw [hk13]; rfl) hm
 have hLl := (zaj hc).1
 have HIn : Hid (∀ W', By2 N S W W' -> Calls Tryz.prog 37 #[.slice (some ⟨b, off, none⟩) L.length cap, .int .i64 x] W' fun e w' => e = .returned (.slice (some ⟨b, off + (x + 1) * 19, none⟩) (insP L x).length (cap - (x + 1))) /\ Below W'.heap.size W' w') := zzh fun W' hb => qinside b off cap L x m hm h2m (zcF (check_run.1 hc).2 hx) hLl W' (hb.nin hN (fun _ => hbN) (fun _ => hbS))
 have HNd : Hid (∀ W', By2 N S W W' -> W'.cell? ⟨b, off + x * 19 + 5, none⟩ = some (.int .i64 (nth L x).d)) := zzh fun W' hb => zau ((hb.nin hN (fun _ => hbN) (fun _ => hbS)).nth hlt) 5 _ (Nd.get5 _)
 have hm2 := zaw _ _ _ hm
 rw [List.length_drop] at hm2
 have hNX : ∀ W', By2 N S W W' -> NIn W' (some ⟨b, off + (x + 1) * 19, none⟩) b (off + (x + 1) * 19) (cap - (x + 1)) (insP L x) := fun W' hb => by
  have h1 := ((hb.nin hN (fun _ => hbN) (fun _ => hbS)).drop (x + 1) (by omega)).take (m - 2)
  rw [zcc hm]
  exact h1
 have hrm1 := hrm.1
 have hrm2 := hrm.2
 have ks := hk.scale
 obtain ⟨km1, km2⟩ := hk.most
 obtain ⟨hs1', hs2'⟩ := hbk.hold k hk2
 obtain ⟨pp1, pp2⟩ := hbk.pens
 obtain ⟨gg1, gg2⟩ := hbk.goal
 obtain ⟨X, hXX⟩ : ∃ X, insP L x = X := ⟨_, rfl⟩
 rw [hXX] at HIn hX hNX ⊢
 have hXl := insP_le (L := L) x
 rw [hXX] at hXl
 have hXc := zam hX
 have HX := zzh (And.intro hX hXc)
 obtain ⟨nD, hnD⟩ : ∃ nD, (nth L x).d = nD := ⟨_, rfl⟩
 rw [hnD] at HNd nd ⊢
 have hx1 : (0 : Int) <= (x : Int) := by omega
 have hx2 : (x : Int) < (L.length : Int) := by omega
 have hk0 : (0 : Int) <= (k : Int) := by omega
 have hk1 : (k : Int) < 255 := by omega
 obtain ⟨hold, hhold⟩ : ∃ h, s.hold k = h := ⟨_, rfl⟩
 rw [hhold] at hs1' hs2' ⊢
 obtain ⟨wd, hwd⟩ : ∃ wd, zbw kc room hold = wd := ⟨_, rfl⟩
 have hwb := wide_nb kc room hold
 rw [hwd] at hwb ⊢
 have Hwd := zzh hwd
 obtain ⟨bo, hbo⟩ : ∃ bo, zbX X wd nD = bo := ⟨_, rfl⟩
 obtain ⟨sb, y, hby, hys⟩ := best_nb hXc (zaO hXc) wd nD nd
 have hbe : bestO X (itsP X) wd nD = bo := hbo
 rw [hbe] at sb hby
 have hbr : zbW X (itsP X) wd nD = (bo, 0) := by
  unfold zbW
  rw [if_pos (show colP X (itsP X) = 0 from hX), if_pos (by rw [nd, Bool.and_true]; simp [zac]; omega), hbe]
 have hya : bA bo = (y.1 : Int) := by rw [hby]; rfl
 have hyl : y.1 <= X.length := by
  rcases hys with h9 | h9
  · exact Nat.le_of_lt ((zaO hXc).lt _ h9).2
  · omega
 rw [hbo]
 obtain ⟨ya, hya'⟩ : ∃ ya : Nat, y.1 = ya := ⟨_, rfl⟩
 rw [hya'] at hya hyl
 have hpb := pen_nb hXc ya
 rw [hya]
 obtain ⟨sz, hsz⟩ : ∃ sz, bS bo = sz := ⟨_, rfl⟩
 rw [hsz] at sb ⊢
 have HBst : Hid (∀ W', By2 N S W W' -> Calls Tryz.prog 137 #[.slice (some ⟨b, off + (x + 1) * 19, none⟩) X.length (cap - (x + 1)), .int .i64 wd, .int .i64 nD] W' fun e w' => e = .returned (.tuple #[.int .i64 (ya : Nat), .int .i64 sz, .int .i64 (bL bo), .int .i64 0]) /\ Below W'.heap.size W' w') := zzh fun W' hb => by
  have := qbest _ b _ _ X (itsP X) (fun h => zaO h) wd nD W' (hNX W' hb)
  rw [hbr] at this
  simp only [hya, hsz] at this
  exact this
 have HNX := zzh hNX
 have hQ0 := heap_alloc_new W (.cells kc.arr 88)
 have hba : Below W.heap.size W (W.alloc (.cells kc.arr 88)) := (Below.refl _ _).alloc (Nat.le_refl _) _
 have hB1 := hB.below hba
 have hS1 : Blk (W.alloc (.cells kc.arr 88)) S sp.arr 85 := hS.below hba
 have hY1 : By2 N S W (W.alloc (.cells kc.arr 88)) := .of hba
 have hNlt := hB.lt
 have hSlt := hS.lt
 have HH := zzh (And.intro hhold (And.intro hs0 hs1))
 clear hX hXX hc hx hk13 hN hB hs hlt nh nd hnD hwd hbo hbe hby hys hya hya' hbr hsz hXc hk hwb hrm hS hba hhold hs0 hs1 hm h2m hm2 hNX hbk
 go_enter Tryz.func119, Tryz.ntmps119
 go_upto_region 1 with (fail)
 generalize W.alloc (.cells kc.arr 88) = W1 at hQ0 hB1 hS1 hY1 ⊢
 obtain ⟨Q, hQ⟩ : ∃ Q, W.heap.size = Q := ⟨_, rfl⟩
 rw [hQ] at hQ0 hNlt hSlt ⊢
 have hQN : Q ≠ N := by omega
 have hQS : Q ≠ S := by omega
 clear hQ
 have hQb : Blk W1 Q kc.arr 88 := hQ0
 clear hQ0
 have k0 : W1.cell? ⟨Q, 0, none⟩ = some (.int .i64 kc.scale) := by rw [cell?_blk' hQb, Cl.get0]
 have H1 := zzh (And.intro hB1 (And.intro hS1 (And.intro hY1 hQb)))
 clear hB1 hS1 hY1 hQb
 obtain ⟨w0, hw0⟩ : ∃ w0, (if kc.scale = 0 then 1073741823 else if kc.scale = 1000 then room else wrap64 (room.tdiv kc.scale * 1000)) = w0 := ⟨_, rfl⟩
 have hwd0 : wd = max (-1073741823) (min (min w0 (kc.most - hold)) 1073741823) := by rw [<- Hwd.out, <- hw0]; rfl
 have hw0b : -9223372036854775808 <= w0 /\ w0 <= 9223372036854775807 := by
  rw [<- hw0]
  split
  · omega
  split
  · omega
  · unfold wrap64; omega
 obtain ⟨hw1, hw2⟩ := hw0b
 have Hw0 := zzh hw0
 have Hwd0 := zzh hwd0
 clear hw0 hwd0
 go_upto_block 0 with (fail)
 go_cut [10] from 19 to 27 (fun s10 wx => s10 = .int .i64 w0 /\ W1 = wx)
 case first =>
  have hw0 := Hw0.out
  by_cases e0 : kc.scale = 0
  ·
   rw [if_pos e0] at hw0
   have e0' : (kc.scale == 0) = true := by simpa using e0
   clear e0
   go_wp2_with fail
   go_meet
   exact ⟨by rw [hw0], rfl⟩
  rw [if_neg e0] at hw0
  have e0' : (kc.scale == 0) = false := by simpa using e0
  by_cases e1 : kc.scale = 1000
  ·
   rw [if_pos e1] at hw0
   have e1' : (kc.scale == 1000) = true := by simpa using e1
   clear e0 e1
   go_wp2_with fail
   go_meet
   exact ⟨by rw [hw0], rfl⟩
  rw [if_neg e1] at hw0
  have e1' : (kc.scale == 1000) = false := by simpa using e1
  have ht := zcx room kc.scale 1152921504606846976 (by omega) (by omega) (by omega)
  obtain ⟨t, htt⟩ : ∃ t, room.tdiv kc.scale = t := ⟨_, rfl⟩
  rw [htt] at hw0 ht
  have htw : wrap64 t = t := by unfold wrap64; omega
  obtain ⟨u, hu⟩ : ∃ u, wrap64 (t * 1000) = u := ⟨_, rfl⟩
  have hu2 : u = w0 := by rw [<- hu, <- hw0]
  clear e1 hw0
  go_wp2_with fail
  go_meet
  exact ⟨by rw [hu, hu2], rfl⟩
 case rest =>
  obtain ⟨rfl, rfl⟩ := hcut
  obtain ⟨w8, hw8⟩ : ∃ w8, min w0 (kc.most - hold) = w8 := ⟨_, rfl⟩
  have hwd8 := Hwd0.out
  rw [hw8] at hwd8
  have k1 : W1.cell? ⟨Q, 1, none⟩ = some (.int .i64 kc.most) := by rw [cell?_blk' H1.out.2.2.2, Cl.get1]
  have c1 : W1.cell? ⟨S, 1, none⟩ = some (.int .i64 (k : Int)) := by rw [cell?_blk' H1.out.2.1, Sp.get1, HH.out.2.2]
  have ch : W1.cell? ⟨N, 513 + k, none⟩ = some (.int .i64 hold) := by rw [H1.out.1.chold hk2, HH.out.1]
  have HWd := zzh hwd8
  have Hw8 := zzh hw8
  clear hwd8 hw8
  go_upto_region 7 with (fail)
  go_cut [10] from 28 to 42 (fun s10 wx => s10 = .int .i64 wd /\ ∃ n, wx = W1.drewN n)
  case first =>
   by_cases hlt : kc.most - hold < w0
   ·
    have hd : decide (kc.most - hold < w0) = true := decide_eq_true hlt
    have he : w8 = kc.most - hold := by rw [<- Hw8.out]; omega
    have Hh : Hid (∀ n, Calls Tryz.prog 136 #[.int .i64 (kc.most - hold)] (W1.drewN n) fun e w' => e = .returned (.int .i64 wd) /\ ∃ m, w' = (W1.drewN n).drewN m) := zzh fun n => (qheld_any _ _).mono fun e w' h => ⟨by rw [h.1, HWd.out, he], 0, h.2.symm⟩
    clear he
    go_quiet ((go_at_call 136; exact Calls.quiet_of (Hh.out _)))
    go_wp2_with fail
    go_meet
    exact ⟨rfl, _, rfl⟩
   ·
    have hd : decide (kc.most - hold < w0) = false := decide_eq_false hlt
    have hle : w0 <= kc.most - hold := by omega
    have he : w8 = w0 := by rw [<- Hw8.out]; omega
    have Hh : Hid (∀ n, Calls Tryz.prog 136 #[.int .i64 w0] (W1.drewN n) fun e w' => e = .returned (.int .i64 wd) /\ ∃ m, w' = (W1.drewN n).drewN m) := zzh fun n => (qheld_any _ _).mono fun e w' h => ⟨by rw [h.1, HWd.out, he], 0, h.2.symm⟩
    clear he
    go_quiet ((go_at_call 136; exact Calls.quiet_of (Hh.out _)))
    go_wp2_with fail
    go_meet
    exact ⟨rfl, _, rfl⟩
  case rest =>
   obtain ⟨rfl, n7, rfl⟩ := hcut
   have hB2 := H1.out.1.drewN n7
   have hS2 : Blk (W1.drewN n7) S sp.arr 85 := H1.out.2.1
   have hY2 := H1.out.2.2.1.drewN n7
   have hQ2 : Blk (W1.drewN n7) Q kc.arr 88 := H1.out.2.2.2
   clear k0 k1 c1 ch H1
   generalize W1.drewN n7 = W2 at hB2 hS2 hY2 hQ2 ⊢
   have c0 : W2.cell? ⟨S, 0, none⟩ = some (.int .i64 (x : Int)) := by rw [cell?_blk' hS2, Sp.get0, HH.out.2.1]
   have HI2 := zzh (HIn.out W2 hY2)
   go_upto_region 9 with (go_at_call 37; refine HI2.out.mono ?_; clear HI2; rintro e w3 ⟨rfl, hb3⟩)
   have hB3 := hB2.below hb3
   have hS3 := hS2.below hb3
   have hQ3 := hQ2.below hb3
   have hY3 := hY2.trans (.of hb3)
   clear c0 hB2 hS2 hQ2 hY2 hb3 HIn
   have c0 : w3.cell? ⟨S, 0, none⟩ = some (.int .i64 (x : Int)) := by rw [cell?_blk' hS3, Sp.get0, HH.out.2.1]
   have x5 := HNd.out w3 hY3
   have HB3 := zzh (HBst.out w3 hY3)
   go_upto_region 10 with (go_at_call 137; refine HB3.out.mono ?_; clear HB3; rintro e w4 ⟨rfl, hb4⟩)
   have hB4 := hB3.below hb4
   have hS4 := hS3.below hb4
   have hQ4 := hQ3.below hb4
   have hY4 := hY3.trans (.of hb4)
   clear c0 x5 hB3 hS3 hQ3 hY3 hb4 HBst HNd
   have c2 : w4.cell? ⟨S, 2, none⟩ = some (.int .i64 sp.what) := by rw [cell?_blk' hS4, Sp.get2]
   have c3 : w4.cell? ⟨S, 3, none⟩ = some (.int .i64 sp.size) := by rw [cell?_blk' hS4, Sp.get3]
   have c4 : w4.cell? ⟨S, 4, none⟩ = some (.int .i64 sp.split) := by rw [cell?_blk' hS4, Sp.get4]
   have f2 := hS4.frozen 2
   have f3 := hS4.frozen 3
   have f4 := hS4.frozen 4
   have hS5 : Blk (((w4.setCell ⟨S, 2, none⟩ (.int .i64 2)).setCell ⟨S, 4, none⟩ (.int .i64 (ya : Int))).setCell ⟨S, 3, none⟩ (.int .i64 sz)) S ({ sp with what := 2, split := (ya : Int), size := sz } : Sp).arr 85 := ((hS4.set 2 _ _ (Sp.set2 _ _)).set 4 _ _ (Sp.set4 _ _)).set 3 _ _ (Sp.set3 _ _)
   have hB5 : BkAt (((w4.setCell ⟨S, 2, none⟩ (.int .i64 2)).setCell ⟨S, 4, none⟩ (.int .i64 (ya : Int))).setCell ⟨S, 3, none⟩ (.int .i64 sz)) N s := ((hB4.other (Ne.symm hNS) _).other (Ne.symm hNS) _).other (Ne.symm hNS) _
   have hQ5 : Blk (((w4.setCell ⟨S, 2, none⟩ (.int .i64 2)).setCell ⟨S, 4, none⟩ (.int .i64 (ya : Int))).setCell ⟨S, 3, none⟩ (.int .i64 sz)) Q kc.arr 88 := ((hQ4.other (Ne.symm hQS) _).other (Ne.symm hQS) _).other (Ne.symm hQS) _
   have hY5 : By2 N S W (((w4.setCell ⟨S, 2, none⟩ (.int .i64 2)).setCell ⟨S, 4, none⟩ (.int .i64 (ya : Int))).setCell ⟨S, 3, none⟩ (.int .i64 sz)) := ((hY4.set2 2 _).set2 4 _).set2 3 _
   go_upto_region 13 with (fail)
   clear c2 c3 c4 f2 f3 f4 hB4 hS4 hQ4 hY4
   generalize ((w4.setCell ⟨S, 2, none⟩ (.int .i64 2)).setCell ⟨S, 4, none⟩ (.int .i64 (ya : Int))).setCell ⟨S, 3, none⟩ (.int .i64 sz) = W5 at hS5 hB5 hQ5 hY5 ⊢
   have c1 : W5.drew.cell? ⟨S, 1, none⟩ = some (.int .i64 (k : Int)) := by rw [cell?_blk' (show Blk W5.drew S _ 85 from hS5), Sp.get1, HH.out.2.2]
   have cs : W5.drew.cell? ⟨N, 258 + k, none⟩ = some (.bool (s.spl k)) := hB5.drew.cspl hk2
   have fs : W5.drew.frozen? ⟨N, 258 + k, none⟩ = false := hB5.drew.frozen _
   have hB6 := (hB5.sspl hk2 true).drew
   have hS6 : Blk (W5.setCell ⟨N, 258 + k, none⟩ (.bool true)).drew S ({ sp with what := 2, split := (ya : Int), size := sz } : Sp).arr 85 := hS5.other (w := W5) hNS _
   have hQ6 : Blk (W5.setCell ⟨N, 258 + k, none⟩ (.bool true)).drew Q kc.arr 88 := hQ5.other (w := W5) (Ne.symm hQN) _
   have hY6 := (hY5.set (258 + k) (.bool true)).drew
   refine Rest.region follows ?_
   refine Rest.tame 8 (fun W => W = W5.drew) (by kernel_rfl) rfl ?_
   simp only [Nat.reduceSub, List.drop_zero, List.take_succ_cons, List.take_zero]
   iterate 8 first
    | (refine TW.cons_n rfl _ (by intro wT hT R hR K hK; simp only [Act.put, lsA, lsB, lsC] at hK; subst hT; go_step; exact hK _ _ (hR _ rfl)) ?_; try simp only [Act.put, lsA, lsB, lsC])
   refine TW.nil fun w9 h9 => ?_
   subst h9
   refine Rest.seq (by kernel_rfl) ?_
   simp only [List.drop_succ_cons, List.drop_zero]
   go_upto_region 14 with (fail)
   clear c1 cs fs hB5 hS5 hQ5 hY5
   generalize (W5.setCell ⟨N, 258 + k, none⟩ (.bool true)).drew = W6 at hS6 hB6 hQ6 hY6 ⊢
   have hsc := zbK sz kc.scale
   obtain ⟨sc, hsc2⟩ : ∃ sc, zaT sz kc.scale = sc := ⟨_, rfl⟩
   rw [hsc2] at hsc
   have Hsc := zzh hsc2
   clear hsc2
   have HS := zzh (qscaled sz kc.scale (by omega) (by omega) (by omega) (by omega))
   have c0 : W6.drew.cell? ⟨N, 0, none⟩ = some (.int .i64 s.goal) := hB6.cgoal
   have f0 : W6.drew.frozen? ⟨N, 0, none⟩ = false := hB6.drew.frozen 0
   have k0 : W6.drew.cell? ⟨Q, 0, none⟩ = some (.int .i64 kc.scale) := by rw [cell?_blk' (show Blk W6.drew Q kc.arr 88 from hQ6), Cl.get0]
   have hB7 := (hB6.sgoal (s.goal - sc)).drew
   have hS7 : Blk (W6.setCell ⟨N, 0, none⟩ (.int .i64 (s.goal - sc))).drew S ({ sp with what := 2, split := (ya : Int), size := sz } : Sp).arr 85 := hS6.other (w := W6) hNS _
   have hY7 := (hY6.set 0 (.int .i64 (s.goal - sc))).drew
   refine Rest.region follows ?_
   refine Rest.tame 12 (fun W => W = W6.drew) (by kernel_rfl) rfl ?_
   simp only [Nat.reduceSub, List.drop_zero, List.take_succ_cons, List.take_zero]
   iterate 12 first
    | (refine TW.cons_n rfl _ (by intro wT hT R hR K hK; simp only [Act.put, lsA, lsB, lsC] at hK; subst hT; go_step; first | (((with_reducible refine (HS.out _).mono ?_); rintro e w8 ⟨rfl, rfl⟩; rw [Hsc.out]; exact hK _ _ (hR _ rfl))) | exact hK _ _ (hR _ rfl)) ?_; try simp only [Act.put, lsA, lsB, lsC])
   refine TW.nil fun w9 h9 => ?_
   subst h9
   refine Rest.seq (by kernel_rfl) ?_
   simp only [List.drop_succ_cons, List.drop_zero]
   go_upto_region 15 with (fail)
   clear c0 f0 k0 hB6 hS6 hQ6 hY6 HS
   generalize (W6.setCell ⟨N, 0, none⟩ (.int .i64 (s.goal - sc))).drew = W7 at hS7 hB7 hY7 ⊢
   have c1 : W7.cell? ⟨N, 1, none⟩ = some (.int .i64 s.pens) := hB7.cpens
   have f1 := hB7.frozen 1
   have H7 := zzh (And.intro hS7 (And.intro hB7 hY7))
   clear hS7 hB7 hY7
   by_cases eL : ya = X.length
   ·
    have hpe := zzh (show penI X (ya : Nat) = -10000 by unfold penI; rw [if_pos (by rw [eL])])
    have hd : ((ya : Int) == (X.length : Int)) = true := by simp [eL]
    subst eL
    go_wp2_with fail
    refine ⟨rfl, _, results_none rfl _ _ _, rfl, ?_, H7.out.1.other hNS _, H7.out.2.2.set 1 _⟩
    rw [hpe.out, Hsc.out]
    exact H7.out.2.1.spens (s.pens + -10000)
   ·
    have hyx : ya < X.length := by omega
    have hd : ((ya : Int) == (X.length : Int)) = false := by simp; omega
    have ha := (HNX.out W7 H7.out.2.2).nth hyx
    have e0 : W7.cell? ⟨b, off + (x + 1) * 19 + ya * 19, none⟩ = some (.int .i64 (nth X ya).kind) := zau ha 0 _ (Nd.get0 _)
    have e16 : W7.drew.cell? ⟨b, off + (x + 1) * 19 + ya * 19 + 16, none⟩ = some (.int .i64 (nth X ya).pen) := zau ha 16 _ (Nd.get16 _)
    have hy1 : (0 : Int) <= (ya : Int) := by omega
    have hy2 : (ya : Int) < (X.length : Int) := by omega
    by_cases h9 : (nth X ya).kind = 9
    ·
     have hpe := zzh (show penI X (ya : Nat) = (nth X ya).pen by unfold penI; rw [if_neg (by omega), Int.toNat_natCast, if_pos h9])
     rw [hpe.out] at hpb
     obtain ⟨pe, hpe2⟩ : ∃ pe, (nth X ya).pen = pe := ⟨_, rfl⟩
     rw [hpe2] at e16 hpb
     have Hpe2 := zzh hpe2
     rw [h9] at e0
     have c1d : W7.drew.cell? ⟨N, 1, none⟩ = some (.int .i64 s.pens) := c1
     have f1d : W7.drew.frozen? ⟨N, 1, none⟩ = false := H7.out.2.1.drew.frozen 1
     have hB8 := (H7.out.2.1.spens (s.pens + pe)).drew
     have hS8 : Blk (W7.setCell ⟨N, 1, none⟩ (.int .i64 (s.pens + pe))).drew S ({ sp with what := 2, split := (ya : Int), size := sz } : Sp).arr 85 := H7.out.1.other (w := W7) hNS _
     have hY8 := (H7.out.2.2.set 1 (.int .i64 (s.pens + pe))).drew
     have H8 := zzh (And.intro hB8 (And.intro hS8 hY8))
     clear h9 ha eL hpe2 hB8 hS8 hY8
     go_upto_region 18 with (fail)
     refine Rest.region follows ?_
     refine Rest.tame 13 (fun W => W = W7.drew) (by kernel_rfl) rfl ?_
     simp only [Nat.reduceSub, List.drop_zero, List.take_succ_cons, List.take_zero]
     iterate 13 first
      | (refine TW.cons_n rfl _ (by intro wT hT R hR K hK; simp only [Act.put, lsA, lsB, lsC] at hK; subst hT; go_step; exact hK _ _ (hR _ rfl)) ?_; try simp only [Act.put, lsA, lsB, lsC])
     refine TW.nil fun w9 h9 => ?_
     subst h9
     refine Rest.seq (by kernel_rfl) ?_
     simp only [List.drop_succ_cons, List.drop_zero]
     go_wp2_with fail
     refine ⟨rfl, _, results_none rfl _ _ _, rfl, ?_, H8.out.2.1, H8.out.2.2⟩
     rw [hpe.out, Hsc.out, Hpe2.out]
     exact H8.out.1
    ·
     have hpe := zzh (show penI X (ya : Nat) = 0 by unfold penI; rw [if_neg (by omega), Int.toNat_natCast, if_neg h9])
     have h9' : ((nth X ya).kind == 9) = false := by simpa using h9
     clear h9 ha eL
     go_wp2_with fail
     refine ⟨rfl, _, results_none rfl _ _ _, rfl, ?_, H7.out.1, H7.out.2.2⟩
     rw [hpe.out, Hsc.out, Int.add_zero]
     exact H7.out.2.1
end
end Go.Proofs.YtaehkbbdmamfpaaGreatDoor
