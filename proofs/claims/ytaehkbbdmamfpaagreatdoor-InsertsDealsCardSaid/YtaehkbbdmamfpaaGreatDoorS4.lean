/-
  What stands ahead of a place in a column, item by item (plain).
-/
import Derived.Test.YtaehkbbdmamfpaaGreatDoorI0
import Derived.Test.YtaehkbbdmamfpaaGreatDoorQ6
import Derived.Test.YtaehkbbdmamfpaaGreatDoorQ13
import Derived.RegionTactic
set_option maxRecDepth 100000
set_option maxHeartbeats 8000000
namespace Go.Proofs.YtaehkbbdmamfpaaGreatDoor
open Go.ChangeShapes Go.WideShapes Go.ChangeAt Go.RowKit
def Tt.st (t : Tt) : Nat -> Int
 | 0 => t.s0 | 1 => t.s1 | 2 => t.s2 | _ => t.s3
def Tt.sh (t : Tt) : Nat -> Int
 | 0 => t.h0 | 1 => t.h1 | 2 => t.h2 | _ => t.h3
def Tt.setS (t : Tt) (j : Nat) (x : Int) : Tt := match j with
 | 0 => { t with s0 := x } | 1 => { t with s1 := x } | 2 => { t with s2 := x } | _ => { t with s3 := x }
def Tt.setH (t : Tt) (j : Nat) (x : Int) : Tt := match j with
 | 0 => { t with h0 := x } | 1 => { t with h1 := x } | 2 => { t with h2 := x } | _ => { t with h3 := x }
def zaW (k : Int) : Bool := k == 12 || k == 14 || k == 13 || k == 9
def Tt.glue (t : Tt) (g : Gl) : Tt :=
 let t1 := t.setS g.so.toNat (t.st g.so.toNat + g.str)
 t1.setH g.ho.toNat (t1.sh g.ho.toNat + g.shr)
def zbs (n : Nd) (m : Mt) : Mt :=
 if zaW n.kind then m else
  let m1 : Mt := ⟨{ m.t with nat := m.t.nat + m.d }, 0, m.depth⟩
  if zaq n.kind then ⟨{ m1.t with nat := m1.t.nat + n.h }, n.d, m.depth⟩
  else if n.kind == 8 then ⟨{ m1.t with nat := m1.t.nat + n.w }, 0, m.depth⟩
  else if n.kind == 7 then ⟨({ m1.t with nat := m1.t.nat + n.glue.nat } : Tt).glue n.glue, 0, m.depth⟩
  else m1
structure NdB (n : Nd) : Prop where
 solid : zaq n.kind = true -> (-1073741823 <= n.h /\ n.h <= 1073741823) /\ -1073741823 <= n.d /\ n.d <= 1073741823
 kern : n.kind = 8 -> -1073741823 <= n.w /\ n.w <= 1073741823
 nat : n.kind = 7 -> -1073741823 <= n.glue.nat /\ n.glue.nat <= 1073741823
 str : n.kind = 7 -> -1073741823 <= n.glue.str /\ n.glue.str <= 1073741823
 shr : n.kind = 7 -> -1073741823 <= n.glue.shr /\ n.glue.shr <= 1073741823
 so : n.kind = 7 -> 0 <= n.glue.so /\ n.glue.so <= 3
 ho : n.kind = 7 -> 0 <= n.glue.ho /\ n.glue.ho <= 3
theorem good_at {n : Nd} {k : Nat} (h : zaX n = true) (hk : n.kind = (k : Int)) : zbP k n = true := by
 unfold zaX at h
 simp only [Bool.and_eq_true] at h
 have := h.1.2
 rwa [hk, Int.toNat_natCast] at this
theorem nb_of {n : Nd} (h : zaX n = true) : NdB n := by
 have g7 : n.kind = 7 -> n.glue.good = true := fun hk => by
  have := good_at (k := 7) h hk
  simp [zbP, skipB] at this
  exact this.1
 refine ⟨fun hk => ?_, fun hk => ?_, fun hk => ?_, fun hk => ?_, fun hk => ?_, fun hk => ?_, fun hk => ?_⟩
 ·
  have hk' : n.kind = 4 \/ n.kind = 5 \/ n.kind = 3 := by simp [zaq] at hk; omega
  rcases hk' with e | e | e
  ·
   have := good_at (k := 4) h e
   simp [zbP, boxB, dims4, zac] at this; omega
  ·
   have := good_at (k := 5) h e
   simp [zbP, boxB, dims4, zac] at this; omega
  ·
   have := good_at (k := 3) h e
   simp [zbP, zbO, zbG, zac] at this; omega
 ·
  have := good_at (k := 8) h hk
  simp [zbP, kernB, dims1, zac] at this; omega
 all_goals
  have := g7 hk
  simp [Gl.good, zac, zab] at this
  omega
structure MtB (K : Int) (m : Mt) : Prop where
 nat : -K <= m.t.nat /\ m.t.nat <= K
 st : ∀ j, -K <= m.t.st j /\ m.t.st j <= K
 sh : ∀ j, -K <= m.t.sh j /\ m.t.sh j <= K
 d : -1073741823 <= m.d /\ m.d <= 1073741823
theorem st_setS (t : Tt) (j i : Nat) (x : Int) : (t.setS j x).st i = if min i 3 = min j 3 then x else t.st i := by
 match j, i with
 | 0, 0 | 0, 1 | 0, 2 | 1, 0 | 1, 1 | 1, 2 | 2, 0 | 2, 1 | 2, 2 => rfl
 | 0, i + 3 | 1, i + 3 | 2, i + 3 => rw [if_neg (by omega)]; rfl
 | j + 3, 0 | j + 3, 1 | j + 3, 2 => rw [if_neg (by omega)]; rfl
 | j + 3, i + 3 => rw [if_pos (by omega)]; rfl
theorem sh_setH (t : Tt) (j i : Nat) (x : Int) : (t.setH j x).sh i = if min i 3 = min j 3 then x else t.sh i := by
 match j, i with
 | 0, 0 | 0, 1 | 0, 2 | 1, 0 | 1, 1 | 1, 2 | 2, 0 | 2, 1 | 2, 2 => rfl
 | 0, i + 3 | 1, i + 3 | 2, i + 3 => rw [if_neg (by omega)]; rfl
 | j + 3, 0 | j + 3, 1 | j + 3, 2 => rw [if_neg (by omega)]; rfl
 | j + 3, i + 3 => rw [if_pos (by omega)]; rfl
theorem zcB (t : Tt) (j i : Nat) (x : Int) : (t.setS j x).sh i = t.sh i := by
 match j with
 | 0 | 1 | 2 | _ + 3 => match i with | 0 | 1 | 2 | _ + 3 => rfl
theorem st_setH (t : Tt) (j i : Nat) (x : Int) : (t.setH j x).st i = t.st i := by
 match j with
 | 0 | 1 | 2 | _ + 3 => match i with | 0 | 1 | 2 | _ + 3 => rfl
theorem nat_setS (t : Tt) (j : Nat) (x : Int) : (t.setS j x).nat = t.nat := by
 match j with
 | 0 | 1 | 2 | _ + 3 => rfl
theorem nat_setH (t : Tt) (j : Nat) (x : Int) : (t.setH j x).nat = t.nat := by
 match j with
 | 0 | 1 | 2 | _ + 3 => rfl
theorem MtB.pass {K : Int} {m : Mt} {n : Nd} (h : MtB K m) (hn : NdB n) : MtB (K + 4294967296) (zbs n m) := by
 have h1 := h.nat
 have h4 := h.d
 have hs : ∀ j, -(K + 4294967296) <= m.t.st j /\ m.t.st j <= K + 4294967296 := fun j => by have := h.st j; omega
 have hh : ∀ j, -(K + 4294967296) <= m.t.sh j /\ m.t.sh j <= K + 4294967296 := fun j => by have := h.sh j; omega
 unfold zbs
 split
 · exact ⟨by omega, hs, hh, h4⟩
 ·
  split
  ·
   rename_i hk
   have := hn.solid hk
   exact ⟨⟨by show _ <= m.t.nat + m.d + n.h; omega, by show m.t.nat + m.d + n.h <= _; omega⟩, hs, hh, this.2⟩
  ·
   split
   ·
    rename_i hk
    have := hn.kern (by simpa using hk)
    exact ⟨⟨by show _ <= m.t.nat + m.d + n.w; omega, by show m.t.nat + m.d + n.w <= _; omega⟩, hs, hh, by simp⟩
   ·
    split
    ·
     rename_i hk
     have hk' : n.kind = 7 := by simpa using hk
     have a1 := hn.nat hk'
     have a2 := hn.str hk'
     have a3 := hn.shr hk'
     refine ⟨?_, fun j => ?_, fun j => ?_, by simp⟩
     · simp only [Tt.glue, nat_setH, nat_setS]; omega
     ·
      simp only [Tt.glue, st_setH, st_setS]
      split
      ·
       have := h.st n.glue.so.toNat
       show _ <= m.t.st n.glue.so.toNat + n.glue.str /\ m.t.st n.glue.so.toNat + n.glue.str <= _
       omega
      · exact hs j
     ·
      simp only [Tt.glue, sh_setH, zcB]
      split
      ·
       have := h.sh n.glue.ho.toNat
       show _ <= m.t.sh n.glue.ho.toNat + n.glue.shr /\ m.t.sh n.glue.ho.toNat + n.glue.shr <= _
       omega
      · exact hh j
    · exact ⟨⟨by show _ <= m.t.nat + m.d; omega, by show m.t.nat + m.d <= _; omega⟩, hs, hh, by simp⟩
def sizeM (m : Mt) : Tt × Int := if m.depth < m.d then ({ m.t with nat := m.t.nat + (m.d - m.depth) }, m.depth) else (m.t, m.d)
def itemsF (L : List Nd) : Nat -> Nat -> List Nat
 | 0, _ => []
 | n + 1, i => if i < L.length then (match behC (L.drop i) 0 with | none => [] | some m => i :: itemsF L n (i + m)) else []
theorem itemsF_eq {L : List Nd} {i : Nat} {s : List Nat} (h : Items L i s) : ∀ n, L.length - i <= n -> itemsF L n i = s := by
 induction h with
 | done =>
  intro n _
  cases n with
  | zero => rfl
  | succ n => rw [itemsF, if_neg (by omega)]
 | step hi hm hs ih =>
  intro n hn
  have hp := zaw _ _ _ hm
  obtain ⟨n, rfl⟩ : ∃ k, n = k + 1 := ⟨n - 1, by omega⟩
  rw [itemsF, if_pos hi, hm]
  simp only
  rw [ih n (by omega)]
def itsP (L : List Nd) : List Nat := itemsF L L.length 0
theorem itsP_eq {L : List Nd} {s : List Nat} (h : Items L 0 s) : itsP L = s := itemsF_eq h _ (by omega)
def MAt (W : World) (b : Nat) (m : Mt) : Prop := W.heap[b]? = some (.cells m.arr 151 (0, 0))
theorem MAt.cell {W : World} {b : Nat} {m : Mt} (h : MAt W b m) (k : Nat) (v : Value) (hv : m.arr[k]? = some v) : W.cell? ⟨b, k, none⟩ = some v := by rw [cell?_blk' h, hv]
theorem MAt.frozen {W : World} {b : Nat} {m : Mt} (h : MAt W b m) (k : Nat) : W.frozen? ⟨b, k, none⟩ = false := frozen_of_row W b k _ _ h
theorem MAt.lt {W : World} {b : Nat} {m : Mt} (h : MAt W b m) : b < W.heap.size := (Array.getElem?_eq_some_iff.1 h).1
structure Met1 (W W' : World) (b : Nat) : Prop where
 by_ : W.grownBy W' (some b)
 others : KeepsOthers W W'
theorem Met1.refl (W : World) (b : Nat) : Met1 W W b := ⟨⟨rfl, rfl, rfl, Nat.le_refl _, fun _ _ _ => rfl⟩, KeepsOthers.refl _⟩
theorem Met1.trans {A B C : World} {b : Nat} (h : Met1 A B b) (k : Met1 B C b) : Met1 A C b := ⟨⟨k.by_.os.trans h.by_.os, k.by_.tape.trans h.by_.tape, k.by_.output.trans h.by_.output, Nat.le_trans h.by_.size k.by_.size, fun j hj hne => (k.by_.block j (Nat.lt_of_lt_of_le hj h.by_.size) hne).trans (h.by_.block j hj hne)⟩, h.others.trans k.others⟩
theorem Met1.alloc {A B : World} {b : Nat} (h : Met1 A B b) (o : Obj) : Met1 A (B.alloc o) b := h.trans ⟨World.grownBy_alloc B o _, KeepsOthers.alloc _ _⟩
theorem Met1.set {A B : World} {b : Nat} (h : Met1 A B b) (k : Nat) (v : Value) : Met1 A (B.setCell ⟨b, k, none⟩ v) b := h.trans ⟨⟨rfl, rfl, rfl, (KeepsWalks.setCell B _ v).size, fun j _ hne => Below.heap_setCell _ _ _ j (fun e => hne (by rw [e]))⟩, KeepsOthers.setCell _ _ _⟩
theorem Met1.drew {A B : World} {b : Nat} (h : Met1 A B b) : Met1 A B.drew b := h.trans ⟨⟨rfl, rfl, rfl, Nat.le_refl _, fun _ _ _ => rfl⟩, KeepsOthers.drew _⟩
theorem MAt.set {W : World} {b : Nat} {m : Mt} (h : MAt W b m) (k : Nat) (v : Value) (m' : Mt) (hm : m.arr.setIfInBounds k v = m'.arr) : MAt (W.setCell ⟨b, k, none⟩ v) b m' := by
 have := heap_setCell_same W b k _ _ v h
 rw [hm] at this
 exact this
theorem mt_get_st (m : Mt) : ∀ j, j <= 3 -> m.arr[1 + j]? = some (.int .i64 (m.t.st j))
 | 0, _ | 1, _ | 2, _ | 3, _ => rfl
theorem mt_get_sh (m : Mt) : ∀ j, j <= 3 -> m.arr[5 + j]? = some (.int .i64 (m.t.sh j))
 | 0, _ | 1, _ | 2, _ | 3, _ => rfl
theorem mt_set_st (m : Mt) (x : Int) : ∀ j, j <= 3 -> m.arr.setIfInBounds (1 + j) (.int .i64 x) = ({ m with t := m.t.setS j x } : Mt).arr
 | 0, _ | 1, _ | 2, _ | 3, _ => rfl
theorem mt_set_sh (m : Mt) (x : Int) : ∀ j, j <= 3 -> m.arr.setIfInBounds (5 + j) (.int .i64 x) = ({ m with t := m.t.setH j x } : Mt).arr
 | 0, _ | 1, _ | 2, _ | 3, _ => rfl
theorem mpass (n : Nd) (m : Mt) (K : Int) (mb : Nat) (W : World) (hm : MAt W mb m) (hn : NdB n) (hB : MtB K m) (hK : K <= 1152921504606846976) :
 Calls Tryz.prog 103 #[.pointer (some ⟨mb, 0, none⟩), .agg n.arr] W fun e W' => e = .returned (.tuple #[]) /\ MAt W' mb (zbs n m) /\ Met1 W W' mb := by
 have HM := zzh hm
 have hlt := hm.lt
 have HP : Hid (zbs n m = zbs n m) := zzh rfl
 go_enter Tryz.func103, Tryz.ntmps103
 go_upto_region 1 with (fail)
 have dX := heap_alloc_new W (.cells n.arr 53)
 have hM1 : MAt (W.alloc (.cells n.arr 53)) mb m := (Below.heap_alloc _ _ _ hlt).trans hm
 have h1 : Met1 W (W.alloc (.cells n.arr 53)) mb := (Met1.refl _ _).alloc _
 have hne : W.heap.size ≠ mb := by omega
 clear hm
 generalize W.alloc (.cells n.arr 53) = A1 at dX hM1 h1 ⊢
 have x0 : A1.cell? ⟨W.heap.size, 0, none⟩ = some (.int .i64 n.kind) := by rw [cell?_blk' dX]; rfl
 cases k12 : (n.kind == 12)
 rotate_left
 ·
  have hp : zbs n m = m := by unfold zbs; rw [if_pos (by simp [zaW, k12])]
  have Hp := zzh hp
  clear hp
  go_wp2_with fail
  exact ⟨rfl, _, results_none rfl _ _ _, rfl, by rw [Hp.out]; exact hM1, h1⟩
 cases k14 : (n.kind == 14)
 rotate_left
 ·
  have hp : zbs n m = m := by unfold zbs; rw [if_pos (by simp [zaW, k14])]
  have Hp := zzh hp
  clear hp
  go_wp2_with fail
  exact ⟨rfl, _, results_none rfl _ _ _, rfl, by rw [Hp.out]; exact hM1, h1⟩
 cases k13 : (n.kind == 13)
 rotate_left
 ·
  have hp : zbs n m = m := by unfold zbs; rw [if_pos (by simp [zaW, k13])]
  have Hp := zzh hp
  clear hp
  go_wp2_with fail
  exact ⟨rfl, _, results_none rfl _ _ _, rfl, by rw [Hp.out]; exact hM1, h1⟩
 cases k9 : (n.kind == 9)
 rotate_left
 ·
  have hp : zbs n m = m := by unfold zbs; rw [if_pos (by simp [zaW, k9])]
  have Hp := zzh hp
  clear hp
  go_wp2_with fail
  exact ⟨rfl, _, results_none rfl _ _ _, rfl, by rw [Hp.out]; exact hM1, h1⟩
 have hl : zaW n.kind = false := by simp [zaW, k12, k14, k13, k9]
 have d1 := dX
 have c0 := hM1.cell 0 _ (Mt.get0 m)
 have c9 := hM1.cell 9 _ (Mt.get9 m)
 have f0 := hM1.frozen 0
 obtain ⟨b1, b2⟩ := hB.nat
 obtain ⟨b3, b4⟩ := hB.d
 go_wp2_with fail
 go_region
 have hM2 : MAt (A1.setCell ⟨mb, 0, none⟩ (.int .i64 (m.t.nat + m.d))).drew mb ⟨{ m.t with nat := m.t.nat + m.d }, m.d, m.depth⟩ := hM1.set 0 (.int .i64 (m.t.nat + m.d)) ⟨{ m.t with nat := m.t.nat + m.d }, m.d, m.depth⟩ (rfl)
 have d2 : (A1.setCell ⟨mb, 0, none⟩ (.int .i64 (m.t.nat + m.d))).drew.heap[W.heap.size]? = some (.cells n.arr 53 (0, 0)) := (Below.heap_setCell _ _ _ _ hne).trans d1
 have h2 := (h1.set 0 (.int .i64 (m.t.nat + m.d))).drew
 generalize (A1.setCell ⟨mb, 0, none⟩ (.int .i64 (m.t.nat + m.d))).drew = A2 at hM2 d2 h2 ⊢
 clear hM1 d1 h1 dX c0 c9 f0 x0
 have f9 := hM2.frozen 9
 have c9 := hM2.cell 9 _ (Mt.get9 _)
 go_upto_region 8 with (fail)
 have hM3 : MAt (A2.setCell ⟨mb, 9, none⟩ (.int .i64 0)) mb ⟨{ m.t with nat := m.t.nat + m.d }, 0, m.depth⟩ := hM2.set 9 (.int .i64 0) ⟨{ m.t with nat := m.t.nat + m.d }, 0, m.depth⟩ (rfl)
 have d3 : (A2.setCell ⟨mb, 9, none⟩ (.int .i64 0)).heap[W.heap.size]? = some (.cells n.arr 53 (0, 0)) := (Below.heap_setCell _ _ _ _ hne).trans d2
 have h3 := (h2.set 9 (.int .i64 0))
 generalize (A2.setCell ⟨mb, 9, none⟩ (.int .i64 0)) = A3 at hM3 d3 h3 ⊢
 clear hM2 d2 h2 f9 c9
 obtain ⟨q, hq⟩ : ∃ q, m.t.nat + m.d = q := ⟨_, rfl⟩
 rw [hq] at hM3
 have q1 : -1152921505680588799 <= q := by omega
 have q2 : q <= 1152921505680588799 := by omega
 have Hq := zzh hq
 clear hq b1 b2 b3 b4
 have x0 : A3.cell? ⟨W.heap.size, 0, none⟩ = some (.int .i64 n.kind) := by rw [cell?_blk' d3]; rfl
 have c0 := hM3.cell 0 _ (Mt.get0 _)
 have f0 := hM3.frozen 0
 have hb : ∀ j, -1152921504606846976 <= m.t.st j /\ m.t.st j <= 1152921504606846976 := fun j => by have := hB.st j; omega
 have hb2 : ∀ j, -1152921504606846976 <= m.t.sh j /\ m.t.sh j <= 1152921504606846976 := fun j => by have := hB.sh j; omega
 have HS := zzh hb
 have HH := zzh hb2
 clear hb hb2
 cases k4 : (n.kind == 4)
 rotate_left
 ·
  have hs : zaq n.kind = true := by simp [zaq, k4]
  obtain ⟨⟨s1, s2⟩, s3, s4⟩ := hn.solid hs
  have Hp := zzh (show zbs n m = ⟨{ m.t with nat := q + n.h }, n.d, m.depth⟩ by unfold zbs; rw [if_neg (by rw [hl]; simp)]; simp only [hs, if_true, Hq.out])
  have x4 : A3.cell? ⟨W.heap.size, 4, none⟩ = some (.int .i64 n.h) := by rw [cell?_blk' d3]; rfl
  have x5 : A3.cell? ⟨W.heap.size, 5, none⟩ = some (.int .i64 n.d) := by rw [cell?_blk' d3]; rfl
  clear hs
  go_wp2_with fail
  go_region
  have hM4 : MAt (A3.setCell ⟨mb, 0, none⟩ (.int .i64 (q + n.h))).drew mb ⟨{ m.t with nat := q + n.h }, 0, m.depth⟩ := hM3.set 0 (.int .i64 (q + n.h)) ⟨{ m.t with nat := q + n.h }, 0, m.depth⟩ (rfl)
  have d4 : (A3.setCell ⟨mb, 0, none⟩ (.int .i64 (q + n.h))).drew.heap[W.heap.size]? = some (.cells n.arr 53 (0, 0)) := (Below.heap_setCell _ _ _ _ hne).trans d3
  have h4 := (h3.set 0 (.int .i64 (q + n.h))).drew
  generalize (A3.setCell ⟨mb, 0, none⟩ (.int .i64 (q + n.h))).drew = A4 at hM4 d4 h4 ⊢
  clear hM3 d3 h3 c0 f0 x0 x4 x5
  have f9 := hM4.frozen 9
  have c9 := hM4.cell 9 _ (Mt.get9 _)
  have x5 : A4.cell? ⟨W.heap.size, 5, none⟩ = some (.int .i64 n.d) := by rw [cell?_blk' d4]; rfl
  go_wp2_with fail
  exact ⟨rfl, _, results_none rfl _ _ _, rfl, by rw [Hp.out]; exact hM4.set 9 _ _ rfl, h4.set 9 _⟩
 cases k5 : (n.kind == 5)
 rotate_left
 ·
  have hs : zaq n.kind = true := by simp [zaq, k5]
  obtain ⟨⟨s1, s2⟩, s3, s4⟩ := hn.solid hs
  have Hp := zzh (show zbs n m = ⟨{ m.t with nat := q + n.h }, n.d, m.depth⟩ by unfold zbs; rw [if_neg (by rw [hl]; simp)]; simp only [hs, if_true, Hq.out])
  have x4 : A3.cell? ⟨W.heap.size, 4, none⟩ = some (.int .i64 n.h) := by rw [cell?_blk' d3]; rfl
  have x5 : A3.cell? ⟨W.heap.size, 5, none⟩ = some (.int .i64 n.d) := by rw [cell?_blk' d3]; rfl
  clear hs
  go_wp2_with fail
  go_region
  have hM4 : MAt (A3.setCell ⟨mb, 0, none⟩ (.int .i64 (q + n.h))).drew mb ⟨{ m.t with nat := q + n.h }, 0, m.depth⟩ := hM3.set 0 (.int .i64 (q + n.h)) ⟨{ m.t with nat := q + n.h }, 0, m.depth⟩ (rfl)
  have d4 : (A3.setCell ⟨mb, 0, none⟩ (.int .i64 (q + n.h))).drew.heap[W.heap.size]? = some (.cells n.arr 53 (0, 0)) := (Below.heap_setCell _ _ _ _ hne).trans d3
  have h4 := (h3.set 0 (.int .i64 (q + n.h))).drew
  generalize (A3.setCell ⟨mb, 0, none⟩ (.int .i64 (q + n.h))).drew = A4 at hM4 d4 h4 ⊢
  clear hM3 d3 h3 c0 f0 x0 x4 x5
  have f9 := hM4.frozen 9
  have c9 := hM4.cell 9 _ (Mt.get9 _)
  have x5 : A4.cell? ⟨W.heap.size, 5, none⟩ = some (.int .i64 n.d) := by rw [cell?_blk' d4]; rfl
  go_wp2_with fail
  exact ⟨rfl, _, results_none rfl _ _ _, rfl, by rw [Hp.out]; exact hM4.set 9 _ _ rfl, h4.set 9 _⟩
 cases k3 : (n.kind == 3)
 rotate_left
 ·
  have hs : zaq n.kind = true := by simp [zaq, k3]
  obtain ⟨⟨s1, s2⟩, s3, s4⟩ := hn.solid hs
  have Hp := zzh (show zbs n m = ⟨{ m.t with nat := q + n.h }, n.d, m.depth⟩ by unfold zbs; rw [if_neg (by rw [hl]; simp)]; simp only [hs, if_true, Hq.out])
  have x4 : A3.cell? ⟨W.heap.size, 4, none⟩ = some (.int .i64 n.h) := by rw [cell?_blk' d3]; rfl
  have x5 : A3.cell? ⟨W.heap.size, 5, none⟩ = some (.int .i64 n.d) := by rw [cell?_blk' d3]; rfl
  clear hs
  go_wp2_with fail
  go_region
  have hM4 : MAt (A3.setCell ⟨mb, 0, none⟩ (.int .i64 (q + n.h))).drew mb ⟨{ m.t with nat := q + n.h }, 0, m.depth⟩ := hM3.set 0 (.int .i64 (q + n.h)) ⟨{ m.t with nat := q + n.h }, 0, m.depth⟩ (rfl)
  have d4 : (A3.setCell ⟨mb, 0, none⟩ (.int .i64 (q + n.h))).drew.heap[W.heap.size]? = some (.cells n.arr 53 (0, 0)) := (Below.heap_setCell _ _ _ _ hne).trans d3
  have h4 := (h3.set 0 (.int .i64 (q + n.h))).drew
  generalize (A3.setCell ⟨mb, 0, none⟩ (.int .i64 (q + n.h))).drew = A4 at hM4 d4 h4 ⊢
  clear hM3 d3 h3 c0 f0 x0 x4 x5
  have f9 := hM4.frozen 9
  have c9 := hM4.cell 9 _ (Mt.get9 _)
  have x5 : A4.cell? ⟨W.heap.size, 5, none⟩ = some (.int .i64 n.d) := by rw [cell?_blk' d4]; rfl
  go_wp2_with fail
  exact ⟨rfl, _, results_none rfl _ _ _, rfl, by rw [Hp.out]; exact hM4.set 9 _ _ rfl, h4.set 9 _⟩
 have hs : zaq n.kind = false := by simp [zaq, k4, k5, k3]
 cases k8 : (n.kind == 8)
 rotate_left
 ·
  obtain ⟨s1, s2⟩ := hn.kern (by simpa using k8)
  have Hp := zzh (show zbs n m = ⟨{ m.t with nat := q + n.w }, 0, m.depth⟩ by unfold zbs; rw [if_neg (by rw [hl]; simp)]; simp only [hs, Bool.false_eq_true, if_false, k8, if_true, Hq.out])
  have x3 : A3.cell? ⟨W.heap.size, 3, none⟩ = some (.int .i64 n.w) := by rw [cell?_blk' d3]; rfl
  clear hs
  go_wp2_with fail
  go_region
  have hM4 : MAt (A3.setCell ⟨mb, 0, none⟩ (.int .i64 (q + n.w))).drew mb ⟨{ m.t with nat := q + n.w }, 0, m.depth⟩ := hM3.set 0 (.int .i64 (q + n.w)) ⟨{ m.t with nat := q + n.w }, 0, m.depth⟩ (rfl)
  have d4 : (A3.setCell ⟨mb, 0, none⟩ (.int .i64 (q + n.w))).drew.heap[W.heap.size]? = some (.cells n.arr 53 (0, 0)) := (Below.heap_setCell _ _ _ _ hne).trans d3
  have h4 := (h3.set 0 (.int .i64 (q + n.w))).drew
  generalize (A3.setCell ⟨mb, 0, none⟩ (.int .i64 (q + n.w))).drew = A4 at hM4 d4 h4 ⊢
  clear hM3 d3 h3 c0 f0 x0 x3
  go_wp2_with fail
  exact ⟨rfl, _, results_none rfl _ _ _, rfl, by rw [Hp.out]; exact hM4, h4⟩
 cases k7 : (n.kind == 7)
 rotate_left
 ·
  have k7' : n.kind = 7 := by simpa using k7
  obtain ⟨s1, s2⟩ := hn.nat k7'
  obtain ⟨s3, s4⟩ := hn.str k7'
  obtain ⟨s5, s6⟩ := hn.shr k7'
  have a1 := hn.so k7'
  have a2 := hn.ho k7'
  have Hp := zzh (show zbs n m = ⟨({ m.t with nat := q + n.glue.nat } : Tt).glue n.glue, 0, m.depth⟩ by unfold zbs; rw [if_neg (by rw [hl]; simp)]; simp only [hs, Bool.false_eq_true, if_false, k8, k7, if_true, Hq.out])
  clear hs k7'
  obtain ⟨j, hj⟩ : ∃ j : Nat, n.glue.so = (j : Int) := ⟨n.glue.so.toNat, by omega⟩
  obtain ⟨i, hi⟩ : ∃ i : Nat, n.glue.ho = (i : Int) := ⟨n.glue.ho.toNat, by omega⟩
  have hj3 : j <= 3 := by omega
  have hi3 : i <= 3 := by omega
  have hj4 : (0 : Int) <= (j : Int) := by omega
  have hj5 : (j : Int) < 4 := by omega
  have hi4 : (0 : Int) <= (i : Int) := by omega
  have hi5 : (i : Int) < 4 := by omega
  have x7 : A3.cell? ⟨W.heap.size, 7, none⟩ = some (.int .i64 n.glue.nat) := by rw [cell?_blk' d3]; rfl
  have Hj := zzh hj
  have Hi := zzh hi
  clear hj hi a1 a2
  go_wp2_with fail
  go_region
  have hM4 : MAt (A3.setCell ⟨mb, 0, none⟩ (.int .i64 (q + n.glue.nat))).drew mb ⟨{ m.t with nat := q + n.glue.nat }, 0, m.depth⟩ := hM3.set 0 (.int .i64 (q + n.glue.nat)) ⟨{ m.t with nat := q + n.glue.nat }, 0, m.depth⟩ (rfl)
  have d4 : (A3.setCell ⟨mb, 0, none⟩ (.int .i64 (q + n.glue.nat))).drew.heap[W.heap.size]? = some (.cells n.arr 53 (0, 0)) := (Below.heap_setCell _ _ _ _ hne).trans d3
  have h4 := (h3.set 0 (.int .i64 (q + n.glue.nat))).drew
  generalize (A3.setCell ⟨mb, 0, none⟩ (.int .i64 (q + n.glue.nat))).drew = A4 at hM4 d4 h4 ⊢
  clear hM3 d3 h3 c0 f0 x0 x7
  have x8 : A4.cell? ⟨W.heap.size, 8, none⟩ = some (.int .i64 n.glue.str) := by rw [cell?_blk' d4]; rfl
  have x10 : A4.cell? ⟨W.heap.size, 10, none⟩ = some (.int .i64 (j : Nat)) := by rw [cell?_blk' d4, <- Hj.out]; rfl
  have cj := hM4.cell (1 + j) _ (mt_get_st _ j hj3)
  have fj := hM4.frozen (1 + j)
  have bj := HS.out j
  obtain ⟨bj1, bj2⟩ := bj
  have cj' : A4.cell? ⟨mb, 1 + j, none⟩ = some (.int .i64 (m.t.st j)) := cj
  clear cj
  go_wp2_with fail
  go_region
  have hM5 : MAt (A4.setCell ⟨mb, 1 + j, none⟩ (.int .i64 (m.t.st j + n.glue.str))).drew mb ⟨({ m.t with nat := q + n.glue.nat } : Tt).setS j (m.t.st j + n.glue.str), 0, m.depth⟩ := hM4.set (1 + j) (.int .i64 (m.t.st j + n.glue.str)) ⟨({ m.t with nat := q + n.glue.nat } : Tt).setS j (m.t.st j + n.glue.str), 0, m.depth⟩ (mt_set_st _ _ j hj3)
  have d5 : (A4.setCell ⟨mb, 1 + j, none⟩ (.int .i64 (m.t.st j + n.glue.str))).drew.heap[W.heap.size]? = some (.cells n.arr 53 (0, 0)) := (Below.heap_setCell _ _ _ _ hne).trans d4
  have h5 := (h4.set (1 + j) (.int .i64 (m.t.st j + n.glue.str))).drew
  generalize (A4.setCell ⟨mb, 1 + j, none⟩ (.int .i64 (m.t.st j + n.glue.str))).drew = A5 at hM5 d5 h5 ⊢
  clear hM4 d4 h4 cj' fj x8 x10 bj1 bj2
  have x9 : A5.cell? ⟨W.heap.size, 9, none⟩ = some (.int .i64 n.glue.shr) := by rw [cell?_blk' d5]; rfl
  have x11 : A5.cell? ⟨W.heap.size, 11, none⟩ = some (.int .i64 (i : Nat)) := by rw [cell?_blk' d5, <- Hi.out]; rfl
  have ci := hM5.cell (5 + i) _ (mt_get_sh _ i hi3)
  have fi := hM5.frozen (5 + i)
  have hsh : (({ m.t with nat := q + n.glue.nat } : Tt).setS j (m.t.st j + n.glue.str)).sh i = m.t.sh i := zcB _ _ _ _
  rw [hsh] at ci
  obtain ⟨bi1, bi2⟩ := HH.out i
  clear hsh
  go_wp2_with fail
  go_region
  have hM6 : MAt (A5.setCell ⟨mb, 5 + i, none⟩ (.int .i64 (m.t.sh i + n.glue.shr))).drew mb ⟨(({ m.t with nat := q + n.glue.nat } : Tt).setS j (m.t.st j + n.glue.str)).setH i (m.t.sh i + n.glue.shr), 0, m.depth⟩ := hM5.set (5 + i) (.int .i64 (m.t.sh i + n.glue.shr)) ⟨(({ m.t with nat := q + n.glue.nat } : Tt).setS j (m.t.st j + n.glue.str)).setH i (m.t.sh i + n.glue.shr), 0, m.depth⟩ (mt_set_sh _ _ i hi3)
  have d6 : (A5.setCell ⟨mb, 5 + i, none⟩ (.int .i64 (m.t.sh i + n.glue.shr))).drew.heap[W.heap.size]? = some (.cells n.arr 53 (0, 0)) := (Below.heap_setCell _ _ _ _ hne).trans d5
  have h6 := (h5.set (5 + i) (.int .i64 (m.t.sh i + n.glue.shr))).drew
  generalize (A5.setCell ⟨mb, 5 + i, none⟩ (.int .i64 (m.t.sh i + n.glue.shr))).drew = A6 at hM6 d6 h6 ⊢
  clear hM5 d5 h5
  have hg : ({ m.t with nat := q + n.glue.nat } : Tt).glue n.glue = (({ m.t with nat := q + n.glue.nat } : Tt).setS j (m.t.st j + n.glue.str)).setH i (m.t.sh i + n.glue.shr) := by
   unfold Tt.glue
   rw [Hj.out, Hi.out]
   simp only [Int.toNat_natCast]
   rw [show (({ m.t with nat := q + n.glue.nat } : Tt).setS j (({ m.t with nat := q + n.glue.nat } : Tt).st j + n.glue.str)) = (({ m.t with nat := q + n.glue.nat } : Tt).setS j (m.t.st j + n.glue.str)) from rfl, zcB]
   rfl
  have Hg := zzh hg
  clear hg ci fi x9 x11 bi1 bi2
  go_wp2_with fail
  exact ⟨rfl, _, results_none rfl _ _ _, rfl, by rw [Hp.out, Hg.out]; exact hM6, h6⟩
 have Hp := zzh (show zbs n m = ⟨{ m.t with nat := q }, 0, m.depth⟩ by unfold zbs; rw [if_neg (by rw [hl]; simp)]; simp [hs, k8, k7, Hq.out])
 clear hs
 go_wp2_with fail
 exact ⟨rfl, _, results_none rfl _ _ _, rfl, by rw [Hp.out]; exact hM3, h3⟩
theorem zbf {fn : Func} {p t : Tmp} (h : fn.results = #[.cell p 43, .tmp t]) (tmps : Array Value) (w : World) (b : Nat) (T : Tt) (hp : tmps.getD p undef = .pointer (some ⟨b, 0, none⟩)) (hc : agg? w b 0 9 = some T.arr) :
 (results fn tmps).run Tryz.prog w = .ok (.tuple #[.agg T.arr, tmps.getD t undef]) w := by
 have hl : (loadVar 43 ⟨b, 0, none⟩).run Tryz.prog w = .ok (.agg T.arr) w := by
  have := zat (P := Tryz.prog) 43 9 _ u_tt rfl i_tt b 0 w
  rw [hc, zcz] at this
  simpa [Instr.loadAt, Instr.sureAddr] using this
 have hp' : tmps[p]?.getD undef = .pointer (some ⟨b, 0, none⟩) := by simpa using hp
 simp [results, h, hp', asAddr, hl]
theorem zda {fn : Func} {p t u : Tmp} (h : fn.results = #[.cell p 43, .tmp t, .tmp u]) (tmps : Array Value) (w : World) (b : Nat) (T : Tt) (hp : tmps.getD p undef = .pointer (some ⟨b, 0, none⟩)) (hc : agg? w b 0 9 = some T.arr) :
 (results fn tmps).run Tryz.prog w = .ok (.tuple #[.agg T.arr, tmps.getD t undef, tmps.getD u undef]) w := by
 have hl : (loadVar 43 ⟨b, 0, none⟩).run Tryz.prog w = .ok (.agg T.arr) w := by
  have := zat (P := Tryz.prog) 43 9 _ u_tt rfl i_tt b 0 w
  rw [hc, zcz] at this
  simpa [Instr.loadAt, Instr.sureAddr] using this
 have hp' : tmps[p]?.getD undef = .pointer (some ⟨b, 0, none⟩) := by simpa using hp
 simp [results, h, hp', asAddr, hl]
def TAt (W : World) (b : Nat) (T : Tt) : Prop := W.heap[b]? = some (.cells T.arr 43 (0, 0))
theorem TAt.lt {W : World} {b : Nat} {T : Tt} (h : TAt W b T) : b < W.heap.size := (Array.getElem?_eq_some_iff.1 h).1
theorem TAt.agg {W : World} {b : Nat} {T : Tt} (h : TAt W b T) : agg? W b 0 9 = some T.arr := by rw [agg?_blk' h 0 9 (by simp [Tt.size_arr])]; simp [Tt.arr, Tt.cells]
theorem TAt.there {W : World} {b : Nat} {T : Tt} (h : TAt W b T) : there? W b 0 9 = true := zbR h 0 9 (by simp [Tt.size_arr])
theorem TAt.store {W : World} {b : Nat} {T U : Tt} (h : TAt W b T) : TAt (setAgg W b 0 U.arr) b U := by
 have := zaL b _ (0, 0) U.arr.toList 0 T.arr W h
 rw [show U.arr.toList = U.cells from rfl, setMany_Tt] at this
 exact this
theorem msize (m : Mt) (K : Int) (mb : Nat) (W : World) (hm : MAt W mb m) (hB : MtB K m) (hK : K <= 1152921504606846976) (hd : -1073741823 <= m.depth /\ m.depth <= 1073741823) :
 Calls Tryz.prog 104 #[.pointer (some ⟨mb, 0, none⟩)] W fun e W' => e = .returned (.tuple #[.agg (sizeM m).1.arr, .int .i64 (sizeM m).2]) /\ Below W.heap.size W W' := by
 have hlt := hm.lt
 obtain ⟨d1, d2⟩ := hd
 obtain ⟨b1, b2⟩ := hB.nat
 obtain ⟨b3, b4⟩ := hB.d
 have n1 : -1152921504606846976 <= m.t.nat := by omega
 have n2 : m.t.nat <= 1152921504606846976 := by omega
 clear hB b1 b2
 go_enter Tryz.func104, Tryz.ntmps104
 go_upto_region 1 with (fail)
 have hM1 : MAt (W.alloc (.cells (Tt.mk 0 0 0 0 0 0 0 0 0).arr 43)) mb m := (Below.heap_alloc _ _ _ hlt).trans hm
 have h1 : Below W.heap.size W (W.alloc (.cells (Tt.mk 0 0 0 0 0 0 0 0 0).arr 43)) := (Below.refl _ _).alloc (Nat.le_refl _) _
 have dZ := heap_alloc_new W (.cells (Tt.mk 0 0 0 0 0 0 0 0 0).arr 43)
 have hsz : (W.alloc (.cells (Tt.mk 0 0 0 0 0 0 0 0 0).arr 43)).heap.size = W.heap.size + 1 := by simp
 have hlt1 : mb < W.heap.size + 1 := by omega
 have HSz := zzh hsz
 clear hsz
 generalize W.alloc (.cells (Tt.mk 0 0 0 0 0 0 0 0 0).arr 43) = A1 at hM1 h1 dZ HSz ⊢
 have a0 : agg? A1 mb 0 9 = some m.t.arr := by rw [agg?_blk' hM1 0 9 (by simp [Mt.size_arr])]; rfl
 have c9 := hM1.cell 9 _ (Mt.get9 m)
 have c10 := hM1.cell 10 _ (Mt.get10 m)
 have hltA : mb < A1.heap.size := hM1.lt
 go_region
 have hM2 : MAt (A1.alloc (.cells m.t.arr 43)).drew mb m := (Below.heap_alloc _ _ _ hltA).trans hM1
 have hT2 : TAt (A1.alloc (.cells m.t.arr 43)).drew A1.heap.size m.t := heap_alloc_new A1 _
 have hX : W.heap.size < A1.heap.size := (Array.getElem?_eq_some_iff.1 dZ).1
 have hZ2 : TAt (A1.alloc (.cells m.t.arr 43)).drew W.heap.size ⟨0, 0, 0, 0, 0, 0, 0, 0, 0⟩ := (Below.heap_alloc _ _ _ hX).trans dZ
 have h2 : Below W.heap.size W (A1.alloc (.cells m.t.arr 43)).drew := (h1.alloc (by omega) _).drew
 clear a0 c9 c10 h1 hM1 dZ hltA HSz hm hlt1
 generalize (A1.alloc (.cells m.t.arr 43)).drew = A2 at hM2 hT2 hZ2 h2 ⊢
 generalize A1.heap.size = X at hT2 hX ⊢
 have c10 := hM2.cell 10 _ (Mt.get10 m)
 have hne : W.heap.size ≠ X := by omega
 have hXm : X ≠ mb := by omega
 have t0 : A2.cell? ⟨X, 0, none⟩ = some (.int .i64 m.t.nat) := by rw [cell?_blk' hT2]; rfl
 have f0 : A2.frozen? ⟨X, 0, none⟩ = false := frozen_of_row A2 X 0 _ _ hT2
 have aX := hT2.agg
 have thZ := hZ2.there
 by_cases hd : m.depth < m.d
 ·
  have Hs := zzh (show sizeM m = ({ m.t with nat := m.t.nat + (m.d - m.depth) }, m.depth) by unfold sizeM; rw [if_pos hd])
  go_wp2_with fail
  go_region
  have hM3 : MAt (A2.setCell ⟨X, 0, none⟩ (.int .i64 (m.t.nat + (m.d - m.depth)))).drew mb m := (Below.heap_setCell _ _ _ _ (fun e => hXm e.symm)).trans hM2
  have hT3 : TAt (A2.setCell ⟨X, 0, none⟩ (.int .i64 (m.t.nat + (m.d - m.depth)))).drew X { m.t with nat := m.t.nat + (m.d - m.depth) } := by
   have := heap_setCell_same A2 X 0 _ _ (.int .i64 (m.t.nat + (m.d - m.depth))) hT2
   rw [Tt.set0] at this
   exact this
  have hZ3 : TAt (A2.setCell ⟨X, 0, none⟩ (.int .i64 (m.t.nat + (m.d - m.depth)))).drew W.heap.size ⟨0, 0, 0, 0, 0, 0, 0, 0, 0⟩ := (Below.heap_setCell _ _ _ _ hne).trans hZ2
  have h3 : Below W.heap.size W (A2.setCell ⟨X, 0, none⟩ (.int .i64 (m.t.nat + (m.d - m.depth)))).drew := (h2.setCell (p := ⟨X, 0, none⟩) (by simp only; omega) _).drew
  clear hM2 hT2 hZ2 h2 t0 f0 c10 aX thZ
  generalize (A2.setCell ⟨X, 0, none⟩ (.int .i64 (m.t.nat + (m.d - m.depth)))).drew = A3 at hM3 hT3 hZ3 h3 ⊢
  have c10 := hM3.cell 10 _ (Mt.get10 m)
  have aX := hT3.agg
  have thZ := hZ3.there
  go_wp2_with fail
  refine ⟨rfl, _, zbf rfl _ _ W.heap.size _ rfl hZ3.store.agg, ?_, Below.setAgg h3 (Nat.le_refl _) _ _⟩
  rw [Hs.out]; rfl
 ·
  have Hs := zzh (show sizeM m = (m.t, m.d) by unfold sizeM; rw [if_neg hd])
  have hd2 : m.d <= m.depth := by omega
  go_wp2_with fail
  refine ⟨rfl, _, zbf rfl _ _ W.heap.size _ rfl hZ2.store.agg, ?_, Below.setAgg h2 (Nat.le_refl _) _ _⟩
  rw [Hs.out]; rfl
end Go.Proofs.YtaehkbbdmamfpaaGreatDoor
