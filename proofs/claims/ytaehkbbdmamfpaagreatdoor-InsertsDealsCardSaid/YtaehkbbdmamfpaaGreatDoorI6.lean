/-
  Inserts: a class is met for the first time: the program's.
-/
import Derived.Test.YtaehkbbdmamfpaaGreatDoorS4
import Derived.Test.YtaehkbbdmamfpaaGreatDoorJ1
import Derived.Test.YtaehkbbdmamfpaaGreatDoorI5
namespace Go.Proofs.YtaehkbbdmamfpaaGreatDoor
open Go.ChangeShapes Go.WideShapes Go.ChangeAt Go.RowKit
def AAt (W : World) (b : Nat) (m : Ac) : Prop := W.heap[b]? = some (.cells m.arr 93 (0, 0))
theorem AAt.cell {W : World} {b : Nat} {m : Ac} (h : AAt W b m) (k : Nat) (v : Value) (hv : m.arr[k]? = some v) : W.cell? ⟨b, k, none⟩ = some v := by rw [cell?_blk' h, hv]
theorem AAt.frozen {W : World} {b : Nat} {m : Ac} (h : AAt W b m) (k : Nat) : W.frozen? ⟨b, k, none⟩ = false := frozen_of_row W b k _ _ h
theorem AAt.lt {W : World} {b : Nat} {m : Ac} (h : AAt W b m) : b < W.heap.size := (Array.getElem?_eq_some_iff.1 h).1
theorem AAt.set {W : World} {b : Nat} {m : Ac} (h : AAt W b m) (k : Nat) (v : Value) (m' : Ac) (hm : m.arr.setIfInBounds k v = m'.arr) : AAt (W.setCell ⟨b, k, none⟩ v) b m' := by
 have := heap_setCell_same W b k _ _ v h
 rw [hm] at this
 exact this
theorem AAt.below {W W' : World} {b : Nat} {m : Ac} (h : AAt W b m) (hb : Below W.heap.size W W') : AAt W' b m := (hb.block b h.lt).trans h
theorem isd9 {w W : World} (h : ∃ k, W = w.drewN k) : ∃ k, W.drew = w.drewN k := by
 obtain ⟨k, rfl⟩ := h
 exact ⟨k + 1, rfl⟩
structure By2 (a b : Nat) (W W' : World) : Prop where
 os : W'.os = W.os
 tape : W'.tape = W.tape
 output : W'.output = W.output
 size : W.heap.size <= W'.heap.size
 block : ∀ k, k < W.heap.size -> k ≠ a -> k ≠ b -> W'.heap[k]? = W.heap[k]?
section
variable {a b : Nat} {A B C : World}
theorem By2.refl (W : World) : By2 a b W W := ⟨rfl, rfl, rfl, Nat.le_refl _, fun _ _ _ _ => rfl⟩
theorem By2.trans (h : By2 a b A B) (k : By2 a b B C) : By2 a b A C := ⟨k.os.trans h.os, k.tape.trans h.tape, k.output.trans h.output, Nat.le_trans h.size k.size, fun j hj h1 h2 => (k.block j (Nat.lt_of_lt_of_le hj h.size) h1 h2).trans (h.block j hj h1 h2)⟩
theorem By2.of (h : Below A.heap.size A B) : By2 a b A B := ⟨h.os, h.tape, h.output, h.size, fun k hk _ _ => h.block k hk⟩
theorem By2.by1 (h : A.grownBy B (some a)) : By2 a b A B := ⟨h.os, h.tape, h.output, h.size, fun k hk h1 _ => h.block k hk (fun e => h1 (Option.some.inj e))⟩
theorem By2.by2 (h : A.grownBy B (some b)) : By2 a b A B := ⟨h.os, h.tape, h.output, h.size, fun k hk _ h2 => h.block k hk (fun e => h2 (Option.some.inj e))⟩
theorem By2.alloc (h : By2 a b A B) (o : Obj) : By2 a b A (B.alloc o) := h.trans (.of ((Below.refl _ _).alloc (Nat.le_refl _) _))
theorem By2.drew (h : By2 a b A B) : By2 a b A B.drew := h.trans ⟨rfl, rfl, rfl, Nat.le_refl _, fun _ _ _ _ => rfl⟩
theorem By2.set (h : By2 a b A B) (k : Nat) (v : Value) : By2 a b A (B.setCell ⟨a, k, none⟩ v) := h.trans (.by1 ⟨rfl, rfl, rfl, (KeepsWalks.setCell B _ v).size, fun j _ hne => Below.heap_setCell _ _ _ j (fun e => hne (by rw [e]))⟩)
theorem By2.below (h : By2 a b A B) {n : Nat} (ha : n <= a) (hb : n <= b) (hn : n <= A.heap.size) : Below n A B := ⟨h.os, h.tape, h.output, h.size, fun k hk => h.block k (by omega) (by omega) (by omega)⟩
end
theorem ac_get_st (m : Ac) : ∀ j, j <= 3 -> m.arr[7 + j]? = some (.int .i64 (m.t.st j))
 | 0, _ | 1, _ | 2, _ | 3, _ => rfl
theorem ac_get_sh (m : Ac) : ∀ j, j <= 3 -> m.arr[11 + j]? = some (.int .i64 (m.t.sh j))
 | 0, _ | 1, _ | 2, _ | 3, _ => rfl
theorem ac_set_st (m : Ac) (x : Int) : ∀ j, j <= 3 -> m.arr.setIfInBounds (7 + j) (.int .i64 x) = ({ m with t := m.t.setS j x } : Ac).arr
 | 0, _ | 1, _ | 2, _ | 3, _ => rfl
theorem ac_set_sh (m : Ac) (x : Int) : ∀ j, j <= 3 -> m.arr.setIfInBounds (11 + j) (.int .i64 x) = ({ m with t := m.t.setH j x } : Ac).arr
 | 0, _ | 1, _ | 2, _ | 3, _ => rfl
def Ac.first (A : Ac) (k : Cl) : Ac := { A with goal := A.goal - (zaT k.have_ k.scale + k.skip.nat), t := ({ A.t with nat := A.t.nat + k.skip.nat } : Tt).glue k.skip }
structure ClB (k : Cl) : Prop where
 scale : 0 <= k.scale /\ k.scale <= 100000
 most : 0 <= k.most /\ k.most <= 1073741823
 have_ : 0 <= k.have_ /\ k.have_ <= 1073741823
 nat : -1073741823 <= k.skip.nat /\ k.skip.nat <= 1073741823
 str : -1073741823 <= k.skip.str /\ k.skip.str <= 1073741823
 shr : -1073741823 <= k.skip.shr /\ k.skip.shr <= 1073741823
 so : 0 <= k.skip.so /\ k.skip.so <= 3
 ho : 0 <= k.skip.ho /\ k.skip.ho <= 3
theorem ClB.of {k : Cl} (h : zaR k = true) : ClB k := by
 simp [zaR, Gl.good, zac, zab] at h
 constructor <;> omega
theorem ClB.plain : ClB Cl.plain := by constructor <;> simp [Cl.plain, Gl.zero]
theorem clsAt_ok {C : List Cl} (h : clsC C = 0) (k : Int) : ClB (zcv C k) := by
 unfold zcv
 cases hg : C[k.toNat]? with
 | none => exact .plain
 | some y =>
  refine .of ?_
  unfold clsC at h
  split at h
  · cases h
  ·
   split at h
   ·
    rename_i h2
    exact List.all_eq_true.1 h2 _ (List.mem_of_getElem? hg)
   · cases h
set_option maxRecDepth 100000 in
set_option maxHeartbeats 8000000 in
theorem ifirst (A : Ac) (k : Cl) (hk : ClB k) (Z mb : Nat) (W : World) (hA : AAt W Z A) (hg : -1152921504606846976 <= A.goal /\ A.goal <= 1152921504606846976) (hn : -1152921504606846976 <= A.t.nat /\ A.t.nat <= 1152921504606846976)
 (hs : ∀ j, -1152921504606846976 <= A.t.st j /\ A.t.st j <= 1152921504606846976) (hh : ∀ j, -1152921504606846976 <= A.t.sh j /\ A.t.sh j <= 1152921504606846976) :
 Calls Tryz.prog 72 #[.pointer (some ⟨Z, 0, none⟩), .agg k.arr] W fun e W' => e = .returned (.tuple #[]) /\ AAt W' Z (A.first k) /\ By2 Z mb W W' := by
 have HM := zzh hA
 have hlt := hA.lt
 obtain ⟨g1, g2⟩ := hg
 obtain ⟨n1, n2⟩ := hn
 have hsb := zbK k.have_ k.scale
 have kh := hk.have_
 have ks := hk.scale
 have kn := hk.nat
 have kt := hk.str
 have kr := hk.shr
 have a1 := hk.so
 have a2 := hk.ho
 have HSc : Hid (∀ W, Calls Tryz.prog 19 #[.int .i64 k.have_, .int .i64 k.scale] W fun e w' => e = .returned (.int .i64 (zaT k.have_ k.scale)) /\ W = w') := zzh fun W => iscaled_any _ _ (by omega) (by omega) (by omega) (by omega) W
 obtain ⟨sc, hsc⟩ : ∃ sc, zaT k.have_ k.scale = sc := ⟨_, rfl⟩
 have Hsc := zzh hsc
 rw [hsc] at hsb HSc
 clear hsc hk
 obtain ⟨sb1, sb2⟩ := hsb
 obtain ⟨kn1, kn2⟩ := kn
 obtain ⟨j, hj⟩ : ∃ j : Nat, k.skip.so = (j : Int) := ⟨k.skip.so.toNat, by omega⟩
 obtain ⟨i, hi⟩ : ∃ i : Nat, k.skip.ho = (i : Int) := ⟨k.skip.ho.toNat, by omega⟩
 have hj3 : j <= 3 := by omega
 have hi3 : i <= 3 := by omega
 have hj4 : (0 : Int) <= (j : Int) := by omega
 have hj5 : (j : Int) < 4 := by omega
 have hi4 : (0 : Int) <= (i : Int) := by omega
 have hi5 : (i : Int) < 4 := by omega
 have Hj := zzh hj
 have Hi := zzh hi
 obtain ⟨kt1, kt2⟩ := kt
 obtain ⟨kr1, kr2⟩ := kr
 have HS := zzh hs
 have HH := zzh hh
 clear hj hi a1 a2 hs hh kh ks
 go_enter Tryz.func72, Tryz.ntmps72
 go_upto_region 1 with (fail)
 have dX := heap_alloc_new W (.cells k.arr 55)
 have hM1 : AAt (W.alloc (.cells k.arr 55)) Z A := (Below.heap_alloc _ _ _ hlt).trans hA
 have h1 : By2 Z mb W (W.alloc (.cells k.arr 55)) := (By2.refl _).alloc _
 have hne : W.heap.size ≠ Z := by omega
 have hX0 := Nat.le_refl W.heap.size
 clear hA HM
 generalize W.alloc (.cells k.arr 55) = A1 at dX hM1 h1 ⊢
 obtain ⟨X, hX⟩ : ∃ X, W.heap.size = X := ⟨_, rfl⟩
 rw [hX] at dX hne ⊢
 have HX := zzh hX
 clear hX hX0
 refine Rest.region follows ?_
 refine Rest.tame 16 (fun W => ∃ m, W = A1.drewN m) (by kernel_rfl) (by first | exact isd9 ⟨_, rfl⟩ | exact isd9 ⟨0, rfl⟩) ?_
 simp only [Nat.reduceSub, List.drop_zero, List.take_succ_cons, List.take_zero]
 iterate 16 first
  | (refine TW.cons_n rfl _ (by intro wT hT R hR K hK; simp only [Act.put, lsA, lsB, lsC] at hK; obtain ⟨nt, rfl⟩ := hT; have c2 : (A1.drewN nt).cell? ⟨Z, 2, none⟩ = some (.int .i64 A.goal) := hM1.cell 2 _ (Ac.get2 A); have x0 : (A1.drewN nt).cell? ⟨X, 0, none⟩ = some (.int .i64 k.scale) := (cell?_blk' (w := A1.drewN nt) dX 0).trans (Cl.get0 k); have x2 : (A1.drewN nt).cell? ⟨X, 2, none⟩ = some (.int .i64 k.have_) := (cell?_blk' (w := A1.drewN nt) dX 2).trans (Cl.get2 k); have x3 : (A1.drewN nt).cell? ⟨X, 3, none⟩ = some (.int .i64 k.skip.nat) := (cell?_blk' (w := A1.drewN nt) dX 3).trans (Cl.get3 k); go_step; first | (refine (HSc.out _).mono ?_; rintro e w' ⟨rfl, rfl⟩; exact hK _ _ (hR _ ⟨_, rfl⟩)) | exact hK _ _ (hR _ ⟨_, rfl⟩)) ?_; try simp only [Act.put, lsA, lsB, lsC])
 refine TW.nil fun w9 h9 => ?_
 obtain ⟨n9, rfl⟩ := h9
 refine Rest.seq (by kernel_rfl) ?_
 simp only [List.drop_succ_cons, List.drop_zero]
 have hMn : AAt (A1.drewN n9) Z A := hM1
 have dXn : (A1.drewN n9).heap[X]? = some (.cells k.arr 55 (0, 0)) := dX
 have hn1 : By2 Z mb W (A1.drewN n9) := h1.trans ⟨rfl, rfl, rfl, Nat.le_refl _, fun _ _ _ _ => rfl⟩
 clear hM1 dX h1
 generalize A1.drewN n9 = A2 at hMn dXn hn1 ⊢
 have f2 := hMn.frozen 2
 have c2 := hMn.cell 2 _ (Ac.get2 A)
 go_upto_region 2 with (fail)
 obtain ⟨G, hG⟩ : ∃ G, A.goal - (sc + k.skip.nat) = G := ⟨_, rfl⟩
 rw [hG]
 have HG := zzh hG
 clear hG
 have hM3 : AAt (A2.setCell ⟨Z, 2, none⟩ (.int .i64 G)) Z { A with goal := G } := hMn.set 2 (.int .i64 G) { A with goal := G } rfl
 have d3 : (A2.setCell ⟨Z, 2, none⟩ (.int .i64 G)).heap[X]? = some (.cells k.arr 55 (0, 0)) := (Below.heap_setCell _ _ _ _ hne).trans dXn
 have h3 := hn1.set 2 (.int .i64 G)
 generalize A2.setCell ⟨Z, 2, none⟩ (.int .i64 G) = A3 at hM3 d3 h3 ⊢
 clear hMn dXn hn1 f2 c2
 have f6 := hM3.frozen 6
 have c6 : A3.cell? ⟨Z, 6, none⟩ = some (.int .i64 A.t.nat) := hM3.cell 6 _ (Ac.get6 _)
 have x3 : A3.cell? ⟨X, 3, none⟩ = some (.int .i64 k.skip.nat) := by rw [cell?_blk' d3]; rfl
 go_region
 have hM4 : AAt (A3.setCell ⟨Z, 6, none⟩ (.int .i64 (A.t.nat + k.skip.nat))).drew Z { A with goal := G, t := { A.t with nat := A.t.nat + k.skip.nat } } := hM3.set 6 (.int .i64 (A.t.nat + k.skip.nat)) { A with goal := G, t := { A.t with nat := A.t.nat + k.skip.nat } } rfl
 have d4 : (A3.setCell ⟨Z, 6, none⟩ (.int .i64 (A.t.nat + k.skip.nat))).drew.heap[X]? = some (.cells k.arr 55 (0, 0)) := (Below.heap_setCell _ _ _ _ hne).trans d3
 have h4 := (h3.set 6 (.int .i64 (A.t.nat + k.skip.nat))).drew
 generalize (A3.setCell ⟨Z, 6, none⟩ (.int .i64 (A.t.nat + k.skip.nat))).drew = A4 at hM4 d4 h4 ⊢
 clear hM3 d3 h3 c6 f6 x3
 have x8 : A4.cell? ⟨X, 4, none⟩ = some (.int .i64 k.skip.str) := by rw [cell?_blk' d4]; rfl
 have x10 : A4.cell? ⟨X, 6, none⟩ = some (.int .i64 (j : Nat)) := by rw [cell?_blk' d4, <- Hj.out]; rfl
 have cj : A4.cell? ⟨Z, 7 + j, none⟩ = some (.int .i64 (A.t.st j)) := hM4.cell (7 + j) _ (ac_get_st _ j hj3)
 have fj := hM4.frozen (7 + j)
 obtain ⟨bj1, bj2⟩ := HS.out j
 go_wp2_with fail
 go_region
 have hM5 : AAt (A4.setCell ⟨Z, 7 + j, none⟩ (.int .i64 (A.t.st j + k.skip.str))).drew Z { A with goal := G, t := ({ A.t with nat := A.t.nat + k.skip.nat } : Tt).setS j (A.t.st j + k.skip.str) } := hM4.set (7 + j) (.int .i64 (A.t.st j + k.skip.str)) { A with goal := G, t := ({ A.t with nat := A.t.nat + k.skip.nat } : Tt).setS j (A.t.st j + k.skip.str) } (ac_set_st _ _ j hj3)
 have d5 : (A4.setCell ⟨Z, 7 + j, none⟩ (.int .i64 (A.t.st j + k.skip.str))).drew.heap[X]? = some (.cells k.arr 55 (0, 0)) := (Below.heap_setCell _ _ _ _ hne).trans d4
 have h5 := (h4.set (7 + j) (.int .i64 (A.t.st j + k.skip.str))).drew
 generalize (A4.setCell ⟨Z, 7 + j, none⟩ (.int .i64 (A.t.st j + k.skip.str))).drew = A5 at hM5 d5 h5 ⊢
 clear hM4 d4 h4 cj fj x8 x10 bj1 bj2
 have x9 : A5.cell? ⟨X, 5, none⟩ = some (.int .i64 k.skip.shr) := by rw [cell?_blk' d5]; rfl
 have x11 : A5.cell? ⟨X, 7, none⟩ = some (.int .i64 (i : Nat)) := by rw [cell?_blk' d5, <- Hi.out]; rfl
 have ci := hM5.cell (11 + i) _ (ac_get_sh _ i hi3)
 have fi := hM5.frozen (11 + i)
 have hsh : (({ A.t with nat := A.t.nat + k.skip.nat } : Tt).setS j (A.t.st j + k.skip.str)).sh i = A.t.sh i := zcB _ _ _ _
 rw [hsh] at ci
 obtain ⟨bi1, bi2⟩ := HH.out i
 clear hsh
 go_wp2_with fail
 go_region
 have hM6 : AAt (A5.setCell ⟨Z, 11 + i, none⟩ (.int .i64 (A.t.sh i + k.skip.shr))).drew Z { A with goal := G, t := (({ A.t with nat := A.t.nat + k.skip.nat } : Tt).setS j (A.t.st j + k.skip.str)).setH i (A.t.sh i + k.skip.shr) } := hM5.set (11 + i) (.int .i64 (A.t.sh i + k.skip.shr)) { A with goal := G, t := (({ A.t with nat := A.t.nat + k.skip.nat } : Tt).setS j (A.t.st j + k.skip.str)).setH i (A.t.sh i + k.skip.shr) } (ac_set_sh _ _ i hi3)
 have h6 := (h5.set (11 + i) (.int .i64 (A.t.sh i + k.skip.shr))).drew
 generalize (A5.setCell ⟨Z, 11 + i, none⟩ (.int .i64 (A.t.sh i + k.skip.shr))).drew = A6 at hM6 h6 ⊢
 clear hM5 d5 h5
 have hg : ({ A.t with nat := A.t.nat + k.skip.nat } : Tt).glue k.skip = (({ A.t with nat := A.t.nat + k.skip.nat } : Tt).setS j (A.t.st j + k.skip.str)).setH i (A.t.sh i + k.skip.shr) := by
  unfold Tt.glue
  rw [Hj.out, Hi.out]
  simp only [Int.toNat_natCast]
  rw [show (({ A.t with nat := A.t.nat + k.skip.nat } : Tt).setS j (({ A.t with nat := A.t.nat + k.skip.nat } : Tt).st j + k.skip.str)) = (({ A.t with nat := A.t.nat + k.skip.nat } : Tt).setS j (A.t.st j + k.skip.str)) from rfl, zcB]
  rfl
 have Hg := zzh hg
 clear hg ci fi x9 x11 bi1 bi2
 have Hp := zzh (show A.first k = { A with goal := G, t := ({ A.t with nat := A.t.nat + k.skip.nat } : Tt).glue k.skip } by unfold Ac.first; rw [Hsc.out, HG.out])
 go_wp2_with fail
 exact ⟨rfl, _, results_none rfl _ _ _, rfl, by rw [Hp.out, Hg.out]; exact hM6, h6⟩
end Go.Proofs.YtaehkbbdmamfpaaGreatDoor
