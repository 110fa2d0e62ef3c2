/-
  Items of a list; how high a list is: the program's, in package nodes.
-/
import Derived.Test.YtaehkbbdmamfpaaGreatDoorS10
import Derived.Test.YtaehkbbdmamfpaaGreatDoorL5
import Derived.Test.YtaehkbbdmamfpaaGreatDoorI8
set_option maxRecDepth 100000
set_option maxHeartbeats 8000000
namespace Go.Proofs.YtaehkbbdmamfpaaGreatDoor
open Go.ChangeShapes Go.WideShapes Go.ChangeAt Go.RowKit
attribute [local go_sem ↓] Go.wp_at_zero Go.wp_at_succ
def bsZ1 (parts : Array (Nat × Value)) : Sem Value := Instr.buildSlice 59 1 parts
@[go_sem ↓] theorem execOp_bsZ1 (ρ : Operand -> Value) (dst : Option Tmp) (x : Array (Nat × Operand)) (ty : TypeId) (pos : String) (after : Array Edge) (guard : Option (Nat × Bool)) :
 execOp ρ { dst, op := .buildSlice 59 1 x, type := ty, pos, after, guard } = (do pure (.value (<- bsZ1 (x.map fun (i, y) => (i, ρ y))))) := rfl
theorem fill_z1 (n : Int) : Instr.fill (fun i => some (i * 1, 1)) ((Array.range (1 * 1)).map ((Value.int .i64 0).cells[· % (Value.int .i64 0).cells.size]!)) [(0, .int .i64 n)] = some #[.int .i64 n] := by kernel_rfl
theorem info_z0 : (Tryz.prog.info? 3).map (fun i => (i.zero, i.size)) = some (some (.int .i64 0), 1) := by kernel_rfl
@[go_sem] theorem run_bsZ1 (n : Int) (w : World) : (bsZ1 #[(0, .int .i64 n)]).run Tryz.prog w = .ok (.slice (some ⟨w.heap.size, 0, none⟩) 1 1) (w.alloc (.cells #[.int .i64 n] 3)) := by
 obtain ⟨i, hi, hzz⟩ := Option.map_eq_some_iff.1 info_z0
 simp only [Prod.mk.injEq] at hzz
 obtain ⟨hz, hs⟩ := hzz
 refine run_buildSlice w _ 3 1 _ #[.int .i64 n] i (.int .i64 0) Tryz.underlying59 hi hz (by rw [hs]; decide) (by rw [hs]; decide) ?_
 rw [hs]
 exact fill_z1 n
def natY (s : List Nat) : List Int := s.map fun x : Nat => (x : Int)
theorem items9 (p0 : Option Addr) (b off cap : Nat) (L : List Nd) (s : List Nat) (hll : L.length <= 2000) (hs : Items L 0 s) (w : World) (hN : NIn w p0 b off cap L) :
 Calls Tryz.prog 132 #[.slice p0 L.length cap] w fun e w' => (∃ v, e = .returned v /\ w'.ownsRow w.heap.size 3 1 v s.length (ints (natY s))) /\ Below w.heap.size w w' := by
 have H := zzh hN
 have HE : Hid (∀ (i m' : Nat) W, Below w.heap.size w W -> behC (L.drop i) 0 = some m' -> Calls Tryz.prog 58 #[.slice p0 L.length cap, .int .i64 i] W fun e w' => e = .returned (.int .i64 ((i + m' : Nat) : Int)) /\ Below W.heap.size W w') := zzh fun i m' W hb hm => end9 p0 b off cap L i m' W (H.out.below hb) hm
 have Hs := zzh hs
 have hsl := hs.len
 clear hN hs
 go_enter Tryz.func132, Tryz.ntmps132
 go_wp2_with fail
 go_loopg [3, 4] (s.length + 1) (fun gg t3 t4 wr => ∃ (pos : Nat) (d r : List Nat), gg = r.length + 1 /\ t4 = .int .i64 pos /\ s = d ++ r /\ Items L pos r /\ wr.ownsRow w.heap.size 3 1 t3 d.length (ints (natY d)) /\ Below w.heap.size w wr)
 case atStart => exact ⟨0, [], s, rfl, rfl, rfl, Hs.out, World.ownsRow_nil _ _ _ _, Below.refl _ _⟩
 case round =>
  obtain ⟨pos, d, r, rfl, rfl, hsd, hit, hrow, hb⟩ := hrel
  have hp1 : (0 : Int) <= (pos : Int) := by omega
  obtain ⟨pv, cv, rfl⟩ := zaf hrow
  cases hit with
  | done =>
   have hsd' := zzh (show s = d by rw [hsd, List.append_nil])
   have HB := zzh (And.intro hrow hb)
   clear hsd hrow hb
   go_wp2_with fail
   go_ret
   rw [hsd'.out]
   exact ⟨⟨_, rfl, HB.out.1⟩, HB.out.2⟩
  | @step _ m r hi hm hit2 =>
   have hp2 : (pos : Int) < (L.length : Int) := by omega
   have hdl : d.length <= 2000 := by
    have := congrArg List.length hsd
    simp only [List.length_append, List.length_cons] at this
    omega
   obtain ⟨i0, hi0', hz0, hz1, hz2'⟩ := info_parts info_int
   have Hrow := zzh (hrow.alloc (.cells #[.int .i64 (pos : Nat)] 3))
   have hbase : w.heap.size <= (wr.alloc (.cells #[.int .i64 (pos : Nat)] 3)).heap.size := by rw [World.size_alloc]; have := hb.size; omega
   have H1 : Hid (∀ u ∈ [Value.int .i64 (pos : Nat)], u.oneCell' = true) := zzh (by simp [Value.oneCell'])
   have Hlt := zzh hrow.lt
   have Hb := zzh hb
   have Hsd := zzh hsd
   have HIt := zzh hit2
   have Hm := zzh hm
   clear hrow hb hsd hit2 hm
   go_upto_region 4 with (at_builtin; refine wpList_append_lies _ rfl (.tmp 12) (.tmp 14) 59 rfl w.heap.size 3 i0 (.int .i64 0) 1 8 Tryz.underlying59 hi0' hz0 hz1 hz2' rfl (by decide) (.slice pv d.length cv) d.length (ints (natY d)) rfl Hrow.out ⟨wr.heap.size, 0, none⟩ 1 1 [.int .i64 (pos : Nat)] rfl rfl (World.news_of_block (cs := #[.int .i64 (pos : Nat)]) (heap_alloc_new _ _)) H1.out (by decide) (by unfold maxLen; omega) (by omega) hbase _ rfl ?_; intro g5 cap5 w5 hown5 hgrow5 hat5 hlt5)
   have hb5 : Below w.heap.size w w5 := (Hb.out.alloc Hb.out.size (.cells #[.int .i64 (pos : Nat)] 3)).trans ⟨hgrow5.os, hgrow5.tape, hgrow5.output, hgrow5.size, fun q hq => hgrow5.block q (by omega) (fun e => by have := (Hlt.out q e.symm).1; omega)⟩
   have H5 : Hid (w5.ownsRow w.heap.size 3 1 (.slice (some ⟨g5, 0, none⟩) (d.length + 1) cap5) (d ++ [pos]).length (ints (natY (d ++ [pos]))) /\ Below w.heap.size w w5) := zzh ⟨by
    rw [List.length_append, List.length_singleton, show ints (natY (d ++ [pos])) = ints (natY d) ++ [.int .i64 (pos : Nat)] by simp [ints, natY]]
    exact hown5, hb5⟩
   clear hown5 hgrow5 hat5 hlt5 hb5 Hrow hbase H1 Hlt Hb hi0' hz0 hz1 hz2'
   go_wp2_with (go_at_call 58; refine (HE.out pos m _ H5.out.2 Hm.out).mono ?_; rintro e w6 ⟨rfl, hb6⟩)
   go_roundg (r.length + 1)
   case measure => simp only [List.length_cons]; omega
   case rel => exact ⟨pos + m, d ++ [pos], r, rfl, by go_num, by rw [Hsd.out]; simp, HIt.out, by rw [List.length_append, List.length_singleton] at *; exact zad H5.out.1 hb6, H5.out.2.trans (hb6.mono H5.out.2.size)⟩
theorem nd_dims {n : Nd} (h : NdB n) (hk : zaq n.kind = true) : -2147483646 <= n.h + n.d /\ n.h + n.d <= 2147483646 := by have := h.solid hk; omega
theorem along9 (p0 : Option Addr) (b off cap : Nat) (L : List Nd) (x : Nat) (hx : x < L.length) (hb : NdB (nth L x)) (w : World) (hN : NIn w p0 b off cap L) :
 Calls Tryz.prog 133 #[.slice p0 L.length cap, .int .i64 x, .bool true] w fun e w' => e = .returned (.int .i64 (zaP (nth L x))) /\ Below w.heap.size w w' := by
 have xa := hN.nth hx
 obtain rfl := hN.at_ hx
 have hx1 : (0 : Int) <= (x : Int) := by omega
 have hx2 : (x : Int) < (L.length : Int) := by omega
 generalize nth L x = n at xa hb
 have dX := heap_alloc_new w (.cells n.arr 53)
 have hb1 : Below w.heap.size w (w.alloc (.cells n.arr 53)) := (Below.refl _ _).alloc (Nat.le_refl _) _
 have HB := zzh hb1
 clear hN hb1
 go_enter Tryz.func133, Tryz.ntmps133
 go_upto_region 2 with (fail)
 generalize w.alloc (.cells n.arr 53) = w1 at dX HB ⊢
 obtain ⟨Q, hQ⟩ : ∃ Q, w.heap.size = Q := ⟨_, rfl⟩
 rw [hQ] at dX ⊢
 clear hQ xa
 have x0 : w1.cell? ⟨Q, 0, none⟩ = some (.int .i64 n.kind) := by rw [cell?_blk' dX]; rfl
 have x3 : w1.cell? ⟨Q, 3, none⟩ = some (.int .i64 n.w) := by rw [cell?_blk' dX]; rfl
 have x4 : w1.cell? ⟨Q, 4, none⟩ = some (.int .i64 n.h) := by rw [cell?_blk' dX]; rfl
 have x5 : w1.cell? ⟨Q, 5, none⟩ = some (.int .i64 n.d) := by rw [cell?_blk' dX]; rfl
 have x7 : w1.cell? ⟨Q, 7, none⟩ = some (.int .i64 n.glue.nat) := by rw [cell?_blk' dX]; rfl
 clear dX
 cases k7 : (n.kind == 7)
 rotate_left
 ·
  have k := (by simpa using k7 : n.kind = 7)
  have hv := zzh (show zaP n = n.glue.nat by unfold zaP; rw [k]; rfl)
  clear hb k
  go_wp2_with fail
  go_ret
  exact ⟨zan hv.out.symm, HB.out⟩
 cases k8 : (n.kind == 8)
 rotate_left
 ·
  have k := (by simpa using k8 : n.kind = 8)
  have hv := zzh (show zaP n = n.w by unfold zaP; rw [k]; rfl)
  clear hb k
  go_wp2_with fail
  go_ret
  exact ⟨zan hv.out.symm, HB.out⟩
 cases k3 : (n.kind == 3)
 rotate_left
 ·
  have hs : zaq n.kind = true := by simp [zaq, k3]
  have hd := hb.solid hs
  have hv := zzh (show zaP n = n.h + n.d by unfold zaP; rw [hs]; rfl)
  clear hb hs
  go_wp2_with fail
  go_ret
  exact ⟨zan hv.out.symm, HB.out⟩
 cases k4 : (n.kind == 4)
 rotate_left
 ·
  have hs : zaq n.kind = true := by simp [zaq, k4]
  have hd := hb.solid hs
  have hv := zzh (show zaP n = n.h + n.d by unfold zaP; rw [hs]; rfl)
  clear hb hs
  go_wp2_with fail
  go_ret
  exact ⟨zan hv.out.symm, HB.out⟩
 cases k5 : (n.kind == 5)
 rotate_left
 ·
  have hs : zaq n.kind = true := by simp [zaq, k5]
  have hd := hb.solid hs
  have hv := zzh (show zaP n = n.h + n.d by unfold zaP; rw [hs]; rfl)
  clear hb hs
  go_wp2_with fail
  go_ret
  exact ⟨zan hv.out.symm, HB.out⟩
 have hv := zzh (show zaP n = 0 by unfold zaP zaq; simp [k7, k8, k3, k4, k5])
 clear hb
 cases k1 : (n.kind == 1)
 rotate_left
 ·
  go_wp2_with fail
  go_ret
  exact ⟨zan hv.out.symm, HB.out⟩
 cases k2 : (n.kind == 2)
 rotate_left
 ·
  go_wp2_with fail
  go_ret
  exact ⟨zan hv.out.symm, HB.out⟩
 cases k15 : (n.kind == 15)
 rotate_left
 ·
  go_wp2_with fail
  go_ret
  exact ⟨zan hv.out.symm, HB.out⟩
 cases k16 : (n.kind == 16)
 rotate_left
 ·
  go_wp2_with fail
  go_ret
  exact ⟨zan hv.out.symm, HB.out⟩
 cases k10 : (n.kind == 10)
 all_goals
  go_wp2_with fail
  go_ret
  exact ⟨zan hv.out.symm, HB.out⟩
theorem cell_bel {w w' : World} {p : Addr} {v : Value} (h : w.cell? p = some v) (hb : Below w.heap.size w w') : w'.cell? p = some v := by
 have hlt : p.block < w.heap.size := by
  rcases Nat.lt_or_ge p.block w.heap.size with h1 | h1
  · exact h1
  ·
   have e : w.heap[p.block]? = none := Array.getElem?_eq_none h1
   simp [World.cell?, e] at h
 exact (hb.cell hlt).trans h
theorem TAt.bel {W W' : World} {b : Nat} {T : Tt} (h : TAt W b T) (hb : Below W.heap.size W W') : TAt W' b T := (hb.block b h.lt).trans h
theorem TAt.cel {W : World} {b : Nat} {m : Tt} (h : TAt W b m) (k : Nat) (v : Value) (hv : m.arr[k]? = some v) : W.cell? ⟨b, k, none⟩ = some v := by rw [cell?_blk' h, hv]
theorem TAt.frz {W : World} {b : Nat} {m : Tt} (h : TAt W b m) (k : Nat) : W.frozen? ⟨b, k, none⟩ = false := frozen_of_row W b k _ _ h
theorem TAt.put {W : World} {b : Nat} {m : Tt} (h : TAt W b m) (k : Nat) (v : Value) (m' : Tt) (hm : m.arr.setIfInBounds k v = m'.arr) : TAt (W.setCell ⟨b, k, none⟩ v) b m' := by
 have := heap_setCell_same W b k _ _ v h
 rw [hm] at this
 exact this
theorem TAt.oth {W : World} {b q k : Nat} {m : Tt} (h : TAt W b m) (hq : q ≠ b) (v : Value) : TAt (W.setCell ⟨q, k, none⟩ v) b m := (Below.heap_setCell _ _ _ _ (by simp only; omega)).trans h
theorem tt_gst (m : Tt) : ∀ j, j <= 3 -> m.arr[1 + j]? = some (.int .i64 (m.st j))
 | 0, _ | 1, _ | 2, _ | 3, _ => rfl
theorem tt_gsh (m : Tt) : ∀ j, j <= 3 -> m.arr[5 + j]? = some (.int .i64 (m.sh j))
 | 0, _ | 1, _ | 2, _ | 3, _ => rfl
theorem tt_sst (m : Tt) (x : Int) : ∀ j, j <= 3 -> m.arr.setIfInBounds (1 + j) (.int .i64 x) = (m.setS j x).arr
 | 0, _ | 1, _ | 2, _ | 3, _ => rfl
theorem tt_ssh (m : Tt) (x : Int) : ∀ j, j <= 3 -> m.arr.setIfInBounds (5 + j) (.int .i64 x) = (m.setH j x).arr
 | 0, _ | 1, _ | 2, _ | 3, _ => rfl
theorem along_nb {n : Nd} (h : NdB n) : -2147483646 <= zaP n /\ zaP n <= 2147483646 := by
 unfold zaP
 split
 · rename_i hk; have := h.solid hk; omega
 split
 · rename_i hk; have := h.kern (by simpa using hk); omega
 split
 · rename_i hk; have := h.nat (by simpa using hk); omega
 · omega
theorem zin_cur {w : World} {B : Nat} {v : Value} {s : List Nat} (h : w.ownsRow B 3 1 v s.length (ints (natY s))) : ∃ p g c cur, v = .slice p s.length c /\ (s ≠ [] -> w.heap[g]? = some (.cells cur 3 (0, 0)) /\ ∀ i (hi : i < s.length), cur[i]? = some (.int .i64 (s[i] : Nat))) /\ (s ≠ [] -> B <= g) /\ (s ≠ [] -> p = some ⟨g, 0, none⟩) := by
 obtain ⟨p, g, c, e1, _, hz⟩ := zin_of h
 have hnl : (natY s).length = s.length := by simp [natY]
 rw [hnl] at e1
 obtain ⟨_, ⟨_, h0⟩ | ⟨g', cap, cur, e2, hb, hg, _⟩⟩ := h
 ·
  have hs : s = [] := List.length_eq_zero_iff.1 h0
  exact ⟨p, g, c, #[], e1, fun e => absurd hs e, fun e => absurd hs e, fun e => absurd hs e⟩
 ·
  refine ⟨some ⟨g', 0, none⟩, g', cap, cur, e2, fun e => ⟨hg, fun i hi => ?_⟩, fun _ => hb, fun _ => rfl⟩
  have h1 : i < (natY s).length := by rw [hnl]; exact hi
  have h2 := hz.at_ i h1
  have hpg := hz.hp (by intro e; rw [e] at h1; simp at h1)
  rw [e2, hpg] at e1
  simp only [Value.slice.injEq, Option.some.injEq, Addr.mk.injEq, and_true] at e1
  rw [<- e1.1, cell?_blk' hg] at h2
  rw [h2]
  simp [natY]
structure SumI (w : World) (R gz : Nat) (cur : Array Value) (s : List Nat) (T : Tt) (W : World) : Prop where
 res : TAt W R ⟨0, 0, 0, 0, 0, 0, 0, 0, 0⟩
 at_ : TAt W (R + 1) T
 below : Below w.heap.size w W
 zb : s ≠ [] -> W.heap[gz]? = some (.cells cur 3 (0, 0)) /\ R + 1 < gz
section
variable {w W W' : World} {R gz : Nat} {cur : Array Value} {s : List Nat} {T T' : Tt}
theorem SumI.still (h : SumI w R gz cur s T W) (hb : Below W.heap.size W W') : SumI w R gz cur s T W' :=
 ⟨h.res.bel hb, h.at_.bel hb, h.below.trans (hb.mono h.below.size), fun e => ⟨(hb.block gz (Array.getElem?_eq_some_iff.1 (h.zb e).1).1).trans (h.zb e).1, (h.zb e).2⟩⟩
theorem SumI.set (h : SumI w R gz cur s T W) (hR : w.heap.size <= R) (k : Nat) (v : Value) (hm : T.arr.setIfInBounds k v = T'.arr) : SumI w R gz cur s T' (W.setCell ⟨R + 1, k, none⟩ v) :=
 ⟨h.res.oth (by omega) v, h.at_.put k v T' hm, h.below.setCell (p := ⟨R + 1, k, none⟩) (by simp only; omega) v, fun e => ⟨(Below.heap_setCell _ _ _ _ (by have := (h.zb e).2; simp only; omega)).trans (h.zb e).1, (h.zb e).2⟩⟩
theorem SumI.drew (h : SumI w R gz cur s T W) : SumI w R gz cur s T W.drew := h.still ((Below.refl _ _).drew)
end
theorem sum9 (p0 : Option Addr) (b off cap : Nat) (L : List Nd) (s : List Nat) (hll : L.length <= 2000) (hs : Items L 0 s) (hnb : ∀ x ∈ s, NdB (nth L x)) (w : World) (hN : NIn w p0 b off cap L) :
 Calls Tryz.prog 110 #[.slice p0 L.length cap, .bool true] w fun e w' => e = .returned (.agg (sumP L s).arr) /\ Below w.heap.size w w' := by
 have H := zzh hN
 have HNb := zzh hnb
 have Hs := zzh hs
 have hsl := hs.len
 have hr0 : TAt ((w.alloc (.cells (Tt.mk 0 0 0 0 0 0 0 0 0).arr 43)).alloc (.cells (Tt.mk 0 0 0 0 0 0 0 0 0).arr 43)) w.heap.size ⟨0, 0, 0, 0, 0, 0, 0, 0, 0⟩ := (Below.heap_alloc _ _ _ (by simp)).trans (heap_alloc_new w _)
 have ht0 : TAt ((w.alloc (.cells (Tt.mk 0 0 0 0 0 0 0 0 0).arr 43)).alloc (.cells (Tt.mk 0 0 0 0 0 0 0 0 0).arr 43)) (w.heap.size + 1) ⟨0, 0, 0, 0, 0, 0, 0, 0, 0⟩ := by have := heap_alloc_new (w.alloc (.cells (Tt.mk 0 0 0 0 0 0 0 0 0).arr 43)) (.cells (Tt.mk 0 0 0 0 0 0 0 0 0).arr 43); rwa [World.size_alloc] at this
 have hb0 : Below w.heap.size w ((w.alloc (.cells (Tt.mk 0 0 0 0 0 0 0 0 0).arr 43)).alloc (.cells (Tt.mk 0 0 0 0 0 0 0 0 0).arr 43)) := ((Below.refl _ _).alloc (Nat.le_refl _) _).alloc (by simp) _
 have hz0 : ((w.alloc (.cells (Tt.mk 0 0 0 0 0 0 0 0 0).arr 43)).alloc (.cells (Tt.mk 0 0 0 0 0 0 0 0 0).arr 43)).heap.size = w.heap.size + 2 := by simp
 have HIt : Hid (∀ W, Below w.heap.size w W -> Calls Tryz.prog 132 #[.slice p0 L.length cap] W fun e w' => (∃ v, e = .returned v /\ w'.ownsRow W.heap.size 3 1 v s.length (ints (natY s))) /\ Below W.heap.size W w') := zzh fun W hb => items9 p0 b off cap L s hll Hs.out W (H.out.below hb)
 clear hN hs hnb
 go_enter Tryz.func110, Tryz.ntmps110
 go_upto_region 2 with (fail)
 generalize (w.alloc (.cells (Tt.mk 0 0 0 0 0 0 0 0 0).arr 43)).alloc (.cells (Tt.mk 0 0 0 0 0 0 0 0 0).arr 43) = w1 at hr0 ht0 hb0 hz0 ⊢
 obtain ⟨R, hR⟩ : ∃ R, w.heap.size = R := ⟨_, rfl⟩
 have HR := zzh hR
 have HI1 := zzh (HIt.out w1 hb0)
 have HB0 := zzh hb0
 rw [hR] at hr0 ht0 hz0 ⊢
 have hRle : w.heap.size <= R := by omega
 have HT0 := zzh (And.intro hr0 (And.intro ht0 hz0))
 clear hR HIt hr0 ht0 hb0 hz0
 go_upto_region 3 with (go_at_call 132; refine HI1.out.mono ?_; clear HI1; rintro e w2 ⟨⟨v, rfl, hv⟩, hb2⟩; obtain ⟨pz, gz, cz, cur, rfl, hcur, hfar, hpz⟩ := zin_cur hv)
 have HI2 : Hid (SumI w R gz cur s .zero w2) := zzh ⟨HT0.out.1.bel hb2, HT0.out.2.1.bel hb2, HB0.out.trans (hb2.mono HB0.out.size), fun e => ⟨(hcur e).1, by have := hfar e; have := HT0.out.2.2; omega⟩⟩
 have HZ := zzh (And.intro hcur hpz)
 clear hv hcur hfar hpz hb2 HT0 HB0
 go_loopg [12] (s.length + 1) (fun gg t12 wr => ∃ k : Nat, gg = s.length + 1 - k /\ k <= s.length /\ t12 = .int .i64 k /\ SumI w R gz cur s (sumP L (s.take k)) wr)
 case atStart => exact ⟨0, rfl, Nat.zero_le _, rfl, by simpa [sumP] using HI2.out⟩
 case round =>
  clear HI2
  obtain ⟨k, rfl, hk, rfl, hI⟩ := hrel
  have hk0 : (0 : Int) <= (k : Int) := by omega
  by_cases hlt : k < s.length
  ·
   have hlt2 : decide (k < s.length) = true := decide_eq_true hlt
   have hlt1 : (k : Int) < (s.length : Int) := by omega
   have hne : s ≠ [] := by intro e; rw [e] at hlt; simp at hlt
   have hpz := HZ.out.2 hne
   have hcz : wr.cell? ⟨gz, k, none⟩ = some (.int .i64 (s[k] : Nat)) := by rw [cell?_blk' (hI.zb hne).1]; exact (HZ.out.1 hne).2 k hlt
   have hx := List.getElem_mem hlt
   have htk : sumP L (s.take (k + 1)) = sumN (nth L s[k]) (sumP L (s.take k)) := by rw [List.take_succ_eq_append_getElem hlt, sumP_snoc]
   have hxl := (Hs.out.lt _ hx).2
   have hnb := HNb.out _ hx
   obtain ⟨bn, bs, bh⟩ := sum_bound (L := L) (s := s.take k) (fun i hi => HNb.out i (List.mem_of_mem_take hi)) (by rw [List.length_take]; omega)
   generalize s[k] = x at hcz hx htk hxl hnb
   obtain ⟨T, hT⟩ : ∃ T, sumP L (s.take k) = T := ⟨_, rfl⟩
   rw [hT] at htk hI bn bs bh
   have HAl : Hid (∀ W, Below w.heap.size w W -> Calls Tryz.prog 133 #[.slice p0 L.length cap, .int .i64 (x : Nat), .bool true] W fun e w' => e = .returned (.int .i64 (zaP (nth L x))) /\ Below W.heap.size W w') := zzh fun W hb => along9 p0 b off cap L x hxl hnb W (H.out.below hb)
   have HA : Hid (∀ W, Below w.heap.size w W -> agg? W b (off + x * 19) 19 = some (nth L x).arr) := zzh fun W hb => (H.out.below hb).nth hxl
   obtain rfl := H.out.at_ hxl
   have hx1 : (0 : Int) <= (x : Int) := by omega
   have hx2 : (x : Int) < (L.length : Int) := by omega
   subst hpz
   have hab := along_nb hnb
   obtain ⟨n, hn⟩ : ∃ n, nth L x = n := ⟨_, rfl⟩
   rw [hn] at htk HAl HA hab hnb
   obtain ⟨al, hal⟩ : ∃ al, zaP n = al := ⟨_, rfl⟩
   rw [hal] at HAl hab
   have Hal := zzh hal
   have Htk := zzh htk
   have Hnb := zzh hnb
   obtain ⟨ab1, ab2⟩ := hab
   obtain ⟨bn1, bn2⟩ := bn
   have HI := zzh hI
   have Hbs := zzh bs
   have Hbh := zzh bh
   have HAx := zzh (HAl.out wr.drew hI.drew.below)
   have hcT : wr.drew.cell? ⟨R + 1, 0, none⟩ = some (.int .i64 T.nat) := hI.drew.at_.cel 0 _ (Tt.get0 _)
   have HW : Hid (∀ w5, Below wr.drew.heap.size wr.drew w5 -> SumI w R gz cur s T w5) := zzh fun w5 h5 => hI.drew.still h5
   clear hI bs bh hn hal htk hnb hlt hx hT hne
   go_upto_region 5 with (fail)
   clear hcz
   have hwr : IntKind.i64.wrap (T.nat + al) = T.nat + al := by rw [IntKind.wrap_i64]; omega
   go_cut [] from 16 to 23 (fun wx => SumI w R gz cur s { T with nat := T.nat + al } wx)
   case first =>
    go_region_with (go_at_call 133; refine HAx.out.mono ?_; clear HAx; rintro e w5 ⟨rfl, hb5⟩; have hS5 := HW.out w5 hb5; have c5 := hS5.at_.cel 0 _ (Tt.get0 T); have f5 := hS5.at_.frz 0; have HS5 := zzh hS5; clear hS5)
    all_goals
     go_wp2_with fail
     go_meet
     exact HS5.out.set hRle 0 (.int .i64 (T.nat + al)) (T' := { T with nat := T.nat + al }) rfl
   case rest =>
    have hI3 := hcut
    clear hcut HAx HW HI hcT hwr
    have xk : wc.cell? ⟨b, off + x * 19, none⟩ = some (.int .i64 n.kind) := zau (HA.out wc hI3.below) 0 _ (Nd.get0 n)
    have xg : agg? wc b (off + x * 19 + 7) 5 = some n.glue.arr := by
     have := agg_sub (HA.out wc hI3.below) 7 5 (by decide)
     exact this
    obtain ⟨T1, hT1⟩ : ∃ T1 : Tt, ({ T with nat := T.nat + al } : Tt) = T1 := ⟨_, rfl⟩
    rw [hT1] at hI3
    have htk := Htk.out
    rw [show sumN n T = if n.kind == 7 then T1.glue n.glue else T1 by unfold sumN; rw [Hal.out, hT1]] at htk
    have hst : ∀ j, T1.st j = T.st j := fun j => by rw [<- hT1]; rfl
    have hsh : ∀ j, T1.sh j = T.sh j := fun j => by rw [<- hT1]; rfl
    have Hst := zzh (And.intro hst hsh)
    clear hst hsh hT1
    have hba := (Below.refl wc.heap.size wc).alloc (Nat.le_refl _) (.cells n.glue.arr 51)
    have hI4 := hI3.still hba
    have dG := heap_alloc_new wc (.cells n.glue.arr 51)
    have hRG : R + 1 < wc.heap.size := hI3.at_.lt
    have xk2 : (wc.alloc (.cells n.glue.arr 51)).cell? ⟨b, off + x * 19, none⟩ = some (.int .i64 n.kind) := zau (HA.out _ hI4.below) 0 _ (Nd.get0 n)
    have HI4 := zzh hI4
    clear hI3 hba hI4
    go_upto_region 7 with (fail)
    generalize wc.alloc (.cells n.glue.arr 51) = w4 at dG HI4 xk2 ⊢
    obtain ⟨G, hG⟩ : ∃ G, wc.heap.size = G := ⟨_, rfl⟩
    rw [hG] at dG hRG ⊢
    clear hG xk xg
    cases k7 : (n.kind == 7)
    ·
     rw [k7] at htk
     have Htk2 := zzh htk
     clear htk
     go_wp2_with fail
     go_roundg (s.length + 1 - (k + 1))
     case measure => omega
     case rel => exact ⟨k + 1, rfl, by omega, by go_num, by rw [Htk2.out]; exact HI4.out⟩
    ·
     rw [k7, if_pos rfl] at htk
     have Htk2 := zzh htk
     have nb := Hnb.out
     have k7' : n.kind = 7 := by simpa using k7
     obtain ⟨g3, g4⟩ := nb.str k7'
     obtain ⟨g5, g6⟩ := nb.shr k7'
     have b1 := nb.so k7'
     have b2 := nb.ho k7'
     obtain ⟨j, hj⟩ : ∃ j : Nat, n.glue.so = (j : Int) := ⟨n.glue.so.toNat, by omega⟩
     obtain ⟨i, hi⟩ : ∃ i : Nat, n.glue.ho = (i : Int) := ⟨n.glue.ho.toNat, by omega⟩
     have hj3 : j <= 3 := by omega
     have hi3 : i <= 3 := by omega
     have hj4 : (0 : Int) <= (j : Int) := by omega
     have hj5 : (j : Int) < 4 := by omega
     have hi4 : (0 : Int) <= (i : Int) := by omega
     have hi5 : (i : Int) < 4 := by omega
     have Hj := zzh hj
     have Hi := zzh hi
     have hne : G ≠ R + 1 := by omega
     obtain ⟨bj1, bj2⟩ := Hbs.out j
     obtain ⟨bi1, bi2⟩ := Hbh.out i
     rw [<- Hst.out.1 j] at bj1 bj2
     rw [<- Hst.out.2 i] at bi1 bi2
     clear htk nb k7' b1 b2 hj hi
     have x8 : w4.cell? ⟨G, 1, none⟩ = some (.int .i64 n.glue.str) := by rw [cell?_blk' dG]; rfl
     have x10 : w4.cell? ⟨G, 3, none⟩ = some (.int .i64 (j : Nat)) := by rw [cell?_blk' dG, <- Hj.out]; rfl
     have cj : w4.cell? ⟨R + 1, 1 + j, none⟩ = some (.int .i64 (T1.st j)) := HI4.out.at_.cel (1 + j) _ (tt_gst _ j hj3)
     have fj := HI4.out.at_.frz (1 + j)
     have hI5 := (HI4.out.set hRle (1 + j) (.int .i64 (T1.st j + n.glue.str)) (tt_sst _ _ j hj3)).drew
     have dG5 : (w4.setCell ⟨R + 1, 1 + j, none⟩ (.int .i64 (T1.st j + n.glue.str))).drew.heap[G]? = some (.cells n.glue.arr 51 (0, 0)) := (Below.heap_setCell _ _ _ _ hne).trans dG
     have HI5 := zzh hI5
     clear hI5 HI4
     go_wp2_with fail
     go_region
     generalize (w4.setCell ⟨R + 1, 1 + j, none⟩ (.int .i64 (T1.st j + n.glue.str))).drew = w5 at HI5 dG5 ⊢
     clear x8 x10 cj fj bj1 bj2 dG
     have x9 : w5.cell? ⟨G, 2, none⟩ = some (.int .i64 n.glue.shr) := by rw [cell?_blk' dG5]; rfl
     have x11 : w5.cell? ⟨G, 4, none⟩ = some (.int .i64 (i : Nat)) := by rw [cell?_blk' dG5, <- Hi.out]; rfl
     have ci := HI5.out.at_.cel (5 + i) _ (tt_gsh _ i hi3)
     have fi := HI5.out.at_.frz (5 + i)
     rw [zcB] at ci
     have HI6 := zzh ((HI5.out.set hRle (5 + i) (.int .i64 (T1.sh i + n.glue.shr)) (tt_ssh _ _ i hi3)).drew)
     clear HI5
     go_wp2_with fail
     go_region
     generalize (w5.setCell ⟨R + 1, 5 + i, none⟩ (.int .i64 (T1.sh i + n.glue.shr))).drew = w6 at HI6 ⊢
     have hg : T1.glue n.glue = (T1.setS j (T1.st j + n.glue.str)).setH i (T1.sh i + n.glue.shr) := by
      unfold Tt.glue
      rw [Hj.out, Hi.out]
      simp only [Int.toNat_natCast]
      rw [zcB]
     have Hg := zzh hg
     clear hg ci fi x9 x11 bi1 bi2 dG5
     go_wp2_with fail
     go_roundg (s.length + 1 - (k + 1))
     case measure => omega
     case rel => exact ⟨k + 1, rfl, by omega, by go_num, by rw [Htk2.out, Hg.out]; exact HI6.out⟩
  ·
   have hke : k = s.length := by omega
   have hlt2 : decide (k < s.length) = false := decide_eq_false hlt
   have hlt1 : ¬ ((k : Int) < (s.length : Int)) := by omega
   rw [hke, List.take_length] at hI
   have aT := hI.at_.agg
   have th := hI.res.there
   have HI := zzh hI
   clear hI hlt hke
   go_wp2_with fail
   refine ret_tt rfl R 0 (sumP L s) rfl (HI.out.res.store (U := sumP L s)).agg rfl ⟨rfl, Below.setAgg HI.out.below hRle _ _⟩
end Go.Proofs.YtaehkbbdmamfpaaGreatDoor
