/-
  nodes: right where the kind's function says no; right of any node.
-/
import Derived.Test.YtaehkbbdmamfpaaGreatDoorNodes5
import Derived.Test.YtaehkbbdmamfpaaGreatDoorTame
import Derived.Deep.AppendLies
import Derived.Laws.OwnMore
import Derived.OwnWalk
import Derived.Great.BuildSlice
set_option maxRecDepth 100000
set_option maxHeartbeats 4000000
namespace Go.Proofs.YtaehkbbdmamfpaaGreatDoor
open Go.ChangeShapes Go.WideShapes Go.ChangeAt Go.RowKit
theorem right_no (n : Nd) (k : Nat) (hk1 : 1 <= k) (hk17 : k <= 17) (hn : n.kind = (k : Int)) (t : Nat) (w : World) (nm : ByteArray) (op : Bool) (gi fi : Nat) (fc : Array Value) (hrow : agg? w t (k * 4) 4 = some #[.string nm, .bool op, .func (.func gi) #[] #[], .func (.func fi) #[] fc])
 (hG : ∀ W, Calls Tryz.prog gi #[.agg n.arr] W fun e w' => e = .returned (.bool false) /\ Below W.heap.size W w')
 (hcg : ∀ W, (callFunc gi #[.agg n.arr]).run Tryz.prog W = .ok (.enter gi #[.agg n.arr]) W) :
 Calls Tryz.prog 45 #[.agg n.arr, .pointer (some ⟨t, 0, none⟩)] w fun e w' => e = .returned (.bool false) /\ Below w.heap.size w w' := by
 have hlt := agg?_lt hrow
 have HG0 := zzh hG
 have hk0' : (0 : Int) <= (k : Int) := by omega
 have hk1' : (1 : Int) <= (k : Int) := by omega
 have hk2' : (k : Int) <= (17 : Int) := by omega
 have hk3' : (k : Int) < (18 : Int) := by omega
 have hw1 : zab (k : Int) 1 17 = true := by simp [zab]; omega
 have hnd : (w.alloc (.cells n.arr 53)).heap[w.heap.size]? = some (.cells n.arr 53 (0, 0)) := heap_alloc_new _ _
 have hrow1 : agg? (w.alloc (.cells n.arr 53)) t (k * 4) 4 = some #[.string nm, .bool op, .func (.func gi) #[] #[], .func (.func fi) #[] fc] := agg?_alloc_some' _ hrow
 have hb1 : Below w.heap.size w (w.alloc (.cells n.arr 53)) := (Below.refl _ _).alloc (Nat.le_refl _) _
 have hz1 : w.heap.size < (w.alloc (.cells n.arr 53)).heap.size := by simp
 have ck1 : (w.alloc (.cells n.arr 53)).cell? ⟨w.heap.size, 0, none⟩ = some (.int .i64 (k : Int)) := by rw [cell?_blk' hnd, <- hn]; rfl
 clear hG hrow
 go_enter Tryz.func45, Tryz.ntmps45
 go_wp2_with (go_at_call 84; refine (zae _ _ _ _).mono ?_; rintro e w' ⟨rfl, rfl⟩)
 generalize w.alloc (.cells n.arr 53) = w1 at hnd hrow1 hz1 hb1 ck1 ⊢
 have Hnd := zzh hnd
 have Hb1 := zzh hb1
 clear hnd hb1
 go_region_held3 (fun w' => w'.cell? ⟨w.heap.size, 0, none⟩ = some (.int .i64 (k : Int)) /\ agg? w' t (k * 4) 4 = some #[.string nm, .bool op, .func (.func gi) #[] #[], .func (.func fi) #[] fc]) (simp [*, World.cell?_alloc_some, agg?_drew, agg?_alloc_some']) (fail)
 have hm : NMid w n w1.heap.size nm op gi fi #[] fc (w1.alloc (.cells #[.string nm, .bool op, .func (.func gi) #[] #[], .func (.func fi) #[] fc] 99)).drew :=
  ⟨(Hb1.out.alloc (Nat.le_of_lt hz1) _).drew, (Below.heap_alloc _ _ _ hz1).trans Hnd.out, heap_alloc_new _ _⟩
 generalize (w1.alloc (.cells #[.string nm, .bool op, .func (.func gi) #[] #[], .func (.func fi) #[] fc] 99)).drew = w2 at hm ⊢
 generalize w1.heap.size = X at hm ⊢
 clear hrow1 ck1 Hnd Hb1 hz1 hlt hw1
 have HG : Hid (∀ W, NMid w n X nm op gi fi #[] fc W -> Calls Tryz.prog gi #[.agg n.arr] W fun e w' => e = .returned (.bool false) /\ NMid w n X nm op gi fi #[] fc w') := zzh fun W h => (HG0.out W).mono fun _ _ ⟨a, b⟩ => ⟨a, h.call b⟩
 clear HG0
 go_wp2_with fail
 refine TW.region (fun w' => NMid w n X nm op gi fi #[] fc w' /\ w'.cell? ⟨X, 2, none⟩ = some (.func (.func gi) #[] #[]) /\ w'.cell? ⟨X, 3, none⟩ = some (.func (.func fi) #[] fc) /\ agg? w' w.heap.size 0 19 = some n.arr /\ w'.cell? ⟨w.heap.size, 0, none⟩ = some (.int .i64 n.kind)) follows (by kernel_rfl) hm.drew.seen ?_
 clear hm
 iterate 15 first
  | (refine TW.cons_n rfl _ (by intro wT hT R hR K hK; simp only [Act.put, lsA, lsB, lsC] at hK; obtain ⟨hm, c2, c3, cn, ck⟩ := hT; go_step; first | ((with_reducible refine (HG.out _ hm).mono ?_); rintro e w8 ⟨rfl, h8⟩; exact hK _ _ (hR _ h8.seen)) | exact hK _ _ (hR _ ⟨hm, c2, c3, cn, ck⟩)) ?_; try simp only [Act.put, lsA, lsB, lsC])
  | (refine TW.skip_g _ _ _ rfl rfl rfl ?_; try simp only [Act.put, lsA, lsB, lsC])
 refine TW.nil fun w9 h9 => ?_
 have h9 := h9.1
 go_wp2_with fail
 go_ret
 exact ⟨rfl, h9.below⟩
theorem right_out (n : Nd) (t : Nat) (w : World) (h : zab n.kind 1 17 = false) : Calls Tryz.prog 45 #[.agg n.arr, .pointer (some ⟨t, 0, none⟩)] w fun e w' => e = .returned (.bool false) /\ Below w.heap.size w w' := by
 go_enter Tryz.func45, Tryz.ntmps45
 go_wp2_with (go_at_call 84; refine (zae _ _ _ _).mono ?_; rintro e w' ⟨rfl, rfl⟩)
 go_ret
 exact ⟨rfl, (Below.refl _ _).alloc (Nat.le_refl _) _⟩
def zbP (k : Nat) (n : Nd) : Bool := match k with
 | 1 => glyphB n | 2 => ligB n | 3 => zbO n | 4 => boxB n | 5 => boxB n | 7 => skipB n | 8 => kernB n | 9 => penB n | 12 => textB n | 13 => insB n | 14 => textB n | 15 => dims1 n.w | 16 => dims1 n.w | _ => true
def zcJ (k : Nat) (n : Nd) : Nd := match k with
 | 1 => { n with font := 0, char := 0, w := 0, h := 0, d := 0 }
 | 2 => { n with font := 0, char := 0, w := 0, h := 0, d := 0, text := ⟨#[]⟩ }
 | 3 => { n with w := 0, h := 0, d := 0, sub := 0 }
 | 4 => { n with w := 0, h := 0, d := 0, shift := 0, sign := 0, order := 0, num := 0, den := 0 }
 | 5 => { n with w := 0, h := 0, d := 0, shift := 0, sign := 0, order := 0, num := 0, den := 0 }
 | 7 => { n with glue := .zero, sub := 0 }
 | 8 => { n with w := 0, sub := 0 }
 | 9 => { n with pen := 0 }
 | 12 => { n with text := ⟨#[]⟩ }
 | 13 => { n with sub := 0, h := 0, d := 0, pen := 0, glue := .zero }
 | 14 => { n with text := ⟨#[]⟩ }
 | 15 => { n with w := 0 }
 | 16 => { n with w := 0 }
 | _ => n
def zaX (n : Nd) : Bool := zab n.kind 1 17 && zbP n.kind.toNat n && eqNd (zcJ n.kind.toNat n) { Nd.zero with kind := n.kind }
theorem rightB_at {n : Nd} {k : Nat} (hk1 : 1 <= k) (hk17 : k <= 17) (hn : n.kind = (k : Int)) : zaX n = (zbP k n && eqNd (zcJ k n) { Nd.zero with kind := n.kind }) := by
 have : zab (k : Int) 1 17 = true := by simp [zab]; omega
 simp only [zaX, hn, this, Int.toNat_natCast, Bool.true_and]
theorem zbh (n : Nd) (k : Nat) (hk1 : 1 <= k) (hk17 : k <= 17) (hn : n.kind = (k : Int)) (t : Nat) (w : World) (nm : ByteArray) (op : Bool) (gi fi : Nat) (hrow : agg? w t (k * 4) 4 = some #[.string nm, .bool op, .func (.func gi) #[] #[], .func (.func fi) #[] #[]])
 (hG : ∀ W, Calls Tryz.prog gi #[.agg n.arr] W fun e w' => e = .returned (.bool (zbP k n)) /\ Below W.heap.size W w')
 (hcg : ∀ W, (callFunc gi #[.agg n.arr]).run Tryz.prog W = .ok (.enter gi #[.agg n.arr]) W) (hcf : ∀ W, (callFunc fi #[.agg n.arr]).run Tryz.prog W = .ok (.enter fi #[.agg n.arr]) W)
 (hF : ∀ W, Calls Tryz.prog fi #[.agg n.arr] W fun e w' => e = .returned (.agg (zcJ k n).arr) /\ Below W.heap.size W w') :
 Calls Tryz.prog 45 #[.agg n.arr, .pointer (some ⟨t, 0, none⟩)] w fun e w' => e = .returned (.bool (zaX n)) /\ Below w.heap.size w w' := by
 rw [rightB_at hk1 hk17 hn]
 cases hg : zbP k n
 ·
  rw [hg] at hG
  exact (right_no n k hk1 hk17 hn t w nm op gi fi _ hrow hG hcg).mono fun _ _ h => h
 ·
  rw [hg] at hG
  exact (right_yes n k hk1 hk17 hn t w nm op gi fi hrow hG (zcJ k n) hcg hcf hF).mono fun _ _ h => h
theorem agg?_sub {w : World} {b n o m : Nat} {C : Array Value} (h : agg? w b 0 n = some C) (hm : o + m <= n) : agg? w b o m = some (C.extract o (o + m)) := by
 unfold agg? at h ⊢
 split at h
 ·
  rename_i c t fr hb
  split at h
  ·
   rename_i hle
   cases h
   simp only [Nat.zero_add] at hle
   rw [if_pos (by omega)]
   simp only [Nat.zero_add, Array.extract_extract]
   congr 2
   · omega
  · cases h
 · cases h
theorem Table.lt {w : World} {t p : Nat} (h : Table w t p) : t < w.heap.size := agg?_lt h.row
theorem Table.ltp {w : World} {t p : Nat} (h : Table w t p) : p < w.heap.size := World.block_lt_of_cell? _ _ h.cap
theorem Table.at_ {w : World} {t p : Nat} (h : Table w t p) (k : Nat) (hk : k <= 17) {c : Array Value} (hc : (KT p).extract (k * 4) (k * 4 + 4) = c) : agg? w t (k * 4) 4 = some c := by
 rw [agg?_sub h.row (by omega), hc]
theorem Table.below {w w' : World} {t p : Nat} (h : Table w t p) (hb : Below w.heap.size w w') : Table w' t p :=
 ⟨((zbc hb).2.2.1 _ _ _ h.lt).trans h.row, (hb.cell h.ltp).trans h.cap⟩
theorem right_any (n : Nd) (t p : Nat) (w : World) (hT : Table w t p) :
 Calls Tryz.prog 45 #[.agg n.arr, .pointer (some ⟨t, 0, none⟩)] w fun e w' => e = .returned (.bool (zaX n)) /\ Below w.heap.size w w' := by
 cases hw : zab n.kind 1 17
 · exact (right_out n t w hw).mono fun e w' ⟨h1, h2⟩ => ⟨by rw [h1, zaX, hw]; rfl, h2⟩
 ·
  have h17 : ∃ k : Nat, n.kind = (k : Int) /\ 1 <= k /\ k <= 17 := ⟨n.kind.toNat, by simp [zab] at hw; omega, by simp [zab] at hw; omega, by simp [zab] at hw; omega⟩
  obtain ⟨k, hn, h1, h2⟩ := h17
  have hk : k = 1 \/ k = 2 \/ k = 3 \/ k = 4 \/ k = 5 \/ k = 6 \/ k = 7 \/ k = 8 \/ k = 9 \/ k = 10 \/ k = 11 \/ k = 12 \/ k = 13 \/ k = 14 \/ k = 15 \/ k = 16 \/ k = 17 := by omega
  rcases hk with rfl | rfl | rfl | rfl | rfl | rfl | rfl | rfl | rfl | rfl | rfl | rfl | rfl | rfl | rfl | rfl | rfl
  · exact zbh n 1 h1 h2 hn t w _ _ _ _ (hT.at_ 1 h2 rfl) (g_glyph n) (fun _ => by kernel_rfl) (fun _ => by kernel_rfl) (r_kinds1 n)
  ·
   rw [rightB_at h1 h2 hn]
   cases hg : zbP 2 n
   · exact (right_no n 2 h1 h2 hn t w _ _ _ _ _ (hT.at_ 2 h2 rfl) (fun W => by have := g_lig n W; rw [show ligB n = false from hg] at this; exact this) (fun _ => by kernel_rfl)).mono fun _ _ h => h
   ·
    exact (right_yes1 n 2 h1 h2 hn t w _ _ _ _ _ (hT.at_ 2 h2 rfl) (fun W => by have := g_lig n W; rw [show ligB n = true from hg] at this; exact this) (zcJ 2 n) (fun _ => by kernel_rfl) (fun _ => by kernel_rfl)
     (fun W hb => r_kinds2 n p W ((hb.cell hT.ltp).trans hT.cap) (Nat.lt_of_lt_of_le hT.ltp hb.size))).mono fun _ _ h => h
  · exact zbh n 3 h1 h2 hn t w _ _ _ _ (hT.at_ 3 h2 rfl) (g_rule n) (fun _ => by kernel_rfl) (fun _ => by kernel_rfl) (r_kinds9 n)
  · exact zbh n 4 h1 h2 hn t w _ _ _ _ (hT.at_ 4 h2 rfl) (g_box n) (fun _ => by kernel_rfl) (fun _ => by kernel_rfl) (r_kinds3 n)
  · exact zbh n 5 h1 h2 hn t w _ _ _ _ (hT.at_ 5 h2 rfl) (g_box n) (fun _ => by kernel_rfl) (fun _ => by kernel_rfl) (r_kinds3 n)
  · exact zbh n 6 h1 h2 hn t w _ _ _ _ (hT.at_ 6 h2 rfl) (g_ok n) (fun _ => by kernel_rfl) (fun _ => by kernel_rfl) (r_all n)
  · exact zbh n 7 h1 h2 hn t w _ _ _ _ (hT.at_ 7 h2 rfl) (g_skip n) (fun _ => by kernel_rfl) (fun _ => by kernel_rfl) (r_kinds11 n)
  · exact zbh n 8 h1 h2 hn t w _ _ _ _ (hT.at_ 8 h2 rfl) (g_kern n) (fun _ => by kernel_rfl) (fun _ => by kernel_rfl) (r_kinds13 n)
  · exact zbh n 9 h1 h2 hn t w _ _ _ _ (hT.at_ 9 h2 rfl) (g_pen n) (fun _ => by kernel_rfl) (fun _ => by kernel_rfl) (r_kinds15 n)
  · exact zbh n 10 h1 h2 hn t w _ _ _ _ (hT.at_ 10 h2 rfl) (g_ok n) (fun _ => by kernel_rfl) (fun _ => by kernel_rfl) (r_all n)
  · exact zbh n 11 h1 h2 hn t w _ _ _ _ (hT.at_ 11 h2 rfl) (g_ok n) (fun _ => by kernel_rfl) (fun _ => by kernel_rfl) (r_all n)
  · exact zbh n 12 h1 h2 hn t w _ _ _ _ (hT.at_ 12 h2 rfl) (g_text n) (fun _ => by kernel_rfl) (fun _ => by kernel_rfl) (r_kinds5 n)
  · exact zbh n 13 h1 h2 hn t w _ _ _ _ (hT.at_ 13 h2 rfl) (g_ins n) (fun _ => by kernel_rfl) (fun _ => by kernel_rfl) (r_kinds17 n)
  · exact zbh n 14 h1 h2 hn t w _ _ _ _ (hT.at_ 14 h2 rfl) (g_text n) (fun _ => by kernel_rfl) (fun _ => by kernel_rfl) (r_kinds5 n)
  · exact zbh n 15 h1 h2 hn t w _ _ _ _ (hT.at_ 15 h2 rfl) (g_width n) (fun _ => by kernel_rfl) (fun _ => by kernel_rfl) (r_kinds4 n)
  · exact zbh n 16 h1 h2 hn t w _ _ _ _ (hT.at_ 16 h2 rfl) (g_width n) (fun _ => by kernel_rfl) (fun _ => by kernel_rfl) (r_kinds4 n)
  · exact zbh n 17 h1 h2 hn t w _ _ _ _ (hT.at_ 17 h2 rfl) (g_ok n) (fun _ => by kernel_rfl) (fun _ => by kernel_rfl) (r_all n)
/-! ### Small things -/
theorem zau {w : World} {b o n : Nat} {c : Array Value} (h : agg? w b o n = some c) (k : Nat) (v : Value) (hk : c[k]? = some v) : w.cell? ⟨b, o + k, none⟩ = some v := by
 obtain ⟨hs, hr⟩ := rangeAt_of_agg? h
 exact hr k v (by simpa using hk)
theorem agg_of_cells {w : World} {b o n : Nat} {c : Array Value} (hn : 0 < n) (hs : c.size = n) (h : ∀ k, k < n -> w.cell? ⟨b, o + k, none⟩ = c[k]?) : agg? w b o n = some c := by
 have h0 := h 0 hn
 rw [Array.getElem?_eq_getElem (by omega)] at h0
 unfold World.cell? at h0
 split at h0
 ·
  rename_i C t fr hb
  simp only at hb
  have h1 : ∀ k, k < n -> C[o + k]? = c[k]? := fun k hk => by rw [<- h k hk, cell?_blk' hb]
  have hlast := h1 (n - 1) (by omega)
  rw [Array.getElem?_eq_getElem (show n - 1 < c.size by omega)] at hlast
  have hsz : o + (n - 1) < C.size := (Array.getElem?_eq_some_iff.1 hlast).1
  unfold agg?
  rw [hb]
  simp only
  rw [if_pos (by omega)]
  congr 1
  apply Array.ext_getElem?
  intro k
  rw [Array.getElem?_extract]
  split
  · exact h1 k (by omega)
  · rw [Array.getElem?_eq_none (by omega)]
 · cases h0
theorem agg_sub {w : World} {b o n : Nat} {c : Array Value} (h : agg? w b o n = some c) (m k : Nat) (hm : m + k <= n) : agg? w b (o + m) k = some (c.extract m (m + k)) := by
 unfold agg? at h ⊢
 split at h
 ·
  rename_i C t fr hb
  split at h
  ·
   rename_i hle
   cases h
   rw [if_pos (by omega)]
   simp only [Array.extract_extract]
   congr 2
   · omega
  · cases h
 · cases h
theorem agg?_block {w w' : World} {k o n : Nat} (h : w'.heap[k]? = w.heap[k]?) : agg? w' k o n = agg? w k o n := by unfold agg?; rw [h]
@[go_sem] theorem heap_drewN (w : World) (n : Nat) : (w.drewN n).heap = w.heap := rfl
@[go_sem] theorem agg?_drewN (w : World) (n b o m : Nat) : agg? (w.drewN n) b o m = agg? w b o m := rfl
@[go_sem] theorem there?_drewN (w : World) (n b o m : Nat) : there? (w.drewN n) b o m = there? w b o m := rfl
theorem zbR {w : World} {X : Nat} {c : Array Value} {t : TypeId} (h : w.heap[X]? = some (.cells c t (0, 0))) (o n : Nat) (hn : o + n <= c.size) : there? w X o n = true := by
 unfold there?; rw [h]; simpa using hn
theorem zar {w w' : World} {base : Nat} {e : TypeId} {size : Nat} {v : Value} {n : Nat} {xs : List Value} (h : w.ownsRow base e size v n xs) (hs : ∀ g, v.ownBlock = some g -> g < w.heap.size -> w'.heap[g]? = w.heap[g]?) : w'.ownsRow base e size v n xs := by
 obtain ⟨hl, h | ⟨g, cap, cur, rfl, hb, hg, hr⟩⟩ := h
 · exact ⟨hl, .inl h⟩
 · exact ⟨hl, .inr ⟨g, cap, cur, rfl, hb, (hs g rfl (Array.getElem?_eq_some_iff.1 hg).1).trans hg, hr⟩⟩
theorem zad {w w' : World} {base : Nat} {e : TypeId} {size : Nat} {v : Value} {n : Nat} {xs : List Value} (h : w.ownsRow base e size v n xs) (hb : Below w.heap.size w w') : w'.ownsRow base e size v n xs :=
 zar h fun g _ hlt => hb.block g hlt
theorem zas {w : World} {base base' : Nat} {e : TypeId} {size : Nat} {v : Value} {n : Nat} {xs : List Value} (h : w.ownsRow base e size v n xs) (hb : base' <= base) : w.ownsRow base' e size v n xs := by
 obtain ⟨hl, h | ⟨g, cap, cur, rfl, hg, hr⟩⟩ := h
 · exact ⟨hl, .inl h⟩
 · exact ⟨hl, .inr ⟨g, cap, cur, rfl, Nat.le_trans hb hg, hr⟩⟩
theorem zdk {B : Nat} {w w' : World} (h : Below B w w') (n : Nat) : Below B w (w'.drewN n) := ⟨h.os, h.tape, h.output, h.size, h.block⟩
theorem zbd (B : Nat) (w : World) (n : Nat) : Below B w (w.drewN n) := zdk (Below.refl _ _) n
/-! ### Rows of whole numbers -/
def ints (l : List Int) : List Value := l.map (Value.int .i64)
theorem zcb (a b : List Int) : ints (a ++ b) = ints a ++ ints b := by simp [ints]
theorem info_int : (Tryz.prog.info? 3).map (fun i => (i.zero, i.size, i.bytes)) = some (some (.int .i64 0), 1, 8) := by kernel_rfl
theorem ints_idx (l : List Int) (i : Nat) : (ints l)[i]? = (l[i]?).map (Value.int .i64) := by simp [ints]
theorem ints_lset (l : List Int) (i : Nat) (x : Int) : (ints l).set i (.int .i64 x) = ints (l.set i x) := by simp [ints, List.map_set]
theorem ints_take (l : List Int) (i : Nat) : (ints l).take i = ints (l.take i) := by simp [ints]
theorem ints_len (l : List Int) : (ints l).length = l.length := by simp [ints]
/-! ### Rows of nodes -/
theorem zbq : (Tryz.prog.info? 53).map (fun i => (i.zero, i.size, i.bytes)) = some (some (.agg Nd.zero.arr), 19, 160) := by kernel_rfl
structure NIn (w : World) (p : Option Addr) (b off cap : Nat) (L : List Nd) : Prop where
 hp : L ≠ [] -> p = some ⟨b, off, none⟩
 hb : L ≠ [] -> b < w.heap.size
 nd : ∀ j, (h : j < L.length) -> agg? w b (off + j * 19) 19 = some L[j].arr
 cap' : L.length <= cap
 len : L.length * 160 <= 140737488351232
section
variable {w w' : World} {p : Option Addr} {b off cap : Nat} {L : List Nd}
theorem NIn.below (h : NIn w p b off cap L) (hb : Below w.heap.size w w') : NIn w' p b off cap L :=
 ⟨h.hp, fun e => Nat.lt_of_lt_of_le (h.hb e) hb.size, fun j hj => ((zbc hb).2.2.1 _ _ _ (h.hb (by intro e; rw [e] at hj; simp at hj))).trans (h.nd j hj), h.cap', h.len⟩
theorem NIn.drewN (h : NIn w p b off cap L) (n : Nat) : NIn (w.drewN n) p b off cap L := h.below (zbd _ _ _)
theorem NIn.drew (h : NIn w p b off cap L) : NIn w.drew p b off cap L := ⟨h.hp, h.hb, h.nd, h.cap', h.len⟩
theorem NIn.ne (_h : NIn w p b off cap L) {j : Nat} (hj : j < L.length) : L ≠ [] := by intro e; rw [e] at hj; simp at hj
theorem NIn.at_ (h : NIn w p b off cap L) {j : Nat} (hj : j < L.length) : p = some ⟨b, off, none⟩ := h.hp (h.ne hj)
theorem NIn.lt (h : NIn w p b off cap L) {j : Nat} (hj : j < L.length) : b < w.heap.size := h.hb (h.ne hj)
theorem NIn.drop (h : NIn w p b off cap L) (k : Nat) (hk : k <= L.length) : NIn w (p.map fun a => ⟨a.block, a.off + k * 19, a.spot⟩) b (off + k * 19) (cap - k) (L.drop k) := by
 refine ⟨fun e => ?_, fun e => h.hb fun e2 => e (by rw [e2]; simp), fun j hj => ?_, ?_, ?_⟩
 · rw [h.hp fun e2 => e (by rw [e2]; simp)]; rfl
 ·
  have hj' : k + j < L.length := by simp at hj; omega
  have := h.nd (k + j) hj'
  rw [Nat.add_mul, <- Nat.add_assoc] at this
  rw [this, List.getElem_drop]
 · have := h.cap'; simp; omega
 · have := h.len; simp; omega
theorem NIn.take (h : NIn w p b off cap L) (k : Nat) : NIn w p b off cap (L.take k) := by
 refine ⟨fun e => h.hp fun e2 => e (by rw [e2]; simp), fun e => h.hb fun e2 => e (by rw [e2]; simp), fun j hj => ?_, ?_, ?_⟩
 ·
  have hj' : j < L.length := by simp at hj; omega
  rw [h.nd j hj', List.getElem_take]
 · have := h.cap'; simp; omega
 · have := h.len; simp; omega
end
theorem zcY : ∀ (L : List Nd) (i : Nat) (hi : i < L.length), ((L.flatMap Nd.cells).drop (i * 19)).take 19 = L[i].cells
 | s :: r, 0, _ => by
  rw [Nat.zero_mul, List.drop_zero, List.flatMap_cons, List.getElem_cons_zero]
  exact List.take_left' rfl
 | s :: r, i + 1, hi => by
  rw [List.flatMap_cons, show (i + 1) * 19 = s.cells.length + i * 19 by rw [show s.cells.length = 19 from rfl]; omega, List.drop_append, List.getElem_cons_succ]
  rw [List.drop_eq_nil_of_le (by omega), List.nil_append, Nat.add_sub_cancel_left]
  exact zcY r i (by simpa using hi)
theorem zaA : ∀ L : List Nd, (L.flatMap Nd.cells).length = L.length * 19
 | [] => rfl
 | s :: r => by rw [List.flatMap_cons, List.length_append, zaA r, show s.cells.length = 19 from rfl, List.length_cons]; omega
theorem zbS {w : World} {B : Nat} {v : Value} {n : Nat} {L : List Nd} (h : w.ownsRow B 53 19 v n (L.flatMap Nd.cells)) (hlen : L.length * 160 <= 140737488351232) :
 L.length = n /\ ∃ p g cap, v = .slice p L.length cap /\ NIn w p g 0 cap L /\ (L ≠ [] -> B <= g) := by
 obtain ⟨hl, h2⟩ := h
 have hn : L.length = n := by rw [zaA] at hl; omega
 subst hn
 refine ⟨rfl, ?_⟩
 rcases h2 with ⟨rfl, h0⟩ | ⟨g, cap, cur, rfl, hb, hg, hn, hm, hs, ht⟩
 ·
  have hL : L = [] := List.length_eq_zero_iff.1 h0
  subst hL
  exact ⟨none, 0, 0, rfl, ⟨fun e => absurd rfl e, fun e => absurd rfl e, fun j hj => by simp at hj, Nat.le_refl _, by simp⟩, fun e => absurd rfl e⟩
 ·
  refine ⟨_, g, cap, rfl, ⟨fun _ => rfl, fun _ => (Array.getElem?_eq_some_iff.1 hg).1, fun i hi => ?_, hn, hlen⟩, fun _ => hb⟩
  have h1 : i * 19 + 19 <= L.length * 19 := by omega
  have h2 : L.length * 19 <= cap * 19 := Nat.mul_le_mul_right _ hn
  unfold agg?
  rw [hg]
  simp only
  rw [if_pos (by omega)]
  congr 1
  have e := zcY L i hi
  rw [<- ht, List.drop_take, List.take_take, Nat.min_eq_left (by omega)] at e
  show cur.extract (0 + i * 19) (0 + i * 19 + 19) = (L[i]).cells.toArray
  rw [<- e]
  apply Array.ext'
  simp [List.take_drop]
theorem NIn.news {w : World} {p : Option Addr} {b off cap : Nat} {L : List Nd} (h : NIn w p b off cap L) : ∀ j u, (L.flatMap Nd.cells)[j]? = some u -> w.cell? ((⟨b, off, none⟩ : Addr).add j) = some u := fun j u hu => by
 have hj : j < L.length * 19 := by have := (List.getElem?_eq_some_iff.1 hu).1; rwa [zaA] at this
 have hi : j / 19 < L.length := by omega
 have h1 := zau (h.nd (j / 19) hi) (j % 19) u (by
  have e := zcY L (j / 19) hi
  have : (L[j / 19].cells)[j % 19]? = some u := by
   rw [<- e, List.getElem?_take_of_lt (by omega), List.getElem?_drop, show j / 19 * 19 + j % 19 = j by omega]
   exact hu
  rw [<- this]
  simp [Nd.arr])
 have hadd : (⟨b, off, none⟩ : Addr).add j = ⟨b, off + j, none⟩ := by unfold Addr.add; split <;> simp_all
 rw [hadd, <- h1]
 congr 2
 omega
theorem zax (L : List Nd) : ∀ u ∈ L.flatMap Nd.cells, u.oneCell' = true := by
 intro u hu
 obtain ⟨n, _, hn⟩ := List.mem_flatMap.1 hu
 have := Nd.one n
 simp only [Nd.arr] at this
 have := List.all_eq_true.1 (by simpa using this) u hn
 exact this
def zbD (k : Int) : Bool := k == 1 || k == 2 || k == 8 || k == 3 || k == 4 || k == 5
def zaH (k : Int) : Bool := k == 4 || k == 5 || k == 10 || k == 13 || k == 17
theorem small_any (n : Nd) (w : World) : Calls Tryz.prog 46 #[.agg n.arr] w fun e w' => e = .returned (.bool (zbD n.kind)) /\ Below w.heap.size w w' := by
 cases h0 : (n.kind == 1)
 rotate_left
 ·
  go_enter Tryz.func46, Tryz.ntmps46
  go_wp2_with fail
  go_ret
  exact ⟨zaa (by simp [zbD, h0]), (Below.refl _ _).alloc (Nat.le_refl _) _⟩
 cases h1 : (n.kind == 2)
 rotate_left
 ·
  go_enter Tryz.func46, Tryz.ntmps46
  go_wp2_with fail
  go_ret
  exact ⟨zaa (by simp [zbD, h0, h1]), (Below.refl _ _).alloc (Nat.le_refl _) _⟩
 cases h2 : (n.kind == 8)
 rotate_left
 ·
  go_enter Tryz.func46, Tryz.ntmps46
  go_wp2_with fail
  go_ret
  exact ⟨zaa (by simp [zbD, h0, h1, h2]), (Below.refl _ _).alloc (Nat.le_refl _) _⟩
 cases h3 : (n.kind == 3)
 rotate_left
 ·
  go_enter Tryz.func46, Tryz.ntmps46
  go_wp2_with fail
  go_ret
  exact ⟨zaa (by simp [zbD, h0, h1, h2, h3]), (Below.refl _ _).alloc (Nat.le_refl _) _⟩
 cases h4 : (n.kind == 4)
 rotate_left
 ·
  go_enter Tryz.func46, Tryz.ntmps46
  go_wp2_with fail
  go_ret
  exact ⟨zaa (by simp [zbD, h0, h1, h2, h3, h4]), (Below.refl _ _).alloc (Nat.le_refl _) _⟩
 cases h5 : (n.kind == 5)
 rotate_left
 ·
  go_enter Tryz.func46, Tryz.ntmps46
  go_wp2_with fail
  go_ret
  exact ⟨zaa (by simp [zbD, h0, h1, h2, h3, h4, h5]), (Below.refl _ _).alloc (Nat.le_refl _) _⟩
 go_enter Tryz.func46, Tryz.ntmps46
 go_wp2_with fail
 go_ret
 exact ⟨zaa (by simp [zbD, h0, h1, h2, h3, h4, h5]), (Below.refl _ _).alloc (Nat.le_refl _) _⟩
theorem opens_any (n : Nd) (w : World) : Calls Tryz.prog 47 #[.agg n.arr] w fun e w' => e = .returned (.bool (zaH n.kind)) /\ Below w.heap.size w w' := by
 cases h0 : (n.kind == 4)
 rotate_left
 ·
  go_enter Tryz.func47, Tryz.ntmps47
  go_wp2_with fail
  go_ret
  exact ⟨zaa (by simp [zaH, h0]), (Below.refl _ _).alloc (Nat.le_refl _) _⟩
 cases h1 : (n.kind == 5)
 rotate_left
 ·
  go_enter Tryz.func47, Tryz.ntmps47
  go_wp2_with fail
  go_ret
  exact ⟨zaa (by simp [zaH, h0, h1]), (Below.refl _ _).alloc (Nat.le_refl _) _⟩
 cases h2 : (n.kind == 10)
 rotate_left
 ·
  go_enter Tryz.func47, Tryz.ntmps47
  go_wp2_with fail
  go_ret
  exact ⟨zaa (by simp [zaH, h0, h1, h2]), (Below.refl _ _).alloc (Nat.le_refl _) _⟩
 cases h3 : (n.kind == 13)
 rotate_left
 ·
  go_enter Tryz.func47, Tryz.ntmps47
  go_wp2_with fail
  go_ret
  exact ⟨zaa (by simp [zaH, h0, h1, h2, h3]), (Below.refl _ _).alloc (Nat.le_refl _) _⟩
 cases h4 : (n.kind == 17)
 rotate_left
 ·
  go_enter Tryz.func47, Tryz.ntmps47
  go_wp2_with fail
  go_ret
  exact ⟨zaa (by simp [zaH, h0, h1, h2, h3, h4]), (Below.refl _ _).alloc (Nat.le_refl _) _⟩
 go_enter Tryz.func47, Tryz.ntmps47
 go_wp2_with fail
 go_ret
 exact ⟨zaa (by simp [zaH, h0, h1, h2, h3, h4]), (Below.refl _ _).alloc (Nat.le_refl _) _⟩
/-! ### Is it a list? -/
def zbY (k : Int) (st : List Int) (d : Int) : Option (List Int × Int) :=
 if k = 6 then (match st.getLast? with | none => none | some x => if 0 < x then none else some (st.dropLast, d))
 else if k = 11 then (match st.getLast? with | none => none | some x => if x < 1 then none else some (st.set (st.length - 1) (x - 1), d))
 else if (match st.getLast? with | none => false | some x => decide (0 <= x) && !zbD k) then none
 else some (if zaH k then st ++ [if k = 10 then 2 else -1] else st, max d (st.length + 1))
def runC : List Nd -> List Int -> Int -> Option (List Int × Int)
 | [], st, d => some (st, d)
 | n :: l, st, d => if zaX n then (zbY n.kind st d).bind fun s => runC l s.1 s.2 else none
def codeC : Option (List Int × Int) -> Int
 | none => 50
 | some (st, d) => if 0 < st.length then 50 else if 40 < d then 51 else 0
def zao (L : List Nd) : Int := if 2000 < L.length then 6 else codeC (runC L [] 0)
section
variable {α : Type}
theorem flatN_len (f : α -> List Value) {size : Nat} (hf : ∀ a, (f a).length = size) : ∀ xs : List α, (xs.flatMap f).length = xs.length * size
 | [] => by simp
 | x :: r => by rw [List.flatMap_cons, List.length_append, hf, flatN_len f hf r, List.length_cons, Nat.add_mul, Nat.one_mul, Nat.add_comm]
theorem flatN_at (f : α -> List Value) {size : Nat} (hf : ∀ a, (f a).length = size) : ∀ (xs : List α) (j : Nat) (hj : j < xs.length), ((xs.flatMap f).drop (j * size)).take size = f xs[j]
 | [], j, hj => by simp at hj
 | x :: r, 0, _ => by
  rw [Nat.zero_mul, List.drop_zero, List.flatMap_cons, List.take_append_of_le_length (by rw [hf]; exact Nat.le_refl _), List.take_of_length_le (by rw [hf]; exact Nat.le_refl _)]
  rfl
 | x :: r, j + 1, hj => by
  have := flatN_at f hf r j (by simpa using hj)
  rw [List.flatMap_cons, Nat.add_mul, Nat.one_mul, Nat.add_comm, <- hf x, <- List.drop_drop, List.drop_left, hf x]
  simpa using this
theorem row_agg (f : α -> List Value) {size : Nat} (hf : ∀ a, (f a).length = size) {w : World} {B : Nat} {e : TypeId} {v : Value} {n : Nat} {xs : List α} (h : w.ownsRow B e size v n (xs.flatMap f)) (hs : 0 < size) {j : Nat} (hj : j < xs.length) :
 ∃ g cap, v = .slice (some ⟨g, 0, none⟩) xs.length cap /\ xs.length <= cap /\ B <= g /\ agg? w g (j * size) size = some (f xs[j]).toArray := by
 obtain ⟨hl, h2⟩ := h
 have hn : xs.length = n := by
  rw [flatN_len f hf] at hl
  exact Nat.eq_of_mul_eq_mul_right hs hl
 subst hn
 rcases h2 with ⟨rfl, h0⟩ | ⟨g, cap, cur, rfl, hb, hg, hn, hm, hs2, ht⟩
 · omega
 ·
  refine ⟨g, cap, rfl, hn, hb, ?_⟩
  have h1 : j * size + size <= xs.length * size := by
   rw [<- Nat.succ_mul]; exact Nat.mul_le_mul_right _ hj
  have h2 : xs.length * size <= cap * size := Nat.mul_le_mul_right _ hn
  unfold agg?
  rw [hg]
  simp only
  rw [if_pos (by omega)]
  congr 1
  have e := flatN_at f hf xs j hj
  rw [<- ht, List.drop_take, List.take_take, Nat.min_eq_left (by omega)] at e
  rw [<- e]
  apply Array.ext'
  simp [List.take_drop]
end
def bsNd1 (parts : Array (Nat × Value)) : Sem Value := Instr.buildSlice 22 1 parts
def bsNd2 (parts : Array (Nat × Value)) : Sem Value := Instr.buildSlice 22 2 parts
@[go_sem ↓] theorem execOp_bsNd1 (ρ : Operand -> Value) (dst : Option Tmp) (x : Array (Nat × Operand)) (ty : TypeId) (pos : String) (after : Array Edge) (guard : Option (Nat × Bool)) :
 execOp ρ { dst, op := .buildSlice 22 1 x, type := ty, pos, after, guard } = (do pure (.value (<- bsNd1 (x.map fun (i, y) => (i, ρ y))))) := rfl
@[go_sem ↓] theorem execOp_bsNd2 (ρ : Operand -> Value) (dst : Option Tmp) (x : Array (Nat × Operand)) (ty : TypeId) (pos : String) (after : Array Edge) (guard : Option (Nat × Bool)) :
 execOp ρ { dst, op := .buildSlice 22 2 x, type := ty, pos, after, guard } = (do pure (.value (<- bsNd2 (x.map fun (i, y) => (i, ρ y))))) := rfl
theorem fill_nd1 (n : Nd) : Instr.fill (fun i => some (i * 19, 19)) ((Array.range (1 * 19)).map ((Value.agg Nd.zero.arr).cells[· % (Value.agg Nd.zero.arr).cells.size]!)) [(0, .agg n.arr)] = some n.arr := by kernel_rfl
theorem fill_nd2 (n m : Nd) : Instr.fill (fun i => some (i * 19, 19)) ((Array.range (2 * 19)).map ((Value.agg Nd.zero.arr).cells[· % (Value.agg Nd.zero.arr).cells.size]!)) [(0, .agg n.arr), (1, .agg m.arr)] = some (n.cells ++ m.cells).toArray := by kernel_rfl
theorem info_nd0 : (Tryz.prog.info? 53).map (fun i => (i.zero, i.size)) = some (some (.agg Nd.zero.arr), 19) := by kernel_rfl
@[go_sem] theorem run_bsNd1 (n : Nd) (w : World) : (bsNd1 #[(0, .agg n.arr)]).run Tryz.prog w = .ok (.slice (some ⟨w.heap.size, 0, none⟩) 1 1) (w.alloc (.cells n.arr 53)) := by
 obtain ⟨i, hi, hzz⟩ := Option.map_eq_some_iff.1 info_nd0
 simp only [Prod.mk.injEq] at hzz
 obtain ⟨hz, hs⟩ := hzz
 refine run_buildSlice w _ 53 1 _ n.arr i (.agg Nd.zero.arr) Tryz.underlying22 hi hz (by rw [hs]; decide) (by rw [hs]; decide) ?_
 rw [hs]
 exact fill_nd1 n
@[go_sem] theorem run_bsNd2 (n m : Nd) (w : World) : (bsNd2 #[(0, .agg n.arr), (1, .agg m.arr)]).run Tryz.prog w = .ok (.slice (some ⟨w.heap.size, 0, none⟩) 2 2) (w.alloc (.cells (n.cells ++ m.cells).toArray 53)) := by
 obtain ⟨i, hi, hzz⟩ := Option.map_eq_some_iff.1 info_nd0
 simp only [Prod.mk.injEq] at hzz
 obtain ⟨hz, hs⟩ := hzz
 refine run_buildSlice w _ 53 2 _ _ i (.agg Nd.zero.arr) Tryz.underlying22 hi hz (by rw [hs]; decide) (by rw [hs]; decide) ?_
 rw [hs]
 exact fill_nd2 n m
end Go.Proofs.YtaehkbbdmamfpaaGreatDoor
