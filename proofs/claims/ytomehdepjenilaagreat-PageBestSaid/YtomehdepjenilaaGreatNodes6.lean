/-
  nodes: right where the kind's function says no; right of any node.
-/
import Derived.Test.YtomehdepjenilaaGreatNodes5
import Derived.Test.YtomehdepjenilaaGreatTame
set_option maxRecDepth 100000
set_option maxHeartbeats 4000000
namespace Go.Proofs.YtomehdepjenilaaGreat
open Go.ChangeShapes Go.WideShapes Go.ChangeAt Go.RowKit
theorem right_no (n : Nd) (k : Nat) (hk1 : 1 ≤ k) (hk17 : k ≤ 17) (hn : n.kind = (k : Int)) (t : Nat) (w : World) (nm : ByteArray) (op : Bool) (gi fi : Nat) (fc : Array Value) (hrow : agg? w t (k * 4) 4 = some #[.string nm, .bool op, .func (.func gi) #[] #[], .func (.func fi) #[] fc])
    (hG : ∀ W, Calls Tryz.prog gi #[.agg n.arr] W fun e w' => e = .returned (.bool false) ∧ Below W.heap.size W w')
    (hcg : ∀ W, (callFunc gi #[.agg n.arr]).run Tryz.prog W = .ok (.enter gi #[.agg n.arr]) W) :
    Calls Tryz.prog 96 #[.agg n.arr, .pointer (some ⟨t, 0, none⟩)] w fun e w' => e = .returned (.bool false) ∧ Below w.heap.size w w' := by
  have hlt := agg?_lt hrow
  have HG0 := Lib.hid hG
  have hk0' : (0 : Int) ≤ (k : Int) := by omega
  have hk1' : (1 : Int) ≤ (k : Int) := by omega
  have hk2' : (k : Int) ≤ (17 : Int) := by omega
  have hk3' : (k : Int) < (18 : Int) := by omega
  have hw1 : withinB (k : Int) 1 17 = true := by simp [withinB]; omega
  have hnd : (w.alloc (.cells n.arr 49)).heap[w.heap.size]? = some (.cells n.arr 49 (0, 0)) := heap_alloc_new _ _
  have hrow1 : agg? (w.alloc (.cells n.arr 49)) t (k * 4) 4 = some #[.string nm, .bool op, .func (.func gi) #[] #[], .func (.func fi) #[] fc] := agg?_alloc_some' _ hrow
  have hb1 : Below w.heap.size w (w.alloc (.cells n.arr 49)) := (Below.refl _ _).alloc (Nat.le_refl _) _
  have hz1 : w.heap.size < (w.alloc (.cells n.arr 49)).heap.size := by simp
  have ck1 : (w.alloc (.cells n.arr 49)).cell? ⟨w.heap.size, 0, none⟩ = some (.int .i64 (k : Int)) := by rw [cell?_blk' hnd, ← hn]; rfl
  clear hG hrow
  go_enter Tryz.func96, Tryz.ntmps96
  go_wp2_with (go_at_call 128; refine (within_any _ _ _ _).mono ?_; rintro e w' ⟨rfl, rfl⟩)
  generalize w.alloc (.cells n.arr 49) = w1 at hnd hrow1 hz1 hb1 ck1 ⊢
  have Hnd := Lib.hid hnd
  have Hb1 := Lib.hid hb1
  clear hnd hb1
  go_region_held3 (fun w' => w'.cell? ⟨w.heap.size, 0, none⟩ = some (.int .i64 (k : Int)) ∧ agg? w' t (k * 4) 4 = some #[.string nm, .bool op, .func (.func gi) #[] #[], .func (.func fi) #[] fc]) (simp [*, World.cell?_alloc_some, agg?_drew, agg?_alloc_some']) (fail)
  have hm : NMid w n w1.heap.size nm op gi fi #[] fc (w1.alloc (.cells #[.string nm, .bool op, .func (.func gi) #[] #[], .func (.func fi) #[] fc] 156)).drew :=
    ⟨(Hb1.out.alloc (Nat.le_of_lt hz1) _).drew, (Below.heap_alloc _ _ _ hz1).trans Hnd.out, heap_alloc_new _ _⟩
  generalize (w1.alloc (.cells #[.string nm, .bool op, .func (.func gi) #[] #[], .func (.func fi) #[] fc] 156)).drew = w2 at hm ⊢
  generalize w1.heap.size = X at hm ⊢
  clear hrow1 ck1 Hnd Hb1 hz1 hlt hw1
  have HG : Hid (∀ W, NMid w n X nm op gi fi #[] fc W → Calls Tryz.prog gi #[.agg n.arr] W fun e w' => e = .returned (.bool false) ∧ NMid w n X nm op gi fi #[] fc w') := Lib.hid fun W h => (HG0.out W).mono fun _ _ ⟨a, b⟩ => ⟨a, h.call b⟩
  clear HG0
  go_wp2_with fail
  refine TW.region (fun w' => NMid w n X nm op gi fi #[] fc w' ∧ w'.cell? ⟨X, 2, none⟩ = some (.func (.func gi) #[] #[]) ∧ w'.cell? ⟨X, 3, none⟩ = some (.func (.func fi) #[] fc) ∧ agg? w' w.heap.size 0 19 = some n.arr ∧ w'.cell? ⟨w.heap.size, 0, none⟩ = some (.int .i64 n.kind)) follows (by kernel_rfl) hm.drew.seen ?_
  clear hm
  iterate 15 first
    | (refine TW.cons_n rfl _ (by intro wT hT R hR K hK; simp only [Act.put, lsA, lsB, lsC] at hK; obtain ⟨hm, c2, c3, cn, ck⟩ := hT; go_step; first | ((with_reducible refine (HG.out _ hm).mono ?_); rintro e w8 ⟨rfl, h8⟩; exact hK _ _ (hR _ h8.seen)) | exact hK _ _ (hR _ ⟨hm, c2, c3, cn, ck⟩)) ?_; try simp only [Act.put, lsA, lsB, lsC])
    | (refine TW.skip_g _ _ _ rfl rfl rfl ?_; try simp only [Act.put, lsA, lsB, lsC])
  refine TW.nil fun w9 h9 => ?_
  have h9 := h9.1
  go_wp2_with fail
  go_ret
  exact ⟨rfl, h9.below⟩
theorem right_out (n : Nd) (t : Nat) (w : World) (h : withinB n.kind 1 17 = false) : Calls Tryz.prog 96 #[.agg n.arr, .pointer (some ⟨t, 0, none⟩)] w fun e w' => e = .returned (.bool false) ∧ Below w.heap.size w w' := by
  go_enter Tryz.func96, Tryz.ntmps96
  go_wp2_with (go_at_call 128; refine (within_any _ _ _ _).mono ?_; rintro e w' ⟨rfl, rfl⟩)
  go_ret
  exact ⟨rfl, (Below.refl _ _).alloc (Nat.le_refl _) _⟩
def goodN (k : Nat) (n : Nd) : Bool := match k with
  | 1 => glyphB n | 2 => ligB n | 3 => ruleB n | 4 => boxB n | 5 => boxB n | 7 => skipB n | 8 => kernB n | 9 => penB n | 12 => textB n | 13 => insB n | 14 => textB n | 15 => dims1 n.w | 16 => dims1 n.w | _ => true
def restN (k : Nat) (n : Nd) : Nd := match k with
  | 1 => { n with font := 0, char := 0, w := 0, h := 0, d := 0 }
  | 2 => { n with font := 0, char := 0, w := 0, h := 0, d := 0, text := ⟨#[]⟩ }
  | 3 => { n with w := 0, h := 0, d := 0, sub := 0 }
  | 4 => { n with w := 0, h := 0, d := 0, shift := 0, sign := 0, order := 0, num := 0, den := 0 }
  | 5 => { n with w := 0, h := 0, d := 0, shift := 0, sign := 0, order := 0, num := 0, den := 0 }
  | 7 => { n with glue := .zero, sub := 0 }
  | 8 => { n with w := 0, sub := 0 }
  | 9 => { n with pen := 0 }
  | 12 => { n with text := ⟨#[]⟩ }
  | 13 => { n with sub := 0, h := 0, d := 0, pen := 0, glue := .zero }
  | 14 => { n with text := ⟨#[]⟩ }
  | 15 => { n with w := 0 }
  | 16 => { n with w := 0 }
  | _ => n
def rightB (n : Nd) : Bool := withinB n.kind 1 17 && goodN n.kind.toNat n && eqNd (restN n.kind.toNat n) { Nd.zero with kind := n.kind }
theorem rightB_at {n : Nd} {k : Nat} (hk1 : 1 ≤ k) (hk17 : k ≤ 17) (hn : n.kind = (k : Int)) : rightB n = (goodN k n && eqNd (restN k n) { Nd.zero with kind := n.kind }) := by
  have : withinB (k : Int) 1 17 = true := by simp [withinB]; omega
  simp only [rightB, hn, this, Int.toNat_natCast, Bool.true_and]
theorem right_of (n : Nd) (k : Nat) (hk1 : 1 ≤ k) (hk17 : k ≤ 17) (hn : n.kind = (k : Int)) (t : Nat) (w : World) (nm : ByteArray) (op : Bool) (gi fi : Nat) (hrow : agg? w t (k * 4) 4 = some #[.string nm, .bool op, .func (.func gi) #[] #[], .func (.func fi) #[] #[]])
    (hG : ∀ W, Calls Tryz.prog gi #[.agg n.arr] W fun e w' => e = .returned (.bool (goodN k n)) ∧ Below W.heap.size W w')
    (hcg : ∀ W, (callFunc gi #[.agg n.arr]).run Tryz.prog W = .ok (.enter gi #[.agg n.arr]) W) (hcf : ∀ W, (callFunc fi #[.agg n.arr]).run Tryz.prog W = .ok (.enter fi #[.agg n.arr]) W)
    (hF : ∀ W, Calls Tryz.prog fi #[.agg n.arr] W fun e w' => e = .returned (.agg (restN k n).arr) ∧ Below W.heap.size W w') :
    Calls Tryz.prog 96 #[.agg n.arr, .pointer (some ⟨t, 0, none⟩)] w fun e w' => e = .returned (.bool (rightB n)) ∧ Below w.heap.size w w' := by
  rw [rightB_at hk1 hk17 hn]
  cases hg : goodN k n
  · rw [hg] at hG
    exact (right_no n k hk1 hk17 hn t w nm op gi fi _ hrow hG hcg).mono fun _ _ h => h
  · rw [hg] at hG
    exact (right_yes n k hk1 hk17 hn t w nm op gi fi hrow hG (restN k n) hcg hcf hF).mono fun _ _ h => h
theorem agg?_sub {w : World} {b n o m : Nat} {C : Array Value} (h : agg? w b 0 n = some C) (hm : o + m ≤ n) : agg? w b o m = some (C.extract o (o + m)) := by
  unfold agg? at h ⊢
  split at h
  · rename_i c t fr hb
    split at h
    · rename_i hle
      cases h
      simp only [Nat.zero_add] at hle
      rw [if_pos (by omega)]
      simp only [Nat.zero_add, Array.extract_extract]
      congr 2
      · omega
    · cases h
  · cases h
theorem Table.lt {w : World} {t p : Nat} (h : Table w t p) : t < w.heap.size := agg?_lt h.row
theorem Table.ltp {w : World} {t p : Nat} (h : Table w t p) : p < w.heap.size := World.block_lt_of_cell? _ _ h.cap
theorem Table.at_ {w : World} {t p : Nat} (h : Table w t p) (k : Nat) (hk : k ≤ 17) {c : Array Value} (hc : (KT p).extract (k * 4) (k * 4 + 4) = c) : agg? w t (k * 4) 4 = some c := by
  rw [agg?_sub h.row (by omega), hc]
theorem Table.below {w w' : World} {t p : Nat} (h : Table w t p) (hb : Below w.heap.size w w') : Table w' t p :=
  ⟨((bfacts hb).2.2.1 _ _ _ h.lt).trans h.row, (hb.cell h.ltp).trans h.cap⟩
theorem right_any (n : Nd) (t p : Nat) (w : World) (hT : Table w t p) :
    Calls Tryz.prog 96 #[.agg n.arr, .pointer (some ⟨t, 0, none⟩)] w fun e w' => e = .returned (.bool (rightB n)) ∧ Below w.heap.size w w' := by
  cases hw : withinB n.kind 1 17
  · exact (right_out n t w hw).mono fun e w' ⟨h1, h2⟩ => ⟨by rw [h1, rightB, hw]; rfl, h2⟩
  · have h17 : ∃ k : Nat, n.kind = (k : Int) ∧ 1 ≤ k ∧ k ≤ 17 := ⟨n.kind.toNat, by simp [withinB] at hw; omega, by simp [withinB] at hw; omega, by simp [withinB] at hw; omega⟩
    obtain ⟨k, hn, h1, h2⟩ := h17
    have hk : k = 1 ∨ k = 2 ∨ k = 3 ∨ k = 4 ∨ k = 5 ∨ k = 6 ∨ k = 7 ∨ k = 8 ∨ k = 9 ∨ k = 10 ∨ k = 11 ∨ k = 12 ∨ k = 13 ∨ k = 14 ∨ k = 15 ∨ k = 16 ∨ k = 17 := by omega
    rcases hk with rfl | rfl | rfl | rfl | rfl | rfl | rfl | rfl | rfl | rfl | rfl | rfl | rfl | rfl | rfl | rfl | rfl
    · exact right_of n 1 h1 h2 hn t w _ _ _ _ (hT.at_ 1 h2 rfl) (g_glyph n) (fun _ => by kernel_rfl) (fun _ => by kernel_rfl) (r_kinds1 n)
    · rw [rightB_at h1 h2 hn]
      cases hg : goodN 2 n
      · exact (right_no n 2 h1 h2 hn t w _ _ _ _ _ (hT.at_ 2 h2 rfl) (fun W => by have := g_lig n W; rw [show ligB n = false from hg] at this; exact this) (fun _ => by kernel_rfl)).mono fun _ _ h => h
      · exact (right_yes1 n 2 h1 h2 hn t w _ _ _ _ _ (hT.at_ 2 h2 rfl) (fun W => by have := g_lig n W; rw [show ligB n = true from hg] at this; exact this) (restN 2 n) (fun _ => by kernel_rfl) (fun _ => by kernel_rfl)
          (fun W hb => r_kinds2 n p W ((hb.cell hT.ltp).trans hT.cap) (Nat.lt_of_lt_of_le hT.ltp hb.size))).mono fun _ _ h => h
    · exact right_of n 3 h1 h2 hn t w _ _ _ _ (hT.at_ 3 h2 rfl) (g_rule n) (fun _ => by kernel_rfl) (fun _ => by kernel_rfl) (r_kinds9 n)
    · exact right_of n 4 h1 h2 hn t w _ _ _ _ (hT.at_ 4 h2 rfl) (g_box n) (fun _ => by kernel_rfl) (fun _ => by kernel_rfl) (r_kinds3 n)
    · exact right_of n 5 h1 h2 hn t w _ _ _ _ (hT.at_ 5 h2 rfl) (g_box n) (fun _ => by kernel_rfl) (fun _ => by kernel_rfl) (r_kinds3 n)
    · exact right_of n 6 h1 h2 hn t w _ _ _ _ (hT.at_ 6 h2 rfl) (g_ok n) (fun _ => by kernel_rfl) (fun _ => by kernel_rfl) (r_all n)
    · exact right_of n 7 h1 h2 hn t w _ _ _ _ (hT.at_ 7 h2 rfl) (g_skip n) (fun _ => by kernel_rfl) (fun _ => by kernel_rfl) (r_kinds11 n)
    · exact right_of n 8 h1 h2 hn t w _ _ _ _ (hT.at_ 8 h2 rfl) (g_kern n) (fun _ => by kernel_rfl) (fun _ => by kernel_rfl) (r_kinds13 n)
    · exact right_of n 9 h1 h2 hn t w _ _ _ _ (hT.at_ 9 h2 rfl) (g_pen n) (fun _ => by kernel_rfl) (fun _ => by kernel_rfl) (r_kinds15 n)
    · exact right_of n 10 h1 h2 hn t w _ _ _ _ (hT.at_ 10 h2 rfl) (g_ok n) (fun _ => by kernel_rfl) (fun _ => by kernel_rfl) (r_all n)
    · exact right_of n 11 h1 h2 hn t w _ _ _ _ (hT.at_ 11 h2 rfl) (g_ok n) (fun _ => by kernel_rfl) (fun _ => by kernel_rfl) (r_all n)
    · exact right_of n 12 h1 h2 hn t w _ _ _ _ (hT.at_ 12 h2 rfl) (g_text n) (fun _ => by kernel_rfl) (fun _ => by kernel_rfl) (r_kinds5 n)
    · exact right_of n 13 h1 h2 hn t w _ _ _ _ (hT.at_ 13 h2 rfl) (g_ins n) (fun _ => by kernel_rfl) (fun _ => by kernel_rfl) (r_kinds17 n)
    · exact right_of n 14 h1 h2 hn t w _ _ _ _ (hT.at_ 14 h2 rfl) (g_text n) (fun _ => by kernel_rfl) (fun _ => by kernel_rfl) (r_kinds5 n)
    · exact right_of n 15 h1 h2 hn t w _ _ _ _ (hT.at_ 15 h2 rfl) (g_width n) (fun _ => by kernel_rfl) (fun _ => by kernel_rfl) (r_kinds4 n)
    · exact right_of n 16 h1 h2 hn t w _ _ _ _ (hT.at_ 16 h2 rfl) (g_width n) (fun _ => by kernel_rfl) (fun _ => by kernel_rfl) (r_kinds4 n)
    · exact right_of n 17 h1 h2 hn t w _ _ _ _ (hT.at_ 17 h2 rfl) (g_ok n) (fun _ => by kernel_rfl) (fun _ => by kernel_rfl) (r_all n)
end Go.Proofs.YtomehdepjenilaaGreat
