/-
  Layer 20, the document's side: a field is read.
-/
import Derived.Test.YtkkdopfdoommnaaR8
import Derived.Deep.LoopGhost
namespace Go.Proofs.Ytkkdopfdoommnaa
open Go.ChangeShapes Go.WideShapes Go.ChangeAt Go.RowKit
attribute [local go_sem ↓] Go.wp_at_zero Go.wp_at_succ

/-- a field is being read: the result lies in the first block of the call's own -/
structure FdSt (w : World) (R b off cap : Nat) (p : Option Addr) (L : List Sn) (j deep : Nat) (br : Bool) (wr : World) : Prop where
  q : wr.heap[w.heap.size]? = some (.cells Pr.zero.arr 150 (0, 0))
  tn : Turned w.heap.size R w wr
  hR : R < w.heap.size
  hb : L ≠ [] → b < w.heap.size
  rd : RRdr wr R b off cap p L j deep br
section
variable {w wr w' : World} {R b off cap j j2 deep d2 : Nat} {p : Option Addr} {L : List Sn} {br b2 : Bool} {r r1 : Option (List Sn)} {s : Sn}
theorem FdSt.call (h : FdSt w R b off cap p L j deep br wr) (ht : Turned wr.heap.size R wr w') (hr : RRdr w' R b off cap p L j2 d2 b2) : FdSt w R b off cap p L j2 d2 b2 w' := by
  have hq := (Array.getElem?_eq_some_iff.1 h.q).1
  have := h.hR
  exact ⟨(ht.block _ hq (by omega)).trans h.q, h.tn.trans (ht.mono (by omega)), h.hR, h.hb, hr⟩
theorem FdSt.drewN (h : FdSt w R b off cap p L j deep br wr) (n : Nat) : FdSt w R b off cap p L j deep br (wr.drewN n) := h.call ((Turned.refl _ _ _).drewN n) (h.rd.drewN n)
theorem FdSt.below (h : FdSt w R b off cap p L j deep br wr) (hb : Below wr.heap.size wr w') : FdSt w R b off cap p L j deep br w' := h.call (.of_below hb) (h.rd.below hb)
theorem FdSt.next (h : FdSt w R b off cap p L j deep br wr) : FdSt w R b off cap p L (j + 1) deep br (wr.setCell ⟨R, 1, none⟩ (.int .i64 ((j : Int) + 1))) :=
  h.call ((Turned.refl _ R _).setCell (p := ⟨R, 1, none⟩) (.inl rfl) _) h.rd.next1
theorem FdSt.down (h : FdSt w R b off cap p L j deep br wr) : FdSt w R b off cap p L j (deep + 1) br (wr.setCell ⟨R, 2, none⟩ (.int .i64 ((deep : Int) + 1))) :=
  h.call ((Turned.refl _ R _).setCell (p := ⟨R, 2, none⟩) (.inl rfl) _) (h.rd.down (deep + 1))
theorem FdSt.up (h : FdSt w R b off cap p L j (deep + 1) br wr) : FdSt w R b off cap p L j deep br (wr.setCell ⟨R, 2, none⟩ (.int .i64 (deep : Int))) :=
  h.call ((Turned.refl _ R _).setCell (p := ⟨R, 2, none⟩) (.inl rfl) _) (h.rd.down deep)
theorem FdSt.brk (h : FdSt w R b off cap p L j deep br wr) : FdSt w R b off cap p L j deep true (wr.setCell ⟨R, 3, none⟩ (.bool true)) :=
  h.call ((Turned.refl _ R _).setCell (p := ⟨R, 3, none⟩) (.inl rfl) _) (h.rd.brk true)
theorem FdSt.thereQ (h : FdSt w R b off cap p L j deep br wr) : there? wr w.heap.size 0 2 = true := there_blk h.q 0 2 (by simp [Pr.size_arr])
theorem FdSt.yes (h : FdSt w R b off cap p L j deep false wr) (hj : j ≤ L.length) (hr : r = some (L.drop j)) (x : Pr) : (∃ x : Pr, Ending.returned (.agg x.arr) = .returned (.agg x.arr)) ∧ RTo w R b off cap p L deep r (setAgg wr w.heap.size 0 x.arr) :=
  ⟨⟨x, rfl⟩, h.tn.trans (.of_below (Below.setAgg (Below.refl _ _) (Nat.le_refl _) _ _)), (fun l e => ⟨j, hj, by rw [hr] at e; exact (Option.some.inj e).symm, h.rd.far (by have := h.hR; omega) fun e => by have := h.hb e; omega⟩), fun e => by rw [hr] at e; cases e⟩
theorem FdSt.no (h : FdSt w R b off cap p L j deep true wr) (hj : j + deep ≤ L.length + 20) (hr : r = none) (x : Pr) : RTo w R b off cap p L deep r (setAgg wr w.heap.size 0 x.arr) :=
  ⟨h.tn.trans (.of_below (Below.setAgg (Below.refl _ _) (Nat.le_refl _) _ _)), (fun l e => by rw [hr] at e; cases e), fun _ => ⟨j, hj, h.rd.far (by have := h.hR; omega) fun e => by have := h.hb e; omega⟩⟩
theorem FdSt.seen (h : FdSt w R b off cap p L j deep br wr) (hs : Hid (L[j]? = some s)) :
    FdSt w R b off cap p L j deep br wr ∧ wr.cell? ⟨R, 0, none⟩ = some (.slice (some ⟨b, off, none⟩) L.length cap) ∧ wr.cell? ⟨R, 1, none⟩ = some (.int .i64 j) ∧ wr.cell? ⟨R, 2, none⟩ = some (.int .i64 deep) ∧ wr.cell? ⟨R, 3, none⟩ = some (.bool br) ∧ agg? wr b (off + j * 9) 9 = some s.arr := by
  obtain ⟨hj, rfl⟩ := List.getElem?_eq_some_iff.1 hs.out
  refine ⟨h, ?_, h.rd.c1, h.rd.c2, h.rd.c3, h.rd.sg j hj⟩
  rw [h.rd.c0, h.rd.hp (by intro e; rw [e] at hj; simp at hj)]
theorem FdSt.seen4 (h : FdSt w R b off cap p L j deep br wr) (hs : Hid (L[j]? = some s)) :
    FdSt w R b off cap p L j deep br wr ∧ wr.cell? ⟨R, 0, none⟩ = some (.slice (some ⟨b, off, none⟩) L.length cap) ∧ wr.cell? ⟨R, 1, none⟩ = some (.int .i64 j) ∧ agg? wr b (off + j * 9) 9 = some s.arr :=
  ⟨h, (h.seen hs).2.1, (h.seen hs).2.2.1, (h.seen hs).2.2.2.2.2⟩
theorem FdSt.kind (h : FdSt w R b off cap p L j deep br wr) {k : Int} (hk : kindAt L j = k) :
    Calls Try.prog 129 #[.pointer (some ⟨R, 0, none⟩)] wr fun e w' => e = .returned (.int .i64 k) ∧ FdSt w R b off cap p L j deep br w' :=
  (rkind_any R b off cap j deep p L br wr h.rd).mono fun _ _ ⟨h1, n, h2⟩ => ⟨h1.trans (ret_int hk), h2 ▸ h.drewN n⟩
theorem FdSt.plain (h : FdSt w R b off cap p L j deep br wr) (s : Sn) {v : Bool} (hv : plainB s false false = v) :
    Calls Try.prog 144 #[.agg s.arr, .bool false, .bool false] wr fun e w' => e = .returned (.bool v) ∧ FdSt w R b off cap p L j deep br w' :=
  (rplain_any s false false wr).mono fun _ _ ⟨h1, h2⟩ => ⟨h1.trans (ret_bool hv), h.below h2⟩
end
theorem FdSt.of {w : World} {R b off cap i deep : Nat} {p : Option Addr} {L : List Sn} {br : Bool} (h : RRdr w R b off cap p L i deep br) : FdSt w R b off cap p L i deep br (w.alloc (.cells (Pr.mk 0 0).arr 150)) :=
  ⟨heap_alloc_new _ _, .of_below ((Below.refl _ _).alloc (Nat.le_refl _) _), h.ltR, h.ltb, h.alloc0 _⟩
def FieldC (w : World) (R b off cap : Nat) (p : Option Addr) (L : List Sn) (deep : Nat) (r : Option (List Sn)) (e : Ending) (w' : World) : Prop := (∃ x : Pr, e = .returned (.agg x.arr)) ∧ RTo w R b off cap p L deep r w'

set_option maxRecDepth 100000 in
set_option maxHeartbeats 2000000 in
theorem rfield_a (R b off cap i deep : Nat) (p : Option Addr) (L : List Sn) (w : World) (h : RRdr w R b off cap p L i deep false) (hi : i ≤ L.length) (hd : deep ≤ 20) (k : Int) (hkk : kindAt L i = k) (hk : ((k : Int) != 21) = true) :
    Calls Try.prog 131 #[.pointer (some ⟨R, 0, none⟩)] w (FieldC w R b off cap p L deep none) := by
  have h1 := FdSt.of h
  have hp : ∀ n, Calls Try.prog 129 #[.pointer (some ⟨R, 0, none⟩)] ((w.alloc (.cells (Pr.mk 0 0).arr 150)).drewN n) fun e w' => e = .returned (.int .i64 k) ∧ ∃ m, w' = (w.alloc (.cells (Pr.mk 0 0).arr 150)).drewN m := fun n => by
    have := Calls.quiet_of (rkind_any R b off cap i deep p L false _ (h1.rd.drewN n))
    rw [hkk] at this
    exact this
  clear hkk
  go_enter Try.func131, Try.ntmps131
  go_wp2_with fail
  generalize w.alloc (.cells (Pr.mk 0 0).arr 150) = w1 at h1 hp ⊢
  go_quiet ((go_at_call 129; exact hp _))
  have h8 := h1.drewN nq
  clear hp
  generalize w1.drewN nq = w2 at h8 ⊢
  have c3 := h8.rd.c3
  have cf := h8.rd.fr 3
  have h9 := h8.brk
  have hth := h9.thereQ
  go_wp2_with fail
  exact ret_Pr rfl w.heap.size 0 Pr.zero rfl (agg?_setAgg_same (c := Pr.zero.arr) hth) rfl ⟨⟨_, rfl⟩, h9.no (by omega) rfl _⟩
def KindF (w : World) (R b off cap : Nat) (p : Option Addr) (L : List Sn) (j deep : Nat) (br : Bool) (k : Int) : Prop :=
  ∀ W, FdSt w R b off cap p L j deep br W → Calls Try.prog 129 #[.pointer (some ⟨R, 0, none⟩)] W fun e w' => e = .returned (.int .i64 k) ∧ FdSt w R b off cap p L j deep br w'
def PlainF (w : World) (R b off cap : Nat) (p : Option Addr) (L : List Sn) (j deep : Nat) (br : Bool) (s : Sn) (v : Bool) : Prop :=
  ∀ W, FdSt w R b off cap p L j deep br W → Calls Try.prog 144 #[.agg s.arr, .bool false, .bool false] W fun e w' => e = .returned (.bool v) ∧ FdSt w R b off cap p L j deep br w'
set_option maxRecDepth 100000 in
set_option maxHeartbeats 2000000 in
theorem rfield_c (R b off cap i : Nat) (p : Option Addr) (L : List Sn) (w : World) (h : RRdr w R b off cap p L i 20 false) (hi : i < L.length) (s : Sn) (hs : L[i] = s) (hk : s.kind = 21) (hg : plainB s false false = true) :
    Calls Try.prog 131 #[.pointer (some ⟨R, 0, none⟩)] w (FieldC w R b off cap p L 20 none) := by
  have h1 := FdSt.of h
  have KK : Hid (KindF w R b off cap p L i 20 false 21) := Lib.hid fun W h => h.kind (by simp [kindAt, hi, hs, hk])
  have KP : Hid (PlainF w R b off cap p L i 20 false s true) := Lib.hid fun W h => h.plain s hg
  have Hs : Hid (L[i]? = some s) := Lib.hid (by rw [List.getElem?_eq_getElem hi, hs])
  have hcap := h.cap'
  have hl := h.len
  have hi1 : (0 : Int) ≤ (i : Int) := by omega
  have hi2 : (i : Int) < (L.length : Int) := by omega
  clear hs hk hg
  go_enter Try.func131, Try.ntmps131
  go_wp2_with fail
  generalize w.alloc (.cells (Pr.mk 0 0).arr 150) = w1 at h1 ⊢
  go_region_held3 (fun w' => FdSt w R b off cap p L i 20 false w' ∧ w'.cell? ⟨R, 0, none⟩ = some (.slice (some ⟨b, off, none⟩) L.length cap) ∧ w'.cell? ⟨R, 1, none⟩ = some (.int .i64 i) ∧ w'.cell? ⟨R, 2, none⟩ = some (.int .i64 20) ∧ w'.cell? ⟨R, 3, none⟩ = some (.bool false) ∧ agg? w' b (off + i * 9) 9 = some s.arr)
    ((refine FdSt.seen ?_ Hs; first | assumption | exact h1.drewN 1 | exact h1.drewN _))
    (first | (go_at_call 129; refine (KK.out _ (And.left (by assumption))).mono ?_; rintro e w8 ⟨rfl, h8⟩) | (go_at_call 144; refine (KP.out _ (And.left (by assumption))).mono ?_; rintro e w9 ⟨rfl, h9⟩))
  have c3 := h9.rd.c3
  have cf := h9.rd.fr 3
  have h10 := h9.brk
  have hth := h10.thereQ
  go_wp2_with fail
  exact ret_Pr rfl w.heap.size 0 Pr.zero rfl (agg?_setAgg_same (c := Pr.zero.arr) hth) rfl ⟨⟨_, rfl⟩, h10.no (by omega) rfl _⟩
set_option maxRecDepth 100000 in
set_option maxHeartbeats 2000000 in
theorem rfield_b (R b off cap i deep : Nat) (p : Option Addr) (L : List Sn) (w : World) (h : RRdr w R b off cap p L i deep false) (hi : i < L.length) (hd : deep ≤ 20) (s : Sn) (hs : L[i] = s) (hk : s.kind = 21) (hg : plainB s false false = false) :
    Calls Try.prog 131 #[.pointer (some ⟨R, 0, none⟩)] w (FieldC w R b off cap p L deep none) := by
  have h1 := FdSt.of h
  have KK : Hid (KindF w R b off cap p L i deep false 21) := Lib.hid fun W h => h.kind (by simp [kindAt, hi, hs, hk])
  have KP : Hid (PlainF w R b off cap p L i deep false s false) := Lib.hid fun W h => h.plain s hg
  have Hs : Hid (L[i]? = some s) := Lib.hid (by rw [List.getElem?_eq_getElem hi, hs])
  have hcap := h.cap'
  have hl := h.len
  have hi1 : (0 : Int) ≤ (i : Int) := by omega
  have hi2 : (i : Int) < (L.length : Int) := by omega
  clear hs hk hg
  go_enter Try.func131, Try.ntmps131
  go_wp2_with fail
  generalize w.alloc (.cells (Pr.mk 0 0).arr 150) = w1 at h1 ⊢
  first
  | go_region_with (first | (go_at_call 129; refine (KK.out _ (h1.drewN 1)).mono ?_; rintro e w8 ⟨rfl, h8⟩; obtain ⟨_, c0, c1, _, _, ca⟩ := h8.seen Hs) | (go_at_call 144; refine (KP.out _ (by assumption)).mono ?_; rintro e w9 ⟨rfl, h9⟩))
  | fail
  all_goals
    have c3 := h9.rd.c3
    have cf := h9.rd.fr 3
    have h10 := h9.brk
    have hth := h10.thereQ
    go_wp2_with fail
    exact ret_Pr rfl w.heap.size 0 Pr.zero rfl (agg?_setAgg_same (c := Pr.zero.arr) hth) rfl ⟨⟨_, rfl⟩, h10.no (by omega) rfl _⟩
end Go.Proofs.Ytkkdopfdoommnaa
