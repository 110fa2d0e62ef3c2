/-
  Layer 20, the document's side: an item is read: the walk.
-/
import Derived.Test.YtkkdopfdoommnaaR6
namespace Go.Proofs.Ytkkdopfdoommnaa
open Go.ChangeShapes Go.WideShapes Go.ChangeAt Go.RowKit
attribute [local go_sem ↓] Go.wp_at_zero Go.wp_at_succ

def itemR (f : List Sn → Option (List Sn)) : List Sn → Option (List Sn)
  | s :: l => itemP f s l
  | [] => none
/-- the next sign's kind, asked for at the head of an item -/
def KindC (w : World) (R b off cap : Nat) (p : Option Addr) (L : List Sn) (i deep : Nat) (k : Int) : Prop :=
  ∀ W X it, PreIt w R b off cap p L i deep X it W → Calls Try.prog 129 #[.pointer (some ⟨R, 0, none⟩)] W fun e w' => e = .returned (.int .i64 k) ∧ PreIt w R b off cap p L i deep X it w'
theorem kindC (w : World) (R b off cap : Nat) (p : Option Addr) (L : List Sn) (i deep : Nat) {k : Int} (hk : kindAt L i = k) : KindC w R b off cap p L i deep k := fun W _ _ h =>
  (rkind_any R b off cap i deep p L false W h.rd).mono fun _ _ ⟨h1, n, h2⟩ => ⟨h1.trans (ret_int hk), h2 ▸ h.drewN n⟩
set_option maxRecDepth 100000 in
set_option maxHeartbeats 2000000 in
theorem ritem_bad (k : Int) (hk : k < 1 ∨ 18 < k ∨ k = 14) (R b off cap i deep : Nat) (p : Option Addr) (L : List Sn) (w : World) (h : RRdr w R b off cap p L i deep false) (hi : i ≤ L.length) (hd : deep ≤ 20) (hkk : kindAt L i = k) :
    Calls Try.prog 83 #[.pointer (some ⟨R, 0, none⟩)] w (ItemPost w R b off cap p L i deep none) := by
  have HK := Lib.hid (kindC w R b off cap p L i deep hkk)
  clear hkk
  go_enter Try.func83, Try.ntmps83
  go_wp2_with fail
  refine (HK.out _ (w.heap.size + 2) { RIt.zero with one := ⟨0, -1⟩, two := ⟨0, -1⟩, sup := ⟨0, -1⟩, sub := ⟨0, -1⟩ } (PreIt.of h hi _ _)).mono ?_
  rintro e w1 ⟨rfl, h1⟩
  have c3 := h1.rd.c3
  have cf := h1.rd.fr 3
  have h2 := h1.fail hd
  have hw := h2.base.whole
  have hq := h2.base.thereQ
  clear h1
  rcases hk with hk | hk | rfl
  all_goals
    go_wp2_with fail
    exact ret_RIt rfl w.heap.size 0 _ rfl (agg?_setAgg_same (c := RIt.arr _) hq) rfl h2.done
end Go.Proofs.Ytkkdopfdoommnaa
