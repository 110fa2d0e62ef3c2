/-
  The laws' own functions over lists of nodes: does a lent list stay.
-/
import Derived.Test.YtkkdopfdoommnaaK2
import Derived.Test.YtkkdopfdoommnaaTame
namespace Go.Proofs.Ytkkdopfdoommnaa
open Go.ChangeShapes Go.WideShapes Go.ChangeAt Go.RowKit Go.Shelf
set_option maxRecDepth 100000 in
set_option maxHeartbeats 4000000 in
theorem stays_any (g c b o cap : Nat) (p : Option Addr) (L : List Nd) (w : World) (hX : NIn w (some ⟨g, 0, none⟩) g 0 c L) (hgw : g < w.heap.size) (hn : L.length + 2 ≤ c) (h7' : agg? w g (L.length * 19) 19 = some (markN 7).arr) (h8' : agg? w g ((L.length + 1) * 19) 19 = some (markN 8).arr) (hN : NIn w p b o cap L) :
    Calls Try.prog 33 #[.slice (some ⟨g, 0, none⟩) L.length c, .slice p L.length cap] w fun e w' => e = .returned (.bool true) ∧ Below w.heap.size w w' := by
  have hc := hX.cap'
  have hl := hX.len
  have HX := Lib.hid hX
  have HN := Lib.hid hN
  have h1 : ((L.length : Int) + 2) ≤ (c : Int) := by omega
  have h2 : (0 : Int) ≤ (L.length : Int) := by omega
  have h3 : (L.length : Int) ≤ (c : Int) := by omega
  have h4 : ¬ c = 0 := by omega
  have hw1 : IntKind.i64.wrap ((L.length : Int) + 2) = (L.length : Int) + 2 := Go.IntWalk.i64_in _ (by omega)
  have hw2 : IntKind.i64.wrap ((L.length : Int) + 1) = (L.length : Int) + 1 := Go.IntWalk.i64_in _ (by omega)
  have hS : Hid (∀ W, Below w.heap.size w W → Calls Try.prog 35 #[.slice (some ⟨g, 0, none⟩) L.length c, .slice p L.length cap] W fun e w' => e = .returned (.bool true) ∧ Below W.heap.size W w') := Lib.hid fun W hb => by
    have hx : NIn W (some ⟨g, 0, none⟩) g 0 c L := hX.below hb
    refine (same_any _ _ g 0 c b o cap L L W hx (hN.below hb)).mono ?_
    rintro e w' ⟨rfl, n, rfl⟩
    exact ⟨by simp, ⟨rfl, rfl, rfl, Nat.le_refl _, fun _ _ => rfl⟩⟩
  have HM : Hid (∀ (k : Int) W, 0 ≤ k → k ≤ 100 → Calls Try.prog 59 #[.int .i64 k] W fun e w' => e = .returned (.agg (markN k).arr) ∧ Below W.heap.size W w') := Lib.hid fun k W h1 h2 => marker_any k h1 h2 W
  have HA : Hid (∀ W, Below w.heap.size w W → Below w.heap.size w W ∧ agg? W g (L.length * 19) 19 = some (markN 7).arr ∧ agg? W g ((L.length + 1) * 19) 19 = some (markN 8).arr) := Lib.hid fun W hb => by
    exact ⟨hb, ((bfacts hb).2.2.1 _ _ _ hgw).trans h7', ((bfacts hb).2.2.1 _ _ _ hgw).trans h8'⟩
  have q7 : eqNd (markN 7) (markN 7) = true := by simp [eqNd]
  have q8 : eqNd (markN 8) (markN 8) = true := by simp [eqNd]
  have h5 : L.length < L.length + 2 := by omega
  have h6 : ((L.length : Int) + 1) < ((L.length : Int) + 2) := by omega
  have h7 : ((L.length : Int)) < ((L.length : Int) + 2) := by omega
  have h8 : (0 : Int) ≤ (L.length : Int) + 1 := by omega
  have h9 : ((L.length : Int) + 1).toNat = L.length + 1 := by omega
  have h10 : ((L.length : Int) + 2).toNat = L.length + 2 := by omega
  clear hX hN hc h7' h8'
  go_enter Try.func33, Try.ntmps33
  go_wp2_with fail
  refine TW.region (fun w' => Below w.heap.size w w' ∧ agg? w' g (L.length * 19) 19 = some (markN 7).arr ∧ agg? w' g ((L.length + 1) * 19) 19 = some (markN 8).arr) follows (by kernel_rfl) (HA.out _ (Below.refl _ _).drew) ?_
  iterate 26 first
    | (refine TW.cons_n rfl _ (by intro wT hT R hR K hK; simp only [Act.put, List.setIfInBounds_toArray, List.set_cons_zero, List.set_cons_succ] at hK; obtain ⟨hm, c7, c8⟩ := hT; go_step; first | ((with_reducible refine (hS.out _ hm).mono ?_); rintro e w8 ⟨rfl, h8⟩; exact hK _ _ (hR _ (HA.out _ (hm.trans (h8.mono hm.size))))) | exact hK _ _ (hR _ ⟨hm, c7, c8⟩)) ?_; try simp only [Act.put, List.setIfInBounds_toArray, List.set_cons_zero, List.set_cons_succ])
    | (refine TW.cons_g _ _ _ rfl rfl rfl _ (by intro wT hT R hR K hK; simp only [Act.put, List.setIfInBounds_toArray, List.set_cons_zero, List.set_cons_succ] at hK; obtain ⟨hm, c7, c8⟩ := hT; go_step; first | ((with_reducible refine (HM.out _ _ (by decide) (by decide)).mono ?_); rintro e w8 ⟨rfl, h8⟩; exact hK _ _ (hR _ (HA.out _ (hm.trans (h8.mono hm.size))))) | exact hK _ _ (hR _ ⟨hm, c7, c8⟩)) ?_; try simp only [Act.put, List.setIfInBounds_toArray, List.set_cons_zero, List.set_cons_succ])
  refine TW.nil fun w9 h9 => ?_
  have h9 := h9.1
  go_wp2_with fail
  go_ret
  exact ⟨rfl, h9⟩
theorem owns_agg {w : World} {B n c g : Nat} {L : List Nd} (h : w.ownsRow B 25 19 (.slice (some ⟨g, 0, none⟩) n c) n (L.flatMap Nd.cells)) : (∃ cur, w.heap[g]? = some (.cells cur 25 (0, 0)) ∧ cur.size = c * 19) ∧ L.length = n ∧ n ≤ c ∧ B ≤ g ∧ ∀ j, (hj : j < L.length) → agg? w g (j * 19) 19 = some L[j].arr := by
  obtain ⟨hl, h2⟩ := h
  have hn : L.length = n := by rw [flat_len] at hl; omega
  subst hn
  rcases h2 with ⟨e, _⟩ | ⟨g1, cap, cur, e, hb, hg, hn, hm, hs, ht⟩
  · cases e
  · cases e
    refine ⟨⟨cur, hg, hs⟩, rfl, hn, hb, fun i hi => ?_⟩
    have h1 : i * 19 + 19 ≤ L.length * 19 := by omega
    have h2 : L.length * 19 ≤ c * 19 := Nat.mul_le_mul_right _ hn
    unfold agg?
    rw [hg]
    simp only
    rw [if_pos (by omega)]
    congr 1
    have e := flat_nodes L i hi
    rw [← ht, List.drop_take, List.take_take, Nat.min_eq_left (by omega)] at e
    show cur.extract (i * 19) (i * 19 + 19) = (L[i]).cells.toArray
    rw [← e]
    apply Array.ext'
    simp [List.take_drop]
/-- a lent list: its nodes, its two markers -/
structure LentIn (w : World) (B g c : Nat) (L : List Nd) : Prop where
  nin : NIn w (some ⟨g, 0, none⟩) g 0 c L
  lt : g < w.heap.size
  ge : B ≤ g
  cap : L.length + 2 ≤ c
  m7 : agg? w g (L.length * 19) 19 = some (markN 7).arr
  m8 : agg? w g ((L.length + 1) * 19) 19 = some (markN 8).arr
  blk : ∃ cur, w.heap[g]? = some (.cells cur 25 (0, 0)) ∧ cur.size = c * 19
theorem lentIn_of {w : World} {B g c : Nat} {L : List Nd} (h : w.ownsRow B 25 19 (.slice (some ⟨g, 0, none⟩) (L.length + 2) c) (L.length + 2) ((L ++ [markN 7, markN 8]).flatMap Nd.cells)) (hlen : L.length * 160 ≤ 140737488351232) : LentIn w B g c L := by
  obtain ⟨⟨cur, h1, h2⟩, _, h4, h5, h6⟩ := owns_agg h
  have hlt := (Array.getElem?_eq_some_iff.1 h1).1
  have e7 := h6 L.length (by simp)
  have e8 := h6 (L.length + 1) (by simp)
  simp at e7 e8
  refine ⟨⟨fun _ => rfl, fun _ => hlt, fun j hj => ?_, by omega, hlen⟩, hlt, h5, h4, e7, e8, cur, h1, h2⟩
  have := h6 j (by simp; omega)
  rw [List.getElem_append_left hj] at this
  rw [Nat.zero_add]; exact this
theorem LentIn.below {w w' : World} {B g c : Nat} {L : List Nd} (h : LentIn w B g c L) (hb : Below w.heap.size w w') : LentIn w' B g c L := by
  obtain ⟨cur, h1, h2⟩ := h.blk
  exact ⟨h.nin.below hb, Nat.lt_of_lt_of_le h.lt hb.size, h.ge, h.cap, ((bfacts hb).2.2.1 _ _ _ h.lt).trans h.m7, ((bfacts hb).2.2.1 _ _ _ h.lt).trans h.m8, cur, (hb.block g h.lt).trans h1, h2⟩
theorem LentIn.stays {w : World} {B g c b o cap : Nat} {p : Option Addr} {L : List Nd} (h : LentIn w B g c L) (hN : NIn w p b o cap L) :
    Calls Try.prog 33 #[.slice (some ⟨g, 0, none⟩) L.length c, .slice p L.length cap] w fun e w' => e = .returned (.bool true) ∧ Below w.heap.size w w' :=
  stays_any g c b o cap p L w h.nin h.lt h.cap h.m7 h.m8 hN
end Go.Proofs.Ytkkdopfdoommnaa
