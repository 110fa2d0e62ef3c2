/-
  The laws' own functions over lists of nodes: a marker; a lent list.
-/
import Derived.Test.YtomehdepjenilaaGreatTame
import Derived.Test.YtomehdepjenilaaGreatVBs
import Derived.Test.YtomehdepjenilaaGreatV11b
import Derived.Deep.QuietTactic
import Derived.Deep.LoopGhost
set_option maxRecDepth 100000
set_option maxHeartbeats 4000000
namespace Go.Proofs.YtomehdepjenilaaGreat
open Go.ChangeShapes Go.WideShapes Go.ChangeAt Go.RowKit Go.Shelf
def markN (k : Int) : Nd := { Nd.zero with kind := -k, text := ⟨#[114, 111, 111, 109]⟩ }
theorem marker_any (k : Int) (h1 : 0 ≤ k) (h2 : k ≤ 100) (w : World) : Calls Tryz.prog 78 #[.int .i64 k] w fun e w' => e = .returned (.agg (markN k).arr) ∧ Below w.heap.size w w' := by
  have hw : IntKind.i64.wrap (-k) = -k := Go.IntWalk.i64_in _ (by omega)
  go_enter Tryz.func78, Tryz.ntmps78
  go_wp2_with fail
  exact ret_row _ _ _ u_nd rfl i_nd rfl w.heap.size 0 _ rfl (agg?_nd _ _ _ _ _ rfl) rfl ⟨rfl, (Below.refl _ _).alloc (Nat.le_refl _) _⟩
theorem owns_empty (W : World) : (W.alloc (.cells #[] 49)).ownsRow W.heap.size 49 19 (.slice (some ⟨W.heap.size, 0, none⟩) 0 0) 0 [] :=
  ⟨rfl, .inr ⟨W.heap.size, 0, #[], rfl, Nat.le_refl _, heap_alloc_new _ _, Nat.le_refl _, by unfold maxLen; omega, rfl, rfl⟩⟩
theorem owns_cap {W : World} {B size n c : Nat} {e : TypeId} {a : Addr} {xs : List Value} (h : W.ownsRow B e size (.slice (some a) n c) n xs) : n ≤ c := by
  obtain ⟨_, ⟨h, _⟩ | ⟨g, c2, cur, h, _, _, h1, _⟩⟩ := h
  · cases h
  · cases h; exact h1
theorem lent_any (p0 : Option Addr) (b off cap : Nat) (L : List Nd) (w : World) (hN : NIn w p0 b off cap L) : Calls Tryz.prog 56 #[.slice p0 L.length cap] w fun e w' =>
    (∃ g c, e = .returned (.slice (some ⟨g, 0, none⟩) L.length c) ∧ L.length + 2 ≤ c ∧ w'.ownsRow w.heap.size 49 19 (.slice (some ⟨g, 0, none⟩) (L.length + 2) c) (L.length + 2) ((L ++ [markN 7, markN 8]).flatMap Nd.cells)) ∧ Below w.heap.size w w' := by
  have HM : Hid (∀ (k : Int) W, 0 ≤ k → k ≤ 100 → Calls Tryz.prog 78 #[.int .i64 k] W fun e w' => e = .returned (.agg (markN k).arr) ∧ Below W.heap.size W w') := Lib.hid fun k W h1 h2 => marker_any k h1 h2 W
  have hl := hN.len
  obtain ⟨i0, hi0', hz0, hz1, hz2⟩ := info_parts info_node
  have r0 := owns_empty w
  have hb0 : Below w.heap.size w (w.alloc (.cells #[] 49)) := (Below.refl _ _).alloc (Nat.le_refl _) _
  go_enter Tryz.func56, Tryz.ntmps56
  go_upto_region 1 with (fail)
  go_cut [3] from 3 (fun s3 wx => ∃ g c, s3 = .slice (some ⟨g, 0, none⟩) L.length c ∧ wx.ownsRow w.heap.size 49 19 s3 L.length (L.flatMap Nd.cells) ∧ Below w.heap.size w wx)
  case first =>
    by_cases hL : L = []
    · subst hL
      cases p0
      all_goals
        simp only [List.length_nil]
        go_wp2_with fail
        go_meet
        exact ⟨_, _, rfl, r0, hb0⟩
    · have hpos : 0 < L.length := List.length_pos_iff.2 hL
      obtain rfl := hN.hp hL
      have Hnews := Lib.hid (fun W h => (NIn.below hN h : NIn W _ _ _ _ _).news)
      have hcap := hN.cap'
      go_wp2_with (at_builtin; refine wpList_append_lies _ rfl _ _ _ rfl w.heap.size 49 i0 (.agg Nd.zero.arr) 19 160 Tryz.underlying27 hi0' hz0 hz1 hz2 rfl (by decide) (.slice (some ⟨w.heap.size, 0, none⟩) 0 0) 0 [] rfl r0 ⟨b, off, none⟩ L.length cap (L.flatMap Nd.cells) rfl (flat_len _) (Hnews.out _ hb0) (nodes_one _) hpos (by unfold maxLen; omega) (by omega) (by simp) _ rfl ?_; intro g1 cap1 w1 hown1 hgrow1 hat1 hlt1)
      go_meet
      rw [Nat.zero_add, List.nil_append] at hown1
      exact ⟨_, _, rfl, hown1, Below.grown hb0 hgrow1 (by simp) (fun q hq => by cases hq; exact Nat.le_refl _)⟩
  case rest =>
    obtain ⟨g, c, rfl, hown, hb⟩ := hcut
    have HB := Lib.hid hb
    have HO := Lib.hid hown
    have hsz : w.heap.size ≤ wc.heap.size := hb.size
    have hone : Hid (∀ u ∈ (markN 7).cells ++ (markN 8).cells, u.oneCell' = true) := Lib.hid (by have := nodes_one [markN 7, markN 8]; simpa using this)
    clear hown hb r0 hb0 hN
    go_wp2_with (first | (at_builtin; refine wpList_append_lies _ rfl _ _ _ rfl w.heap.size 49 i0 (.agg Nd.zero.arr) 19 160 Tryz.underlying27 hi0' hz0 hz1 hz2 rfl (by decide) (.slice (some ⟨g, 0, none⟩) L.length c) L.length (L.flatMap Nd.cells) rfl hown4 ⟨w4.heap.size, 0, none⟩ 2 2 ((markN 7).cells ++ (markN 8).cells) rfl rfl (World.news_of_block (cs := ((markN 7).cells ++ (markN 8).cells).toArray) (heap_alloc_new _ _)) hone.out (by decide) (by unfold maxLen; omega) (by omega) (by simp; omega) _ rfl ?_; intro g1 cap1 w1 hown1 hgrow1 hat1 hlt1; (have hc1 := owns_cap hown1); (have hc2 : (L.length : Int) ≤ (cap1 : Int) := by omega); (have hc3 : ¬ cap1 = 0 := by omega); (have hc4 : L.length ≤ cap1 := by omega); (have hc5 : ¬ (cap1 : Int) < (L.length : Int) := by omega)) | (go_at_call 78; first | (refine (HM.out 7 _ (by decide) (by decide)).mono ?_; rintro e w3 ⟨rfl, hb3⟩) | (refine (HM.out 8 _ (by decide) (by decide)).mono ?_; rintro e w4 ⟨rfl, hb4⟩; (have hown4 := (ownsRow_below (ownsRow_below HO.out hb3) hb4).alloc (.cells ((markN 7).cells ++ (markN 8).cells).toArray 49)); (have hsz4 : w.heap.size ≤ w4.heap.size := Nat.le_trans hsz (Nat.le_trans hb3.size hb4.size)))))
    go_ret
    have hbA : Below w.heap.size w (w4.alloc (.cells ((markN 7).cells ++ (markN 8).cells).toArray 49)) := ((HB.out.trans (hb3.mono hsz)).trans (hb4.mono (Nat.le_trans hsz hb3.size))).alloc hsz4 _
    refine ⟨⟨g1, cap1, rfl, hc1, ?_⟩, Below.grown hbA hgrow1 (by simp; omega) (fun q hq => (HO.out.lt q hq).1)⟩
    exact hown1
def neqlNd (X Y : Operand) (x y : Value) : Sem Value := do eqGuard .neq 49 X Y x y; binOp .neq 49 x y
@[go_sem ↓] theorem execOp_neqNd (ρ : Operand → Value) (dst : Option Tmp) (x y : Operand) (k ty : TypeId) (pos : String) (after : Array Edge) (guard : Option (Nat × Bool)) :
    execOp ρ { dst, op := .binOp .neq 49 x y k, type := ty, pos, after, guard } = (do pure (.value (← neqlNd x y (ρ x) (ρ y)))) := by
  rfl
@[go_sem] theorem run_neqlNd' (a b : Nd) (X Y : Operand) (w : World) : (neqlNd X Y (.agg a.arr) (.agg b.arr)).run Tryz.prog w = .ok (.bool (!eqNd a b)) w := by
  unfold neqlNd
  have h1 := run_eqGuard_agg (P := Tryz.prog) w .neq 49 X Y a.arr b.arr eqGuardNd
  have h2 : (binOp .neq 49 (.agg a.arr) (.agg b.arr)).run Tryz.prog w = .ok (.bool (!eqNd a b)) w := run_neqNd a b w
  simp only [Sem.run_bind, h1, Result.andThen_ok, h2]
theorem same_any (p q : Option Addr) (b1 o1 c1 b2 o2 c2 : Nat) (l1 l2 : List Nd) (w : World) (h1 : NIn w p b1 o1 c1 l1) (h2 : NIn w q b2 o2 c2 l2) :
    Calls Tryz.prog 16 #[.slice p l1.length c1, .slice q l2.length c2] w fun e w' => e = .returned (.bool (decide (l1 = l2))) ∧ ∃ n, w' = w.drewN n := by
  have hm1 := h1.len
  by_cases hlen : l1.length = l2.length
  · have hL := Lib.hid hlen
    have H1 := Lib.hid h1
    have H2 := Lib.hid h2
    have hll : ((l1.length : Int) != (l2.length : Int)) = false := by simp [hlen]
    have k1 := h1.cap'
    have k2 := h2.cap'
    clear hlen h1 h2
    go_enter Tryz.func16, Tryz.ntmps16
    go_wp2_with fail
    go_loopg [5] (l1.length + 1) (fun g t wr => ∃ k m : Nat, g = l1.length + 1 - k ∧ k ≤ l1.length ∧ t = .int .i64 k ∧ wr = w.drewN m ∧ l1.take k = l2.take k)
    case atStart => exact ⟨0, 0, rfl, Nat.zero_le _, rfl, rfl, rfl⟩
    case round =>
      obtain ⟨k, m, rfl, hk, rfl, rfl, heq⟩ := hrel
      have Heq := Lib.hid heq
      clear heq
      have hk1 : (0 : Int) ≤ (k : Int) := by omega
      by_cases hlt : k < l1.length
      · have hk2 : (k : Int) < (l1.length : Int) := by omega
        have hk3 : (k : Int) < (l2.length : Int) := by have := hL.out; omega
        have hlt2 : k < l2.length := by omega
        have x1 : agg? w b1 (o1 + k * 19) 19 = some (l1[k]).arr := H1.out.nd k hlt
        have x2 : agg? w b2 (o2 + k * 19) 19 = some (l2[k]).arr := H2.out.nd k hlt2
        have t1 := Lib.hid (List.take_succ_eq_append_getElem hlt)
        have t2 := Lib.hid (List.take_succ_eq_append_getElem hlt2)
        have e1 := Lib.hid (List.getElem?_eq_getElem hlt)
        have e2 := Lib.hid (List.getElem?_eq_getElem hlt2)
        obtain rfl := H1.out.hp (by intro e; rw [e] at hlt; simp at hlt)
        obtain rfl := H2.out.hp (by intro e; rw [e] at hlt2; simp at hlt2)
        generalize l1[k] = y1 at x1 t1 e1
        generalize l2[k] = y2 at x2 t2 e2
        cases hy : eqNd y1 y2
        · have Hy := Lib.hid (show y1 ≠ y2 by simpa [eqNd] using hy)
          go_wp2_with fail
          go_quiet (fail)
          go_wp2_with fail
          go_ret
          refine ⟨ret_bool ?_, m + nq, by first | rfl | exact World.drewN_drewN _ _ _⟩
          rw [eq_comm, decide_eq_false_iff_not]
          intro e
          have := e1.out
          rw [e, e2.out] at this
          exact Hy.out (Option.some.inj this).symm
        · have Hy := Lib.hid (show y1 = y2 by simpa [eqNd] using hy)
          go_wp2_with fail
          go_quiet (fail)
          go_wp2_with fail
          go_roundg (l1.length + 1 - (k + 1))
          case measure => omega
          case rel => exact ⟨k + 1, _, rfl, hlt, by go_num, rfl, by rw [t1.out, t2.out, Heq.out, Hy.out]⟩
      · have hk2 : (l1.length : Int) ≤ (k : Int) := by omega
        have Hfin := Lib.hid (show l1 = l2 by
          have := Heq.out
          rw [List.take_of_length_le (by omega), List.take_of_length_le (by have := hL.out; omega)] at this
          exact this)
        go_wp2_with fail
        go_ret
        exact ⟨ret_bool (by rw [eq_comm, decide_eq_true_iff]; exact Hfin.out), _, rfl⟩
  · have hll : ((l1.length : Int) != (l2.length : Int)) = true := by simp; omega
    have Hne := Lib.hid (show ¬ l1 = l2 from fun e => hlen (by rw [e]))
    clear hlen h1 h2
    go_enter Tryz.func16, Tryz.ntmps16
    go_wp2_with fail
    go_ret
    exact ⟨ret_bool (by rw [eq_comm, decide_eq_false_iff_not]; exact Hne.out), 0, rfl⟩
structure Turn1 (b : Nat) (w w' : World) : Prop where
  base : Below 0 w w'
  size : w'.heap.size = w.heap.size
  other : ∀ k, k ≠ b → w'.heap[k]? = w.heap[k]?
  same : ∀ c t, w.heap[b]? = some (.cells c t (0, 0)) → ∃ c', w'.heap[b]? = some (.cells c' t (0, 0)) ∧ c'.size = c.size
theorem Turn1.refl (b : Nat) (w : World) : Turn1 b w w := ⟨Below.refl _ _, rfl, fun _ _ => rfl, fun c _ h => ⟨c, h, rfl⟩⟩
theorem Turn1.setAgg {b : Nat} {w w' : World} (h : Turn1 b w w') (o : Nat) (c : Array Value) : Turn1 b w (setAgg w' b o c) := by
  refine ⟨Below.setAgg h.base (Nat.zero_le _) o c, by rw [size_setAgg, h.size], fun k hk => (heap_setCells_other b k hk _ _ _).trans (h.other k hk), fun c0 t h0 => ?_⟩
  obtain ⟨c', h1, h2⟩ := h.same c0 t h0
  exact ⟨_, heap_setCells_same b t (0, 0) c.toList o c' w' h1, by rw [size_setMany, h2]⟩
theorem Turn1.there {b : Nat} {w w' : World} (h : Turn1 b w w') {c : Array Value} {t : TypeId} (hb : w.heap[b]? = some (.cells c t (0, 0))) {o n : Nat} (hn : o + n ≤ c.size) : there? w' b o n = true := by
  obtain ⟨c', h1, h2⟩ := h.same c t hb
  unfold there?
  rw [h1]
  simp; omega
theorem spoil_any (b o c : Nat) (p : Option Addr) (n : Nat) (hp : n ≠ 0 → p = some ⟨b, o, none⟩) (cs : Array Value) (t : TypeId) (w : World) (hb : n ≠ 0 → w.heap[b]? = some (.cells cs t (0, 0)) ∧ o + n * 19 ≤ cs.size) (hn : n ≤ 4611686018427387904) :
    Calls Tryz.prog 59 #[.slice p n c] w fun e w' => e = .returned (.tuple #[]) ∧ Turn1 b w w' := by
  have HB := Lib.hid hb
  clear hb
  go_enter Tryz.func59, Tryz.ntmps59
  go_wp2_with fail
  go_loopg [2] (n + 1) (fun g t wr => ∃ k : Nat, g = n + 1 - k ∧ k ≤ n ∧ t = .int .i64 k ∧ Turn1 b w wr)
  case atStart => exact ⟨0, rfl, Nat.zero_le _, rfl, Turn1.refl _ _⟩
  case round =>
    obtain ⟨k, rfl, hk, rfl, ht⟩ := hrel
    have hk1 : (0 : Int) ≤ (k : Int) := by omega
    by_cases hlt : k < n
    · have hk2 : (k : Int) < (n : Int) := by omega
      obtain rfl := hp (by omega)
      have hth : there? wr b (o + k * 19) 19 = true := ht.there (HB.out (by omega)).1 (by have := (HB.out (by omega)).2; omega)
      have HT := Lib.hid ht
      clear ht
      go_wp2_with fail
      go_roundg (n + 1 - (k + 1))
      case measure => omega
      case rel => exact ⟨k + 1, rfl, hlt, by go_num, HT.out.setAgg _ _⟩
    · have hk2 : (n : Int) ≤ (k : Int) := by omega
      have HT := Lib.hid ht
      clear ht
      go_wp2_with fail
      exact ⟨rfl, _, results_none rfl _ _ _, rfl, HT.out⟩
theorem stays_any (g c b o cap : Nat) (p : Option Addr) (L : List Nd) (w : World) (hX : NIn w (some ⟨g, 0, none⟩) g 0 c L) (hgw : g < w.heap.size) (hn : L.length + 2 ≤ c) (h7' : agg? w g (L.length * 19) 19 = some (markN 7).arr) (h8' : agg? w g ((L.length + 1) * 19) 19 = some (markN 8).arr) (hN : NIn w p b o cap L) :
    Calls Tryz.prog 58 #[.slice (some ⟨g, 0, none⟩) L.length c, .slice p L.length cap] w fun e w' => e = .returned (.bool true) ∧ Below w.heap.size w w' := by
  have hc := hX.cap'
  have hl := hX.len
  have HX := Lib.hid hX
  have HN := Lib.hid hN
  have h1 : ((L.length : Int) + 2) ≤ (c : Int) := by omega
  have h2 : (0 : Int) ≤ (L.length : Int) := by omega
  have h3 : (L.length : Int) ≤ (c : Int) := by omega
  have h4 : ¬ c = 0 := by omega
  have hw1 : IntKind.i64.wrap ((L.length : Int) + 2) = (L.length : Int) + 2 := Go.IntWalk.i64_in _ (by omega)
  have hw2 : IntKind.i64.wrap ((L.length : Int) + 1) = (L.length : Int) + 1 := Go.IntWalk.i64_in _ (by omega)
  have hS : Hid (∀ W, Below w.heap.size w W → Calls Tryz.prog 16 #[.slice (some ⟨g, 0, none⟩) L.length c, .slice p L.length cap] W fun e w' => e = .returned (.bool true) ∧ Below W.heap.size W w') := Lib.hid fun W hb => by
    have hx : NIn W (some ⟨g, 0, none⟩) g 0 c L := hX.below hb
    refine (same_any _ _ g 0 c b o cap L L W hx (hN.below hb)).mono ?_
    rintro e w' ⟨rfl, n, rfl⟩
    exact ⟨by simp, ⟨rfl, rfl, rfl, Nat.le_refl _, fun _ _ => rfl⟩⟩
  have HM : Hid (∀ (k : Int) W, 0 ≤ k → k ≤ 100 → Calls Tryz.prog 78 #[.int .i64 k] W fun e w' => e = .returned (.agg (markN k).arr) ∧ Below W.heap.size W w') := Lib.hid fun k W h1 h2 => marker_any k h1 h2 W
  have HA : Hid (∀ W, Below w.heap.size w W → Below w.heap.size w W ∧ agg? W g (L.length * 19) 19 = some (markN 7).arr ∧ agg? W g ((L.length + 1) * 19) 19 = some (markN 8).arr) := Lib.hid fun W hb => by
    exact ⟨hb, ((bfacts hb).2.2.1 _ _ _ hgw).trans h7', ((bfacts hb).2.2.1 _ _ _ hgw).trans h8'⟩
  have q7 : eqNd (markN 7) (markN 7) = true := by simp [eqNd]
  have q8 : eqNd (markN 8) (markN 8) = true := by simp [eqNd]
  have h5 : L.length < L.length + 2 := by omega
  have h6 : ((L.length : Int) + 1) < ((L.length : Int) + 2) := by omega
  have h7 : ((L.length : Int)) < ((L.length : Int) + 2) := by omega
  have h8 : (0 : Int) ≤ (L.length : Int) + 1 := by omega
  have h9 : ((L.length : Int) + 1).toNat = L.length + 1 := by omega
  have h10 : ((L.length : Int) + 2).toNat = L.length + 2 := by omega
  clear hX hN hc h7' h8'
  go_enter Tryz.func58, Tryz.ntmps58
  go_wp2_with fail
  refine TW.region (fun w' => Below w.heap.size w w' ∧ agg? w' g (L.length * 19) 19 = some (markN 7).arr ∧ agg? w' g ((L.length + 1) * 19) 19 = some (markN 8).arr) follows (by kernel_rfl) (HA.out _ (Below.refl _ _).drew) ?_
  iterate 26 first
    | (refine TW.cons_n rfl _ (by intro wT hT R hR K hK; simp only [Act.put, lsA, lsB, lsC] at hK; obtain ⟨hm, c7, c8⟩ := hT; go_step; first | ((with_reducible refine (hS.out _ hm).mono ?_); rintro e w8 ⟨rfl, h8⟩; exact hK _ _ (hR _ (HA.out _ (hm.trans (h8.mono hm.size))))) | exact hK _ _ (hR _ ⟨hm, c7, c8⟩)) ?_; try simp only [Act.put, lsA, lsB, lsC])
    | (refine TW.cons_g _ _ _ rfl rfl rfl _ (by intro wT hT R hR K hK; simp only [Act.put, lsA, lsB, lsC] at hK; obtain ⟨hm, c7, c8⟩ := hT; go_step; first | ((with_reducible refine (HM.out _ _ (by decide) (by decide)).mono ?_); rintro e w8 ⟨rfl, h8⟩; exact hK _ _ (hR _ (HA.out _ (hm.trans (h8.mono hm.size))))) | exact hK _ _ (hR _ ⟨hm, c7, c8⟩)) ?_; try simp only [Act.put, lsA, lsB, lsC])
  refine TW.nil fun w9 h9 => ?_
  have h9 := h9.1
  go_wp2_with fail
  go_ret
  exact ⟨rfl, h9⟩
theorem owns_agg {w : World} {B n c g : Nat} {L : List Nd} (h : w.ownsRow B 49 19 (.slice (some ⟨g, 0, none⟩) n c) n (L.flatMap Nd.cells)) : (∃ cur, w.heap[g]? = some (.cells cur 49 (0, 0)) ∧ cur.size = c * 19) ∧ L.length = n ∧ n ≤ c ∧ B ≤ g ∧ ∀ j, (hj : j < L.length) → agg? w g (j * 19) 19 = some L[j].arr := by
  obtain ⟨hl, h2⟩ := h
  have hn : L.length = n := by rw [flat_len] at hl; omega
  subst hn
  rcases h2 with ⟨e, _⟩ | ⟨g1, cap, cur, e, hb, hg, hn, hm, hs, ht⟩
  · cases e
  · cases e
    refine ⟨⟨cur, hg, hs⟩, rfl, hn, hb, fun i hi => ?_⟩
    have h1 : i * 19 + 19 ≤ L.length * 19 := by omega
    have h2 : L.length * 19 ≤ c * 19 := Nat.mul_le_mul_right _ hn
    unfold agg?
    rw [hg]
    simp only
    rw [if_pos (by omega)]
    congr 1
    have e := flat_nodes L i hi
    rw [← ht, List.drop_take, List.take_take, Nat.min_eq_left (by omega)] at e
    show cur.extract (i * 19) (i * 19 + 19) = (L[i]).cells.toArray
    rw [← e]
    apply Array.ext'
    simp [List.take_drop]
structure LentIn (w : World) (B g c : Nat) (L : List Nd) : Prop where
  nin : NIn w (some ⟨g, 0, none⟩) g 0 c L
  lt : g < w.heap.size
  ge : B ≤ g
  cap : L.length + 2 ≤ c
  m7 : agg? w g (L.length * 19) 19 = some (markN 7).arr
  m8 : agg? w g ((L.length + 1) * 19) 19 = some (markN 8).arr
  blk : ∃ cur, w.heap[g]? = some (.cells cur 49 (0, 0)) ∧ cur.size = c * 19
theorem lentIn_of {w : World} {B g c : Nat} {L : List Nd} (h : w.ownsRow B 49 19 (.slice (some ⟨g, 0, none⟩) (L.length + 2) c) (L.length + 2) ((L ++ [markN 7, markN 8]).flatMap Nd.cells)) (hlen : L.length * 160 ≤ 140737488351232) : LentIn w B g c L := by
  obtain ⟨⟨cur, h1, h2⟩, _, h4, h5, h6⟩ := owns_agg h
  have hlt := (Array.getElem?_eq_some_iff.1 h1).1
  have e7 := h6 L.length (by simp)
  have e8 := h6 (L.length + 1) (by simp)
  simp at e7 e8
  refine ⟨⟨fun _ => rfl, fun _ => hlt, fun j hj => ?_, by omega, hlen⟩, hlt, h5, h4, e7, e8, cur, h1, h2⟩
  have := h6 j (by simp; omega)
  rw [List.getElem_append_left hj] at this
  rw [Nat.zero_add]; exact this
theorem LentIn.below {w w' : World} {B g c : Nat} {L : List Nd} (h : LentIn w B g c L) (hb : Below w.heap.size w w') : LentIn w' B g c L := by
  obtain ⟨cur, h1, h2⟩ := h.blk
  exact ⟨h.nin.below hb, Nat.lt_of_lt_of_le h.lt hb.size, h.ge, h.cap, ((bfacts hb).2.2.1 _ _ _ h.lt).trans h.m7, ((bfacts hb).2.2.1 _ _ _ h.lt).trans h.m8, cur, (hb.block g h.lt).trans h1, h2⟩
theorem LentIn.stays {w : World} {B g c b o cap : Nat} {p : Option Addr} {L : List Nd} (h : LentIn w B g c L) (hN : NIn w p b o cap L) :
    Calls Tryz.prog 58 #[.slice (some ⟨g, 0, none⟩) L.length c, .slice p L.length cap] w fun e w' => e = .returned (.bool true) ∧ Below w.heap.size w w' :=
  stays_any g c b o cap p L w h.nin h.lt h.cap h.m7 h.m8 hN
end Go.Proofs.YtomehdepjenilaaGreat
