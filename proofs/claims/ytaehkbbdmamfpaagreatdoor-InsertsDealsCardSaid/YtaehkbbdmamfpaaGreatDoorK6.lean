/-
  The laws' own functions over lists of nodes: a marker; a lent list.
-/
import Derived.Test.YtaehkbbdmamfpaaGreatDoorTame
import Derived.Test.YtaehkbbdmamfpaaGreatDoorV11b
import Derived.Test.YtaehkbbdmamfpaaGreatDoorVBs
import Derived.Deep.QuietTactic
import Derived.Deep.LoopGhost
import Derived.ArgAppend
set_option maxRecDepth 100000
set_option maxHeartbeats 4000000
namespace Go.Proofs.YtaehkbbdmamfpaaGreatDoor
open Go.ChangeShapes Go.WideShapes Go.ChangeAt Go.RowKit Go.Shelf
def zbF (k : Int) : Nd := { Nd.zero with kind := -k, text := ⟨#[114, 111, 111, 109]⟩ }
theorem marker_any (k : Int) (h1 : 0 <= k) (h2 : k <= 100) (w : World) : Calls Tryz.prog 27 #[.int .i64 k] w fun e w' => e = .returned (.agg (zbF k).arr) /\ Below w.heap.size w w' := by
 have hw : IntKind.i64.wrap (-k) = -k := Go.IntWalk.i64_in _ (by omega)
 go_enter Tryz.func27, Tryz.ntmps27
 go_wp2_with fail
 exact ret_row _ _ _ u_nd rfl i_nd rfl w.heap.size 0 _ rfl (agg?_nd _ _ _ _ _ rfl) rfl ⟨rfl, (Below.refl _ _).alloc (Nat.le_refl _) _⟩
theorem owns_empty (W : World) : (W.alloc (.cells #[] 53)).ownsRow W.heap.size 53 19 (.slice (some ⟨W.heap.size, 0, none⟩) 0 0) 0 [] :=
 ⟨rfl, .inr ⟨W.heap.size, 0, #[], rfl, Nat.le_refl _, heap_alloc_new _ _, Nat.le_refl _, by unfold maxLen; omega, rfl, rfl⟩⟩
theorem owns_cap {W : World} {B size n c : Nat} {e : TypeId} {a : Addr} {xs : List Value} (h : W.ownsRow B e size (.slice (some a) n c) n xs) : n <= c := by
 obtain ⟨_, ⟨h, _⟩ | ⟨g, c2, cur, h, _, _, h1, _⟩⟩ := h
 · cases h
 · cases h; exact h1
theorem lent_any (p0 : Option Addr) (b off cap : Nat) (L : List Nd) (w : World) (hN : NIn w p0 b off cap L) : Calls Tryz.prog 7 #[.slice p0 L.length cap] w fun e w' =>
 (∃ g c, e = .returned (.slice (some ⟨g, 0, none⟩) L.length c) /\ L.length + 2 <= c /\ w'.ownsRow w.heap.size 53 19 (.slice (some ⟨g, 0, none⟩) (L.length + 2) c) (L.length + 2) ((L ++ [zbF 7, zbF 8]).flatMap Nd.cells)) /\ Below w.heap.size w w' := by
 have HM : Hid (∀ (k : Int) W, 0 <= k -> k <= 100 -> Calls Tryz.prog 27 #[.int .i64 k] W fun e w' => e = .returned (.agg (zbF k).arr) /\ Below W.heap.size W w') := zzh fun k W h1 h2 => marker_any k h1 h2 W
 have hl := hN.len
 obtain ⟨i0, hi0', hz0, hz1, hz2⟩ := info_parts zbq
 have r0 := owns_empty w
 have hb0 : Below w.heap.size w (w.alloc (.cells #[] 53)) := (Below.refl _ _).alloc (Nat.le_refl _) _
 go_enter Tryz.func7, Tryz.ntmps7
 go_upto_region 1 with (fail)
 go_cut [3] from 3 (fun s3 wx => ∃ g c, s3 = .slice (some ⟨g, 0, none⟩) L.length c /\ wx.ownsRow w.heap.size 53 19 s3 L.length (L.flatMap Nd.cells) /\ Below w.heap.size w wx)
 case first =>
  by_cases hL : L = []
  ·
   subst hL
   cases p0
   all_goals
    simp only [List.length_nil]
    go_wp2_with fail
    go_meet
    exact ⟨_, _, rfl, r0, hb0⟩
  ·
   have hpos : 0 < L.length := List.length_pos_iff.2 hL
   obtain rfl := hN.hp hL
   have Hnews := zzh (fun W h => (NIn.below hN h : NIn W _ _ _ _ _).news)
   have hcap := hN.cap'
   go_wp2_with (at_builtin; refine wpList_append_lies _ rfl _ _ _ rfl w.heap.size 53 i0 (.agg Nd.zero.arr) 19 160 Tryz.underlying22 hi0' hz0 hz1 hz2 rfl (by decide) (.slice (some ⟨w.heap.size, 0, none⟩) 0 0) 0 [] rfl r0 ⟨b, off, none⟩ L.length cap (L.flatMap Nd.cells) rfl (zaA _) (Hnews.out _ hb0) (zax _) hpos (by unfold maxLen; omega) (by omega) (by simp) _ rfl ?_; intro g1 cap1 w1 hown1 hgrow1 hat1 hlt1)
   go_meet
   rw [Nat.zero_add, List.nil_append] at hown1
   exact ⟨_, _, rfl, hown1, Below.grown hb0 hgrow1 (by simp) (fun q hq => by cases hq; exact Nat.le_refl _)⟩
 case rest =>
  obtain ⟨g, c, rfl, hown, hb⟩ := hcut
  have HB := zzh hb
  have HO := zzh hown
  have hsz : w.heap.size <= wc.heap.size := hb.size
  have hone : Hid (∀ u ∈ (zbF 7).cells ++ (zbF 8).cells, u.oneCell' = true) := zzh (by have := zax [zbF 7, zbF 8]; simpa using this)
  clear hown hb r0 hb0 hN
  go_wp2_with (first | (at_builtin; refine wpList_append_lies _ rfl _ _ _ rfl w.heap.size 53 i0 (.agg Nd.zero.arr) 19 160 Tryz.underlying22 hi0' hz0 hz1 hz2 rfl (by decide) (.slice (some ⟨g, 0, none⟩) L.length c) L.length (L.flatMap Nd.cells) rfl hown4 ⟨w4.heap.size, 0, none⟩ 2 2 ((zbF 7).cells ++ (zbF 8).cells) rfl rfl (World.news_of_block (cs := ((zbF 7).cells ++ (zbF 8).cells).toArray) (heap_alloc_new _ _)) hone.out (by decide) (by unfold maxLen; omega) (by omega) (by simp; omega) _ rfl ?_; intro g1 cap1 w1 hown1 hgrow1 hat1 hlt1; (have hc1 := owns_cap hown1); (have hc2 : (L.length : Int) <= (cap1 : Int) := by omega); (have hc3 : ¬ cap1 = 0 := by omega); (have hc4 : L.length <= cap1 := by omega); (have hc5 : ¬ (cap1 : Int) < (L.length : Int) := by omega)) | (go_at_call 27; first | (refine (HM.out 7 _ (by decide) (by decide)).mono ?_; rintro e w3 ⟨rfl, hb3⟩) | (refine (HM.out 8 _ (by decide) (by decide)).mono ?_; rintro e w4 ⟨rfl, hb4⟩; (have hown4 := (zad (zad HO.out hb3) hb4).alloc (.cells ((zbF 7).cells ++ (zbF 8).cells).toArray 53)); (have hsz4 : w.heap.size <= w4.heap.size := Nat.le_trans hsz (Nat.le_trans hb3.size hb4.size)))))
  go_ret
  have hbA : Below w.heap.size w (w4.alloc (.cells ((zbF 7).cells ++ (zbF 8).cells).toArray 53)) := ((HB.out.trans (hb3.mono hsz)).trans (hb4.mono (Nat.le_trans hsz hb3.size))).alloc hsz4 _
  refine ⟨⟨g1, cap1, rfl, hc1, ?_⟩, Below.grown hbA hgrow1 (by simp; omega) (fun q hq => (HO.out.lt q hq).1)⟩
  exact hown1
def neqlNd (X Y : Operand) (x y : Value) : Sem Value := do eqGuard .neq 53 X Y x y; binOp .neq 53 x y
@[go_sem ↓] theorem execOp_neqNd (ρ : Operand -> Value) (dst : Option Tmp) (x y : Operand) (k ty : TypeId) (pos : String) (after : Array Edge) (guard : Option (Nat × Bool)) :
 execOp ρ { dst, op := .binOp .neq 53 x y k, type := ty, pos, after, guard } = (do pure (.value (<- neqlNd x y (ρ x) (ρ y)))) := by
 rfl
@[go_sem] theorem run_neqlNd' (a b : Nd) (X Y : Operand) (w : World) : (neqlNd X Y (.agg a.arr) (.agg b.arr)).run Tryz.prog w = .ok (.bool (!eqNd a b)) w := by
 unfold neqlNd
 have h1 := run_eqGuard_agg (P := Tryz.prog) w .neq 53 X Y a.arr b.arr eqGuardNd
 have h2 : (binOp .neq 53 (.agg a.arr) (.agg b.arr)).run Tryz.prog w = .ok (.bool (!eqNd a b)) w := run_neqNd a b w
 simp only [Sem.run_bind, h1, Result.andThen_ok, h2]
theorem same_any (p q : Option Addr) (b1 o1 c1 b2 o2 c2 : Nat) (l1 l2 : List Nd) (w : World) (h1 : NIn w p b1 o1 c1 l1) (h2 : NIn w q b2 o2 c2 l2) :
 Calls Tryz.prog 11 #[.slice p l1.length c1, .slice q l2.length c2] w fun e w' => e = .returned (.bool (decide (l1 = l2))) /\ ∃ n, w' = w.drewN n := by
 have hm1 := h1.len
 by_cases hlen : l1.length = l2.length
 ·
  have hL := zzh hlen
  have H1 := zzh h1
  have H2 := zzh h2
  have hll : ((l1.length : Int) != (l2.length : Int)) = false := by simp [hlen]
  have k1 := h1.cap'
  have k2 := h2.cap'
  clear hlen h1 h2
  go_enter Tryz.func11, Tryz.ntmps11
  go_wp2_with fail
  go_loopg [5] (l1.length + 1) (fun g t wr => ∃ k m : Nat, g = l1.length + 1 - k /\ k <= l1.length /\ t = .int .i64 k /\ wr = w.drewN m /\ l1.take k = l2.take k)
  case atStart => exact ⟨0, 0, rfl, Nat.zero_le _, rfl, rfl, rfl⟩
  case round =>
   obtain ⟨k, m, rfl, hk, rfl, rfl, heq⟩ := hrel
   have Heq := zzh heq
   clear heq
   have hk1 : (0 : Int) <= (k : Int) := by omega
   by_cases hlt : k < l1.length
   ·
    have hk2 : (k : Int) < (l1.length : Int) := by omega
    have hk3 : (k : Int) < (l2.length : Int) := by have := hL.out; omega
    have hlt2 : k < l2.length := by omega
    have x1 : agg? w b1 (o1 + k * 19) 19 = some (l1[k]).arr := H1.out.nd k hlt
    have x2 : agg? w b2 (o2 + k * 19) 19 = some (l2[k]).arr := H2.out.nd k hlt2
    have t1 := zzh (List.take_succ_eq_append_getElem hlt)
    have t2 := zzh (List.take_succ_eq_append_getElem hlt2)
    have e1 := zzh (List.getElem?_eq_getElem hlt)
    have e2 := zzh (List.getElem?_eq_getElem hlt2)
    obtain rfl := H1.out.hp (by intro e; rw [e] at hlt; simp at hlt)
    obtain rfl := H2.out.hp (by intro e; rw [e] at hlt2; simp at hlt2)
    generalize l1[k] = y1 at x1 t1 e1
    generalize l2[k] = y2 at x2 t2 e2
    cases hy : eqNd y1 y2
    ·
     have Hy := zzh (show y1 ≠ y2 by simpa [eqNd] using hy)
     go_wp2_with fail
     go_quiet (fail)
     go_wp2_with fail
     go_ret
     refine ⟨zaa ?_, m + nq, by first | rfl | exact World.drewN_drewN _ _ _⟩
     rw [eq_comm, decide_eq_false_iff_not]
     intro e
     have := e1.out
     rw [e, e2.out] at this
     exact Hy.out (Option.some.inj this).symm
    ·
     have Hy := zzh (show y1 = y2 by simpa [eqNd] using hy)
     go_wp2_with fail
     go_quiet (fail)
     go_wp2_with fail
     go_roundg (l1.length + 1 - (k + 1))
     case measure => omega
     case rel => exact ⟨k + 1, _, rfl, hlt, by go_num, rfl, by rw [t1.out, t2.out, Heq.out, Hy.out]⟩
   ·
    have hk2 : (l1.length : Int) <= (k : Int) := by omega
    have Hfin := zzh (show l1 = l2 by
     have := Heq.out
     rw [List.take_of_length_le (by omega), List.take_of_length_le (by have := hL.out; omega)] at this
     exact this)
    go_wp2_with fail
    go_ret
    exact ⟨zaa (by rw [eq_comm, decide_eq_true_iff]; exact Hfin.out), _, rfl⟩
 ·
  have hll : ((l1.length : Int) != (l2.length : Int)) = true := by simp; omega
  have Hne := zzh (show ¬ l1 = l2 from fun e => hlen (by rw [e]))
  clear hlen h1 h2
  go_enter Tryz.func11, Tryz.ntmps11
  go_wp2_with fail
  go_ret
  exact ⟨zaa (by rw [eq_comm, decide_eq_false_iff_not]; exact Hne.out), 0, rfl⟩
structure Turn1 (b : Nat) (w w' : World) : Prop where
 base : Below 0 w w'
 size : w'.heap.size = w.heap.size
 other : ∀ k, k ≠ b -> w'.heap[k]? = w.heap[k]?
 same : ∀ c t, w.heap[b]? = some (.cells c t (0, 0)) -> ∃ c', w'.heap[b]? = some (.cells c' t (0, 0)) /\ c'.size = c.size
theorem Turn1.refl (b : Nat) (w : World) : Turn1 b w w := ⟨Below.refl _ _, rfl, fun _ _ => rfl, fun c _ h => ⟨c, h, rfl⟩⟩
theorem Turn1.setAgg {b : Nat} {w w' : World} (h : Turn1 b w w') (o : Nat) (c : Array Value) : Turn1 b w (setAgg w' b o c) := by
 refine ⟨Below.setAgg h.base (Nat.zero_le _) o c, by rw [size_setAgg, h.size], fun k hk => (zay b k hk _ _ _).trans (h.other k hk), fun c0 t h0 => ?_⟩
 obtain ⟨c', h1, h2⟩ := h.same c0 t h0
 exact ⟨_, zaL b t (0, 0) c.toList o c' w' h1, by rw [zbJ, h2]⟩
theorem Turn1.there {b : Nat} {w w' : World} (h : Turn1 b w w') {c : Array Value} {t : TypeId} (hb : w.heap[b]? = some (.cells c t (0, 0))) {o n : Nat} (hn : o + n <= c.size) : there? w' b o n = true := by
 obtain ⟨c', h1, h2⟩ := h.same c t hb
 unfold there?
 rw [h1]
 simp; omega
theorem spoil_any (b o c : Nat) (p : Option Addr) (n : Nat) (hp : n ≠ 0 -> p = some ⟨b, o, none⟩) (cs : Array Value) (t : TypeId) (w : World) (hb : n ≠ 0 -> w.heap[b]? = some (.cells cs t (0, 0)) /\ o + n * 19 <= cs.size) (hn : n <= 4611686018427387904) :
 Calls Tryz.prog 15 #[.slice p n c] w fun e w' => e = .returned (.tuple #[]) /\ Turn1 b w w' := by
 have HB := zzh hb
 clear hb
 go_enter Tryz.func15, Tryz.ntmps15
 go_wp2_with fail
 go_loopg [2] (n + 1) (fun g t wr => ∃ k : Nat, g = n + 1 - k /\ k <= n /\ t = .int .i64 k /\ Turn1 b w wr)
 case atStart => exact ⟨0, rfl, Nat.zero_le _, rfl, Turn1.refl _ _⟩
 case round =>
  obtain ⟨k, rfl, hk, rfl, ht⟩ := hrel
  have hk1 : (0 : Int) <= (k : Int) := by omega
  by_cases hlt : k < n
  ·
   have hk2 : (k : Int) < (n : Int) := by omega
   obtain rfl := hp (by omega)
   have hth : there? wr b (o + k * 19) 19 = true := ht.there (HB.out (by omega)).1 (by have := (HB.out (by omega)).2; omega)
   have HT := zzh ht
   clear ht
   go_wp2_with fail
   go_roundg (n + 1 - (k + 1))
   case measure => omega
   case rel => exact ⟨k + 1, rfl, hlt, by go_num, HT.out.setAgg _ _⟩
  ·
   have hk2 : (n : Int) <= (k : Int) := by omega
   have HT := zzh ht
   clear ht
   go_wp2_with fail
   exact ⟨rfl, _, results_none rfl _ _ _, rfl, HT.out⟩
theorem stays_any (g c b o cap : Nat) (p : Option Addr) (L : List Nd) (w : World) (hX : NIn w (some ⟨g, 0, none⟩) g 0 c L) (hgw : g < w.heap.size) (hn : L.length + 2 <= c) (h7' : agg? w g (L.length * 19) 19 = some (zbF 7).arr) (h8' : agg? w g ((L.length + 1) * 19) 19 = some (zbF 8).arr) (hN : NIn w p b o cap L) :
 Calls Tryz.prog 14 #[.slice (some ⟨g, 0, none⟩) L.length c, .slice p L.length cap] w fun e w' => e = .returned (.bool true) /\ Below w.heap.size w w' := by
 have hc := hX.cap'
 have hl := hX.len
 have HX := zzh hX
 have HN := zzh hN
 have h1 : ((L.length : Int) + 2) <= (c : Int) := by omega
 have h2 : (0 : Int) <= (L.length : Int) := by omega
 have h3 : (L.length : Int) <= (c : Int) := by omega
 have h4 : ¬ c = 0 := by omega
 have hw1 : IntKind.i64.wrap ((L.length : Int) + 2) = (L.length : Int) + 2 := Go.IntWalk.i64_in _ (by omega)
 have hw2 : IntKind.i64.wrap ((L.length : Int) + 1) = (L.length : Int) + 1 := Go.IntWalk.i64_in _ (by omega)
 have hS : Hid (∀ W, Below w.heap.size w W -> Calls Tryz.prog 11 #[.slice (some ⟨g, 0, none⟩) L.length c, .slice p L.length cap] W fun e w' => e = .returned (.bool true) /\ Below W.heap.size W w') := zzh fun W hb => by
  have hx : NIn W (some ⟨g, 0, none⟩) g 0 c L := hX.below hb
  refine (same_any _ _ g 0 c b o cap L L W hx (hN.below hb)).mono ?_
  rintro e w' ⟨rfl, n, rfl⟩
  exact ⟨by simp, ⟨rfl, rfl, rfl, Nat.le_refl _, fun _ _ => rfl⟩⟩
 have HM : Hid (∀ (k : Int) W, 0 <= k -> k <= 100 -> Calls Tryz.prog 27 #[.int .i64 k] W fun e w' => e = .returned (.agg (zbF k).arr) /\ Below W.heap.size W w') := zzh fun k W h1 h2 => marker_any k h1 h2 W
 have HA : Hid (∀ W, Below w.heap.size w W -> Below w.heap.size w W /\ agg? W g (L.length * 19) 19 = some (zbF 7).arr /\ agg? W g ((L.length + 1) * 19) 19 = some (zbF 8).arr) := zzh fun W hb => by
  exact ⟨hb, ((zbc hb).2.2.1 _ _ _ hgw).trans h7', ((zbc hb).2.2.1 _ _ _ hgw).trans h8'⟩
 have q7 : eqNd (zbF 7) (zbF 7) = true := by simp [eqNd]
 have q8 : eqNd (zbF 8) (zbF 8) = true := by simp [eqNd]
 have h5 : L.length < L.length + 2 := by omega
 have h6 : ((L.length : Int) + 1) < ((L.length : Int) + 2) := by omega
 have h7 : ((L.length : Int)) < ((L.length : Int) + 2) := by omega
 have h8 : (0 : Int) <= (L.length : Int) + 1 := by omega
 have h9 : ((L.length : Int) + 1).toNat = L.length + 1 := by omega
 have h10 : ((L.length : Int) + 2).toNat = L.length + 2 := by omega
 clear hX hN hc h7' h8'
 go_enter Tryz.func14, Tryz.ntmps14
 go_wp2_with fail
 refine TW.region (fun w' => Below w.heap.size w w' /\ agg? w' g (L.length * 19) 19 = some (zbF 7).arr /\ agg? w' g ((L.length + 1) * 19) 19 = some (zbF 8).arr) follows (by kernel_rfl) (HA.out _ (Below.refl _ _).drew) ?_
 iterate 26 first
  | (refine TW.cons_n rfl _ (by intro wT hT R hR K hK; simp only [Act.put, lsA, lsB, lsC] at hK; obtain ⟨hm, c7, c8⟩ := hT; go_step; first | ((with_reducible refine (hS.out _ hm).mono ?_); rintro e w8 ⟨rfl, h8⟩; exact hK _ _ (hR _ (HA.out _ (hm.trans (h8.mono hm.size))))) | exact hK _ _ (hR _ ⟨hm, c7, c8⟩)) ?_; try simp only [Act.put, lsA, lsB, lsC])
  | (refine TW.cons_g _ _ _ rfl rfl rfl _ (by intro wT hT R hR K hK; simp only [Act.put, lsA, lsB, lsC] at hK; obtain ⟨hm, c7, c8⟩ := hT; go_step; first | ((with_reducible refine (HM.out _ _ (by decide) (by decide)).mono ?_); rintro e w8 ⟨rfl, h8⟩; exact hK _ _ (hR _ (HA.out _ (hm.trans (h8.mono hm.size))))) | exact hK _ _ (hR _ ⟨hm, c7, c8⟩)) ?_; try simp only [Act.put, lsA, lsB, lsC])
 refine TW.nil fun w9 h9 => ?_
 have h9 := h9.1
 go_wp2_with fail
 go_ret
 exact ⟨rfl, h9⟩
theorem owns_agg {w : World} {B n c g : Nat} {L : List Nd} (h : w.ownsRow B 53 19 (.slice (some ⟨g, 0, none⟩) n c) n (L.flatMap Nd.cells)) : (∃ cur, w.heap[g]? = some (.cells cur 53 (0, 0)) /\ cur.size = c * 19) /\ L.length = n /\ n <= c /\ B <= g /\ ∀ j, (hj : j < L.length) -> agg? w g (j * 19) 19 = some L[j].arr := by
 obtain ⟨hl, h2⟩ := h
 have hn : L.length = n := by rw [zaA] at hl; omega
 subst hn
 rcases h2 with ⟨e, _⟩ | ⟨g1, cap, cur, e, hb, hg, hn, hm, hs, ht⟩
 · cases e
 ·
  cases e
  refine ⟨⟨cur, hg, hs⟩, rfl, hn, hb, fun i hi => ?_⟩
  have h1 : i * 19 + 19 <= L.length * 19 := by omega
  have h2 : L.length * 19 <= c * 19 := Nat.mul_le_mul_right _ hn
  unfold agg?
  rw [hg]
  simp only
  rw [if_pos (by omega)]
  congr 1
  have e := zcY L i hi
  rw [<- ht, List.drop_take, List.take_take, Nat.min_eq_left (by omega)] at e
  show cur.extract (i * 19) (i * 19 + 19) = (L[i]).cells.toArray
  rw [<- e]
  apply Array.ext'
  simp [List.take_drop]
structure LentIn (w : World) (B g c : Nat) (L : List Nd) : Prop where
 nin : NIn w (some ⟨g, 0, none⟩) g 0 c L
 lt : g < w.heap.size
 ge : B <= g
 cap : L.length + 2 <= c
 m7 : agg? w g (L.length * 19) 19 = some (zbF 7).arr
 m8 : agg? w g ((L.length + 1) * 19) 19 = some (zbF 8).arr
 blk : ∃ cur, w.heap[g]? = some (.cells cur 53 (0, 0)) /\ cur.size = c * 19
theorem lentIn_of {w : World} {B g c : Nat} {L : List Nd} (h : w.ownsRow B 53 19 (.slice (some ⟨g, 0, none⟩) (L.length + 2) c) (L.length + 2) ((L ++ [zbF 7, zbF 8]).flatMap Nd.cells)) (hlen : L.length * 160 <= 140737488351232) : LentIn w B g c L := by
 obtain ⟨⟨cur, h1, h2⟩, _, h4, h5, h6⟩ := owns_agg h
 have hlt := (Array.getElem?_eq_some_iff.1 h1).1
 have e7 := h6 L.length (by simp)
 have e8 := h6 (L.length + 1) (by simp)
 simp at e7 e8
 refine ⟨⟨fun _ => rfl, fun _ => hlt, fun j hj => ?_, by omega, hlen⟩, hlt, h5, h4, e7, e8, cur, h1, h2⟩
 have := h6 j (by simp; omega)
 rw [List.getElem_append_left hj] at this
 rw [Nat.zero_add]; exact this
theorem LentIn.below {w w' : World} {B g c : Nat} {L : List Nd} (h : LentIn w B g c L) (hb : Below w.heap.size w w') : LentIn w' B g c L := by
 obtain ⟨cur, h1, h2⟩ := h.blk
 exact ⟨h.nin.below hb, Nat.lt_of_lt_of_le h.lt hb.size, h.ge, h.cap, ((zbc hb).2.2.1 _ _ _ h.lt).trans h.m7, ((zbc hb).2.2.1 _ _ _ h.lt).trans h.m8, cur, (hb.block g h.lt).trans h1, h2⟩
theorem LentIn.stays {w : World} {B g c b o cap : Nat} {p : Option Addr} {L : List Nd} (h : LentIn w B g c L) (hN : NIn w p b o cap L) :
 Calls Tryz.prog 14 #[.slice (some ⟨g, 0, none⟩) L.length c, .slice p L.length cap] w fun e w' => e = .returned (.bool true) /\ Below w.heap.size w w' :=
 stays_any g c b o cap p L w h.nin h.lt h.cap h.m7 h.m8 hN
theorem run_append_keeps {P : Program} (w : World) (t ty : TypeId) (base : Nat) (e : TypeId) (i : TypeInfo) (z : Value) (size bytes : Nat) (ht : P.underlying t = some (.slice e)) (hi : P.info? e = some i) (hz : i.zero = some z)
 (hsize : i.size = size) (hby : i.bytes = bytes) (hzs : z.cells.size = size) (hsz : 0 < size)
 (v : Value) (n : Nat) (xs : List Value) (hown : w.ownsRow base e size v n xs)
 (ad : Addr) (m c : Nat) (news : List Value) (hl : news.length = m * size) (hnews : ∀ j u, news[j]? = some u -> w.cell? (ad.add j) = some u) (h1 : ∀ u ∈ news, u.oneCell' = true)
 (hm : 0 < m) (h63 : n + m <= maxLen) (hbytes : (n + m) * bytes <= 140737488355328) (hbase : base <= w.heap.size) :
 ∃ g cap w', (Builtin.append_ #[t, t] ty #[v, .slice (some ad) m c]).run P w = .ok (.slice (some ⟨g, 0, none⟩) (n + m) cap) w' /\
   w'.ownsRow base e size (.slice (some ⟨g, 0, none⟩) (n + m) cap) (n + m) (xs ++ news) /\ g < w'.heap.size /\
   (v = .slice (some ⟨g, 0, none⟩) n cap /\ w.grownBy w' (some g) \/ w.heap.size <= g /\ w.grownBy w' none) := by
 obtain ⟨g', cap', w', hr, h2, h3, h4, h5⟩ := run_append_lies (P := P) w t ty base e i z size bytes ht hi hz hsize hby hzs hsz v n xs hown ad m c news hl hnews h1 hm h63 hbytes hbase _ rfl
 rcases hown.2 with ⟨rfl, rfl⟩ | ⟨g, cap, cur, rfl, hbg, hg, hnc, hcm, hcs, htake⟩
 ·
  refine ⟨g', cap', w', hr, h2, h5, .inr ⟨?_, h3⟩⟩
  rcases h4 with h4 | h4
  · cases h4
  · exact Nat.le_of_eq h4.symm
 ·
  by_cases hroom : n + m <= cap
  ·
   subst hsize
   have hfit : n * i.size + news.length <= cur.size := by rw [hl, hcs, <- Nat.add_mul]; exact Nat.mul_le_mul_right _ hroom
   have hr2 := run_append_room (P := P) w t ty e i ht hi g n cap cur hg ad m c news hl hnews h1 hroom hfit
   have he := hr.symm.trans hr2
   simp only [Result.ok.injEq, Value.slice.injEq, Option.some.injEq, Addr.mk.injEq, and_true, true_and] at he
   obtain ⟨⟨rfl, rfl⟩, _⟩ := he
   exact ⟨g', cap', w', hr, h2, h5, .inl ⟨rfl, h3⟩⟩
  ·
   obtain ⟨v', w2, hr2, h6, h7⟩ := run_append_arg_grows (P := P) w t ty e i z size bytes ht hi hz hsize hby hzs hsz ⟨g, 0, none⟩ n cap xs hown.1 (hown.cells (g := g) rfl) ad m c news hl hnews (by omega) h63 hbytes
   obtain ⟨g2, cap2, rfl, hb, hlt⟩ := h6.form (by omega)
   exact ⟨g2, cap2, w2, hr2, zas h6 hbase, hlt, .inr ⟨hb, h7⟩⟩
theorem zcA {P : Program} (w : World) {ops : Array Oper} {rest : List Oper} {o : Oper} {a : Act} {Q : Exit -> Act -> World -> Prop} (hgd : o.guard = none) (s x : Operand) (t : TypeId)
 (ho : o.op = .call { callee := .builtin .append, args := #[s, x], argTypes := #[t, t] })
 (base : Nat) (e : TypeId) (i : TypeInfo) (z : Value) (size bytes : Nat) (ht : P.underlying t = some (.slice e)) (hi : P.info? e = some i) (hz : i.zero = some z)
 (hsize : i.size = size) (hby : i.bytes = bytes) (hzs : z.cells.size = size) (hsz : 0 < size)
 (v : Value) (n : Nat) (xs : List Value) (hs : a.eval s = v) (hown : w.ownsRow base e size v n xs)
 (ad : Addr) (m c : Nat) (news : List Value) (hx : a.eval x = .slice (some ad) m c) (hl : news.length = m * size) (hnews : ∀ j u, news[j]? = some u -> w.cell? (ad.add j) = some u) (h1 : ∀ u ∈ news, u.oneCell' = true)
 (hm : 0 < m) (h63 : n + m <= maxLen) (hbytes : (n + m) * bytes <= 140737488355328) (hbase : base <= w.heap.size)
 (h : ∀ g cap w', w'.ownsRow base e size (.slice (some ⟨g, 0, none⟩) (n + m) cap) (n + m) (xs ++ news) -> g < w'.heap.size -> (v = .slice (some ⟨g, 0, none⟩) n cap /\ w.grownBy w' (some g) \/ w.heap.size <= g /\ w.grownBy w' none) -> wpList P ops Q rest (a.put o.dst (.slice (some ⟨g, 0, none⟩) (n + m) cap)) w') : wpList P ops Q (o :: rest) a w :=
 wpList_plain hgd fun K hK => by
  obtain ⟨g, cap, w', hr, h2, h3, h4⟩ := run_append_keeps (P := P) w t o.type base e i z size bytes ht hi hz hsize hby hzs hsz v n xs hown ad m c news hl hnews h1 hm h63 hbytes hbase
  unfold Oper.wp execOp
  simp only [ho, resolve, invoke, builtin, Sem.run_bind, Sem.run_pure, Result.andThen_ok, List.map_toArray, List.map_cons, List.map_nil, hs, hx, hr]
  exact hK _ _ (h g cap w' h2 h3 h4)
theorem grownBy_refl (w : World) (r : Option Nat) : w.grownBy w r := ⟨rfl, rfl, rfl, Nat.le_refl _, fun _ _ _ => rfl⟩
theorem zcu {a b c : World} {r r2 : Option Nat} (h : a.grownBy b r) (k : b.grownBy c r2) (hr : ∀ j, j < a.heap.size -> r2 = some j -> r = some j) : a.grownBy c r :=
 ⟨k.os.trans h.os, k.tape.trans h.tape, k.output.trans h.output, Nat.le_trans h.size k.size, fun j hj hne => (k.block j (Nat.lt_of_lt_of_le hj h.size) (fun e => hne (hr j hj e.symm).symm)).trans (h.block j hj hne)⟩
theorem owns_prefix {W W' : World} {B size : Nat} {E : TypeId} {g n c k m cap : Nat} {xs zs ns : List Value} (hs : 0 < size) (h1 : W.ownsRow B E size (.slice (some ⟨g, 0, none⟩) n c) n xs) (h2 : W.ownsRow B E size (.slice (some ⟨g, 0, none⟩) k cap) k zs) (h3 : W'.ownsRow B E size (.slice (some ⟨g, 0, none⟩) m cap) m (xs ++ ns)) : W'.ownsRow B E size (.slice (some ⟨g, 0, none⟩) n c) n xs := by
 obtain ⟨l1, ⟨e1, _⟩ | ⟨g1, c1, cur1, e1, b1, g1', n1, m1, s1, t1⟩⟩ := h1
 · cases e1
 obtain ⟨l2, ⟨e2, _⟩ | ⟨g2, c2, cur2, e2, b2, g2', n2, m2, s2, t2⟩⟩ := h2
 · cases e2
 obtain ⟨l3, ⟨e3, _⟩ | ⟨g3, c3, cur3, e3, b3, g3', n3, m3, s3, t3⟩⟩ := h3
 · cases e3
 cases e1; cases e2; cases e3
 rw [g1'] at g2'
 cases g2'
 have hc : c = cap := Nat.eq_of_mul_eq_mul_right hs (s1.symm.trans s2)
 subst hc
 refine ⟨l1, .inr ⟨g, c, cur3, rfl, b1, g3', n1, m1, s3, ?_⟩⟩
 have hle : n * size <= m * size := by rw [<- l3, List.length_append, l1]; exact Nat.le_add_right _ _
 have := congrArg (List.take (n * size)) t3
 rw [List.take_take, Nat.min_eq_left hle, <- l1, List.take_left, l1] at this
 exact this
structure Grows (W0 : World) (B : Nat) (E : TypeId) (size : Nat) (v : Value) (n : Nat) (xs : List Value) (k : Nat) (zs : List Value) (x : Value) (W : World) : Prop where
 by_ : W0.grownBy W v.ownBlock
 row : W.ownsRow B E size x (n + k) (xs ++ zs)
 old : W.ownsRow B E size v n xs
 at_ : x.ownBlock = v.ownBlock \/ ∃ h, W0.heap.size <= h /\ x.ownBlock = some h
 lt : ∀ g, v.ownBlock = some g -> g < W0.heap.size
theorem Grows.start {W0 : World} {B size n : Nat} {E : TypeId} {v : Value} {xs : List Value} (h : W0.ownsRow B E size v n xs) : Grows W0 B E size v n xs 0 [] v W0 :=
 ⟨grownBy_refl _ _, by simpa using h, h, .inl rfl, fun g hg => (h.lt g hg).2⟩
theorem Grows.step {W0 W W' : World} {B size n k m g cap : Nat} {E : TypeId} {v x : Value} {xs zs news : List Value} (hs : 0 < size) (h : Grows W0 B E size v n xs k zs x W)
 (hrow : W'.ownsRow B E size (.slice (some ⟨g, 0, none⟩) (n + k + m) cap) (n + k + m) (xs ++ zs ++ news)) (hat : x = .slice (some ⟨g, 0, none⟩) (n + k) cap /\ W.grownBy W' (some g) \/ W.heap.size <= g /\ W.grownBy W' none) :
 Grows W0 B E size v n xs (k + m) (zs ++ news) (.slice (some ⟨g, 0, none⟩) (n + k + m) cap) W' := by
 have hrow' : W'.ownsRow B E size (.slice (some ⟨g, 0, none⟩) (n + k + m) cap) (n + (k + m)) (xs ++ (zs ++ news)) := by rw [<- Nat.add_assoc, <- List.append_assoc]; exact hrow
 rcases hat with ⟨rfl, hg⟩ | ⟨hge, hg⟩
 ·
  rcases h.at_ with ha | ⟨h', hh, ha⟩
  ·
   refine ⟨zcu h.by_ hg (fun j _ e => by rw [<- ha, <- e]; rfl), hrow', ?_, .inl ha, h.lt⟩
   have hv := h.old
   obtain ⟨p, c, rfl⟩ := zaf hv
   cases p with
   | none => cases ha
   | some a =>
    obtain ⟨_, ⟨e, _⟩ | ⟨g2, c2, cur, e, _⟩⟩ := id hv
    · cases e
    ·
     cases e
     cases ha
     exact owns_prefix hs hv h.row (by rw [<- List.append_assoc]; exact hrow)
  ·
   obtain rfl : g = h' := by simpa [Value.ownBlock] using ha
   refine ⟨zcu h.by_ hg (fun j hj e => by cases e; omega), hrow', h.old.kept hg ?_, .inr ⟨g, hh, rfl⟩, h.lt⟩
   right
   intro e
   have := h.lt g e
   omega
 · refine ⟨zcu h.by_ hg (fun j _ e => by cases e), hrow', h.old.kept hg (by cases v.ownBlock <;> simp), .inr ⟨g, Nat.le_trans h.by_.size hge, rfl⟩, h.lt⟩
theorem Grows.alloc {W0 W : World} {B size n k : Nat} {E : TypeId} {v x : Value} {xs zs : List Value} (h : Grows W0 B E size v n xs k zs x W) (o : Obj) : Grows W0 B E size v n xs k zs x (W.alloc o) :=
 ⟨zcu h.by_ (World.grownBy_alloc W o none) (fun j _ e => by cases e), h.row.alloc o, h.old.alloc o, h.at_, h.lt⟩
structure Apt (Bf N : Nat) (v : Nat -> Value) : Prop where
 lt : ∀ j, j < N -> ∀ g, (v j).ownBlock = some g -> g < Bf
 ne : ∀ i j, i < N -> j < N -> i ≠ j -> ∀ g, (v i).ownBlock = some g -> (v j).ownBlock ≠ some g
structure Told (w0 : World) (B Bf : Nat) (E : TypeId) (size N : Nat) (v : Nat -> Value) (n : Nat -> Nat) (xs : Nat -> List Value) (W : World) : Prop where
 rows : ∀ j, j < N -> W.ownsRow B E size (v j) (n j) (xs j)
 below : Below B w0 W
 frame : ∀ k, k < Bf -> (∀ j, j < N -> (v j).ownBlock ≠ some k) -> W.heap[k]? = w0.heap[k]?
 size : Bf <= W.heap.size
section
variable {w0 W W' : World} {B Bf size N : Nat} {E : TypeId} {v : Nat -> Value} {n : Nat -> Nat} {xs : Nat -> List Value}
theorem Told.turn (ha : Apt Bf N v) (h : Told w0 B Bf E size N v n xs W) {i : Nat} (hi : i < N) (hg : W.grownBy W' (v i).ownBlock) {x' : List Value} (hr : W'.ownsRow B E size (v i) (n i) x') (hB : B <= W.heap.size) : Told w0 B Bf E size N v n (fun j => if j = i then x' else xs j) W' := by
 refine ⟨fun j hj => ?_, h.below.grown hg hB (fun k hk => (((h.rows i hi).lt k hk)).1), fun k hk hne => ?_, Nat.le_trans h.size hg.size⟩
 ·
  by_cases e : j = i
  · subst e; simp only [if_true]; exact hr
  ·
   simp only [if_neg e]
   refine (h.rows j hj).kept hg ?_
   cases hv : (v j).ownBlock with
   | none => exact .inl rfl
   | some g => exact .inr fun e2 => ha.ne j i hj hi e g hv e2.symm
 · exact (hg.block k (Nat.lt_of_lt_of_le hk h.size) (fun e => hne i hi e.symm)).trans (h.frame k hk hne)
theorem Told.far (h : Told w0 B Bf E size N v n xs W) (ha : Apt Bf N v) {r : Option Nat} (hg : W.grownBy W' r) (hr : ∀ g, r = some g -> Bf <= g) (hB : B <= Bf) : Told w0 B Bf E size N v n xs W' := by
 refine ⟨fun j hj => (h.rows j hj).kept hg ?_, h.below.grown hg (Nat.le_trans hB h.size) (fun k hk => Nat.le_trans hB (hr k hk)), fun k hk hne => (hg.block k (Nat.lt_of_lt_of_le hk h.size) (fun e => ?_)).trans (h.frame k hk hne), Nat.le_trans h.size hg.size⟩
 ·
  cases hv : (v j).ownBlock with
  | none => exact .inl rfl
  | some g => exact .inr fun e => by have := ha.lt j hj g hv; have := hr g e.symm; omega
 · have := hr k e.symm; omega
structure Ph2 (w0 : World) (B Bf : Nat) (E : TypeId) (size : Nat) (EE : TypeId) (N : Nat) (v : Nat -> Value) (n : Nat -> Nat) (xs ys : Nat -> List Value) (k : Nat) (gv : Nat -> Value) (i : Nat) (G : Value) (W : World) : Prop where
 told : Told w0 B Bf E size N v n xs W
 grown : ∀ j, j < i -> W.ownsRow B E size (gv j) (n j + k) (xs j ++ ys j)
 gat : ∀ j, j < i -> (gv j).ownBlock = (v j).ownBlock \/ ∃ h, Bf <= h /\ (gv j).ownBlock = some h
 gne : ∀ j, j < i -> ∀ g, G.ownBlock = some g -> (gv j).ownBlock ≠ some g
 list : W.ownsRow Bf EE 1 G i ((List.range i).map gv)
theorem Ph2.start {ys : Nat -> List Value} {EE : TypeId} {k : Nat} (gv : Nat -> Value) (h : Told w0 B Bf E size N v n xs W) : Ph2 w0 B Bf E size EE N v n xs ys k gv 0 (.slice none 0 0) W :=
 ⟨h, fun j hj => by omega, fun j hj => by omega, fun j hj => by omega, World.ownsRow_nil W Bf EE 1⟩
theorem Ph2.listIn {ys : Nat -> List Value} {EE : TypeId} {gv : Nat -> Value} {i k k' : Nat} {G x : Value} {zs : List Value} {W2 : World} (ha : Apt Bf N v) (h : Ph2 w0 B Bf E size EE N v n xs ys k gv i G W) (hi : i < N) (hG : Grows W B E size (v i) (n i) (xs i) k' zs x W2) :
 W2.ownsRow Bf EE 1 G i ((List.range i).map gv) := by
 refine h.list.kept hG.by_ ?_
 cases hg : G.ownBlock with
 | none => exact .inl rfl
 | some g => exact .inr fun e => by have := ha.lt i hi g e.symm; have := (h.list.lt g hg).1; omega
theorem Ph2.step {ys : Nat -> List Value} {EE : TypeId} {gv : Nat -> Value} {i k g cap : Nat} {G x : Value} {W2 W3 : World} (ha : Apt Bf N v) (hB : B <= Bf) (h : Ph2 w0 B Bf E size EE N v n xs ys k gv i G W) (hi : i < N)
 (hG : Grows W B E size (v i) (n i) (xs i) k (ys i) x W2) (hown : W3.ownsRow Bf EE 1 (.slice (some ⟨g, 0, none⟩) (i + 1) cap) (i + 1) ((List.range i).map gv ++ [x]))
 (hat : G = .slice (some ⟨g, 0, none⟩) i cap /\ W2.grownBy W3 (some g) \/ W2.heap.size <= g /\ W2.grownBy W3 none) :
 Ph2 w0 B Bf E size EE N v n xs ys k (fun j => if j = i then x else gv j) (i + 1) (.slice (some ⟨g, 0, none⟩) (i + 1) cap) W3 := by
 have hsz := h.told.size
 have hsz2 := hG.by_.size
 have t2 : Told w0 B Bf E size N v n xs W2 := by
  have := h.told.turn ha hi hG.by_ hG.old (Nat.le_trans hB hsz)
  have e : (fun j => if j = i then xs i else xs j) = xs := by funext j; split <;> simp_all
  rwa [e] at this
 have hGg : ∀ b, G.ownBlock = some b -> Bf <= b /\ b < W.heap.size := fun b hb => h.list.lt b hb
 have hg3 : ∀ r, (∀ b, r = some b -> G.ownBlock = some b) -> W2.grownBy W3 r -> Told w0 B Bf E size N v n xs W3 /\ (∀ j, j < i -> W3.ownsRow B E size (gv j) (n j + k) (xs j ++ ys j)) /\ W3.ownsRow B E size x (n i + k) (xs i ++ ys i) := by
  intro r hr hg
  refine ⟨t2.far ha hg (fun b hb => (hGg b (hr b hb)).1) hB, fun j hj => ?_, hG.row.kept hg ?_⟩
  ·
   refine ((h.grown j hj).kept hG.by_ ?_).kept hg ?_
   ·
    cases hv : (gv j).ownBlock with
    | none => exact .inl rfl
    | some b =>
     refine .inr fun e => ?_
     rcases h.gat j hj with h1 | ⟨b2, hb2, h1⟩
     · exact ha.ne j i (by omega) hi (by omega) b (h1.symm.trans hv) e.symm
     ·
      rw [hv] at h1; cases h1
      have := ha.lt i hi b e.symm
      omega
   ·
    cases hv : (gv j).ownBlock with
    | none => exact .inl rfl
    | some b => exact .inr fun e => h.gne j hj b (hr b e.symm) hv
  ·
   cases hv : x.ownBlock with
   | none => exact .inl rfl
   | some b =>
    refine .inr fun e => ?_
    have h4 := hGg b (hr b e.symm)
    rcases hG.at_ with h1 | ⟨b2, hb2, h1⟩
    · have := ha.lt i hi b (h1.symm.trans hv); omega
    · rw [hv] at h1; cases h1; omega
 have hne : ∀ j, j < i + 1 -> ∀ b, (if j = i then x else gv j).ownBlock = some b -> b < W2.heap.size /\ G.ownBlock ≠ some b := by
  intro j hj b hb
  by_cases e : j = i
  ·
   rw [if_pos e] at hb
   refine ⟨(hG.row.lt b hb).2, fun hb2 => ?_⟩
   have h4 := hGg b hb2
   rcases hG.at_ with h1 | ⟨b2, hb2, h1⟩
   · have := ha.lt i hi b (h1.symm.trans hb); omega
   · rw [hb] at h1; cases h1; omega
  ·
   rw [if_neg e] at hb
   exact ⟨by have := ((h.grown j (by omega)).lt b hb).2; omega, fun hb2 => h.gne j (by omega) b hb2 hb⟩
 have hlist : W3.ownsRow Bf EE 1 (.slice (some ⟨g, 0, none⟩) (i + 1) cap) (i + 1) ((List.range (i + 1)).map fun j => if j = i then x else gv j) := by
  have e : ((List.range (i + 1)).map fun j => if j = i then x else gv j) = (List.range i).map gv ++ [x] := by
   rw [List.range_succ, List.map_append]
   congr 1
   ·
    apply List.map_congr_left
    intro j hj
    have := List.mem_range.1 hj
    rw [if_neg (by omega)]
   · simp
  rw [e]; exact hown
 have hgat : ∀ j, j < i + 1 -> (if j = i then x else gv j).ownBlock = (v j).ownBlock \/ ∃ h, Bf <= h /\ (if j = i then x else gv j).ownBlock = some h := by
  intro j hj
  by_cases e : j = i
  ·
   rw [if_pos e, e]
   rcases hG.at_ with h1 | ⟨b2, hb2, h1⟩
   · exact .inl h1
   · exact .inr ⟨b2, by omega, h1⟩
  · rw [if_neg e]; exact h.gat j (by omega)
 have hgr : ∀ r, (∀ b, r = some b -> G.ownBlock = some b) -> W2.grownBy W3 r -> ∀ j, j < i + 1 -> W3.ownsRow B E size (if j = i then x else gv j) (n j + k) (xs j ++ ys j) := by
  intro r hr hg j hj
  obtain ⟨_, h2, h3⟩ := hg3 r hr hg
  by_cases e : j = i
  · rw [if_pos e, e]; exact h3
  · rw [if_neg e]; exact h2 j (by omega)
 rcases hat with ⟨rfl, hg⟩ | ⟨hge, hg⟩
 ·
  refine ⟨(hg3 _ (fun b hb => hb) hg).1, hgr _ (fun b hb => hb) hg, hgat, fun j hj b hb hx => ?_, hlist⟩
  cases hb
  exact (hne j hj g hx).2 rfl
 ·
  refine ⟨(hg3 none (fun b hb => by cases hb) hg).1, hgr none (fun b hb => by cases hb) hg, hgat, fun j hj b hb hx => ?_, hlist⟩
  cases hb
  have := (hne j hj g hx).1
  omega
end
end Go.Proofs.YtaehkbbdmamfpaaGreatDoor
