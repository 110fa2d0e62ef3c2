/-
  All ways to a paragraph's end: the program's ways: what its rounds leave.
-/
import Derived.Test.YtiijpbfkchokaaaGreatB24
import Derived.Test.YtiijpbfkchokaaaGreatB29
import Derived.Test.YtiijpbfkchokaaaGreatW9
import Derived.Outline
import Derived.WalkMore
import Derived.BigQuiet
namespace Go.Proofs.YtiijpbfkchokaaaGreat
open Go.ChangeShapes Go.WideShapes Go.ChangeAt Go.RowKit
theorem upE_at (E : Nat → List Wy) (k : Nat) (l : List Wy) : upE E k l k = l := by unfold upE; rw [if_pos rfl]
theorem upE_ne (E : Nat → List Wy) {k j : Nat} (l : List Wy) (h : j ≠ k) : upE E k l j = E j := by unfold upE; rw [if_neg h]
theorem upE_up (E : Nat → List Wy) (k : Nat) (l l' : List Wy) : upE (upE E k l) k l' = upE E k l' := by
  funext j
  by_cases h : j = k
  · rw [h, upE_at, upE_at]
  · rw [upE_ne _ _ h, upE_ne _ _ h, upE_ne _ _ h]
theorem WyB.mono {m n : Nat} {a : Wy} (h : WyB m a) (hmn : m ≤ n) : WyB n a := ⟨Nat.le_trans h.len hmn, h.over, h.total, h.bad, h.cls⟩
section
variable (one : Option Nat → Nat × Int → Int → Int → Bk) (all : Bool) (B : List (Nat × Int))
def Ew (k : Nat) : Nat → List Wy := fun j => (endsW one all B k).getD j []
theorem Ew_zero : Ew one all B 0 = fun _ => [] := by
  funext j
  simp [Ew, endsW]
theorem Ew_none {k j : Nat} (h : k ≤ j) : Ew one all B k j = [] := by
  unfold Ew
  rw [List.getD_eq_getElem?_getD, List.getElem?_eq_none (by rw [endsW_len]; exact h)]
  rfl
theorem Ew_succ (k : Nat) : Ew one all B (k + 1) = upE (Ew one all B k) k (endW one all B (endsW one all B k) k) := by
  funext j
  by_cases h : j = k
  · subst h
    rw [upE_at]
    exact endsW_get one all B (Nat.lt_succ_self j)
  · rw [upE_ne _ _ h]
    unfold Ew
    rw [endsW]
    rcases Nat.lt_or_ge j k with h1 | h1
    · rw [List.getD_eq_getElem?_getD, List.getElem?_append_left (by rw [endsW_len]; exact h1), ← List.getD_eq_getElem?_getD]
    · rw [List.getD_eq_getElem?_getD, List.getElem?_eq_none (by rw [List.length_append, endsW_len, List.length_singleton]; omega), List.getD_eq_getElem?_getD, List.getElem?_eq_none (by rw [endsW_len]; exact h1)]
def stepW (k : Nat) (x : Nat × Int) (acc : List Wy) (o : Option Nat) : List Wy := (aheadW (endsW one all B k) o).foldl (extW one all (atA B o) x) acc
theorem endW_fold (k : Nat) : endW one all B (endsW one all B k) k = (preds (penA B) k).foldl (stepW one all B k (B.getD k (0, 0))) [] := rfl
end
theorem preds_fold {pen : Nat → Int} (F : List Wy → Option Nat → List Wy) (acc : List Wy) (m : Nat) : (preds pen (m + 1)).foldl F acc = if pen m ≤ -10000 then F acc (some m) else (preds pen m).foldl F (F acc (some m)) := by
  rw [preds, List.foldl_cons]
  split
  · rfl
  · rfl
theorem made_none (n : Nat) : madeCells (Value.slice none 0 0).cells (n * 1) = ((List.range n).map fun _ => Value.slice none 0 0).toArray := by
  rw [Nat.mul_one]
  apply Array.ext
  · simp [madeCells]
  · intro i h1 h2
    simp [madeCells, Value.cells, Nat.mod_one]
theorem info_rows : (Tryz.prog.info? 125).map (fun i => (i.zero, i.size, i.bytes)) = some (some (.slice none 0 0), 1, 24) := by kernel_rfl
theorem run_mkRows (n : Nat) (hn : n ≤ 1000000) (w : World) : (Instr.makeSlice 120 (.int .i64 (n : Int)) (.int .i64 (n : Int))).run Tryz.prog w = .ok (.slice (some ⟨w.heap.size, 0, none⟩) n n) (w.alloc (.cells ((List.range n).map fun _ => Value.slice none 0 0).toArray 125)) := by
  obtain ⟨i, hi, hz, hs, hb⟩ := info_parts info_rows
  have h := run_make (P := Tryz.prog) w 120 125 i (.slice none 0 0) Tryz.underlying120 hi hz .i64 .i64 n n (by omega) (Int.le_refl _) (by rw [hb]; omega) (by omega)
  rw [hs] at h
  simp only [Int.toNat_natCast] at h
  rw [h, made_none]
theorem WaI.init {w0 W : World} {N Y n : Nat} {all : Bool} (hN : w0.heap.size = N) (hb : Below w0.heap.size w0 W) (hx : W.heap[N]? = some (.cells #[.pointer (some ⟨Y, 0, none⟩)] 71 (0, 0))) (ha : W.heap[N + 1]? = some (.cells #[.bool all] 4 (0, 0))) (hm : MapV W (N + 2) [])
    (hcb : W.heap[N + 3]? = some (.cells #[.map (some (N + 2))] 119 (0, 0))) (hob : W.heap[N + 4]? = some (.cells ((List.range n).map fun _ => Value.slice none 0 0).toArray 125 (0, 0))) (hco : W.heap[N + 5]? = some (.cells #[.slice (some ⟨N + 4, 0, none⟩) n n] 120 (0, 0))) :
    WaI w0 N Y n all (fun _ => .slice none 0 0) [] (fun _ => []) W :=
  ⟨hb, hx, ha, hm, hcb, hob, hco, fun _ _ => World.ownsRow_nil _ _ _ _, fun _ _ _ _ _ q hq => (by cases hq), fun _ _ _ ha => (by cases ha), fun _ _ hp => (by cases hp), fun _ _ _ ha => (by cases ha), hN, fun _ _ => List.nodup_nil⟩
theorem WaI.elem {w0 : World} {N Y n : Nat} {all : Bool} {vals : Nat → Value} {D : List (St3 × Nat)} {E : Nat → List Wy} {W : World} (h : WaI w0 N Y n all vals D E W) {j : Nat} (hj : j < n) {i : Nat} (hi : i < (E j).length) :
    ∃ g cap, vals j = .slice (some ⟨g, 0, none⟩) (E j).length cap ∧ (E j).length ≤ cap ∧ N + 6 ≤ g ∧ agg? W g (i * 3) 3 = some (stOf j (E j)[i]).arr :=
  row_agg (fun a => (stOf j a).cells) (size := 3) (fun _ => rfl) (h.rows j hj) (by decide) hi
def ptrs (ps : List Nat) : List Value := ps.map fun p => .pointer (some ⟨p, 0, none⟩)
theorem ptrs_flat (ps : List Nat) : ptrs ps = ps.flatMap fun p => [Value.pointer (some ⟨p, 0, none⟩)] := by
  induction ps with
  | nil => rfl
  | cons x r ih => rw [List.flatMap_cons, ← ih]; rfl
theorem WysIn.of_row {W : World} {B : Nat} {v : Value} {ps : List Nat} {l : List Wy} (h : W.ownsRow B 76 1 v ps.length (ptrs ps)) (hl : ps.length = l.length) (hw : ∀ (i : Nat) (p : Nat) (a : Wy), ps[i]? = some p → l[i]? = some a → WayAt W p a) :
    ∃ p0 g c, v = .slice p0 l.length c ∧ WysIn W p0 g c ps l := by
  obtain ⟨p0, c, e⟩ := owns_form h
  by_cases hne : ps = []
  · subst hne
    have : l = [] := by
      cases l with
      | nil => rfl
      | cons _ _ => simp at hl
    subst this
    exact ⟨p0, 0, c, e, fun h => absurd rfl h, rfl, Nat.zero_le _, fun i p hi => (by simp at hi), fun i p a hi => (by simp at hi)⟩
  · have hpos : 0 < ps.length := List.length_pos_iff.2 hne
    rw [ptrs_flat] at h
    obtain ⟨g, cap, e1, e2, _, _⟩ := row_agg (fun p : Nat => [Value.pointer (some ⟨p, 0, none⟩)]) (size := 1) (fun _ => rfl) h (by decide) hpos
    refine ⟨some ⟨g, 0, none⟩, g, cap, by rw [e1, hl], fun _ => rfl, hl, by omega, fun i p hi => ?_, hw⟩
    have hil : i < ps.length := (List.getElem?_eq_some_iff.1 hi).1
    obtain ⟨g', cap', e1', _, _, h4⟩ := row_agg (fun p : Nat => [Value.pointer (some ⟨p, 0, none⟩)]) (size := 1) (fun _ => rfl) h (by decide) hil
    rw [e1] at e1'
    cases e1'
    rw [(List.getElem?_eq_some_iff.1 hi).2, Nat.mul_one] at h4
    have := agg_cell h4 0 _ rfl
    simpa using this
attribute [local go_sem ↓] Go.wp_at_zero Go.wp_at_succ
theorem info_wpb : (Tryz.prog.info? 76).map (fun i => (i.zero, i.size, i.bytes)) = some (some (.pointer none), 1, 8) := by kernel_rfl
theorem row_typP {w : World} {base : Nat} {e : TypeId} {size : Nat} {v : Value} {n : Nat} {xs : List Value} (h : w.ownsRow base e size v n xs) {g : Nat} (hg : v.ownBlock = some g) : ∃ cur, w.heap[g]? = some (.cells cur e (0, 0)) := row_typ h hg
structure WaysPost (w : World) (l : List Wy) (e : Ending) (w' : World) : Prop where
  out : ∃ p0 g c ps, e = .returned (.slice p0 l.length c) ∧ WysIn w' p0 g c ps l
  len : l.length ≤ 100000
  below : Below w.heap.size w w'
set_option maxRecDepth 100000 in
set_option maxHeartbeats 8000000 in
theorem vways (Y X mb B : Nat) (P : Pm) (vs : Nat → Value) (L : List Nd) (b off cap : Nat) (p0 : Option Addr) (s : List Nat) (g off2 : Nat) (S : List Sh2) (tol ext : Int) (hok : TryOk P S L s tol ext) (all : Bool) (w : World) (ht : TryIn w Y X mb B P vs L b off cap p0 s g off2 S tol ext) :
    Calls Tryz.prog 28 #[.pointer (some ⟨Y, 0, none⟩), .bool all] w (WaysPost w (waysW (oneP L P S s tol ext) all (brkP L P s))) := by
  obtain ⟨n, hn⟩ : ∃ n, (brkP L P s).length = n := ⟨_, rfl⟩
  have hnl : n ≤ 2001 := by
    rw [← hn]
    have := brkP_len (L := L) (P := P) (s := s)
    have := hok.items.len
    have := (checkC_zero hok.chk).1
    omega
  have hn0 : 0 < n := by rw [← hn]; simp [brkP]
  obtain ⟨p2, c2, e2⟩ := owns_form (ht.para.para.rows 2 (by decide))
  obtain ⟨p3, c3, e3⟩ := owns_form (ht.para.para.rows 3 (by decide))
  have hna : (atsI (brkP L P s)).length = n := by rw [← hn]; simp [atsI]
  have hnp : (pensI (brkP L P s)).length = n := by rw [← hn]; simp [pensI]
  have hpa : pxN (s ++ [L.length]) (sumsP L s) (atsI (brkP L P s)) (pensI (brkP L P s)) 2 = n := hna
  have hpp : pxN (s ++ [L.length]) (sumsP L s) (atsI (brkP L P s)) (pensI (brkP L P s)) 3 = n := hnp
  rw [hpa] at e2
  rw [hpp] at e3
  have hr2 := ht.para.para.rows 2 (by decide)
  have hr3 := ht.para.para.rows 3 (by decide)
  rw [e2, hpa] at hr2
  rw [e3, hpp] at hr3
  obtain ⟨g2, rfl, -, hc2, -⟩ := zin_get9 (l := atsI (brkP L P s)) (i := 0) hr2 (by rw [hna]; exact hn0)
  obtain ⟨g3, rfl, -, hc3, -⟩ := zin_get9 (l := pensI (brkP L P s)) (i := 0) hr3 (by rw [hnp]; exact hn0)
  have HR : Hid (∀ W, Below w.heap.size w W → W.cell? ⟨Y, 0, none⟩ = some (.pointer (some ⟨X, 0, none⟩)) ∧ W.cell? ⟨X, 28, none⟩ = some (.slice (some ⟨g2, 0, none⟩) n c2) ∧ W.cell? ⟨X, 29, none⟩ = some (.slice (some ⟨g3, 0, none⟩) n c3)) := Lib.hid fun W hb => by
    have h9 := ht.still hb
    refine ⟨h9.cell.1, ?_, ?_⟩
    · have := h9.para.para.cell 28 (vs 2) rfl
      rw [e2] at this
      exact this
    · have := h9.para.para.cell 29 (vs 3) rfl
      rw [e3] at this
      exact this
  have HK : Hid (∀ W, Below w.heap.size w W → ∀ k x, (brkP L P s)[k]? = some x → W.cell? ⟨g2, k, none⟩ = some (.int .i64 x.1) ∧ W.cell? ⟨g3, k, none⟩ = some (.int .i64 x.2)) := Lib.hid fun W hb k x hx => by
    have h9 := ht.still hb
    have hk : k < (brkP L P s).length := (List.getElem?_eq_some_iff.1 hx).1
    refine ⟨?_, ?_⟩
    · have hr9 := h9.para.para.rows 2 (by decide)
      rw [e2, hpa] at hr9
      obtain ⟨g9, q1, _, q3, q4⟩ := zin_get9 (l := atsI (brkP L P s)) (i := k) hr9 (by rw [hna, ← hn]; exact hk)
      cases q1
      rw [q4]
      have : (atsI (brkP L P s))[k]? = some (x.1 : Int) := by unfold atsI; rw [List.getElem?_map, hx]; rfl
      rw [(List.getElem?_eq_some_iff.1 this).2]
    · have hr9 := h9.para.para.rows 3 (by decide)
      rw [e3, hpp] at hr9
      obtain ⟨g9, q1, _, q3, q4⟩ := zin_get9 (l := pensI (brkP L P s)) (i := k) hr9 (by rw [hnp, ← hn]; exact hk)
      cases q1
      rw [q4]
      have : (pensI (brkP L P s))[k]? = some x.2 := by unfold pensI; rw [List.getElem?_map, hx]; rfl
      rw [(List.getElem?_eq_some_iff.1 this).2]
  have HO : Hid (∀ (N : Nat), w.heap.size = N → ∀ (k ck : Nat) (x : Nat × Int) (hx : (brkP L P s)[k]? = some x) (f : Option Nat) (hf : ∀ y, f = some y → y ∈ s ∧ y < x.1) (a : Wy) (ha : WyB k a) (st : St3) (hs1 : st.line = a.ats.length) (hs2 : st.cls = a.cls) (po : Option Nat)
      (vals : Nat → Value) (D : List (St3 × Nat)) (E : Nat → List Wy) (W : World) (h : WaI w N Y n all vals D E W) (hck : W.heap[ck]? = some (.cells #[.int .i64 k] 3 (0, 0))) (hckN : N + 6 ≤ ck) (hpo : (po = none ∧ a = Wy.start) ∨ ∃ p, po = some p ∧ WayAt W p a),
      Calls Tryz.prog 54 #[.int .i64 (fI f), .agg st.arr, ptrO po, .pointer (some ⟨N, 0, none⟩), .pointer (some ⟨ck, 0, none⟩), .pointer (some ⟨N + 1, 0, none⟩), .pointer (some ⟨N + 3, 0, none⟩), .pointer (some ⟨N + 5, 0, none⟩)] W
      (ReachPost w N Y n all vals E k ck (extW (oneP L P S s tol ext) all f x (E k) a))) := Lib.hid fun N hN k ck x hx f hf a ha st hs1 hs2 po vals D E W h hck hckN hpo => vreach Y X mb B P vs L b off cap p0 s g off2 S tol ext hok w ht N n hn all k ck x hx f hf a ha st hs1 hs2 po vals D E W h hck hckN hpo
  have Hbb : Hid (∀ (i j : Nat) (x y : Nat × Int), (brkP L P s)[i]? = some x → (brkP L P s)[j]? = some y → i < j → x.1 ∈ s ∧ x.1 < y.1) := Lib.hid fun i j x y hi hj hij => brk_before hok.items hi hj hij
  obtain ⟨one, hone⟩ : ∃ one, oneP L P S s tol ext = one := ⟨_, rfl⟩
  obtain ⟨BL, hBL⟩ : ∃ BL, brkP L P s = BL := ⟨_, rfl⟩
  rw [hone] at HO ⊢
  rw [hBL] at HK HO Hbb hn ⊢
  have Hn := Lib.hid hn
  clear ht hok hn hna hnp hpa hpp e2 e3 hone hBL hr2 hr3
  obtain ⟨N, hN⟩ : ∃ N, w.heap.size = N := ⟨_, rfl⟩
  have HN := Lib.hid hN
  go_enter Tryz.func28, Tryz.ntmps28
  go_wp2_with fail
  apply wp_scope_straight
  have hmm := @run_makeMap Tryz.prog
  go_upto_region 2 with (fail)
  clear hmm
  generalize hw1 : ((w.alloc (.cells #[.pointer (some ⟨Y, 0, none⟩)] 71)).alloc (.cells #[.bool all] 4)) = w1
  have hs1 : w1.heap.size = N + 2 := by rw [← hw1]; simp [hN]
  have hc1 : w1.heap[N]? = some (.cells #[.pointer (some ⟨Y, 0, none⟩)] 71 (0, 0)) := by rw [← hw1, ← hN]; exact (Below.heap_alloc _ _ _ (by simp)).trans (heap_alloc_new w _)
  have hc2' : w1.heap[N + 1]? = some (.cells #[.bool all] 4 (0, 0)) := by
    rw [← hw1, ← hN]
    have := heap_alloc_new (w.alloc (.cells #[.pointer (some ⟨Y, 0, none⟩)] 71)) (.cells #[.bool all] 4)
    simpa using this
  have hb1 : Below w.heap.size w w1 := by rw [← hw1]; exact ((Below.refl _ _).alloc (Nat.le_refl _) _).alloc (by simp) _
  rw [show N + 1 + 1 + 1 = N + 3 from rfl, show N + 1 + 1 = N + 2 from rfl]
  generalize hw2 : ((w1.alloc (.map #[] 0)).alloc (.cells #[.map (some (N + 2))] 119)) = w2
  have hbx : Below w1.heap.size w1 w2 := by rw [← hw2]; exact ((Below.refl _ _).alloc (Nat.le_refl _) _).alloc (by simp) _
  have hs2 : w2.heap.size = N + 4 := by rw [← hw2]; simp [hs1]
  have hm2 : MapV w2 (N + 2) [] := by
    rw [← hw2, ← hs1]
    exact (MapV.new w1).same (Below.heap_alloc _ _ _ (by simp))
  have hc3' : w2.heap[N + 3]? = some (.cells #[.map (some (N + 2))] 119 (0, 0)) := by
    rw [← hw2]
    have := heap_alloc_new (w1.alloc (.map #[] 0)) (.cells #[.map (some (N + 2))] 119)
    simpa [hs1] using this
  have hc1x := (hbx.block N (by omega)).trans hc1
  have hc2x := (hbx.block (N + 1) (by omega)).trans hc2'
  have hb2 := hb1.trans (hbx.mono hb1.size)
  clear hw1 hw2 hbx hs1 hc1 hc2' hb1
  obtain ⟨y0, y28, -⟩ := HR.out w2 hb2
  have z0 : w2.cell? ⟨N, 0, none⟩ = some (.pointer (some ⟨Y, 0, none⟩)) := by rw [cell?_blk' hc1x]; rfl
  have hmk := run_mkRows n (by omega)
  go_upto_region 3 with (fail)
  rw [show N + 4 + 1 = N + 5 from rfl]
  generalize hw3 : ((w2.alloc (.cells ((List.range n).map fun _ => Value.slice none 0 0).toArray 125)).alloc (.cells #[.slice (some ⟨N + 4, 0, none⟩) n n] 120)) = w3
  have hbx : Below w2.heap.size w2 w3 := by rw [← hw3]; exact ((Below.refl _ _).alloc (Nat.le_refl _) _).alloc (by simp) _
  have hs3 : w3.heap.size = N + 6 := by rw [← hw3]; simp [hs2]
  have hc4' : w3.heap[N + 4]? = some (.cells ((List.range n).map fun _ => Value.slice none 0 0).toArray 125 (0, 0)) := by rw [← hw3, ← hs2]; exact (Below.heap_alloc _ _ _ (by simp)).trans (heap_alloc_new w2 _)
  have hc5' : w3.heap[N + 5]? = some (.cells #[.slice (some ⟨N + 4, 0, none⟩) n n] 120 (0, 0)) := by
    rw [← hw3]
    have := heap_alloc_new (w2.alloc (.cells ((List.range n).map fun _ => Value.slice none 0 0).toArray 125)) (.cells #[.slice (some ⟨N + 4, 0, none⟩) n n] 120)
    simpa [hs2] using this
  have hW3 : WaI w N Y n all (fun _ => .slice none 0 0) [] (fun _ => []) w3 := WaI.init hN (hb2.trans (hbx.mono hb2.size)) ((hbx.block N (by omega)).trans hc1x) ((hbx.block (N + 1) (by omega)).trans hc2x) (hm2.same (hbx.block (N + 2) (by omega))) ((hbx.block (N + 3) (by omega)).trans hc3') hc4' hc5'
  have HW3 := Lib.hid (And.intro hW3 hs3)
  clear hw3 hbx hs3 hc4' hc5' hW3 hs2 hm2 hc3' hc1x hc2x hb2 y0 y28 z0 hmk hN
  apply wp_label
  obtain ⟨y0, y28, -⟩ := HR.out w3 HW3.out.1.below
  have z0 : w3.cell? ⟨N, 0, none⟩ = some (.pointer (some ⟨Y, 0, none⟩)) := by rw [cell?_blk' HW3.out.1.cx]; rfl
  go_wp2_with fail
  clear y0 y28 z0
  go_loopg [33] (n + 1) (fun gg t33 wr => ∃ (k : Nat) (vals : Nat → Value) (D : List (St3 × Nat)), gg = n + 1 - k ∧ k ≤ n ∧ t33 = .int .i64 k ∧ WaI w N Y n all vals D (Ew one all BL k) wr ∧ N + 6 ≤ wr.heap.size)
  case atStart => exact ⟨0, _, _, rfl, Nat.zero_le _, rfl, by rw [Ew_zero]; exact HW3.out.1, by rw [HW3.out.2]; exact Nat.le_refl _⟩
  case round =>
    clear HW3
    obtain ⟨k, vals, D, rfl, hk, rfl, hW, hsz⟩ := hrel
    have hk0 : (0 : Int) ≤ (k : Int) := by omega
    by_cases hlt : k < n
    · have hk1 : (k : Int) < (n : Int) := by omega
      obtain ⟨⟨to_, q⟩, hz⟩ : ∃ z, BL[k]? = some z := ⟨_, List.getElem?_eq_getElem (by rw [Hn.out]; exact hlt)⟩
      have hgd : BL.getD k (0, 0) = (to_, q) := by rw [List.getD_eq_getElem?_getD, hz]; rfl
      have HZ := Lib.hid hz
      obtain ⟨T, hT⟩ : ∃ T, endW one all BL (endsW one all BL k) k = T := ⟨_, rfl⟩
      have HT : Hid ((preds (penA BL) k).foldl (stepW one all BL k (to_, q)) [] = T) := Lib.hid (by rw [← hT, endW_fold, hgd])
      have HEs : Hid (Ew one all BL (k + 1) = upE (Ew one all BL k) k T) := Lib.hid (by rw [Ew_succ, hT])
      have HE0 : Hid (upE (Ew one all BL k) k [] = Ew one all BL k) := Lib.hid (by
        have h1 := Ew_none one all BL (Nat.le_refl k)
        have h2 := upE_same (Ew one all BL k) k
        rw [h1] at h2
        exact h2)
      obtain ⟨E, hE⟩ : ∃ E, Ew one all BL k = E := ⟨_, rfl⟩
      have HEd : Hid (∀ j, (endsW one all BL k).getD j [] = E j) := Lib.hid fun j => by rw [← hE]; rfl
      rw [hE] at hW HEs HE0
      have HW := Lib.hid hW
      clear hz hgd hT hE hW
      go_upto_region 6 with (fail)
      obtain ⟨ck, hck⟩ : ∃ ck, wr.heap.size = ck := ⟨_, rfl⟩
      have hba := (Below.refl wr.heap.size wr).alloc (Nat.le_refl _) (.cells #[.int .i64 k] 3)
      have hWa := HW.out.still hba
      have hckc : (wr.alloc (.cells #[.int .i64 k] 3)).heap[ck]? = some (.cells #[.int .i64 k] 3 (0, 0)) := by rw [← hck]; exact heap_alloc_new wr _
      have hsa : N + 6 ≤ ck := by rw [← hck]; exact hsz
      have hsb : N + 6 ≤ (wr.alloc (.cells #[.int .i64 k] 3)).heap.size := by rw [World.size_alloc]; omega
      rw [hck]
      clear hck hba hsz HW
      generalize wr.alloc (.cells #[.int .i64 k] 3) = w4 at hWa hckc hsb ⊢
      have z1 : w4.cell? ⟨ck, 0, none⟩ = some (.int .i64 k) := by rw [cell?_blk' hckc]; rfl
      have HW4 := Lib.hid (And.intro hWa (And.intro hckc hsb))
      clear hWa hckc hsb
      go_wp2_with fail
      clear z1
      go_loopg [9] k (fun gg t9 wm => ∃ (m : Nat) (vals' : Nat → Value) (D' : List (St3 × Nat)) (acc : List Wy), gg = m ∧ m ≤ k ∧ t9 = .int .i64 ((m : Int) - 1) ∧ (preds (penA BL) m).foldl (stepW one all BL k (to_, q)) acc = T ∧ WaI w N Y n all vals' D' (upE E k acc) wm ∧ wm.heap[ck]? = some (.cells #[.int .i64 k] 3 (0, 0)) ∧ N + 6 ≤ wm.heap.size)
      case atStart => exact ⟨k, _, _, [], rfl, Nat.le_refl _, by go_num, HT.out, by rw [HE0.out]; exact HW4.out.1, HW4.out.2.1, HW4.out.2.2⟩
      case round =>
        clear HW4 HT HE0
        obtain ⟨m, vals', D', acc, hgm, hm, ht9, hfo, hWm, hckm, hszm⟩ := hrel
        cases m with
        | zero =>
          have e9 : (((0 : Nat) : Int) - 1) = -1 := rfl
          rw [e9] at ht9
          subst ht9
          have Hfo : Hid (stepW one all BL k (to_, q) acc none = T) := Lib.hid hfo
          have HX : Hid (Calls Tryz.prog 54 #[.int .i64 (-1), .agg (St3.mk 0 0 2).arr, .pointer none, .pointer (some ⟨N, 0, none⟩), .pointer (some ⟨ck, 0, none⟩), .pointer (some ⟨N + 1, 0, none⟩), .pointer (some ⟨N + 3, 0, none⟩), .pointer (some ⟨N + 5, 0, none⟩)] wr (ReachPost w N Y n all vals' (upE E k acc) k ck (extW one all none (to_, q) (upE E k acc k) Wy.start))) := Lib.hid (HO.out N HN.out k ck (to_, q) HZ.out none (fun y hy => by cases hy) Wy.start (WyB.start k) ⟨0, 0, 2⟩ rfl rfl none vals' D' _ wr hWm hckm hsa (.inl ⟨rfl, rfl⟩))
          have HXe : Hid (upE (upE E k acc) k (extW one all none (to_, q) (upE E k acc k) Wy.start) = upE E k T) := Lib.hid (by
            rw [upE_up, upE_at]
            have h1 : stepW one all BL k (to_, q) acc none = extW one all none (to_, q) acc Wy.start := rfl
            rw [← Hfo.out, h1])
          have hsz0 := hWm.below.size
          clear hfo hWm hckm Hfo
          go_wp2_with (go_at_call 54; refine HX.out.mono ?_; rintro e w5 hp; obtain rfl := hp.ret; obtain ⟨vals2, D2, hW5, -⟩ := hp.out; rw [HXe.out, ← HEs.out] at hW5; have hl5 := (Array.getElem?_eq_some_iff.1 hp.ck).1; have HW5 := Lib.hid hW5; clear hp hW5)
          go_roundg (n + 1 - (k + 1))
          case measure => omega
          case rel => exact ⟨k + 1, vals2, D2, rfl, by omega, by go_num, HW5.out, by omega⟩
        | succ j =>
          have e9 : (((j + 1 : Nat) : Int) - 1) = (j : Int) := by omega
          rw [e9] at ht9
          subst ht9
          have hjk : j < k := hm
          have hjn : j < n := by omega
          have hj0 : (0 : Int) ≤ (j : Int) := by omega
          have hj1 : (j : Int) < (n : Int) := by omega
          obtain ⟨⟨aj, qj⟩, hzj⟩ : ∃ z, BL[j]? = some z := ⟨_, List.getElem?_eq_getElem (by rw [Hn.out]; exact hjn)⟩
          have hgd : BL.getD j (0, 0) = (aj, qj) := by rw [List.getD_eq_getElem?_getD, hzj]; rfl
          have HZj := Lib.hid hzj
          have hne : j ≠ k := by omega
          have HEj : Hid (∀ acc', upE E k acc' j = E j) := Lib.hid fun acc' => upE_ne E acc' hne
          obtain ⟨pv, cv, ev⟩ := owns_form (hWm.rows j hjn)
          rw [HEj.out] at ev
          obtain ⟨lj, hlj⟩ : ∃ lj, (E j).length = lj := ⟨_, rfl⟩
          rw [hlj] at ev
          have Hlj := Lib.hid hlj
          have hljb : lj ≤ 100000 := by
            have h1 := hWm.len hjn
            rw [HEj.out, hlj] at h1
            omega
          obtain ⟨T2, hT2⟩ : ∃ T2, stepW one all BL k (to_, q) acc (some j) = T2 := ⟨_, rfl⟩
          have HT2 : Hid ((E j).foldl (extW one all (some aj) (to_, q)) acc = T2) := Lib.hid (by
            rw [← hT2]
            unfold stepW
            simp only [aheadW, atA]
            rw [hgd, HEd.out])
          have Hfo : Hid ((if qj ≤ -10000 then T2 else (preds (penA BL) j).foldl (stepW one all BL k (to_, q)) T2) = T) := Lib.hid (by
            rw [← hfo, preds_fold, hT2]
            have h1 : penA BL j = qj := by unfold penA; rw [hgd]
            rw [h1])
          have x5 : wr.cell? ⟨N + 5, 0, none⟩ = some (.slice (some ⟨N + 4, 0, none⟩) n n) := by rw [cell?_blk' hWm.co]; rfl
          have x4 : wr.cell? ⟨N + 4, j, none⟩ = some (.slice pv lj cv) := by
            rw [cell?_blk' hWm.ob, ← ev]
            rw [List.getElem?_toArray, List.getElem?_map, List.getElem?_range hjn]
            rfl
          have HWm := Lib.hid (And.intro hWm (And.intro hckm (And.intro hszm ev)))
          clear hzj hgd hne hlj hT2 hfo hWm hckm hszm ev
          go_wp2_with fail
          clear x5 x4
          go_loopg [48] (lj + 1) (fun gg t48 wi => ∃ (i : Nat) (vals2 : Nat → Value) (D2 : List (St3 × Nat)) (acc2 : List Wy), gg = lj + 1 - i ∧ i ≤ lj ∧ t48 = .int .i64 i ∧ vals2 j = .slice pv lj cv ∧ ((E j).drop i).foldl (extW one all (some aj) (to_, q)) acc2 = T2 ∧ WaI w N Y n all vals2 D2 (upE E k acc2) wi ∧ wi.heap[ck]? = some (.cells #[.int .i64 k] 3 (0, 0)) ∧ N + 6 ≤ wi.heap.size)
          case atStart => exact ⟨0, _, _, _, rfl, Nat.zero_le _, rfl, HWm.out.2.2.2, HT2.out, HWm.out.1, HWm.out.2.1, HWm.out.2.2.1⟩
          case round =>
            clear HWm HT2
            obtain ⟨i, vals2, D2, acc2, rfl, hi, rfl, hv2, hfi, hWi, hcki, hszi⟩ := hrel
            have hi0 : (0 : Int) ≤ (i : Int) := by omega
            by_cases hil : i < lj
            · have hi1 : (i : Int) < (lj : Int) := by omega
              have hiE : i < (E j).length := by rw [Hlj.out]; exact hil
              obtain ⟨a, hae⟩ : ∃ a, (E j)[i] = a := ⟨_, rfl⟩
              have hel : ∃ gg cc, vals2 j = .slice (some ⟨gg, 0, none⟩) lj cc ∧ lj ≤ cc ∧ agg? wr gg (i * 3) 3 = some (stOf j a).arr := by
                obtain ⟨gg, cc, q1, q2, _, q4⟩ := hWi.elem hjn (i := i) (by rw [HEj.out]; exact hiE)
                simp only [HEj.out] at q1 q2 q4
                rw [Hlj.out] at q1 q2
                exact ⟨gg, cc, q1, q2, by rw [q4, hae]⟩
              obtain ⟨gg, cc, q1, q2, ag⟩ := hel
              rw [hv2] at q1
              cases q1
              have haE : a ∈ E j := by rw [← hae]; exact List.getElem_mem hiE
              obtain ⟨p, hgp, hwp⟩ := hWi.ways j a hjn (by rw [HEj.out]; exact haE)
              have hwb : WyB k a := (hWi.wb j a hjn (by rw [HEj.out]; exact haE)).mono (by omega)
              have hfi2 : Hid (((E j).drop (i + 1)).foldl (extW one all (some aj) (to_, q)) (extW one all (some aj) (to_, q) acc2 a) = T2) := Lib.hid (by
                rw [← hfi, List.drop_eq_getElem_cons hiE, hae]; rfl)
              have hlt3 : decide (i < lj) = true := decide_eq_true hil
              obtain ⟨st, hst⟩ : ∃ st, stOf j a = st := ⟨_, rfl⟩
              have Hst := Lib.hid hst
              rw [hst] at ag hgp
              have HWi := Lib.hid (And.intro hWi (And.intro hcki (And.intro hszi (And.intro hwp (And.intro hgp (And.intro hwb hv2))))))
              clear hfi hWi hcki hszi hwp hgp hwb hil hiE hae haE hst hv2
              go_upto_region 13 with (fail)
              obtain ⟨SB, hSB⟩ : ∃ SB, wr.heap.size = SB := ⟨_, rfl⟩
              have hba := (Below.refl wr.heap.size wr).alloc (Nat.le_refl _) (.cells st.arr 122)
              have hst5 : (wr.alloc (.cells st.arr 122)).heap[SB]? = some (.cells st.arr 122 (0, 0)) := by rw [← hSB]; exact heap_alloc_new wr _
              have hW5 := HWi.out.1.still hba
              have hck5 := (hba.block ck (Array.getElem?_eq_some_iff.1 HWi.out.2.1).1).trans HWi.out.2.1
              have hwp5 := HWi.out.2.2.2.1.keep (WKeep.of_below hba)
              have hgp := HWi.out.2.2.2.2.1
              have hwb := HWi.out.2.2.2.2.2.1
              have hv2 := HWi.out.2.2.2.2.2.2
              have hsz5 : N + 6 ≤ (wr.alloc (.cells st.arr 122)).heap.size := by have := HWi.out.2.2.1; rw [World.size_alloc]; omega
              rw [hSB]
              clear hSB hba HWi ag
              have hbd := (Below.refl (wr.alloc (.cells st.arr 122)).heap.size (wr.alloc (.cells st.arr 122))).drew
              generalize wr.alloc (.cells st.arr 122) = w5 at hst5 hW5 hck5 hwp5 hsz5 hbd ⊢
              have hW6 := hW5.still hbd
              have hck6 : w5.drew.heap[ck]? = some (.cells #[.int .i64 k] 3 (0, 0)) := hck5
              have hwp6 : WayAt w5.drew p a := hwp5.keep (WKeep.of_below hbd)
              have hst6 : w5.drew.heap[SB]? = some (.cells st.arr 122 (0, 0)) := hst5
              have hsz6 : N + 6 ≤ w5.drew.heap.size := hsz5
              clear hst5 hW5 hck5 hwp5 hsz5 hbd
              refine Rest.region follows ?_
              refine Rest.tame 15 (fun W => w5.drew = W) (by kernel_rfl) rfl ?_
              simp only [Nat.reduceSub, List.drop_zero, List.take_succ_cons, List.take_zero]
              generalize w5.drew = w6 at hst6 hW6 hck6 hwp6 hsz6 ⊢
              obtain ⟨y0, y28, -⟩ := HR.out w6 hW6.below
              have xa := (HK.out w6 hW6.below j (aj, qj) HZj.out).1
              have z0 : w6.cell? ⟨N, 0, none⟩ = some (.pointer (some ⟨Y, 0, none⟩)) := by rw [cell?_blk' hW6.cx]; rfl
              have z3 : w6.cell? ⟨N + 3, 0, none⟩ = some (.map (some (N + 2))) := by rw [cell?_blk' hW6.cb]; rfl
              have a3 : agg? w6 SB 0 3 = some st.arr := by rw [agg?_blk' hst6 0 3 (by simp [St3.size_arr])]; simp [St3.arr, St3.cells]
              have hlk := run_lookSt hW6.map st
              rw [hgp] at hlk
              simp only [ptrO] at hlk
              have hfj : ∀ y, some aj = some y → y ∈ s ∧ y < to_ := fun y hy => by cases hy; exact Hbb.out j k (aj, qj) (to_, q) HZj.out HZ.out hjk
              have HX : Hid (Calls Tryz.prog 54 #[.int .i64 (aj : Int), .agg st.arr, .pointer (some ⟨p, 0, none⟩), .pointer (some ⟨N, 0, none⟩), .pointer (some ⟨ck, 0, none⟩), .pointer (some ⟨N + 1, 0, none⟩), .pointer (some ⟨N + 3, 0, none⟩), .pointer (some ⟨N + 5, 0, none⟩)] w6 (ReachPost w N Y n all vals2 (upE E k acc2) k ck (extW one all (some aj) (to_, q) (upE E k acc2 k) a))) := Lib.hid (HO.out N HN.out k ck (to_, q) HZ.out (some aj) hfj a hwb st (by rw [← Hst.out]; rfl) (by rw [← Hst.out]; rfl) (some p) vals2 D2 _ w6 hW6 hck6 hsa (.inr ⟨p, rfl, hwp6⟩))
              have HXe : Hid (upE (upE E k acc2) k (extW one all (some aj) (to_, q) (upE E k acc2 k) a) = upE E k (extW one all (some aj) (to_, q) acc2 a)) := Lib.hid (by rw [upE_up, upE_at])
              have Hv2 := Lib.hid hv2
              have hnk : j ≠ k := by omega
              clear hfj hgp hwb hwp6 hck6 hst6 hW6 hv2
              iterate 15 first
                | (refine TW.cons_n rfl _ (by intro wT hT R hR K hK; simp only [Act.put, lsA, lsB, lsC] at hK; subst hT; go_step; exact hK _ _ (hR _ rfl)) ?_; try simp only [Act.put, lsA, lsB, lsC])
              refine TW.nil fun w7 h7 => ?_
              subst h7
              refine Rest.seq (by kernel_rfl) ?_
              simp only [List.drop_succ_cons, List.drop_zero]
              clear y0 y28 xa z0 z3 a3 hlk
              go_wp2_with (go_at_call 54; refine HX.out.mono ?_; rintro e w8 hp; obtain rfl := hp.ret; obtain ⟨vals3, D3, hW8, hvs⟩ := hp.out; rw [HXe.out] at hW8; have hl8 := (Array.getElem?_eq_some_iff.1 hp.ck).1; have Hvs := Lib.hid ((hvs j hnk).trans Hv2.out); have HW8 := Lib.hid (And.intro hW8 hp.ck); clear hp hW8 hvs)
              go_roundg (lj + 1 - (i + 1))
              case measure => omega
              case rel => exact ⟨i + 1, vals3, D3, _, rfl, by omega, by go_num, Hvs.out, hfi2.out, HW8.out.1, HW8.out.2, by omega⟩
            · have hi2 : decide (i < lj) = false := decide_eq_false hil
              have hacc : acc2 = T2 := by
                rw [List.drop_eq_nil_of_le (by rw [Hlj.out]; omega)] at hfi
                exact hfi
              subst hacc
              obtain ⟨y0, -, y29⟩ := HR.out wr hWi.below
              have xq := (HK.out wr hWi.below j (aj, qj) HZj.out).2
              have z0 : wr.cell? ⟨N, 0, none⟩ = some (.pointer (some ⟨Y, 0, none⟩)) := by rw [cell?_blk' hWi.cx]; rfl
              have HWi := Lib.hid (And.intro hWi (And.intro hcki hszi))
              clear hfi hWi hcki hszi hv2 hil
              by_cases hq : qj ≤ -10000
              · have hq2 : decide (qj ≤ -10000) = true := decide_eq_true hq
                have hTT : Hid (acc2 = T) := Lib.hid (by have := Hfo.out; rwa [if_pos hq] at this)
                clear hq Hfo
                go_wp2_with fail
                go_roundg (n + 1 - (k + 1))
                case measure => omega
                case rel => exact ⟨k + 1, vals2, D2, rfl, by omega, by go_num, by rw [HEs.out, ← hTT.out]; exact HWi.out.1, HWi.out.2.2⟩
              · have hq2 : decide (qj ≤ -10000) = false := decide_eq_false hq
                have hTT : Hid ((preds (penA BL) j).foldl (stepW one all BL k (to_, q)) acc2 = T) := Lib.hid (by have := Hfo.out; rwa [if_neg hq] at this)
                clear hq Hfo
                go_wp2_with fail
                go_roundg j
                case measure => omega
                case rel => exact ⟨j, vals2, D2, acc2, rfl, by omega, by go_num, hTT.out, HWi.out.1, HWi.out.2.1, HWi.out.2.2⟩
    · have hkn : k = n := by omega
      subst hkn
      have hlt2 : decide (k < k) = false := decide_eq_false (by omega)
      obtain ⟨j, hj⟩ : ∃ j, k = j + 1 := ⟨k - 1, by omega⟩
      have hjk : j < k := by omega
      have hj0 : (0 : Int) ≤ (j : Int) := by omega
      have hj1 : (j : Int) < (k : Int) := by omega
      have hw1 : IntKind.i64.wrap ((k : Int) - 1) = (j : Int) := by rw [Go.IntWalk.i64_in _ (by omega)]; omega
      obtain ⟨l, hl⟩ : ∃ l, Ew one all BL k j = l := ⟨_, rfl⟩
      have hll : waysW one all BL = l := by
        rw [← hl]
        unfold waysW Ew
        rw [Hn.out, show k - 1 = j by omega]
      clear hj
      obtain ⟨E, hE⟩ : ∃ E, Ew one all BL k = E := ⟨_, rfl⟩
      rw [hE] at hW hl
      have hlen := hW.len hjk
      have hrow := hW.rows j hjk
      obtain ⟨pv, cv, ev⟩ := owns_form hrow
      rw [hl] at ev hlen
      obtain ⟨lj, hlj⟩ : ∃ lj, l.length = lj := ⟨_, rfl⟩
      rw [hlj] at ev hlen
      have hljb : lj ≤ 100000 := by omega
      have x5 : wr.cell? ⟨N + 5, 0, none⟩ = some (.slice (some ⟨N + 4, 0, none⟩) k k) := by rw [cell?_blk' hW.co]; rfl
      have x4 : wr.cell? ⟨N + 4, j, none⟩ = some (.slice pv lj cv) := by
        rw [cell?_blk' hW.ob, ← ev]
        rw [List.getElem?_toArray, List.getElem?_map, List.getElem?_range hjk]
        rfl
      have Hw := Lib.hid (And.intro hW (And.intro ev (And.intro hlj (And.intro hl hll))))
      clear hW ev hlj hl hll hE hrow hlen hlt
      go_wp2_with fail
      clear x5 x4
      obtain ⟨w9, hw9⟩ : ∃ w9, w9 = wr := ⟨_, rfl⟩
      subst hw9
      obtain ⟨C0, hC0⟩ : ∃ C0, w9.heap.size = C0 := ⟨_, rfl⟩
      go_loopg [12, 91] (lj + 1) (fun gg t12 t91 wi => ∃ (i : Nat) (v : Value) (ps : List Nat), gg = lj + 1 - i ∧ i ≤ lj ∧ t12 = v ∧ t91 = .int .i64 i ∧ ps.length = i ∧ wi.ownsRow C0 76 1 v ps.length (ptrs ps) ∧ (∀ (i' : Nat) (p : Nat) (a : Wy), ps[i']? = some p → l[i']? = some a → WayAt wi p a) ∧ Below C0 w9 wi)
      case atStart => exact ⟨0, _, [], rfl, Nat.zero_le _, rfl, rfl, rfl, World.ownsRow_nil _ _ _ _, (fun i' p a h => by simp at h), Below.refl _ _⟩
      case round =>
        obtain ⟨i, v, ps, rfl, hi, rfl, rfl, hps, hrow, hws, hbi⟩ := hrel
        have hi0 : (0 : Int) ≤ (i : Int) := by omega
        by_cases hil : i < lj
        · have hi1 : (i : Int) < (lj : Int) := by omega
          have hWi := Hw.out.1.still (by rw [hC0]; exact hbi)
          have hlE : l = E j := Hw.out.2.2.2.1.symm
          have hil2 : i < l.length := by rw [Hw.out.2.2.1]; exact hil
          have hel : ∃ gg cc, vals j = .slice (some ⟨gg, 0, none⟩) lj cc ∧ lj ≤ cc ∧ agg? wr gg (i * 3) 3 = some (stOf j l[i]).arr := by
            obtain ⟨gg, cc, q1, q2, _, q4⟩ := hWi.elem hjk (i := i) (by rw [← hlE]; exact hil2)
            simp only [← hlE] at q1 q2 q4
            rw [Hw.out.2.2.1] at q1 q2
            exact ⟨gg, cc, q1, q2, q4⟩
          obtain ⟨gg, cc, q1, q2, ag⟩ := hel
          rw [Hw.out.2.1] at q1
          cases q1
          have hla : l[i]? = some l[i] := List.getElem?_eq_getElem hil2
          obtain ⟨p, hgp, hwp⟩ := hWi.ways j l[i] hjk (by rw [← hlE]; exact List.getElem_mem hil2)
          generalize l[i] = a at ag hgp hwp hla
          have hlt3 : decide (i < lj) = true := decide_eq_true hil
          obtain ⟨st, hst⟩ : ∃ st, stOf j a = st := ⟨_, rfl⟩
          rw [hst] at ag hgp
          have HWi := Lib.hid (And.intro hWi (And.intro hwp (And.intro hgp (And.intro hla (And.intro hws (And.intro hbi hrow))))))
          obtain ⟨po, co, eo⟩ := owns_form hrow
          have Heo := Lib.hid eo
          rw [hps] at eo
          subst eo
          clear hWi hwp hgp hla hws hbi hlE hil2 hrow hil hst
          go_upto_region 22 with (fail)
          obtain ⟨SB, hSB⟩ : ∃ SB, wr.heap.size = SB := ⟨_, rfl⟩
          have hba := (Below.refl wr.heap.size wr).alloc (Nat.le_refl _) (.cells st.arr 122)
          have hst5 : (wr.alloc (.cells st.arr 122)).heap[SB]? = some (.cells st.arr 122 (0, 0)) := by rw [← hSB]; exact heap_alloc_new wr _
          have hm5 : MapV (wr.alloc (.cells st.arr 122)) (N + 2) (stM D) := (HWi.out.1.still hba).map
          have z3 : (wr.alloc (.cells st.arr 122)).cell? ⟨N + 3, 0, none⟩ = some (.map (some (N + 2))) := by rw [cell?_blk' (HWi.out.1.still hba).cb]; rfl
          have hrow5 := ownsRow_below HWi.out.2.2.2.2.2.2 hba
          have hbi5 : Below C0 w9 (wr.alloc (.cells st.arr 122)) := HWi.out.2.2.2.2.2.1.trans (hba.mono (by rw [← hC0]; exact HWi.out.2.2.2.2.2.1.size))
          have hws5 : ∀ (i' : Nat) (p : Nat) (a : Wy), ps[i']? = some p → l[i']? = some a → WayAt (wr.alloc (.cells st.arr 122)) p a := fun i' p a h1 h2 => (HWi.out.2.2.2.2.1 i' p a h1 h2).keep (WKeep.of_below hba)
          have hwp5 := HWi.out.2.1.keep (WKeep.of_below hba)
          have hgp := HWi.out.2.2.1
          have hla := HWi.out.2.2.2.1
          have hCs : C0 ≤ wr.heap.size := by rw [← hC0]; exact HWi.out.2.2.2.2.2.1.size
          have hrq : ∀ q, (Value.slice po ps.length co).ownBlock = some q → C0 ≤ q ∧ q < wr.heap.size := fun q hq => HWi.out.2.2.2.2.2.2.lt q (by rw [Heo.out]; exact hq)
          rw [hSB] at hCs hrq ⊢
          have hs5 : (wr.alloc (.cells st.arr 122)).heap.size = SB + 1 := by rw [World.size_alloc, hSB]
          clear HWi hba ag hSB
          generalize wr.alloc (.cells st.arr 122) = w5 at hst5 hm5 z3 hrow5 hbi5 hws5 hwp5 hs5 ⊢
          have a3 : agg? w5 SB 0 3 = some st.arr := by rw [agg?_blk' hst5 0 3 (by simp [St3.size_arr])]; simp [St3.arr, St3.cells]
          have hlk := run_lookSt hm5 st
          rw [hgp] at hlk
          simp only [ptrO] at hlk
          obtain ⟨i0, hi0', hz0, hz1, hz2'⟩ := info_parts info_wpb
          rw [Heo.out] at hrow5
          have HX := Lib.hid (And.intro hrow5 (And.intro hbi5 (And.intro hws5 (And.intro hwp5 (And.intro hla (And.intro hrq (And.intro hs5 hCs)))))))
          have Hrow : Hid ((w5.alloc (.cells #[.pointer (some ⟨p, 0, none⟩)] 76)).ownsRow C0 76 1 (.slice po i co) i (ptrs ps)) := Lib.hid (by have h1 := hrow5.alloc (.cells #[.pointer (some ⟨p, 0, none⟩)] 76); rwa [hps] at h1)
          have hbase : C0 ≤ (w5.alloc (.cells #[.pointer (some ⟨p, 0, none⟩)] 76)).heap.size := by rw [World.size_alloc, hs5]; omega
          have H1 : Hid (∀ u ∈ [Value.pointer (some ⟨p, 0, none⟩)], u.oneCell' = true) := Lib.hid (by simp [Value.oneCell'])
          clear hrow5 hbi5 hws5 hwp5 hla hrq hs5 hCs hm5 hst5 hgp
          go_upto_region 23 with (at_builtin; refine wpList_append_lies _ rfl (.tmp 95) (.tmp 99) 74 rfl C0 76 i0 (.pointer none) 1 8 Tryz.underlying74 hi0' hz0 hz1 hz2' rfl (by decide) (.slice po i co) i (ptrs ps) rfl Hrow.out ⟨w5.heap.size, 0, none⟩ 1 1 [.pointer (some ⟨p, 0, none⟩)] rfl rfl (World.news_of_block (cs := #[.pointer (some ⟨p, 0, none⟩)]) (heap_alloc_new _ _)) H1.out (by decide) (by unfold maxLen; omega) (by omega) hbase _ rfl ?_; intro g7 cap7 w7 hown7 hgrow7 hat7 hlt7)
          obtain ⟨hrow5, hbi5, hws5, hwp5, hla, hrq, hs5, hCs⟩ := HX.out
          have hq9 : ∀ q, (Value.slice po i co).ownBlock = some q → C0 ≤ q ∧ q < SB := fun q hq => hrq q (by rw [hps]; exact hq)
          have hb5 : Below w5.heap.size w5 (w5.alloc (.cells #[.pointer (some ⟨p, 0, none⟩)] 76)) := (Below.refl _ _).alloc (Nat.le_refl _) _
          have hb7 : Below C0 (w5.alloc (.cells #[.pointer (some ⟨p, 0, none⟩)] 76)) w7 := grown_below hgrow7 hbase fun q hq => (hq9 q hq).1
          have hb9 : Below C0 w9 w7 := (hbi5.trans (hb5.mono (by omega))).trans hb7
          have hk7 : WKeep w5 w7 := (WKeep.of_below hb5).trans (fun q c hq => by
            refine hgrow7.block q (Array.getElem?_eq_some_iff.1 hq).1 fun e => ?_
            obtain ⟨cur, hc⟩ := row_typP Hrow.out e.symm
            rw [hq] at hc
            simp only [Option.some.injEq, Obj.cells.injEq] at hc
            exact absurd hc.2.1 (by decide))
          have hws7 : ∀ (i' : Nat) (p' : Nat) (a' : Wy), (ps ++ [p])[i']? = some p' → l[i']? = some a' → WayAt w7 p' a' := fun i' p' a' h1 h2 => by
            rcases Nat.lt_or_ge i' ps.length with h3 | h3
            · rw [List.getElem?_append_left h3] at h1
              exact (hws5 i' p' a' h1 h2).keep hk7
            · have h4 : i' = i := by
                have := (List.getElem?_eq_some_iff.1 h1).1
                rw [List.length_append, List.length_singleton] at this
                omega
              subst h4
              rw [List.getElem?_append_right h3, hps, Nat.sub_self] at h1
              cases h1
              rw [hla] at h2
              cases h2
              exact hwp5.keep hk7
          have hrow7 : w7.ownsRow C0 76 1 (.slice (some ⟨g7, 0, none⟩) (i + 1) cap7) (ps ++ [p]).length (ptrs (ps ++ [p])) := by
            have e1 : ptrs (ps ++ [p]) = ptrs ps ++ [.pointer (some ⟨p, 0, none⟩)] := by unfold ptrs; rw [List.map_append]; rfl
            rw [e1, List.length_append, List.length_singleton, hps]
            exact hown7
          have HY := Lib.hid (And.intro hrow7 (And.intro hws7 hb9))
          clear hrow5 hbi5 hws5 hwp5 hla hrq hs5 hCs hq9 hb5 hb7 hb9 hk7 hws7 hrow7 HX hlk a3 z3 hown7 hgrow7 hat7 hlt7 Hrow H1 hbase
          go_wp2_with fail
          go_roundg (lj + 1 - (i + 1))
          case measure => omega
          case rel => exact ⟨i + 1, _, ps ++ [p], rfl, by omega, rfl, by go_num, by rw [List.length_append, List.length_singleton, hps], HY.out.1, HY.out.2.1, HY.out.2.2⟩
        · have hi2 : decide (i < lj) = false := decide_eq_false hil
          have hlE := Hw.out.2.2.1
          have hpl : ps.length = l.length := by omega
          obtain ⟨p1, g1, c1, ev1, hys⟩ := WysIn.of_row hrow hpl hws
          have hb9 : Below w.heap.size w wr := Hw.out.1.below.trans (hbi.mono (by rw [← hC0]; exact Hw.out.1.below.size))
          have HZ := Lib.hid (And.intro hys hb9)
          have Hl : Hid (l.length ≤ 100000) := Lib.hid (by omega)
          subst ev1
          clear hrow hws hbi hys hb9 hpl hil
          go_wp2_with fail
          go_ret
          rw [Hw.out.2.2.2.2]
          exact ⟨⟨p1, g1, c1, ps, rfl, HZ.out.1⟩, Hl.out, HZ.out.2⟩
end Go.Proofs.YtiijpbfkchokaaaGreat
namespace Go.Proofs.YtiijpbfkchokaaaGreat
open Go.ChangeShapes Go.WideShapes Go.ChangeAt Go.RowKit
attribute [local go_sem ↓] Go.wp_at_zero Go.wp_at_succ
def natsI (l : List Nat) : List Int := l.map fun x : Nat => (x : Int)
def chM (one : Option Nat → Nat × Int → Int → Int → Bk) (B : List (Nat × Int)) : Option (Wy × Int) → List Bk × Int × Int
  | none => ([], 0, 90)
  | some (z, l) => ((lnsW one B (natsI z.ats) none 1 2).getD [], l, 0)
def chR (P : Pm) (S : List Sh2) (L : List Nd) (s : List Nat) (tol ext : Int) (last : Bool) : List Bk × Int × Int :=
  if tryE P S L s tol ext = 0 then chM (oneP L P S s tol ext) (brkP L P s) (chooseW (oneP L P S s tol ext) (brkP L P s) last P.loose) else ([], 0, tryE P S L s tol ext)
structure ChPost (w : World) (r : List Bk × Int × Int) (e : Ending) (w' : World) : Prop where
  out : ∃ v, e = .returned (.tuple #[v, .int .i64 r.2.1, .int .i64 r.2.2]) ∧ w'.ownsRow w.heap.size 91 6 v r.1.length (r.1.flatMap Bk.cells)
  below : Below w.heap.size w w'
theorem pen_last {L : List Nd} {P : Pm} {s : List Nat} : penA (brkP L P s) ((brkP L P s).length - 1) ≤ -10000 := by
  unfold penA brkP
  rw [List.length_append, List.length_singleton, Nat.add_sub_cancel, List.getD_eq_getElem?_getD, List.getElem?_append_right (Nat.le_refl _), Nat.sub_self]
  exact Int.le_refl _
theorem brk_ok {L : List Nd} {P : Pm} {s : List Nat} (h : Items L 0 s) : BOk (brkP L P s) :=
  ⟨by simp [brkP], by have := brkP_pair (P := P) h; rwa [List.pairwise_map] at this, pen_last⟩
theorem PathW.len_le {one : Option Nat → Nat × Int → Int → Int → Bk} {all : Bool} {B : List (Nat × Int)} {o : Option Nat} {a : Wy} {ls : List Bk} (h : PathW one all B o a ls) : a.ats.length ≤ nextA o := by
  induction h with
  | nil => exact Nat.zero_le _
  | @cons o a ls i hi h ho hg ih =>
    have := preds_ge ho
    show (a.ats ++ [_]).length ≤ i + 1
    rw [List.length_append, List.length_singleton]
    omega
end Go.Proofs.YtiijpbfkchokaaaGreat
