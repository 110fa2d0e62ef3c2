/-
  Lines of chosen breaks: the program's lines.
-/
import Derived.Test.YtiijpbfkchokaaaGreatB21
import Derived.Test.YtiijpbfkchokaaaGreatB22
import Derived.Great.BuildSlice
namespace Go.Proofs.YtiijpbfkchokaaaGreat
open Go.ChangeShapes Go.WideShapes Go.ChangeAt Go.RowKit
attribute [local go_sem ↓] Go.wp_at_zero Go.wp_at_succ
def bsBk1 (parts : Array (Nat × Value)) : Sem Value := Instr.buildSlice 29 1 parts
@[go_sem ↓] theorem execOp_bsBk1 (ρ : Operand → Value) (dst : Option Tmp) (x : Array (Nat × Operand)) (ty : TypeId) (pos : String) (after : Array Edge) (guard : Option (Nat × Bool)) :
    execOp ρ { dst, op := .buildSlice 29 1 x, type := ty, pos, after, guard } = (do pure (.value (← bsBk1 (x.map fun (i, y) => (i, ρ y))))) := rfl
def Bk.zero : Bk := ⟨0, 0, 0, 0, 0, false⟩
theorem fill_bk1 (n : Bk) : Instr.fill (fun i => some (i * 6, 6)) ((Array.range (1 * 6)).map ((Value.agg Bk.zero.arr).cells[· % (Value.agg Bk.zero.arr).cells.size]!)) [(0, .agg n.arr)] = some n.arr := by kernel_rfl
theorem info_bkb : (Tryz.prog.info? 91).map (fun i => (i.zero, i.size, i.bytes)) = some (some (.agg Bk.zero.arr), 6, 48) := by kernel_rfl
theorem info_bk0 : (Tryz.prog.info? 91).map (fun i => (i.zero, i.size)) = some (some (.agg Bk.zero.arr), 6) := by kernel_rfl
@[go_sem] theorem run_bsBk1 (n : Bk) (w : World) : (bsBk1 #[(0, .agg n.arr)]).run Tryz.prog w = .ok (.slice (some ⟨w.heap.size, 0, none⟩) 1 1) (w.alloc (.cells n.arr 91)) := by
  obtain ⟨i, hi, hzz⟩ := Option.map_eq_some_iff.1 info_bk0
  simp only [Prod.mk.injEq] at hzz
  obtain ⟨hz, hs⟩ := hzz
  refine run_buildSlice w _ 91 1 _ n.arr i (.agg Bk.zero.arr) Tryz.underlying29 hi hz (by rw [hs]; decide) (by rw [hs]; decide) ?_
  rw [hs]
  exact fill_bk1 n
theorem bks_one (x : Bk) : ∀ u ∈ x.cells, u.oneCell' = true := by
  have := Bk.one x
  simp only [Bk.arr] at this
  simpa using this
theorem ZIn.below {w w' : World} {p : Option Addr} {g c : Nat} {l : List Int} (h : ZIn w p g c l) (hb : Below w.heap.size w w') : ZIn w' p g c l :=
  ⟨h.hp, h.cap, fun i hi => cell_below9 (h.at_ i hi) hb⟩
theorem grown_below {K : Nat} {W W' : World} {r : Option Nat} (hg : W.grownBy W' r) (hK : K ≤ W.heap.size) (hr : ∀ q, r = some q → K ≤ q) : Below K W W' :=
  ⟨hg.os, hg.tape, hg.output, hg.size, fun q h1 => hg.block q (by omega) (fun e => by have := hr q e.symm; omega)⟩
structure LinesPost (w : World) (r : Option (List Bk)) (e : Ending) (w' : World) : Prop where
  out : ∃ v ok, e = .returned (.tuple #[v, .bool ok]) ∧ ok = r.isSome ∧ ∀ l, r = some l → w'.ownsRow w.heap.size 91 6 v l.length (l.flatMap Bk.cells)
  below : Below w.heap.size w w'
theorem lns_hit (one : Option Nat → Nat × Int → Int → Int → Bk) {x : Nat × Int} {r : List (Nat × Int)} {t : List Int} {f : Option Nat} {line before : Int} : lnsW one (x :: r) ((x.1 : Int) :: t) f line before = (lnsW one r t (some x.1) (line + 1) (one f x line before).cls).map (one f x line before :: ·) := by
  rw [lnsW, if_pos rfl]
theorem lns_miss (one : Option Nat → Nat × Int → Int → Int → Bk) {x : Nat × Int} {r : List (Nat × Int)} {c : List Int} {f : Option Nat} {line before : Int} (h : ∀ y t, c = y :: t → y ≠ (x.1 : Int)) : lnsW one (x :: r) c f line before = if x.2 ≤ -10000 then none else lnsW one r c f line before := by
  cases c with
  | nil => rw [lnsW]
  | cons y t => rw [lnsW, if_neg (h y t rfl)]
theorem brkP_pair {L : List Nd} {P : Pm} {s : List Nat} (h : Items L 0 s) : ((brkP L P s).map (·.1)).Pairwise (· < ·) := by
  have hsub : ∀ (l : List Nat) (pr : Option Nat), ((brkF L P pr l).map (·.1)).Sublist l := by
    intro l
    induction l with
    | nil => intro pr; exact .slnil
    | cons y r ih =>
      intro pr
      unfold brkF
      split
      · split
        · exact (ih _).cons_cons y
        · exact (ih _).cons y
      · exact (ih _).cons y
  unfold brkP
  rw [List.map_append, List.pairwise_append]
  refine ⟨(items_pairwise h).sublist (hsub s none), by simp, fun a ha b hb => ?_⟩
  simp only [List.map_cons, List.map_nil, List.mem_singleton] at hb
  rw [hb]
  exact (h.lt a ((hsub s none).subset ha)).2
theorem brkP_len {L : List Nd} {P : Pm} {s : List Nat} : (brkP L P s).length ≤ s.length + 1 := by
  have h1 : ∀ (l : List Nat) (pr : Option Nat), (brkF L P pr l).length ≤ l.length := by
    intro l
    induction l with
    | nil => intro pr; exact Nat.le_refl _
    | cons y r ih =>
      intro pr
      unfold brkF
      split
      · split
        · rw [List.length_cons, List.length_cons]; exact Nat.succ_le_succ (ih _)
        · exact Nat.le_succ_of_le (ih _)
      · exact Nat.le_succ_of_le (ih _)
  unfold brkP
  rw [List.length_append, List.length_singleton]
  have := h1 s none
  omega
theorem brk_before {L : List Nd} {P : Pm} {s : List Nat} (h : Items L 0 s) {i j : Nat} {x y : Nat × Int} (hi : (brkP L P s)[i]? = some x) (hj : (brkP L P s)[j]? = some y) (hij : i < j) : x.1 ∈ s ∧ x.1 < y.1 := by
  have hp := brkP_pair (P := P) h
  rw [List.pairwise_iff_getElem] at hp
  have h1 := (List.getElem?_eq_some_iff.1 hi)
  have h2 := (List.getElem?_eq_some_iff.1 hj)
  obtain ⟨a1, a2⟩ := h1
  obtain ⟨b1, b2⟩ := h2
  have h3 := hp i j (by simpa using a1) (by simpa using b1) hij
  simp only [List.getElem_map, a2, b2] at h3
  refine ⟨?_, h3⟩
  have h4 := (brkP_mem (List.mem_of_getElem? hi)).1
  rcases List.mem_append.1 h4 with h5 | h5
  · exact h5
  · have h6 := (brkP_mem (List.mem_of_getElem? hj)).1
    have h7 := List.mem_singleton.1 h5
    rcases List.mem_append.1 h6 with h8 | h8
    · have := (h.lt _ h8).2; omega
    · have := List.mem_singleton.1 h8; omega
theorem one_cls (L : List Nd) (P : Pm) (S : List Sh2) (s : List Nat) (tol ext : Int) (f : Option Nat) (x : Nat × Int) (line before : Int) : -10 ≤ (oneP L P S s tol ext f x line before).cls ∧ (oneP L P S s tol ext f x line before).cls ≤ 10 := by
  unfold oneP oneB
  have := jud_bound ((lineT L P s f x.1).plus ⟨0, ext, 0, 0, 0, 0, 0, 0, 0⟩) (widP P S line).1
  simp only
  split <;> (simp only; omega)
set_option maxRecDepth 100000 in
set_option maxHeartbeats 8000000 in
theorem vlines (Y X mb B : Nat) (P : Pm) (vs : Nat → Value) (L : List Nd) (b off cap : Nat) (p0 : Option Addr) (s : List Nat) (g off2 : Nat) (S : List Sh2) (tol ext : Int) (hok : TryOk P S L s tol ext) (c : List Int) (pc : Option Addr) (gc cc : Nat) (hcl : c.length ≤ 100000000) (w : World) (h : TryIn w Y X mb B P vs L b off cap p0 s g off2 S tol ext) (hc : ZIn w pc gc cc c) :
    Calls Tryz.prog 30 #[.pointer (some ⟨Y, 0, none⟩), .slice pc c.length cc] w (LinesPost w (lnsW (oneP L P S s tol ext) (brkP L P s) c none 1 2)) := by
  obtain ⟨p2, c2, e2⟩ := owns_form (h.para.para.rows 2 (by decide))
  obtain ⟨p3, c3, e3⟩ := owns_form (h.para.para.rows 3 (by decide))
  obtain ⟨n, hn⟩ : ∃ n, (brkP L P s).length = n := ⟨_, rfl⟩
  have hna : (atsI (brkP L P s)).length = n := by rw [← hn]; simp [atsI]
  have hnp : (pensI (brkP L P s)).length = n := by rw [← hn]; simp [pensI]
  have hpa : pxN (s ++ [L.length]) (sumsP L s) (atsI (brkP L P s)) (pensI (brkP L P s)) 2 = n := hna
  have hpp : pxN (s ++ [L.length]) (sumsP L s) (atsI (brkP L P s)) (pensI (brkP L P s)) 3 = n := hnp
  rw [hpa] at e2
  rw [hpp] at e3
  have hnl : n ≤ 2001 := by
    rw [← hn]
    have := brkP_len (L := L) (P := P) (s := s)
    have := hok.items.len
    have := (checkC_zero hok.chk).1
    omega
  have HR : Hid (∀ W, Below w.heap.size w W → W.cell? ⟨Y, 0, none⟩ = some (.pointer (some ⟨X, 0, none⟩)) ∧ W.cell? ⟨X, 28, none⟩ = some (.slice p2 n c2) ∧ W.cell? ⟨X, 29, none⟩ = some (.slice p3 n c3)) := Lib.hid fun W hb => by
    have h9 := h.still hb
    refine ⟨h9.cell.1, ?_, ?_⟩
    · have := h9.para.para.cell 28 (vs 2) rfl
      rw [e2] at this
      exact this
    · have := h9.para.para.cell 29 (vs 3) rfl
      rw [e3] at this
      exact this
  have HK : Hid (∀ W, Below w.heap.size w W → ∀ k x, (brkP L P s)[k]? = some x → (∃ g2, p2 = some ⟨g2, 0, none⟩ ∧ n ≤ c2 ∧ W.cell? ⟨g2, k, none⟩ = some (.int .i64 x.1)) ∧ (∃ g3, p3 = some ⟨g3, 0, none⟩ ∧ n ≤ c3 ∧ W.cell? ⟨g3, k, none⟩ = some (.int .i64 x.2))) := Lib.hid fun W hb k x hx => by
    have h9 := h.still hb
    have hk : k < (brkP L P s).length := (List.getElem?_eq_some_iff.1 hx).1
    refine ⟨?_, ?_⟩
    · have hr9 := h9.para.para.rows 2 (by decide)
      rw [e2, hpa] at hr9
      obtain ⟨g9, q1, _, q3, q4⟩ := zin_get9 (l := atsI (brkP L P s)) (i := k) hr9 (by rw [hna, ← hn]; exact hk)
      refine ⟨g9, q1, q3, ?_⟩
      rw [q4]
      have : (atsI (brkP L P s))[k]? = some (x.1 : Int) := by unfold atsI; rw [List.getElem?_map, hx]; rfl
      rw [(List.getElem?_eq_some_iff.1 this).2]
    · have hr9 := h9.para.para.rows 3 (by decide)
      rw [e3, hpp] at hr9
      obtain ⟨g9, q1, _, q3, q4⟩ := zin_get9 (l := pensI (brkP L P s)) (i := k) hr9 (by rw [hnp, ← hn]; exact hk)
      refine ⟨g9, q1, q3, ?_⟩
      rw [q4]
      have : (pensI (brkP L P s))[k]? = some x.2 := by unfold pensI; rw [List.getElem?_map, hx]; rfl
      rw [(List.getElem?_eq_some_iff.1 this).2]
  have HO : Hid (∀ W, Below w.heap.size w W → ∀ (f : Option Nat) (k : Nat) (z : Nat × Int) (line before : Int), (brkP L P s)[k]? = some z → (∀ x, f = some x → x ∈ s ∧ x < z.1) → (1 ≤ line ∧ line ≤ 1000000) → (-10 ≤ before ∧ before ≤ 10) → Calls Tryz.prog 55 #[.pointer (some ⟨Y, 0, none⟩), .int .i64 (fI f), .int .i64 k, .int .i64 line, .int .i64 before] W fun e w' => e = .returned (.agg (oneP L P S s tol ext f z line before).arr) ∧ Below W.heap.size W w') := Lib.hid fun W hb f k z line before hz hf hl hbf => vone Y X mb B P vs L b off cap p0 s g off2 S tol ext hok f k z hz hf line before hl hbf W (h.still hb)
  have HC : Hid (∀ W, Below w.heap.size w W → ZIn W pc gc cc c) := Lib.hid fun W hb => hc.below hb
  have hcc := hc.cap
  obtain ⟨one, hone⟩ : ∃ one, oneP L P S s tol ext = one := ⟨_, rfl⟩
  have Hcls : Hid (∀ f z line before, -10 ≤ (one f z line before).cls ∧ (one f z line before).cls ≤ 10) := Lib.hid fun f z line before => by rw [← hone]; exact one_cls L P S s tol ext f z line before
  rw [hone] at HO ⊢
  obtain ⟨BL, hBL⟩ : ∃ BL, brkP L P s = BL := ⟨_, rfl⟩
  have Hbb : Hid (∀ (i j : Nat) (x y : Nat × Int), BL[i]? = some x → BL[j]? = some y → i < j → x.1 ∈ s ∧ x.1 < y.1) := Lib.hid fun i j x y hi hj hij => by rw [← hBL] at hi hj; exact brk_before hok.items hi hj hij
  rw [hBL] at HK HO hn ⊢
  have Hn := Lib.hid hn
  obtain ⟨y0, y28, y29⟩ := HR.out w (Below.refl _ _)
  obtain ⟨nc, hnc⟩ : ∃ nc, c.length = nc := ⟨_, rfl⟩
  rw [hnc] at hcl hcc ⊢
  have Hnc := Lib.hid hnc
  clear h hc hok hn hna hnp hpa hpp e2 e3 hone hBL hnc
  go_enter Tryz.func30, Tryz.ntmps30
  go_wp2_with fail
  clear y0 y28 y29
  go_loopg [6, 7, 8, 9, 21] (n + 1) (fun gg t6 t7 t8 t9 t21 wr => ∃ (k j : Nat) (acc : List Bk) (v : Value) (f : Option Nat) (cl : Int), gg = n + 1 - k ∧ k ≤ n ∧ j ≤ nc ∧ acc.length ≤ k ∧ t6 = v ∧ t7 = .int .i64 j ∧ t8 = .int .i64 (fI f) ∧ t9 = .int .i64 cl ∧ t21 = .int .i64 k ∧ (-10 ≤ cl ∧ cl ≤ 10) ∧ (∀ x, f = some x → ∃ i q, i < k ∧ BL[i]? = some (x, q)) ∧ lnsW one BL c none 1 2 = (lnsW one (BL.drop k) (c.drop j) f ((acc.length : Int) + 1) cl).map (acc ++ ·) ∧ wr.ownsRow w.heap.size 91 6 v acc.length (acc.flatMap Bk.cells) ∧ Below w.heap.size w wr)
  case atStart => exact ⟨0, 0, [], _, none, 2, rfl, Nat.zero_le _, Nat.zero_le _, Nat.le_refl _, rfl, rfl, rfl, rfl, rfl, by omega, (fun x hx => by cases hx), by simp [List.drop_zero], World.ownsRow_nil _ _ _ _, Below.refl _ _⟩
  case round =>
    obtain ⟨k, j, acc, v, f, cl, rfl, hk, hj, hak, rfl, rfl, rfl, rfl, rfl, hcl9, hf, hln, hrow, hb⟩ := hrel
    obtain ⟨po, co, eo⟩ := owns_form hrow
    have Hln := Lib.hid hln
    have Hf := Lib.hid hf
    have Hrow := Lib.hid hrow
    have HB := Lib.hid hb
    have hk0 : (0 : Int) ≤ (k : Int) := by omega
    have hj0 : (0 : Int) ≤ (j : Int) := by omega
    subst eo
    clear hln hf hrow hb
    by_cases hlt : k < n
    · have hk1 : (k : Int) < (n : Int) := by omega
      obtain ⟨z, hz⟩ : ∃ z, BL[k]? = some z := ⟨_, List.getElem?_eq_getElem (by rw [Hn.out]; exact hlt)⟩
      obtain ⟨⟨g2, hg2, hc2, cg2⟩, ⟨g3, hg3, hc3, cg3⟩⟩ := HK.out _ HB.out k z hz
      subst hg2
      subst hg3
      obtain ⟨a, q⟩ := z
      simp only at cg2 cg3
      have hdr : BL.drop k = (a, q) :: BL.drop (k + 1) := by
        have hk9 : k < BL.length := by rw [Hn.out]; exact hlt
        rw [List.drop_eq_getElem_cons hk9]
        congr 1
        exact (List.getElem?_eq_some_iff.1 hz).2
      have Hdr := Lib.hid hdr
      have Hz := Lib.hid hz
      obtain ⟨mt, hmt⟩ : ∃ mt, (decide (j < nc) && (c.getD j 0 == (a : Int))) = mt := ⟨_, rfl⟩
      have Hmt := Lib.hid hmt
      have hlt2 : decide (k < n) = true := decide_eq_true hlt
      clear hz hdr hmt hlt
      go_upto_region 6 with (fail)
      go_cut [37] from 26 to 37 (fun s37 wx => s37 = .bool mt ∧ wr = wx)
      case first =>
        by_cases hjn : j < nc
        · have hj1 : (j : Int) < (nc : Int) := by omega
          have hj2 : decide (j < nc) = true := decide_eq_true hjn
          have hcz := HC.out _ HB.out
          have hjc : j < c.length := by rw [Hnc.out]; exact hjn
          have cj := hcz.at_ j hjc
          obtain rfl := hcz.hp (by intro e; rw [e] at hjc; simp at hjc)
          have e1 : (c[j] == (a : Int)) = mt := by rw [← Hmt.out]; simp [hjn, List.getElem?_eq_getElem hjc]
          generalize c[j] = y at cj e1
          clear hcz hjn hjc
          go_wp2_with fail
          go_meet
          exact ⟨rfl, rfl⟩
        · have hj2 : decide (j < nc) = false := decide_eq_false hjn
          have e1 : mt = false := by rw [← Hmt.out]; simp [hjn]
          subst e1
          clear hjn
          go_wp2_with fail
          go_meet
          exact ⟨rfl, rfl⟩
      case rest =>
        obtain ⟨rfl, rfl⟩ := hcut
        cases hb9 : mt
        case true =>
          subst hb9
          have hm := Hmt.out
          simp only [Bool.and_eq_true, decide_eq_true_eq, beq_iff_eq] at hm
          obtain ⟨hjn, hca⟩ := hm
          have hjc : j < c.length := by rw [Hnc.out]; exact hjn
          have hcd : c.drop j = (a : Int) :: c.drop (j + 1) := by
            rw [List.drop_eq_getElem_cons hjc]
            congr 1
            rw [← hca]
            simp [List.getElem?_eq_getElem hjc]
          have hal : (acc.length : Int) + 1 ≤ 1000000 := by omega
          obtain ⟨x, hx⟩ : ∃ x, one f (a, q) ((acc.length : Int) + 1) cl = x := ⟨_, rfl⟩
          have HOn := HO.out wr HB.out f k (a, q) ((acc.length : Int) + 1) cl Hz.out (fun y hy => by
            obtain ⟨i, q9, hi, hiz⟩ := Hf.out y hy
            exact Hbb.out i k (y, q9) (a, q) hiz Hz.out hi) (by omega) hcl9
          rw [hx] at HOn
          have HOn2 := Lib.hid HOn
          have hxc : -10 ≤ x.cls ∧ x.cls ≤ 10 := by rw [← hx]; exact Hcls.out _ _ _ _
          have Hln2 : Hid (lnsW one BL c none 1 2 = (lnsW one (BL.drop (k + 1)) (c.drop (j + 1)) (some a) (((acc ++ [x]).length : Int) + 1) x.cls).map ((acc ++ [x]) ++ ·)) := Lib.hid (by
            rw [Hln.out, Hdr.out, hcd]
            have := lns_hit one (x := (a, q)) (r := BL.drop (k + 1)) (t := c.drop (j + 1)) (f := f) (line := (acc.length : Int) + 1) (before := cl)
            simp only at this
            rw [this, hx, Option.map_map, List.length_append, List.length_singleton]
            have e9 : (((acc.length + 1 : Nat) : Int)) + 1 = (acc.length : Int) + 1 + 1 := by omega
            rw [e9]
            congr 1
            funext l
            simp)
          clear hx HOn Hln hca hcd hjc Hmt cg3
          go_upto_region 8 with (go_at_call 55; refine HOn2.out.mono ?_; rintro e w3 ⟨rfl, hb3⟩)
          have hb4 := (Below.refl w3.heap.size w3).alloc (Nat.le_refl _) (.cells x.arr 91)
          obtain ⟨V, hV⟩ : ∃ V, w3.heap.size = V := ⟨_, rfl⟩
          have hx4 : BkAt (w3.alloc (.cells x.arr 91)) V x := by rw [← hV]; exact heap_alloc_new w3 _
          have hV1 : wr.heap.size ≤ V := by rw [← hV]; exact hb3.size
          have hb4' := hb3.trans (hb4.mono hb3.size)
          have hB4 := HB.out.trans (hb4'.mono HB.out.size)
          have hrow4 := ownsRow_below Hrow.out hb4'
          have hrl : ∀ q, (Value.slice po acc.length co).ownBlock = some q → w.heap.size ≤ q ∧ q < wr.heap.size := fun q hq => Hrow.out.lt q hq
          rw [hV]
          have ax := hx4.agg
          have Hx4 := Lib.hid hx4
          have HB4 := Lib.hid hB4
          have Hrl := Lib.hid hrl
          clear hV hb4 hb4' hB4 hb3 HOn2 hrl hx4 HB Hrow
          generalize w3.alloc (.cells x.arr 91) = w4 at Hx4 HB4 hrow4 ax ⊢
          obtain ⟨i0, hi0', hz0, hz1, hz2'⟩ := info_parts info_bkb
          have Hrow4 := Lib.hid (hrow4.alloc (.cells x.arr 91))
          have H1 := Lib.hid (bks_one x)
          have hbase : w.heap.size ≤ (w4.alloc (.cells x.arr 91)).heap.size := by rw [World.size_alloc]; exact Nat.le_succ_of_le HB4.out.size
          clear hrow4
          go_upto_region 9 with (at_builtin; refine wpList_append_lies _ rfl (.tmp 46) (.tmp 48) 29 rfl w.heap.size 91 i0 (.agg Bk.zero.arr) 6 48 Tryz.underlying29 hi0' hz0 hz1 hz2' rfl (by decide) (.slice po acc.length co) acc.length (acc.flatMap Bk.cells) rfl Hrow4.out ⟨w4.heap.size, 0, none⟩ 1 1 x.cells rfl rfl (World.news_of_block (cs := x.cells.toArray) (heap_alloc_new _ _)) H1.out (by decide) (by unfold maxLen; omega) (by omega) hbase _ rfl ?_; intro g5 cap5 w5 hown5 hgrow5 hat5 hlt5)
          have hb5 : Below w.heap.size (w4.alloc (.cells x.arr 91)) w5 := grown_below hgrow5 hbase fun q hq => (Hrl.out q hq).1
          have hB5 := HB4.out.trans (((Below.refl w4.heap.size w4).alloc (Nat.le_refl _) (.cells x.arr 91)).mono HB4.out.size)
          have HB5 := Lib.hid (hB5.trans hb5)
          have hx5 : BkAt w5 V x := (hgrow5.block V (by rw [World.size_alloc]; exact Nat.lt_succ_of_lt Hx4.out.lt) (fun e => by have := (Hrl.out V e.symm).2; omega)).trans ((Below.heap_alloc _ _ _ Hx4.out.lt).trans Hx4.out)
          have y2 := hx5.cell 2 _ rfl
          have Hrow5 : Hid (w5.ownsRow w.heap.size 91 6 (.slice (some ⟨g5, 0, none⟩) (acc.length + 1) cap5) (acc ++ [x]).length ((acc ++ [x]).flatMap Bk.cells)) := Lib.hid (by
            rw [List.length_append, List.length_singleton, List.flatMap_append]
            simpa using hown5)
          clear hown5 hgrow5 hat5 hlt5 hb5 hB5 hx5 ax Hrow4 H1 hbase Hx4 HB4 hi0' hz0 hz1 hz2'
          refine Rest.region follows ?_
          refine Rest.tame 5 (fun W => w5.drew = W) (by kernel_rfl) rfl ?_
          simp only [Nat.reduceSub, List.drop_zero, List.take_succ_cons, List.take_zero]
          iterate 5 first
            | (refine TW.cons_n rfl _ (by intro wT hT R hR K hK; simp only [Act.put, lsA, lsB, lsC] at hK; subst hT; have y3 : w5.drew.cell? ⟨V, 2, none⟩ = some (.int .i64 x.cls) := y2; go_step; exact hK _ _ (hR _ rfl)) ?_; try simp only [Act.put, lsA, lsB, lsC])
          refine TW.nil fun w6 h6 => ?_
          subst h6
          refine Rest.done ?_
          have hk9 : k + 1 ≤ n := by omega
          have hal2 : (acc ++ [x]).length ≤ k + 1 := by rw [List.length_append, List.length_singleton]; omega
          go_wp2_with fail
          go_roundg (n + 1 - (k + 1))
          case measure => omega
          case rel => exact ⟨k + 1, j + 1, acc ++ [x], _, some a, x.cls, rfl, hk9, hjn, hal2, rfl, by go_num, rfl, rfl, by go_num, hxc, (fun y hy => by
            cases hy
            exact ⟨k, q, by omega, Hz.out⟩), Hln2.out, ownsRow_same Hrow5.out fun _ _ _ => rfl, HB5.out.drew⟩
        case false =>
          subst hb9
          have hm : ∀ y t, c.drop j = y :: t → y ≠ (a : Int) := fun y t hyt e => by
            have hjc : j < c.length := by
              rcases Nat.lt_or_ge j c.length with h1 | h1
              · exact h1
              · rw [List.drop_eq_nil_of_le h1] at hyt; cases hyt
            rw [List.drop_eq_getElem_cons hjc] at hyt
            have h1 := Hmt.out
            have h2 : c.getD j 0 = (a : Int) := by
              rw [← e, ← (List.cons.inj hyt).1]
              simp [List.getElem?_eq_getElem hjc]
            rw [h2, show decide (j < nc) = true from decide_eq_true (by rw [← Hnc.out]; exact hjc)] at h1
            simp at h1
          have hms := lns_miss one (x := (a, q)) (r := BL.drop (k + 1)) (c := c.drop j) (f := f) (line := (acc.length : Int) + 1) (before := cl) hm
          obtain ⟨y0, y28, y29⟩ := HR.out _ HB.out
          by_cases hq : q ≤ -10000
          · have hln2 : lnsW one BL c none 1 2 = none := by
              rw [Hln.out, Hdr.out, hms, if_pos hq]; rfl
            have Hln2 := Lib.hid hln2
            have hq2 : decide (q ≤ -10000) = true := decide_eq_true hq
            clear hms hm hln2 hq
            go_wp2_with fail
            go_ret2
            exact ⟨⟨.slice none 0 0, false, rfl, by rw [Hln2.out]; rfl, fun l hl => by rw [Hln2.out] at hl; cases hl⟩, HB.out⟩
          · have Hln2 : Hid (lnsW one BL c none 1 2 = (lnsW one (BL.drop (k + 1)) (c.drop j) f ((acc.length : Int) + 1) cl).map (acc ++ ·)) := Lib.hid (by
              rw [Hln.out, Hdr.out, hms, if_neg hq])
            have hq2 : decide (q ≤ -10000) = false := decide_eq_false hq
            have hk9 : k + 1 ≤ n := by omega
            clear hms hm hq Hln
            go_wp2_with fail
            go_roundg (n + 1 - (k + 1))
            case measure => omega
            case rel => exact ⟨k + 1, j, acc, _, f, cl, rfl, hk9, hj, by omega, rfl, rfl, rfl, rfl, by go_num, hcl9, (fun x hx => by
              obtain ⟨i, q9, hi, hiz⟩ := Hf.out x hx
              exact ⟨i, q9, by omega, hiz⟩), Hln2.out, Hrow.out, HB.out⟩
    · have hlt2 : decide (k < n) = false := decide_eq_false hlt
      have hkn : k = n := by omega
      have hdr : BL.drop k = [] := List.drop_eq_nil_of_le (by rw [Hn.out]; omega)
      have Hln2 : Hid (lnsW one BL c none 1 2 = if j = nc then some acc else none) := Lib.hid (by
        rw [Hln.out, hdr]
        have h1 : lnsW one [] (c.drop j) f ((acc.length : Int) + 1) cl = if (c.drop j).isEmpty then some [] else none := by
          cases c.drop j <;> rfl
        rw [h1]
        by_cases hjn : j = nc
        · rw [if_pos hjn, List.drop_eq_nil_of_le (by rw [Hnc.out]; omega)]; simp
        · rw [if_neg hjn]
          have : c.drop j ≠ [] := by
            intro e
            have := congrArg List.length e
            rw [List.length_drop, Hnc.out] at this
            simp at this
            omega
          have h2 : (c.drop j).isEmpty = false := by
            cases h3 : c.drop j with
            | nil => exact absurd h3 this
            | cons => rfl
          rw [h2]; rfl)
      clear Hln hlt hdr hkn
      by_cases hjn : j = nc
      · have h2 : (j == nc) = true := by simpa using hjn
        have h3 : ((j : Int) == (nc : Int)) = true := by rw [beq_iff_eq]; omega
        have Hln3 := Lib.hid (Hln2.out.trans (if_pos hjn))
        clear hjn
        go_wp2_with fail
        go_ret2
        exact ⟨⟨.slice po acc.length co, true, rfl, by rw [Hln3.out]; rfl, fun l hl => by rw [Hln3.out] at hl; cases hl; exact Hrow.out⟩, HB.out⟩
      · have h2 : (j == nc) = false := by simpa using hjn
        have h3 : ((j : Int) == (nc : Int)) = false := by rw [beq_eq_false_iff_ne]; omega
        have Hln3 := Lib.hid (Hln2.out.trans (if_neg hjn))
        clear hjn
        go_wp2_with fail
        go_ret2
        exact ⟨⟨.slice po acc.length co, false, rfl, by rw [Hln3.out]; rfl, fun l hl => by rw [Hln3.out] at hl; cases hl⟩, HB.out⟩
end Go.Proofs.YtiijpbfkchokaaaGreat
namespace Go.Proofs.YtiijpbfkchokaaaGreat
open Go.ChangeShapes Go.WideShapes Go.ChangeAt Go.RowKit
theorem tryE_zero {P : Pm} {S : List Sh2} {L : List Nd} {s : List Nat} {tol ext : Int} (hs : checkC L = 0 → Items L 0 s) (h : tryE P S L s tol ext = 0) : TryOk P S L s tol ext := by
  unfold tryE at h
  split at h
  · rename_i h1
    split at h
    · cases h
    · rename_i h2
      unfold opE at h1
      split at h1
      · rename_i h3
        unfold paC at h1
        split at h1
        · rename_i h4
          exact ⟨h3, h4, hs h4, by omega, by omega⟩
        · rename_i h4; exact absurd h1 h4
      · rename_i h3; exact absurd h1 h3
  · rename_i h1; exact absurd h h1
end Go.Proofs.YtiijpbfkchokaaaGreat
