/-
  (*page.sheet).grow, .deep, .flex: numbers of a page so far.
-/
import Derived.Test.YtomehdepjenilaaGreatH0
import Derived.Test.YtomehdepjenilaaGreatH2
import Derived.Test.YtomehdepjenilaaGreatS4
import Derived.RegionTactic
import Derived.Deep.AppendLies
set_option maxRecDepth 100000
set_option maxHeartbeats 8000000
namespace Go.Proofs.YtomehdepjenilaaGreat
open Go.ChangeShapes Go.WideShapes Go.ChangeAt Go.RowKit
def growT (t : Tt) (x : Int) : Tt := { t with nat := wrap64 (t.nat + x) }
def flexT (t : Tt) (g : Gl) : Tt :=
  let t1 := t.setS g.so.toNat (wrap64 (t.st g.so.toNat + g.str))
  t1.setH g.ho.toNat (wrap64 (t1.sh g.ho.toNat + g.shr))
abbrev ScAt (w : World) (S : Nat) (c : Sc) : Prop := Cb w S c.arr 98
def growC (c : Sc) (x : Int) : Sc := { c with t := growT c.t (wrap64 (c.depth + x)), depth := 0 }
def deepC (c : Sc) (d m : Int) : Sc := if m < d then { c with t := growT c.t (wrap64 (d - m)), depth := m } else { c with depth := d }
def flexC (c : Sc) (g : Gl) : Sc := { c with t := flexT c.t g }
theorem sc_get_st (c : Sc) : ∀ j, j ≤ 3 → c.arr[5 + j]? = some (.int .i64 (c.t.st j))
  | 0, _ | 1, _ | 2, _ | 3, _ => rfl
theorem sc_get_sh (c : Sc) : ∀ j, j ≤ 3 → c.arr[9 + j]? = some (.int .i64 (c.t.sh j))
  | 0, _ | 1, _ | 2, _ | 3, _ => rfl
theorem sc_set_st (c : Sc) (x : Int) : ∀ j, j ≤ 3 → c.arr.setIfInBounds (5 + j) (.int .i64 x) = ({ c with t := c.t.setS j x } : Sc).arr
  | 0, _ | 1, _ | 2, _ | 3, _ => rfl
theorem sc_set_sh (c : Sc) (x : Int) : ∀ j, j ≤ 3 → c.arr.setIfInBounds (9 + j) (.int .i64 x) = ({ c with t := c.t.setH j x } : Sc).arr
  | 0, _ | 1, _ | 2, _ | 3, _ => rfl
structure ShPost (w : World) (S : Nat) (c : Sc) (e : Ending) (w' : World) : Prop where
  ret : e = .returned (.tuple #[])
  at_ : ScAt w' S c
  frm : Frm (· = S) w w'
theorem sgrow (S : Nat) (c : Sc) (x : Int) (W : World) (h : ScAt W S c) : Calls Tryz.prog 102 #[.pointer (some ⟨S, 0, none⟩), .int .i64 x] W (ShPost W S (growC c x)) := by
  have c4 := h.cell 4 _ (Sc.get4 c)
  have c13 := h.cell 13 _ (Sc.get13 c)
  have f4 := h.frozen 4
  go_enter Tryz.func102, Tryz.ntmps102
  go_wp2_with fail
  go_region
  have h2 : ScAt (W.setCell ⟨S, 4, none⟩ (.int .i64 (wrap64 (c.t.nat + wrap64 (c.depth + x))))).drew S { c with t := growT c.t (wrap64 (c.depth + x)) } := h.set 4 _ rfl
  have F2 : Frm (· = S) W (W.setCell ⟨S, 4, none⟩ (.int .i64 (wrap64 (c.t.nat + wrap64 (c.depth + x))))).drew := ((Frm.refl _ _).set1 4 _).drew
  clear h c4 c13 f4
  generalize (W.setCell ⟨S, 4, none⟩ (.int .i64 (wrap64 (c.t.nat + wrap64 (c.depth + x))))).drew = W2 at h2 F2 ⊢
  have c13 := h2.cell 13 _ (Sc.get13 _)
  have f13 := h2.frozen 13
  go_wp2_with fail
  exact ⟨rfl, _, results_none rfl _ _ _, ⟨rfl, h2.set 13 _ rfl, F2.set1 13 _⟩⟩
theorem sdeep (S : Nat) (c : Sc) (d m : Int) (W : World) (h : ScAt W S c) : Calls Tryz.prog 104 #[.pointer (some ⟨S, 0, none⟩), .int .i64 d, .int .i64 m] W (ShPost W S (deepC c d m)) := by
  have c13 := h.cell 13 _ (Sc.get13 c)
  have f13 := h.frozen 13
  go_enter Tryz.func104, Tryz.ntmps104
  go_upto_region 1 with (fail)
  have h2 : ScAt (W.setCell ⟨S, 13, none⟩ (.int .i64 d)) S { c with depth := d } := h.set 13 _ rfl
  have F2 : Frm (· = S) W (W.setCell ⟨S, 13, none⟩ (.int .i64 d)) := (Frm.refl _ _).set1 13 _
  clear h c13 f13
  generalize W.setCell ⟨S, 13, none⟩ (.int .i64 d) = W2 at h2 F2 ⊢
  by_cases hd : m < d
  · have Hp := Lib.hid (show deepC c d m = { c with t := growT c.t (wrap64 (d - m)), depth := m } by unfold deepC; rw [if_pos hd])
    have h1 : decide (d > m) = true := decide_eq_true hd
    have c4 := h2.cell 4 _ (Sc.get4 _)
    have f4 := h2.frozen 4
    go_upto_region 3 with (fail)
    have h3 : ScAt (W2.setCell ⟨S, 4, none⟩ (.int .i64 (wrap64 (c.t.nat + wrap64 (d - m))))) S { c with t := growT c.t (wrap64 (d - m)), depth := d } := h2.set 4 _ rfl
    have F3 : Frm (· = S) W (W2.setCell ⟨S, 4, none⟩ (.int .i64 (wrap64 (c.t.nat + wrap64 (d - m))))) := F2.set1 4 _
    clear h2 F2 c4 f4
    generalize W2.setCell ⟨S, 4, none⟩ (.int .i64 (wrap64 (c.t.nat + wrap64 (d - m)))) = W3 at h3 F3 ⊢
    have c13 := h3.cell 13 _ (Sc.get13 _)
    have f13 := h3.frozen 13
    go_wp2_with fail
    exact ⟨rfl, _, results_none rfl _ _ _, ⟨rfl, by rw [Hp.out]; exact h3.set 13 _ rfl, F3.set1 13 _⟩⟩
  · have Hp := Lib.hid (show deepC c d m = { c with depth := d } by unfold deepC; rw [if_neg hd])
    have h1 : decide (d > m) = false := decide_eq_false hd
    go_wp2_with fail
    exact ⟨rfl, _, results_none rfl _ _ _, ⟨rfl, by rw [Hp.out]; exact h2, F2⟩⟩
theorem sh_setS9 (t : Tt) (j i : Nat) (x : Int) : (t.setS j x).sh i = t.sh i := sh_setS _ _ _ _
theorem sflex (S : Nat) (c : Sc) (g : Gl) (W : World) (h : ScAt W S c) (hs : 0 ≤ g.so ∧ g.so ≤ 3) (hh : 0 ≤ g.ho ∧ g.ho ≤ 3) : Calls Tryz.prog 103 #[.pointer (some ⟨S, 0, none⟩), .agg g.arr] W (ShPost W S (flexC c g)) := by
  have hlt := h.lt
  obtain ⟨j, hj⟩ : ∃ j : Nat, g.so = (j : Int) := ⟨g.so.toNat, by omega⟩
  obtain ⟨i, hi⟩ : ∃ i : Nat, g.ho = (i : Int) := ⟨g.ho.toNat, by omega⟩
  have hj3 : j ≤ 3 := by omega
  have hi3 : i ≤ 3 := by omega
  have hj4 : (0 : Int) ≤ (j : Int) := by omega
  have hj5 : (j : Int) < 4 := by omega
  have hi4 : (0 : Int) ≤ (i : Int) := by omega
  have hi5 : (i : Int) < 4 := by omega
  have Hp := Lib.hid (show flexC c g = { c with t := (c.t.setS j (wrap64 (c.t.st j + g.str))).setH i (wrap64 (c.t.sh i + g.shr)) } by unfold flexC flexT; simp only [hj, hi, Int.toNat_natCast, sh_setS9])
  have dG := Cb.new W g.arr 23
  have h1 := h.alloc (.cells g.arr 23)
  have F1 : Frm (· = S) W (W.alloc (.cells g.arr 23)) := (Frm.refl _ _).alloc _
  have hne : W.heap.size ≠ S := by omega
  have Hj := Lib.hid hj
  have Hi := Lib.hid hi
  clear hj hi hs hh h
  go_enter Tryz.func103, Tryz.ntmps103
  go_upto_region 1 with (fail)
  generalize W.alloc (.cells g.arr 23) = W1 at dG h1 F1 ⊢
  generalize W.heap.size = X at dG hne ⊢
  have x1 := dG.cell 1 _ (Gl.get1 g)
  have x3 : W1.cell? ⟨X, 3, none⟩ = some (.int .i64 (j : Nat)) := by rw [← Hj.out]; exact dG.cell 3 _ (Gl.get3 g)
  have cj : W1.cell? ⟨S, 5 + j, none⟩ = some (.int .i64 (c.t.st j)) := h1.cell (5 + j) _ (sc_get_st _ j hj3)
  have fj := h1.frozen (5 + j)
  go_wp2_with fail
  go_region
  have h2 : ScAt (W1.setCell ⟨S, 5 + j, none⟩ (.int .i64 (wrap64 (c.t.st j + g.str)))).drew S { c with t := c.t.setS j (wrap64 (c.t.st j + g.str)) } := h1.set (5 + j) _ (sc_set_st _ _ j hj3)
  have d2 : Cb (W1.setCell ⟨S, 5 + j, none⟩ (.int .i64 (wrap64 (c.t.st j + g.str)))).drew X g.arr 23 := dG.other hne _
  have F2 : Frm (· = S) W (W1.setCell ⟨S, 5 + j, none⟩ (.int .i64 (wrap64 (c.t.st j + g.str)))).drew := (F1.set1 (5 + j) _).drew
  clear h1 F1 dG x1 x3 cj fj
  generalize (W1.setCell ⟨S, 5 + j, none⟩ (.int .i64 (wrap64 (c.t.st j + g.str)))).drew = W2 at h2 d2 F2 ⊢
  have x2 := d2.cell 2 _ (Gl.get2 g)
  have x4 : W2.cell? ⟨X, 4, none⟩ = some (.int .i64 (i : Nat)) := by rw [← Hi.out]; exact d2.cell 4 _ (Gl.get4 g)
  have ci : W2.cell? ⟨S, 9 + i, none⟩ = some (.int .i64 (c.t.sh i)) := by rw [← sh_setS9 c.t j i (wrap64 (c.t.st j + g.str))]; exact h2.cell (9 + i) _ (sc_get_sh _ i hi3)
  have fi := h2.frozen (9 + i)
  go_wp2_with fail
  go_region
  refine ⟨rfl, _, results_none rfl _ _ _, ⟨rfl, ?_, (F2.set1 (9 + i) _).drew⟩⟩
  rw [Hp.out]
  exact h2.set (9 + i) _ (sc_set_sh _ _ i hi3)
structure Rw where
  list : List Nd
  ins : List Tk
  body : Bool
  box : Bool
  goal : Int
  t : Tt
  depth : Int
  height : Int → Option Int
  closed : Int → Bool
  pens : Int
  bat : Int
  bcost : Int
  bsome : Bool
  last : Nd
def growR (R : Rw) (x : Int) : Rw := { R with t := growT R.t (wrap64 (R.depth + x)), depth := 0 }
def deepR (R : Rw) (d m : Int) : Rw := if m < d then { R with t := growT R.t (wrap64 (d - m)), depth := m } else { R with depth := d }
def flexR (R : Rw) (g : Gl) : Rw := { R with t := flexT R.t g }
def putR (R : Rw) (X : List Nd) : Rw := { R with list := R.list ++ X, last := X.headD Nd.zero }
def intF (f : Int → Option Int) : Int → Option Value := fun a => (f a).map fun x => .int .i64 x
def boolF (f : Int → Bool) : Int → Option Value := fun a => if f a then some (.bool true) else none
def blkA (p : Option Addr) : Option Nat := p.map (·.block)
theorem ownBlock_sl (p : Option Addr) (n c : Nat) : (Value.slice p n c).ownBlock = blkA p := by cases p <;> rfl
structure ScOf (w : World) (base : Nat) (c : Sc) (R : Rw) : Prop where
  body : c.body = R.body
  box : c.box = R.box
  goal : c.goal = R.goal
  t : c.t = R.t
  depth : c.depth = R.depth
  pens : c.pens = R.pens
  bat : c.bat = R.bat
  bcost : c.bcost = R.bcost
  bsome : c.bsome = R.bsome
  last : c.last = R.last
  list : w.ownsRow base 49 19 (.slice c.listA c.listN c.listC) R.list.length (R.list.flatMap Nd.cells)
  ins : w.ownsRow base 168 2 (.slice c.insA c.insN c.insC) R.ins.length (R.ins.flatMap Tk.cells)
  height : MapF w c.height (intF R.height)
  closed : MapF w c.closed (boolF R.closed)
structure RoS (r : Nat → Option Nat) (S : Nat) (c : Sc) : Prop where
  r1 : r 1 = some S
  r2 : r 2 = blkA c.listA
  r4 : r 4 = some c.height
  r5 : r 5 = some c.closed
  r6 : r 6 = blkA c.insA
def shK (r : Nat → Option Nat) (k : Nat) : Prop := r 1 = some k ∨ r 2 = some k ∨ r 4 = some k ∨ r 5 = some k ∨ r 6 = some k
structure Sht (w : World) (base : Nat) (r : Nat → Option Nat) (S : Nat) (c : Sc) (R : Rw) : Prop where
  at_ : ScAt w S c
  of : ScOf w base c R
  own : Own base r w
  ro : RoS r S c
  base : base ≤ w.heap.size
def sameR (r r' : Nat → Option Nat) : Prop := ∀ i, i ≠ 2 → i ≠ 6 → r' i = r i
theorem sameR.refl (r : Nat → Option Nat) : sameR r r := fun _ _ _ => rfl
theorem sameR.trans {r r' r'' : Nat → Option Nat} (h : sameR r r') (k : sameR r' r'') : sameR r r'' := fun i h2 h6 => (k i h2 h6).trans (h i h2 h6)
theorem sameR.set2 (r : Nat → Option Nat) (v : Option Nat) : sameR r (setR r 2 v) := fun _ h _ => setR_other _ _ h
structure ShGo (w : World) (base : Nat) (r : Nat → Option Nat) (S : Nat) (R' : Rw) (e : Ending) (w' : World) : Prop where
  ret : e = .returned (.tuple #[])
  ex : ∃ c' r', Sht w' base r' S c' R' ∧ sameR r r' ∧ later r r' w
  frm : Frm (shK r) w w'
section
variable {w w' : World} {base S : Nat} {r : Nat → Option Nat} {c : Sc} {R : Rw}
theorem Sht.frm (h : Sht w base r S c R) {K : Nat → Prop} (hf : Frm K w w') (hn : ∀ k, shK r k → ¬ K k) : Sht w' base r S c R := by
  refine ⟨h.at_.frm hf (hn _ (.inl h.ro.r1)), ⟨h.of.body, h.of.box, h.of.goal, h.of.t, h.of.depth, h.of.pens, h.of.bat, h.of.bcost, h.of.bsome, h.of.last, ?_, ?_, ?_, ?_⟩, h.own.grow hf.size, h.ro, Nat.le_trans h.base hf.size⟩
  · exact ownsRow_same h.of.list fun g hg hlt => hf.block g hlt (hn g (.inr (.inl (by rw [h.ro.r2, ← hg, ownBlock_sl]))))
  · exact ownsRow_same h.of.ins fun g hg hlt => hf.block g hlt (hn g (.inr (.inr (.inr (.inr (by rw [h.ro.r6, ← hg, ownBlock_sl]))))))
  · exact h.of.height.same (hf.block _ h.of.height.lt (hn _ (.inr (.inr (.inl h.ro.r4)))))
  · exact h.of.closed.same (hf.block _ h.of.closed.lt (hn _ (.inr (.inr (.inr (.inl h.ro.r5))))))
theorem Sht.nums (h : Sht w base r S c R) (hf : Frm (· = S) w w') {c' : Sc} {R' : Rw} (ha : ScAt w' S c') (hl : c'.listA = c.listA ∧ c'.listN = c.listN ∧ c'.listC = c.listC) (hi : c'.insA = c.insA ∧ c'.insN = c.insN ∧ c'.insC = c.insC) (hm : c'.height = c.height ∧ c'.closed = c.closed)
    (hL : R'.list = R.list) (hI : R'.ins = R.ins) (hH : R'.height = R.height) (hC : R'.closed = R.closed)
    (hn : c'.body = R'.body ∧ c'.box = R'.box ∧ c'.goal = R'.goal ∧ c'.t = R'.t ∧ c'.depth = R'.depth ∧ c'.pens = R'.pens ∧ c'.bat = R'.bat ∧ c'.bcost = R'.bcost ∧ c'.bsome = R'.bsome ∧ c'.last = R'.last) : Sht w' base r S c' R' := by
  have hs : ∀ i q, i ≠ 1 → r i = some q → q ≠ S := fun i q hne e e2 => h.own.sep i 1 q hne e (by rw [h.ro.r1, e2])
  obtain ⟨n1, n2, n3, n4, n5, n6, n7, n8, n9, n10⟩ := hn
  refine ⟨ha, ⟨n1, n2, n3, n4, n5, n6, n7, n8, n9, n10, ?_, ?_, ?_, ?_⟩, h.own.grow hf.size, ⟨h.ro.r1, ?_, ?_, ?_, ?_⟩, Nat.le_trans h.base hf.size⟩
  · rw [hl.1, hl.2.1, hl.2.2, hL]
    exact ownsRow_same h.of.list fun g hg hlt => hf.block g hlt (hs 2 g (by decide) (by rw [h.ro.r2, ← hg, ownBlock_sl]))
  · rw [hi.1, hi.2.1, hi.2.2, hI]
    exact ownsRow_same h.of.ins fun g hg hlt => hf.block g hlt (hs 6 g (by decide) (by rw [h.ro.r6, ← hg, ownBlock_sl]))
  · rw [hm.1, hH]
    exact h.of.height.same (hf.block _ h.of.height.lt (hs 4 _ (by decide) h.ro.r4))
  · rw [hm.2, hC]
    exact h.of.closed.same (hf.block _ h.of.closed.lt (hs 5 _ (by decide) h.ro.r5))
  · rw [hl.1]; exact h.ro.r2
  · rw [hm.1]; exact h.ro.r4
  · rw [hm.2]; exact h.ro.r5
  · rw [hi.1]; exact h.ro.r6
theorem frm_S (h : Sht w base r S c R) (hf : Frm (· = S) w w') : Frm (shK r) w w' := hf.mono fun k _ e => .inl (by rw [h.ro.r1, e])
end
theorem grow_any (w : World) (base : Nat) (r : Nat → Option Nat) (S : Nat) (c : Sc) (R : Rw) (x : Int) (h : Sht w base r S c R) : Calls Tryz.prog 102 #[.pointer (some ⟨S, 0, none⟩), .int .i64 x] w (ShGo w base r S (growR R x)) := by
  refine (sgrow S c x w h.at_).mono ?_
  rintro e w' ⟨he, ha, hf⟩
  refine ⟨he, ⟨_, r, h.nums hf ha ⟨rfl, rfl, rfl⟩ ⟨rfl, rfl, rfl⟩ ⟨rfl, rfl⟩ rfl rfl rfl rfl ⟨h.of.body, h.of.box, h.of.goal, ?_, rfl, h.of.pens, h.of.bat, h.of.bcost, h.of.bsome, h.of.last⟩, sameR.refl _, later.refl _ _⟩, frm_S h hf⟩
  show growT c.t (wrap64 (c.depth + x)) = growT R.t (wrap64 (R.depth + x))
  rw [h.of.t, h.of.depth]
theorem flex_any (w : World) (base : Nat) (r : Nat → Option Nat) (S : Nat) (c : Sc) (R : Rw) (g : Gl) (h : Sht w base r S c R) (hs : 0 ≤ g.so ∧ g.so ≤ 3) (hh : 0 ≤ g.ho ∧ g.ho ≤ 3) : Calls Tryz.prog 103 #[.pointer (some ⟨S, 0, none⟩), .agg g.arr] w (ShGo w base r S (flexR R g)) := by
  refine (sflex S c g w h.at_ hs hh).mono ?_
  rintro e w' ⟨he, ha, hf⟩
  refine ⟨he, ⟨_, r, h.nums hf ha ⟨rfl, rfl, rfl⟩ ⟨rfl, rfl, rfl⟩ ⟨rfl, rfl⟩ rfl rfl rfl rfl ⟨h.of.body, h.of.box, h.of.goal, ?_, h.of.depth, h.of.pens, h.of.bat, h.of.bcost, h.of.bsome, h.of.last⟩, sameR.refl _, later.refl _ _⟩, frm_S h hf⟩
  show flexT c.t g = flexT R.t g
  rw [h.of.t]
theorem deep_any (w : World) (base : Nat) (r : Nat → Option Nat) (S : Nat) (c : Sc) (R : Rw) (d m : Int) (h : Sht w base r S c R) : Calls Tryz.prog 104 #[.pointer (some ⟨S, 0, none⟩), .int .i64 d, .int .i64 m] w (ShGo w base r S (deepR R d m)) := by
  refine (sdeep S c d m w h.at_).mono ?_
  rintro e w' ⟨he, ha, hf⟩
  unfold deepC at ha
  unfold deepR
  by_cases hd : m < d
  · rw [if_pos hd] at ha ⊢
    refine ⟨he, ⟨_, r, h.nums hf ha ⟨rfl, rfl, rfl⟩ ⟨rfl, rfl, rfl⟩ ⟨rfl, rfl⟩ rfl rfl rfl rfl ⟨h.of.body, h.of.box, h.of.goal, ?_, rfl, h.of.pens, h.of.bat, h.of.bcost, h.of.bsome, h.of.last⟩, sameR.refl _, later.refl _ _⟩, frm_S h hf⟩
    show growT c.t (wrap64 (d - m)) = growT R.t (wrap64 (d - m))
    rw [h.of.t]
  · rw [if_neg hd] at ha ⊢
    exact ⟨he, ⟨_, r, h.nums hf ha ⟨rfl, rfl, rfl⟩ ⟨rfl, rfl, rfl⟩ ⟨rfl, rfl⟩ rfl rfl rfl rfl ⟨h.of.body, h.of.box, h.of.goal, h.of.t, rfl, h.of.pens, h.of.bat, h.of.bcost, h.of.bsome, h.of.last⟩, sameR.refl _, later.refl _ _⟩, frm_S h hf⟩
theorem put_one (L X : List Nd) : (L ++ X).flatMap Nd.cells = L.flatMap Nd.cells ++ X.flatMap Nd.cells := List.flatMap_append
theorem put_any (w : World) (base : Nat) (r : Nat → Option Nat) (S : Nat) (c : Sc) (R : Rw) (p : Option Addr) (b off cap : Nat) (X : List Nd) (h : Sht w base r S c R) (hX : NIn w p b off cap X) (hne : X ≠ []) (hb : b ≠ S) (hbl : r 2 ≠ some b) (hlen : R.list.length + X.length ≤ 800000000000) :
    Calls Tryz.prog 101 #[.pointer (some ⟨S, 0, none⟩), .slice p X.length cap] w (ShGo w base r S (putR R X)) := by
  obtain ⟨n0, hn0⟩ : ∃ n0, X.headD Nd.zero = n0 := ⟨_, rfl⟩
  have Hn0 := Lib.hid hn0
  clear hn0
  obtain rfl := hX.hp hne
  have hl := h.of.list
  have hnn := (row_nodes hl (by omega)).1
  obtain ⟨q, hq⟩ : ∃ q, R.list.length = q := ⟨_, rfl⟩
  have hln : c.listN = q := by
    rcases hl.2 with ⟨e, h0⟩ | ⟨g, cp, cur, e, _⟩
    · simp only [Value.slice.injEq] at e; omega
    · simp only [Value.slice.injEq] at e; omega
  have c0 : w.cell? ⟨S, 0, none⟩ = some (.slice c.listA q c.listC) := by rw [← hln]; exact h.at_.cell 0 _ (Sc.get0 c)
  rw [hln, hq] at hl
  rw [hq] at hlen
  have Hq := Lib.hid hq
  have Hln := Lib.hid hln
  have f0 := h.at_.frozen 0
  have H := Lib.hid h
  have HX := Lib.hid hX
  have Hl := Lib.hid hl
  have hXp : 0 < X.length := by cases X with | nil => exact absurd rfl hne | cons => simp
  obtain ⟨i0, hi0', hz0, hz1, hz2'⟩ := info_parts info_node
  have Hnews := Lib.hid (And.intro hX.news (nodes_one X))
  have hbs := h.base
  have hS2 : some S ≠ (Value.slice c.listA q c.listC).ownBlock := fun e => h.own.sep 1 2 S (by decide) h.ro.r1 (by rw [h.ro.r2, ← ownBlock_sl c.listA q c.listC, ← e])
  have hSl := h.at_.lt
  have HS2 := Lib.hid (And.intro hS2 hSl)
  clear hS2 hSl
  clear h hX hl hnn hq hln
  go_enter Tryz.func101, Tryz.ntmps101
  go_upto_region 1 with (at_builtin; refine wpList_append_lies _ rfl _ _ _ rfl base 49 i0 (.agg Nd.zero.arr) 19 160 Tryz.underlying27 hi0' hz0 hz1 hz2' rfl (by decide) (.slice c.listA q c.listC) q (R.list.flatMap Nd.cells) rfl Hl.out ⟨b, off, none⟩ X.length _ (X.flatMap Nd.cells) rfl (flat_len X) Hnews.out.1 Hnews.out.2 hXp (by unfold maxLen; omega) (by omega) hbs _ rfl ?_; intro g7 cap7 w7 hown7 hgrow7 hat7 hlt7; have ha7 : ScAt w7 S c := (hgrow7.block S HS2.out.2 HS2.out.1).trans H.out.at_; have c7 := ha7.cell 0 _ (Sc.get0 c); have f7 := ha7.frozen 0; have Hown7 := Lib.hid hown7; have Hgrow7 := Lib.hid hgrow7; have Hat7 := Lib.hid hat7; clear hown7 hgrow7 hat7 c0 f0)
  have hgS : g7 ≠ S := fun e => by
    rcases Hat7.out with h1 | h1
    · exact HS2.out.1 (by rw [h1, e])
    · have := HS2.out.2; omega
  have ha8 : ScAt (w7.setCell ⟨S, 0, none⟩ (.slice (some ⟨g7, 0, none⟩) (q + X.length) cap7)) S { c with listA := some ⟨g7, 0, none⟩, listN := q + X.length, listC := cap7 } := ha7.set 0 _ (Sc.set0 ..)
  have hB : ∀ k, k < w.heap.size → k ≠ S → some k ≠ (Value.slice c.listA q c.listC).ownBlock → (w7.setCell ⟨S, 0, none⟩ (.slice (some ⟨g7, 0, none⟩) (q + X.length) cap7)).heap[k]? = w.heap[k]? := fun k hk h1 h2 => (Below.heap_setCell _ _ _ _ h1).trans (Hgrow7.out.block k hk h2)
  have hbb := HX.out.hb hne
  have hbl' : some b ≠ (Value.slice c.listA q c.listC).ownBlock := fun e => hbl (by rw [H.out.ro.r2, ← ownBlock_sl c.listA q c.listC, ← e])
  have a8 : agg? (w7.setCell ⟨S, 0, none⟩ (.slice (some ⟨g7, 0, none⟩) (q + X.length) cap7)) b off 19 = some n0.arr := by
    rw [agg?_block (hB b hbb hb hbl')]
    have := HX.out.nd 0 hXp
    rw [Nat.zero_mul, Nat.add_zero] at this
    rw [this, ← Hn0.out]
    cases X with
    | nil => exact absurd rfl hne
    | cons x l => rfl
  have th8 := ha8.there 21 19 (by rw [Sc.size_arr]; decide)
  have hg8 : (w7.setCell ⟨S, 0, none⟩ (.slice (some ⟨g7, 0, none⟩) (q + X.length) cap7)).heap[g7]? = w7.heap[g7]? := Below.heap_setCell _ _ _ _ hgS
  have F8 : Frm (shK r) w (w7.setCell ⟨S, 0, none⟩ (.slice (some ⟨g7, 0, none⟩) (q + X.length) cap7)) := ((Frm.refl _ _).grown Hgrow7.out fun k hk _ => .inr (.inl (by rw [H.out.ro.r2, ← ownBlock_sl c.listA q c.listC, ← hk]))).setCell (p := ⟨S, 0, none⟩) (fun _ => .inl H.out.ro.r1) _
  have HB := Lib.hid hB
  have HF := Lib.hid F8
  have Hg8 := Lib.hid hg8
  clear hB F8 hg8 ha7 c7 f7
  generalize w7.setCell ⟨S, 0, none⟩ (.slice (some ⟨g7, 0, none⟩) (q + X.length) cap7) = w8 at ha8 a8 th8 HB HF Hg8 ⊢
  have hz8 : (0 : Nat) < X.length := hXp
  go_wp2_with fail
  have hs : ∀ i k, i ≠ 1 → r i = some k → k ≠ S := fun i k h1 e e2 => H.out.own.sep i 1 k h1 e (by rw [H.out.ro.r1, e2])
  have hl : ∀ i k, i ≠ 2 → r i = some k → some k ≠ (Value.slice c.listA q c.listC).ownBlock := fun i k h1 e e2 => H.out.own.sep i 2 k h1 e (by rw [H.out.ro.r2, ← ownBlock_sl c.listA q c.listC, ← e2])
  have hB9 : ∀ i k, i ≠ 1 → i ≠ 2 → r i = some k → k < w.heap.size → (setAgg w8 S 21 n0.arr).heap[k]? = w.heap[k]? := fun i k h1 h2 e hk => (heap_setCells_other S k (hs i k h1 e) _ _ _).trans (HB.out k hk (hs i k h1 e) (hl i k h2 e))
  have F9 : Frm (shK r) w (setAgg w8 S 21 n0.arr) := HF.out.setAgg (fun _ => .inl H.out.ro.r1) _ _
  have ha9 : ScAt (setAgg w8 S 21 n0.arr) S { c with listA := some ⟨g7, 0, none⟩, listN := q + X.length, listC := cap7, last := n0 } := ha8.setAgg 21 _ (by rw [show n0.arr.toList = n0.cells from rfl, setMany_Sc_last])
  have hown9 := ownsRow_same Hown7.out (w' := setAgg w8 S 21 n0.arr) fun g hg hlt => by
    simp only [Value.ownBlock, Option.some.injEq] at hg
    subst hg
    exact (heap_setCells_other S _ hgS _ _ _).trans Hg8.out
  have hg9 : g7 < (setAgg w8 S 21 n0.arr).heap.size := (hown9.lt g7 rfl).2
  have hR : putR R X = { R with list := R.list ++ X, last := n0 } := by rw [← Hn0.out]; rfl
  have hSht : Sht (setAgg w8 S 21 n0.arr) base (setR r 2 (some g7)) S { c with listA := some ⟨g7, 0, none⟩, listN := q + X.length, listC := cap7, last := n0 } (putR R X) := by
    rw [hR]
    refine ⟨ha9, ⟨H.out.of.body, H.out.of.box, H.out.of.goal, H.out.of.t, H.out.of.depth, H.out.of.pens, H.out.of.bat, H.out.of.bcost, H.out.of.bsome, rfl, ?_, ?_, ?_, ?_⟩, ?_, ⟨?_, ?_, ?_, ?_, ?_⟩, Nat.le_trans hbs F9.size⟩
    · show World.ownsRow _ base 49 19 (.slice (some ⟨g7, 0, none⟩) (q + X.length) cap7) (R.list ++ X).length ((R.list ++ X).flatMap Nd.cells)
      rw [List.length_append, Hq.out, put_one]
      exact hown9
    · exact ownsRow_same H.out.of.ins fun g hg hlt => hB9 6 g (by decide) (by decide) (by rw [H.out.ro.r6, ← hg, ownBlock_sl]) hlt
    · exact H.out.of.height.same (hB9 4 _ (by decide) (by decide) H.out.ro.r4 H.out.of.height.lt)
    · exact H.out.of.closed.same (hB9 5 _ (by decide) (by decide) H.out.ro.r5 H.out.of.closed.lt)
    · refine H.out.own.set hbs F9.size 2 (some g7) fun k hk => ?_
      cases hk
      rcases Hat7.out with h1 | h1
      · exact .inl (by rw [H.out.ro.r2, ← ownBlock_sl c.listA q c.listC, h1])
      · exact .inr ⟨by omega, hg9⟩
    · rw [setR_other _ _ (by decide)]; exact H.out.ro.r1
    · rw [setR_same]; rfl
    · rw [setR_other _ _ (by decide)]; exact H.out.ro.r4
    · rw [setR_other _ _ (by decide)]; exact H.out.ro.r5
    · rw [setR_other _ _ (by decide)]; exact H.out.ro.r6
  have hlat : later r (setR r 2 (some g7)) w := (later.refl r w).set 2 _ fun k hk => by
    cases hk
    rcases Hat7.out with h1 | h1
    · exact .inl (by rw [H.out.ro.r2, ← ownBlock_sl c.listA q c.listC, h1])
    · exact .inr (by omega)
  exact ⟨rfl, _, results_none rfl _ _ _, ⟨rfl, ⟨_, _, hSht, sameR.set2 _ _, hlat⟩, F9⟩⟩
end Go.Proofs.YtomehdepjenilaaGreat
