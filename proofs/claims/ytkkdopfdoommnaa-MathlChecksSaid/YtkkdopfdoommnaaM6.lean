/-
  Layer 20: a formula is read: what stands in the middle of an item, and the plain steps.
-/
import Derived.Test.YtkkdopfdoommnaaM3
import Derived.Deep.AppendLies
namespace Go.Proofs.Ytkkdopfdoommnaa
open Go.ChangeShapes Go.WideShapes Go.ChangeAt Go.RowKit

theorem fmla_fuel {f : List Sn → Option (List Sn)} (h : Ends f) : ∀ n m l, l.length ≤ n → l.length ≤ m → fmlaP f n l = fmlaP f m l
  | 0, m, [], _, _ => by cases m <;> rfl
  | 0, m, s :: l, h0, _ => by simp at h0
  | n + 1, 0, [], _, _ => rfl
  | n + 1, 0, s :: l, _, h0 => by simp at h0
  | n + 1, m + 1, [], _, _ => rfl
  | n + 1, m + 1, s :: l, h1, h2 => by
    rw [fmlaP, fmlaP]
    split
    · rfl
    · cases e : itemP f s l with
      | none => rfl
      | some l3 =>
        have hs := (item_ends h s _ _ e).length_le
        simp only [Option.bind_some]
        rw [fmla_fuel h n m l3 (by simp at h1; omega) (by simp at h2; omega)]
def addK (ks : List Int) (r : Option (List Int × List Sn)) : Option (List Int × List Sn) := r.map fun x => (ks ++ x.1, x.2)
theorem addK_nil (r : Option (List Int × List Sn)) : addK [] r = r := by cases r <;> rfl
theorem fmla_item {f : List Sn → Option (List Sn)} (h : Ends f) {L : List Sn} {i : Nat} (hi : i < L.length) (hk : L[i].kind ≠ 22) {r : Option (List Int × List Sn)} {ks : List Int} (hr : r = addK ks (fmlaP f (L.length - i) (L.drop i))) :
    (itemP f L[i] (L.drop (i + 1)) = none → r = none) ∧ ∀ j, j ≤ L.length → itemP f L[i] (L.drop (i + 1)) = some (L.drop j) → i < j ∧ r = addK (ks ++ [L[i].kind]) (fmlaP f (L.length - j) (L.drop j)) := by
  have e : fmlaP f (L.length - i) (L.drop i) = (itemP f L[i] (L.drop (i + 1))).bind fun l3 => (fmlaP f (L.length - (i + 1)) l3).map fun x => (L[i].kind :: x.1, x.2) := by
    rw [List.drop_eq_getElem_cons hi, show L.length - i = (L.length - (i + 1)) + 1 by omega, fmlaP, if_neg hk]
  constructor
  · intro hn
    rw [hr, e, hn]; rfl
  · intro j hj hs
    have hl := (item_ends h _ _ _ hs).length_le
    simp only [List.length_drop] at hl
    refine ⟨by omega, ?_⟩
    rw [hr, e, hs, Option.bind_some, fmla_fuel h (L.length - (i + 1)) (L.length - j) (L.drop j) (by simp; omega) (by simp)]
    cases fmlaP f (L.length - j) (L.drop j) <;> simp [addK]
theorem fmla_stop {f : List Sn → Option (List Sn)} {L : List Sn} {i : Nat} (hi : i ≤ L.length) (hk : ∀ h : i < L.length, L[i].kind = 22) : fmlaP f (L.length - i) (L.drop i) = some ([], L.drop i) := by
  by_cases h : i < L.length
  · rw [List.drop_eq_getElem_cons h, show L.length - i = (L.length - (i + 1)) + 1 by omega, fmlaP, if_pos (hk h)]
  · rw [show L.length - i = 0 by omega]; rfl

def e4 (f : List Sn → Option (List Sn)) (l : List Sn) : Option (List Sn) := scriptP f 20 l
def e3 (f : List Sn → Option (List Sn)) (s : Sn) (l : List Sn) : Option (List Sn) := if s.kind ≤ 13 then (scriptP f 19 l).bind (e4 f) else some l
def e2 (f : List Sn → Option (List Sn)) (s : Sn) (l : List Sn) : Option (List Sn) := (if s.kind = 13 then rightP l else some l).bind (e3 f s)
def e1 (f : List Sn → Option (List Sn)) (s : Sn) (k : Nat) (l : List Sn) : Option (List Sn) := (times f k l).bind (e2 f s)
theorem item_good {f : List Sn → Option (List Sn)} {s : Sn} (hg : goodB s = true) (h1 : s.kind ≠ 14) (h2 : s.kind < 19) (l : List Sn) : itemP f s l = e1 f s (partsI s).toNat l := by
  unfold itemP e1
  rw [if_neg (by rw [hg]; simp; omega)]
  rfl
theorem e1_succ (f : List Sn → Option (List Sn)) (s : Sn) (k : Nat) (l : List Sn) : e1 f s (k + 1) l = (f l).bind (e1 f s k) := by
  unfold e1; rw [times]; cases f l <;> rfl
theorem e1_zero (f : List Sn → Option (List Sn)) (s : Sn) (l : List Sn) : e1 f s 0 l = e2 f s l := rfl
theorem e2_no {f : List Sn → Option (List Sn)} {s : Sn} (h : s.kind ≠ 13) (l : List Sn) : e2 f s l = e3 f s l := by unfold e2; rw [if_neg h]; rfl
theorem e2_yes {f : List Sn → Option (List Sn)} {s : Sn} (h : s.kind = 13) (l : List Sn) : e2 f s l = (rightP l).bind (e3 f s) := by unfold e2; rw [if_pos h]
theorem e3_no {f : List Sn → Option (List Sn)} {s : Sn} (h : ¬ s.kind ≤ 13) (l : List Sn) : e3 f s l = some l := by unfold e3; rw [if_neg h]
theorem e3_yes {f : List Sn → Option (List Sn)} {s : Sn} (h : s.kind ≤ 13) (l : List Sn) : e3 f s l = (scriptP f 19 l).bind (e4 f) := by unfold e3; rw [if_pos h]
theorem parts_le {s : Sn} (hg : goodB s = true) : 0 ≤ partsI s ∧ partsI s ≤ 2 := by
  have h0 : ∀ t : Sn, s = t → s.n = t.n := fun t h => by rw [h]
  unfold goodB at hg
  unfold partsI
  split at hg
  · rename_i hk
    split at hg
    · rename_i hn
      have := hn
      repeat' split
      all_goals omega
    · simp only [Bool.and_eq_true, eqSn_iff] at hg
      have hn : s.n = 0 := h0 _ hg.1.1
      repeat' split
      all_goals omega
  · rename_i hk
    have hfin : (s.kind = 9 ∨ s.kind = 10 ∨ s.kind = 15 ∨ s.kind = 16 ∨ s.kind = 17 ∨ s.kind = 18 ∨ s.kind = 11 ∨ s.kind = 12) ∨ s.n = 0 := by
      repeat (split at hg; · omega)
      split at hg
      · exact .inr (h0 _ (eqSn_iff.1 hg))
      · cases hg
    repeat' split
    all_goals omega
theorem item_bad {f : List Sn → Option (List Sn)} {s : Sn} (h : goodB s = false ∨ s.kind = 14 ∨ 19 ≤ s.kind) (l : List Sn) : itemP f s l = none := by
  unfold itemP; rw [if_pos h]

/-! ### Rows of the call's own -/
theorem ownsRow_same {w w' : World} {base : Nat} {e : TypeId} {size : Nat} {v : Value} {n : Nat} {xs : List Value} (h : w.ownsRow base e size v n xs) (hs : ∀ g, v.ownBlock = some g → g < w.heap.size → w'.heap[g]? = w.heap[g]?) : w'.ownsRow base e size v n xs := by
  obtain ⟨hl, h | ⟨g, cap, cur, rfl, hb, hg, hr⟩⟩ := h
  · exact ⟨hl, .inl h⟩
  · exact ⟨hl, .inr ⟨g, cap, cur, rfl, hb, (hs g rfl (Array.getElem?_eq_some_iff.1 hg).1).trans hg, hr⟩⟩
theorem ownsRow_turned {w w' : World} {R base : Nat} {e : TypeId} {size : Nat} {v : Value} {n : Nat} {xs : List Value} (h : w.ownsRow base e size v n xs) (ht : Turned w.heap.size R w w') (hR : R < base) : w'.ownsRow base e size v n xs :=
  ownsRow_same h fun g hg hlt => ht.block g hlt (by have := h.lt g hg; omega)

/-- in the middle of item s, which stands at place i: the next sign is number j; f's row is v, x lies in block X -/
structure InRound (B R b cap : Nat) (p : Option Addr) (L : List Sn) (f : List Sn → Option (List Sn)) (i : Nat) (s : Sn) (w : World) (v : Value) (its : List It) (X : Nat) (E : List Sn → Option (List Sn)) (j : Nat) (it : It) (wr : World) : Prop where
  hj : j ≤ L.length
  rd : Rdr wr R b cap p L j
  res : itemP f s (L.drop (i + 1)) = E (L.drop j)
  sgn : it.sign = s
  blk : wr.heap[X]? = some (.cells it.arr 145 (0, 0))
  parts : ∃ xs, wr.ownsRow (X + 1) 101 1 (.slice it.fieldsA it.fieldsN it.fieldsC) it.fieldsN xs
  tn : Turned B R w wr
  row : wr.ownsRow B 145 21 v its.length (its.flatMap It.cells)
  lt : ∀ k, v.ownBlock = some k → k < X
  hX : B ≤ X
  hR : R < B
  hb : L ≠ [] → b < B
section
variable {B R b cap i X j j' : Nat} {p : Option Addr} {L : List Sn} {f : List Sn → Option (List Sn)} {s : Sn} {w wr w' : World} {v : Value} {its : List It} {E E' : List Sn → Option (List Sn)} {it it' : It}
theorem InRound.X_lt (h : InRound B R b cap p L f i s w v its X E j it wr) : X < wr.heap.size := (Array.getElem?_eq_some_iff.1 h.blk).1
theorem InRound.X_ne (h : InRound B R b cap p L f i s w v its X E j it wr) : X ≠ R := by have := h.hX; have := h.hR; omega
/-- behind a call that reads on -/
theorem InRound.call (h : InRound B R b cap p L f i s w v its X E j it wr) (ht : Turned wr.heap.size R wr w') (hr : Rdr w' R b cap p L j') (hj : j' ≤ L.length) (hE : E (L.drop j) = E' (L.drop j')) : InRound B R b cap p L f i s w v its X E' j' it w' :=
  ⟨hj, hr, h.res.trans hE, h.sgn, (ht.block X h.X_lt h.X_ne).trans h.blk, h.parts.imp fun xs hx => ownsRow_turned hx ht (by have := h.hX; have := h.hR; omega), h.tn.trans (ht.mono (Nat.le_trans (Nat.le_of_lt h.X_lt |> fun hh => Nat.le_trans h.hX hh) (Nat.le_refl _))), ownsRow_turned h.row ht h.hR, h.lt, h.hX, h.hR, h.hb⟩
theorem InRound.quiet (h : InRound B R b cap p L f i s w v its X E j it wr) (n : Nat) : InRound B R b cap p L f i s w v its X E j it (wr.drewN n) :=
  h.call (.drewN (.refl _ _ _) n) (h.rd.drewN n) h.hj rfl
theorem InRound.below (h : InRound B R b cap p L f i s w v its X E j it wr) (hb : Below wr.heap.size wr w') : InRound B R b cap p L f i s w v its X E j it w' :=
  h.call (.of_below hb) (h.rd.below hb) h.hj rfl
/-- the reader goes on by one -/
theorem InRound.next (h : InRound B R b cap p L f i s w v its X E j it wr) (hj : j < L.length) (hE : E (L.drop j) = E' (L.drop (j + 1))) : InRound B R b cap p L f i s w v its X E' (j + 1) it (wr.setCell ⟨R, 1, none⟩ (.int .i64 ((j : Int) + 1))) :=
  h.call ((Turned.refl _ R _).setCell (.inl rfl) _) h.rd.put1 hj hE
/-- x turns in block X -/
theorem InRound.turn (h : InRound B R b cap p L f i s w v its X E j it wr) (hs : it'.sign = s) (hb : w'.heap[X]? = some (.cells it'.arr 145 (0, 0))) (hg : wr.grownBy w' (some X))
    (hp : ∃ xs, w'.ownsRow (X + 1) 101 1 (.slice it'.fieldsA it'.fieldsN it'.fieldsC) it'.fieldsN xs) : InRound B R b cap p L f i s w v its X E j it' w' :=
  ⟨h.hj, h.rd.grown hg (by intro e; exact h.X_ne (Option.some.inj e)) (fun hne e => by have := h.hb hne; have := Option.some.inj e; have := h.hX; omega), h.res, hs, hb, hp,
    h.tn.grown hg (Nat.le_trans h.hX (Nat.le_of_lt h.X_lt)) (fun k e => by cases e; exact h.hX), ownsRow_same h.row fun g hg' hlt => hg.block g hlt (fun e => by have := h.lt g hg'; have := Option.some.inj e; omega), h.lt, h.hX, h.hR, h.hb⟩
theorem agg?_blk {w : World} {X : Nat} {c : Array Value} {t : TypeId} {fr : Nat × Nat} (h : w.heap[X]? = some (.cells c t fr)) (o n : Nat) (hn : o + n ≤ c.size) : agg? w X o n = some (c.extract o (o + n)) := by
  unfold agg?; rw [h]; simp [hn]
theorem cell?_blk {w : World} {X : Nat} {c : Array Value} {t : TypeId} {fr : Nat × Nat} (h : w.heap[X]? = some (.cells c t fr)) (o : Nat) : w.cell? ⟨X, o, none⟩ = c[o]? := by simp [World.cell?, h]
theorem heap_setCell_blk {w : World} {X : Nat} {c : Array Value} {t : TypeId} {fr : Nat × Nat} (h : w.heap[X]? = some (.cells c t fr)) (o : Nat) (u : Value) : (w.setCell ⟨X, o, none⟩ u).heap[X]? = some (.cells (c.setIfInBounds o u) t fr) := by
  simp only [World.setCell, Array.getElem?_modify, h]; simp
theorem InRound.whole (h : InRound B R b cap p L f i s w v its X E j it wr) : agg? wr X 0 21 = some it.arr := by
  rw [agg?_blk h.blk 0 21 (by simp [It.size_arr])]; simp [It.arr, It.cells]
theorem InRound.sign (h : InRound B R b cap p L f i s w v its X E j it wr) : agg? wr X 0 9 = some s.arr := by
  rw [agg?_blk h.blk 0 9 (by simp [It.size_arr]), ← h.sgn]; rfl
theorem InRound.kind (h : InRound B R b cap p L f i s w v its X E j it wr) : wr.cell? ⟨X, 0, none⟩ = some (.int .i64 s.kind) := by
  rw [cell?_blk h.blk, ← h.sgn]; rfl
theorem InRound.fields (h : InRound B R b cap p L f i s w v its X E j it wr) : wr.cell? ⟨X, 9, none⟩ = some (.slice it.fieldsA it.fieldsN it.fieldsC) := by
  rw [cell?_blk h.blk]; rfl
theorem InRound.csup (h : InRound B R b cap p L f i s w v its X E j it wr) : wr.cell? ⟨X, 19, none⟩ = some (.pointer it.sup) := by
  rw [cell?_blk h.blk]; rfl
theorem InRound.csub (h : InRound B R b cap p L f i s w v its X E j it wr) : wr.cell? ⟨X, 20, none⟩ = some (.pointer it.sub) := by
  rw [cell?_blk h.blk]; rfl
theorem InRound.free (h : InRound B R b cap p L f i s w v its X E j it wr) (o : Nat) : wr.frozen? ⟨X, o, none⟩ = false := by
  simp [World.frozen?, h.blk]
theorem InRound.thereR (h : InRound B R b cap p L f i s w v its X E j it wr) : there? wr X 10 9 = true := by
  unfold there?; rw [h.blk]; simp [It.size_arr]
theorem grownBy_setCell (W : World) (a : Addr) (u : Value) : W.grownBy (W.setCell a u) (some a.block) :=
  ⟨rfl, rfl, rfl, by simp [World.setCell], fun k _ hn => Below.heap_setCell _ _ _ _ (fun e => hn (by rw [e]))⟩
theorem grownBy_setAgg (W : World) (b o : Nat) (c : Array Value) : W.grownBy (setAgg W b o c) (some b) :=
  ⟨by unfold setAgg; exact (Below.setCells (Nat.le_refl b) _ _ _ (Below.refl b W)).os, by unfold setAgg; exact (Below.setCells (Nat.le_refl b) _ _ _ (Below.refl b W)).tape, by unfold setAgg; exact (Below.setCells (Nat.le_refl b) _ _ _ (Below.refl b W)).output, by simp, fun k _ hn => by unfold setAgg; exact heap_setCells_other b k (fun e => hn (by rw [e])) _ _ _⟩
theorem InRound.setPtr (h : InRound B R b cap p L f i s w v its X E j it wr) (o : Nat) (u : Value) (hs : it'.sign = s) (hu : it.arr.setIfInBounds o u = it'.arr) (hf : it'.fieldsA = it.fieldsA ∧ it'.fieldsN = it.fieldsN ∧ it'.fieldsC = it.fieldsC) :
    InRound B R b cap p L f i s w v its X E j it' (wr.setCell ⟨X, o, none⟩ u) := by
  refine h.turn hs ((heap_setCell_blk h.blk o u).trans (by rw [hu])) (grownBy_setCell _ _ _) ?_
  rw [hf.1, hf.2.1, hf.2.2]
  refine h.parts.imp fun xs hx => ownsRow_same hx fun g hg hlt => Below.heap_setCell _ _ _ _ (by have := hx.lt g hg; simp only; omega)
theorem InRound.setRight (h : InRound B R b cap p L f i s w v its X E j it wr) (s' : Sn) : InRound B R b cap p L f i s w v its X E j { it with right := s' } (setAgg wr X 10 s'.arr) := by
  refine h.turn h.sgn ?_ (grownBy_setAgg _ _ _ _) ?_
  · unfold setAgg
    rw [heap_setCells_same X _ _ _ _ _ _ h.blk, show s'.arr.toList = s'.cells from rfl, setMany_It_right]
  · refine h.parts.imp fun xs hx => ownsRow_same hx fun g hg hlt => ?_
    unfold setAgg
    exact heap_setCells_other X g (by have := hx.lt g hg; omega) _ _ _
theorem InRound.push (h : InRound B R b cap p L f i s w v its X E j it wr) {o : Obj} {w1 : World} {a : Option Addr} {n c : Nat} {ys : List Value} (hg : (wr.alloc o).grownBy w1 (Value.slice it.fieldsA it.fieldsN it.fieldsC).ownBlock)
    (hown : w1.ownsRow (X + 1) 101 1 (.slice a n c) n ys) : InRound B R b cap p L f i s w v its X E j { it with fieldsA := a, fieldsN := n, fieldsC := c } (w1.setCell ⟨X, 9, none⟩ (.slice a n c)) := by
  obtain ⟨xs, hx⟩ := h.parts
  have hXl := h.X_lt
  have hfar : ∀ k, k < wr.heap.size → k ≤ X → w1.heap[k]? = wr.heap[k]? := fun k hk hkX => by
    rw [hg.block k (by simp; omega) (fun e => by have := hx.lt k e.symm; omega), Below.heap_alloc _ _ _ hk]
  have hrow : w1.ownsRow B 145 21 v its.length (its.flatMap It.cells) := ownsRow_same h.row fun g hg' hlt => hfar g hlt (Nat.le_of_lt (h.lt g hg'))
  have hrd : Rdr w1 R b cap p L j := h.rd.of ((hfar R h.rd.ltR (by have := h.hR; have := h.hX; omega)).trans h.rd.blk) (by have := hg.size; simp at this; omega) fun hne => hfar b (h.rd.ltb hne) (by have := h.hb hne; have := h.hX; omega)
  have htn : Turned B R w w1 := (h.tn.alloc (Nat.le_trans h.hX (Nat.le_of_lt hXl)) o).grown hg (by simp; have := h.hX; omega) (fun k e => by have := hx.lt k e; have := h.hX; omega)
  have hb1 : w1.heap[X]? = some (.cells it.arr 145 (0, 0)) := (hfar X hXl (Nat.le_refl _)).trans h.blk
  refine ⟨h.hj, h.rd.of ?_ ?_ ?_, h.res, h.sgn, (heap_setCell_blk hb1 9 _).trans (by rw [It.set9]), ⟨ys, ownsRow_same hown fun g hg' hlt => Below.heap_setCell _ _ _ _ (by have := hown.lt g hg'; simp only; omega)⟩, htn.setCell (.inr h.hX) _,
    ownsRow_same hrow fun g hg' hlt => Below.heap_setCell _ _ _ _ (by have := h.lt g hg'; simp only; omega), h.lt, h.hX, h.hR, h.hb⟩
  · exact (Below.heap_setCell _ _ _ _ (Ne.symm h.X_ne)).trans hrd.blk
  · have := hg.size; simp [World.setCell] at this ⊢; omega
  · intro hne
    have h1 := h.hb hne
    have h2 := h.hX
    exact (Below.heap_setCell _ _ _ _ (by simp only; omega)).trans (hfar b (h.rd.ltb hne) (by omega))
theorem InRound.push_blk (h : InRound B R b cap p L f i s w v its X E j it wr) {o : Obj} {w1 : World} (hg : (wr.alloc o).grownBy w1 (Value.slice it.fieldsA it.fieldsN it.fieldsC).ownBlock) : w1.cell? ⟨X, 9, none⟩ = some (.slice it.fieldsA it.fieldsN it.fieldsC) ∧ w1.frozen? ⟨X, 9, none⟩ = false := by
  obtain ⟨xs, hx⟩ := h.parts
  have hXl := h.X_lt
  have hb1 : w1.heap[X]? = some (.cells it.arr 145 (0, 0)) := (hg.block X (by simp; omega) (fun e => by have := hx.lt X e.symm; omega)).trans ((Below.heap_alloc _ _ _ hXl).trans h.blk)
  exact ⟨by rw [cell?_blk hb1]; rfl, by simp [World.frozen?, hb1]⟩
theorem InRound.seen {s2 : Sn} (h : InRound B R b cap p L f i s w v its X E j it wr) (hs2 : Hid (L[j]? = some s2)) :
    InRound B R b cap p L f i s w v its X E j it wr ∧ wr.cell? ⟨R, 0, none⟩ = some (.slice (some ⟨b, 0, none⟩) L.length cap) ∧ wr.cell? ⟨R, 1, none⟩ = some (.int .i64 j) ∧ agg? wr b (j * 9) 9 = some s2.arr := by
  obtain ⟨hj, rfl⟩ := List.getElem?_eq_some_iff.1 hs2.out
  refine ⟨h, ?_, h.rd.c1, h.rd.sg j hj⟩
  rw [h.rd.c0, h.rd.hp (by intro e; rw [e] at hj; simp at hj)]
theorem InRound.later {w1 : World} (hb : Below wr.heap.size wr w1) (h : InRound B R b cap p L f i s w v its X E j it wr) : InRound B R b cap p L f i s w v its X E j it w1 := h.below hb
theorem InRound.close (h : InRound B R b cap p L f i s w v its X E j it wr) {o : Obj} {w1 : World} (hg : (wr.alloc o).grownBy w1 v.ownBlock) : Rdr w1 R b cap p L j ∧ Turned B R w w1 ∧ B ≤ w1.heap.size := by
  have hXl := h.X_lt
  have hX := h.hX
  have hz : wr.heap.size + 1 ≤ w1.heap.size := by have := hg.size; simpa using this
  refine ⟨h.rd.of ?_ (by omega) fun hne => ?_, (h.tn.alloc (by omega) o).grown hg (by simp; omega) (fun k e => (h.row.lt k e).1), by omega⟩
  · exact ((hg.block R (by have := h.rd.ltR; simp; omega) (fun e => by have := (h.row.lt R e.symm).1; have := h.hR; omega)).trans (Below.heap_alloc _ _ _ h.rd.ltR)).trans h.rd.blk
  · exact (hg.block b (by have := h.rd.ltb hne; simp; omega) (fun e => by have := (h.row.lt b e.symm).1; have := h.hb hne; omega)).trans (Below.heap_alloc _ _ _ (h.rd.ltb hne))
theorem InRound.start (h : B ≤ w'.heap.size) (hi : i ≤ L.length) (hrd : Rdr w' R b cap p L i) (htn : Turned B R w w') (hrow : w'.ownsRow B 145 21 v its.length (its.flatMap It.cells)) (hR : R < B) (hb : L ≠ [] → b < B) (s : Sn) :
    InRound B R b cap p L f i s w v its w'.heap.size (fun l => itemP f s (l.drop 1)) i { It.zero with sign := s } (w'.alloc (.cells ({ It.zero with sign := s } : It).arr 145)) :=
  ⟨hi, hrd.alloc _, by simp, rfl, heap_alloc_new _ _, ⟨[], World.ownsRow_nil _ _ _ _⟩, htn.alloc h _, hrow.alloc _, fun k hk => (hrow.lt k hk).2, h, hR, hb⟩
end
end Go.Proofs.Ytkkdopfdoommnaa
