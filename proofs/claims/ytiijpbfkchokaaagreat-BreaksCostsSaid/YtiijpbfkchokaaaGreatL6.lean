/-
  The laws' own functions over lists: lists that were told are grown in turn: which rows stay (plain, for rows of any type).
  The laws' own functions over lists of nodes: Apart, its first phase (each list is marked).
  The laws' own functions over lists of whole numbers: ApartInts: what its three phases keep.
  The laws' own functions over lists of whole numbers: ApartInts: of lists that lie apart it is true.
  The document's Legal; the laws' own functions over lists of whole numbers: SameInts.
-/
import Derived.Test.YtiijpbfkchokaaaGreatK4
import Derived.ArgAppend
import Derived.Laws.OwnMore
namespace Go.Proofs.YtiijpbfkchokaaaGreat
open Go.ChangeShapes Go.WideShapes Go.ChangeAt Go.RowKit Go.Shelf
theorem grownBy_refl (w : World) (r : Option Nat) : w.grownBy w r := ⟨rfl, rfl, rfl, Nat.le_refl _, fun _ _ _ => rfl⟩
theorem grownBy_trans {a b c : World} {r r2 : Option Nat} (h : a.grownBy b r) (k : b.grownBy c r2) (hr : ∀ j, j < a.heap.size → r2 = some j → r = some j) : a.grownBy c r :=
  ⟨k.os.trans h.os, k.tape.trans h.tape, k.output.trans h.output, Nat.le_trans h.size k.size, fun j hj hne => (k.block j (Nat.lt_of_lt_of_le hj h.size) (fun e => hne (hr j hj e.symm).symm)).trans (h.block j hj hne)⟩
/-- the beginning of a row that has grown within its block -/
theorem owns_prefix {W W' : World} {B size : Nat} {E : TypeId} {g n c k m cap : Nat} {xs zs ns : List Value} (hs : 0 < size) (h1 : W.ownsRow B E size (.slice (some ⟨g, 0, none⟩) n c) n xs) (h2 : W.ownsRow B E size (.slice (some ⟨g, 0, none⟩) k cap) k zs) (h3 : W'.ownsRow B E size (.slice (some ⟨g, 0, none⟩) m cap) m (xs ++ ns)) : W'.ownsRow B E size (.slice (some ⟨g, 0, none⟩) n c) n xs := by
  obtain ⟨l1, ⟨e1, _⟩ | ⟨g1, c1, cur1, e1, b1, g1', n1, m1, s1, t1⟩⟩ := h1
  · cases e1
  obtain ⟨l2, ⟨e2, _⟩ | ⟨g2, c2, cur2, e2, b2, g2', n2, m2, s2, t2⟩⟩ := h2
  · cases e2
  obtain ⟨l3, ⟨e3, _⟩ | ⟨g3, c3, cur3, e3, b3, g3', n3, m3, s3, t3⟩⟩ := h3
  · cases e3
  cases e1; cases e2; cases e3
  rw [g1'] at g2'
  cases g2'
  have hc : c = cap := Nat.eq_of_mul_eq_mul_right hs (s1.symm.trans s2)
  subst hc
  refine ⟨l1, .inr ⟨g, c, cur3, rfl, b1, g3', n1, m1, s3, ?_⟩⟩
  have hle : n * size ≤ m * size := by rw [← l3, List.length_append, l1]; exact Nat.le_add_right _ _
  have := congrArg (List.take (n * size)) t3
  rw [List.take_take, Nat.min_eq_left hle, ← l1, List.take_left, l1] at this
  exact this
/-- a row that grows out of another one: within it, or in new blocks -/
structure Grows (W0 : World) (B : Nat) (E : TypeId) (size : Nat) (v : Value) (n : Nat) (xs : List Value) (k : Nat) (zs : List Value) (x : Value) (W : World) : Prop where
  by_ : W0.grownBy W v.ownBlock
  row : W.ownsRow B E size x (n + k) (xs ++ zs)
  old : W.ownsRow B E size v n xs
  at_ : x.ownBlock = v.ownBlock ∨ ∃ h, W0.heap.size ≤ h ∧ x.ownBlock = some h
  lt : ∀ g, v.ownBlock = some g → g < W0.heap.size
theorem Grows.start {W0 : World} {B size n : Nat} {E : TypeId} {v : Value} {xs : List Value} (h : W0.ownsRow B E size v n xs) : Grows W0 B E size v n xs 0 [] v W0 :=
  ⟨grownBy_refl _ _, by simpa using h, h, .inl rfl, fun g hg => (h.lt g hg).2⟩
theorem Grows.step {W0 W W' : World} {B size n k m g cap : Nat} {E : TypeId} {v x : Value} {xs zs news : List Value} (hs : 0 < size) (h : Grows W0 B E size v n xs k zs x W)
    (hrow : W'.ownsRow B E size (.slice (some ⟨g, 0, none⟩) (n + k + m) cap) (n + k + m) (xs ++ zs ++ news)) (hat : x = .slice (some ⟨g, 0, none⟩) (n + k) cap ∧ W.grownBy W' (some g) ∨ W.heap.size ≤ g ∧ W.grownBy W' none) :
    Grows W0 B E size v n xs (k + m) (zs ++ news) (.slice (some ⟨g, 0, none⟩) (n + k + m) cap) W' := by
  have hrow' : W'.ownsRow B E size (.slice (some ⟨g, 0, none⟩) (n + k + m) cap) (n + (k + m)) (xs ++ (zs ++ news)) := by rw [← Nat.add_assoc, ← List.append_assoc]; exact hrow
  rcases hat with ⟨rfl, hg⟩ | ⟨hge, hg⟩
  · rcases h.at_ with ha | ⟨h', hh, ha⟩
    · refine ⟨grownBy_trans h.by_ hg (fun j _ e => by rw [← ha, ← e]; rfl), hrow', ?_, .inl ha, h.lt⟩
      have hv := h.old
      obtain ⟨p, c, rfl⟩ := owns_form hv
      cases p with
      | none => cases ha
      | some a =>
        obtain ⟨_, ⟨e, _⟩ | ⟨g2, c2, cur, e, _⟩⟩ := id hv
        · cases e
        · cases e
          cases ha
          exact owns_prefix hs hv h.row (by rw [← List.append_assoc]; exact hrow)
    · obtain rfl : g = h' := by simpa [Value.ownBlock] using ha
      refine ⟨grownBy_trans h.by_ hg (fun j hj e => by cases e; omega), hrow', h.old.kept hg ?_, .inr ⟨g, hh, rfl⟩, h.lt⟩
      right
      intro e
      have := h.lt g e
      omega
  · refine ⟨grownBy_trans h.by_ hg (fun j _ e => by cases e), hrow', h.old.kept hg (by cases v.ownBlock <;> simp), .inr ⟨g, Nat.le_trans h.by_.size hge, rfl⟩, h.lt⟩
/-- a block that is made beside -/
theorem Grows.alloc {W0 W : World} {B size n k : Nat} {E : TypeId} {v x : Value} {xs zs : List Value} (h : Grows W0 B E size v n xs k zs x W) (o : Obj) : Grows W0 B E size v n xs k zs x (W.alloc o) :=
  ⟨grownBy_trans h.by_ (World.grownBy_alloc W o none) (fun j _ e => by cases e), h.row.alloc o, h.old.alloc o, h.at_, h.lt⟩
/-- blocks that are apart -/
structure Apt (Bf N : Nat) (v : Nat → Value) : Prop where
  lt : ∀ j, j < N → ∀ g, (v j).ownBlock = some g → g < Bf
  ne : ∀ i j, i < N → j < N → i ≠ j → ∀ g, (v i).ownBlock = some g → (v j).ownBlock ≠ some g
/-- what the lists hold -/
structure Told (w0 : World) (B Bf : Nat) (E : TypeId) (size N : Nat) (v : Nat → Value) (n : Nat → Nat) (xs : Nat → List Value) (W : World) : Prop where
  rows : ∀ j, j < N → W.ownsRow B E size (v j) (n j) (xs j)
  below : Below B w0 W
  frame : ∀ k, k < Bf → (∀ j, j < N → (v j).ownBlock ≠ some k) → W.heap[k]? = w0.heap[k]?
  size : Bf ≤ W.heap.size
section
variable {w0 W W' : World} {B Bf size N : Nat} {E : TypeId} {v : Nat → Value} {n : Nat → Nat} {xs : Nat → List Value}
theorem Told.turn (ha : Apt Bf N v) (h : Told w0 B Bf E size N v n xs W) {i : Nat} (hi : i < N) (hg : W.grownBy W' (v i).ownBlock) {x' : List Value} (hr : W'.ownsRow B E size (v i) (n i) x') (hB : B ≤ W.heap.size) : Told w0 B Bf E size N v n (fun j => if j = i then x' else xs j) W' := by
  refine ⟨fun j hj => ?_, h.below.grown hg hB (fun k hk => (((h.rows i hi).lt k hk)).1), fun k hk hne => ?_, Nat.le_trans h.size hg.size⟩
  · by_cases e : j = i
    · subst e; simp only [if_true]; exact hr
    · simp only [if_neg e]
      refine (h.rows j hj).kept hg ?_
      cases hv : (v j).ownBlock with
      | none => exact .inl rfl
      | some g => exact .inr fun e2 => ha.ne j i hj hi e g hv e2.symm
  · exact (hg.block k (Nat.lt_of_lt_of_le hk h.size) (fun e => hne i hi e.symm)).trans (h.frame k hk hne)
theorem Told.far (h : Told w0 B Bf E size N v n xs W) (ha : Apt Bf N v) {r : Option Nat} (hg : W.grownBy W' r) (hr : ∀ g, r = some g → Bf ≤ g) (hB : B ≤ Bf) : Told w0 B Bf E size N v n xs W' := by
  refine ⟨fun j hj => (h.rows j hj).kept hg ?_, h.below.grown hg (Nat.le_trans hB h.size) (fun k hk => Nat.le_trans hB (hr k hk)), fun k hk hne => (hg.block k (Nat.lt_of_lt_of_le hk h.size) (fun e => ?_)).trans (h.frame k hk hne), Nat.le_trans h.size hg.size⟩
  · cases hv : (v j).ownBlock with
    | none => exact .inl rfl
    | some g => exact .inr fun e => by have := ha.lt j hj g hv; have := hr g e.symm; omega
  · have := hr k e.symm; omega
/-- the second phase: i of the lists have been grown -/
structure Ph2 (w0 : World) (B Bf : Nat) (E : TypeId) (size : Nat) (EE : TypeId) (N : Nat) (v : Nat → Value) (n : Nat → Nat) (xs ys : Nat → List Value) (k : Nat) (gv : Nat → Value) (i : Nat) (G : Value) (W : World) : Prop where
  told : Told w0 B Bf E size N v n xs W
  grown : ∀ j, j < i → W.ownsRow B E size (gv j) (n j + k) (xs j ++ ys j)
  gat : ∀ j, j < i → (gv j).ownBlock = (v j).ownBlock ∨ ∃ h, Bf ≤ h ∧ (gv j).ownBlock = some h
  gne : ∀ j, j < i → ∀ g, G.ownBlock = some g → (gv j).ownBlock ≠ some g
  list : W.ownsRow Bf EE 1 G i ((List.range i).map gv)
theorem Ph2.start {ys : Nat → List Value} {EE : TypeId} {k : Nat} (gv : Nat → Value) (h : Told w0 B Bf E size N v n xs W) : Ph2 w0 B Bf E size EE N v n xs ys k gv 0 (.slice none 0 0) W :=
  ⟨h, fun j hj => by omega, fun j hj => by omega, fun j hj => by omega, World.ownsRow_nil W Bf EE 1⟩
theorem Ph2.step {ys : Nat → List Value} {EE : TypeId} {gv : Nat → Value} {i k g cap : Nat} {G x : Value} {W2 W3 : World} (ha : Apt Bf N v) (hB : B ≤ Bf) (h : Ph2 w0 B Bf E size EE N v n xs ys k gv i G W) (hi : i < N)
    (hG : Grows W B E size (v i) (n i) (xs i) k (ys i) x W2) (hown : W3.ownsRow Bf EE 1 (.slice (some ⟨g, 0, none⟩) (i + 1) cap) (i + 1) ((List.range i).map gv ++ [x]))
    (hat : G = .slice (some ⟨g, 0, none⟩) i cap ∧ W2.grownBy W3 (some g) ∨ W2.heap.size ≤ g ∧ W2.grownBy W3 none) :
    Ph2 w0 B Bf E size EE N v n xs ys k (fun j => if j = i then x else gv j) (i + 1) (.slice (some ⟨g, 0, none⟩) (i + 1) cap) W3 := by
  have hsz := h.told.size
  have hsz2 := hG.by_.size
  have t2 : Told w0 B Bf E size N v n xs W2 := by
    have := h.told.turn ha hi hG.by_ hG.old (Nat.le_trans hB hsz)
    have e : (fun j => if j = i then xs i else xs j) = xs := by funext j; split <;> simp_all
    rwa [e] at this
  have hGg : ∀ b, G.ownBlock = some b → Bf ≤ b ∧ b < W.heap.size := fun b hb => h.list.lt b hb
  have hg3 : ∀ r, (∀ b, r = some b → G.ownBlock = some b) → W2.grownBy W3 r → Told w0 B Bf E size N v n xs W3 ∧ (∀ j, j < i → W3.ownsRow B E size (gv j) (n j + k) (xs j ++ ys j)) ∧ W3.ownsRow B E size x (n i + k) (xs i ++ ys i) := by
    intro r hr hg
    refine ⟨t2.far ha hg (fun b hb => (hGg b (hr b hb)).1) hB, fun j hj => ?_, hG.row.kept hg ?_⟩
    · refine ((h.grown j hj).kept hG.by_ ?_).kept hg ?_
      · cases hv : (gv j).ownBlock with
        | none => exact .inl rfl
        | some b =>
          refine .inr fun e => ?_
          rcases h.gat j hj with h1 | ⟨b2, hb2, h1⟩
          · exact ha.ne j i (by omega) hi (by omega) b (h1.symm.trans hv) e.symm
          · rw [hv] at h1; cases h1
            have := ha.lt i hi b e.symm
            omega
      · cases hv : (gv j).ownBlock with
        | none => exact .inl rfl
        | some b => exact .inr fun e => h.gne j hj b (hr b e.symm) hv
    · cases hv : x.ownBlock with
      | none => exact .inl rfl
      | some b =>
        refine .inr fun e => ?_
        have h4 := hGg b (hr b e.symm)
        rcases hG.at_ with h1 | ⟨b2, hb2, h1⟩
        · have := ha.lt i hi b (h1.symm.trans hv); omega
        · rw [hv] at h1; cases h1; omega
  have hne : ∀ j, j < i + 1 → ∀ b, (if j = i then x else gv j).ownBlock = some b → b < W2.heap.size ∧ G.ownBlock ≠ some b := by
    intro j hj b hb
    by_cases e : j = i
    · rw [if_pos e] at hb
      refine ⟨(hG.row.lt b hb).2, fun hb2 => ?_⟩
      have h4 := hGg b hb2
      rcases hG.at_ with h1 | ⟨b2, hb2, h1⟩
      · have := ha.lt i hi b (h1.symm.trans hb); omega
      · rw [hb] at h1; cases h1; omega
    · rw [if_neg e] at hb
      exact ⟨by have := ((h.grown j (by omega)).lt b hb).2; omega, fun hb2 => h.gne j (by omega) b hb2 hb⟩
  have hlist : W3.ownsRow Bf EE 1 (.slice (some ⟨g, 0, none⟩) (i + 1) cap) (i + 1) ((List.range (i + 1)).map fun j => if j = i then x else gv j) := by
    have e : ((List.range (i + 1)).map fun j => if j = i then x else gv j) = (List.range i).map gv ++ [x] := by
      rw [List.range_succ, List.map_append]
      congr 1
      · apply List.map_congr_left
        intro j hj
        have := List.mem_range.1 hj
        rw [if_neg (by omega)]
      · simp
    rw [e]; exact hown
  have hgat : ∀ j, j < i + 1 → (if j = i then x else gv j).ownBlock = (v j).ownBlock ∨ ∃ h, Bf ≤ h ∧ (if j = i then x else gv j).ownBlock = some h := by
    intro j hj
    by_cases e : j = i
    · rw [if_pos e, e]
      rcases hG.at_ with h1 | ⟨b2, hb2, h1⟩
      · exact .inl h1
      · exact .inr ⟨b2, by omega, h1⟩
    · rw [if_neg e]; exact h.gat j (by omega)
  have hgr : ∀ r, (∀ b, r = some b → G.ownBlock = some b) → W2.grownBy W3 r → ∀ j, j < i + 1 → W3.ownsRow B E size (if j = i then x else gv j) (n j + k) (xs j ++ ys j) := by
    intro r hr hg j hj
    obtain ⟨_, h2, h3⟩ := hg3 r hr hg
    by_cases e : j = i
    · rw [if_pos e, e]; exact h3
    · rw [if_neg e]; exact h2 j (by omega)
  rcases hat with ⟨rfl, hg⟩ | ⟨hge, hg⟩
  · refine ⟨(hg3 _ (fun b hb => hb) hg).1, hgr _ (fun b hb => hb) hg, hgat, fun j hj b hb hx => ?_, hlist⟩
    cases hb
    exact (hne j hj g hx).2 rfl
  · refine ⟨(hg3 none (fun b hb => by cases hb) hg).1, hgr none (fun b hb => by cases hb) hg, hgat, fun j hj b hb hx => ?_, hlist⟩
    cases hb
    have := (hne j hj g hx).1
    omega
end
end Go.Proofs.YtiijpbfkchokaaaGreat
namespace Go.Proofs.YtiijpbfkchokaaaGreat
open Go.ChangeShapes Go.WideShapes Go.ChangeAt Go.RowKit Go.Shelf
theorem flat_at (L : List Nd) (q : Nat) : (L.flatMap Nd.cells)[q]? = (L[q / 19]?).bind fun m => m.cells[q % 19]? := by
  by_cases h : q / 19 < L.length
  · have e := flat_nodes L (q / 19) h
    rw [List.getElem?_eq_getElem h]
    simp only [Option.bind_some]
    rw [← e, List.getElem?_take_of_lt (by omega), List.getElem?_drop]
    congr 1
    omega
  · rw [List.getElem?_eq_none (by rw [flat_len]; omega), List.getElem?_eq_none (by omega)]; rfl
theorem owns_set {W : World} {B n c g : Nat} {L : List Nd} (h : W.ownsRow B 69 19 (.slice (some ⟨g, 0, none⟩) n c) n (L.flatMap Nd.cells)) {k : Nat} (hk : k < L.length) (m : Nd) :
    (setAgg W g (k * 19) m.arr).ownsRow B 69 19 (.slice (some ⟨g, 0, none⟩) n c) n ((L.set k m).flatMap Nd.cells) ∧ W.grownBy (setAgg W g (k * 19) m.arr) (some g) ∧ there? W g (k * 19) 19 = true := by
  obtain ⟨l1, ⟨e1, _⟩ | ⟨g1, c1, cur, e1, b1, hg, n1, m1, s1, t1⟩⟩ := h
  · cases e1
  cases e1
  have hL : L.length = n := by rw [flat_len] at l1; omega
  have hms : m.arr.toList.length = 19 := by have := Nd.size_arr m; simpa using this
  have hfit : k * 19 + 19 ≤ cur.size := by omega
  have hb := Below.setAgg (Below.refl 0 W) (Nat.zero_le g) (k * 19) m.arr
  refine ⟨⟨by rw [flat_len, List.length_set, hL], .inr ⟨g, c, _, rfl, b1, heap_setCells_same g _ _ _ _ cur W hg, n1, m1, by rw [size_setMany, s1], ?_⟩⟩, ⟨hb.os, hb.tape, hb.output, hb.size, fun j _ hne => heap_setCells_other g j (fun e => hne (by rw [e])) _ _ _⟩, by unfold there?; rw [hg]; simpa using hfit⟩
  apply List.ext_getElem?
  intro q
  rw [flat_at, List.getElem?_take]
  split
  · rename_i hq
    rw [Array.getElem?_toList, get_setMany _ _ _ _ (by rw [hms]; exact hfit), hms]
    have t1' : cur[q]? = (L.flatMap Nd.cells)[q]? := by rw [← t1, List.getElem?_take_of_lt hq]; simp
    rw [t1', flat_at]
    split
    · rename_i hr
      have hk2 : q / 19 = k := by omega
      rw [hk2, List.getElem?_set_self hk]
      show m.cells[q - k * 19]? = m.cells[q % 19]?
      congr 1
      omega
    · rw [List.getElem?_set_ne (by omega)]
  · rename_i hq
    rw [List.getElem?_eq_none (by rw [List.length_set]; omega)]; rfl
def mkA (i : Nat) : Nd := { Nd.zero with kind := 1000 + (i : Int) }
def mkB (i : Nat) : Nd := { Nd.zero with kind := 2000 + (i : Int) }
/-- the lists that are told to Apart, and where they stand -/
structure Aparts (w0 : World) (B Bf Y N : Nat) (v : Nat → Value) (n : Nat → Nat) : Prop where
  apt : Apt Bf N v
  hB : B ≤ Bf
  hY : Y < Bf
  ne : ∀ j, j < N → (v j).ownBlock ≠ some Y
  blk : ∃ cs t, w0.heap[Y]? = some (.cells cs t (0, 0)) ∧ ∀ j, j < N → cs[j]? = some (v j)
  hN : N ≤ 100
  hn : ∀ j, j < N → n j ≤ 100000
def NTold (w0 : World) (B Bf N : Nat) (v : Nat → Value) (n : Nat → Nat) (Ms : Nat → List Nd) (W : World) : Prop := Told w0 B Bf 69 19 N v n (fun j => (Ms j).flatMap Nd.cells) W
section
variable {w0 W : World} {B Bf Y N : Nat} {v : Nat → Value} {n : Nat → Nat} {Ms : Nat → List Nd}
theorem NTold.list (h : NTold w0 B Bf N v n Ms W) (ha : Aparts w0 B Bf Y N v n) {j : Nat} (hj : j < N) : W.cell? ⟨Y, j, none⟩ = some (v j) := by
  obtain ⟨cs, t, h1, h2⟩ := ha.blk
  rw [cell?_blk' ((h.frame Y ha.hY ha.ne).trans h1), h2 j hj]
theorem NTold.len (h : NTold w0 B Bf N v n Ms W) {j : Nat} (hj : j < N) : (Ms j).length = n j := by have := (h.rows j hj).1; simp only [flat_len] at this; omega
theorem NTold.form (h : NTold w0 B Bf N v n Ms W) {j : Nat} (hj : j < N) : ∃ p c, v j = .slice p (n j) c := owns_form (h.rows j hj)
theorem NTold.at_ (h : NTold w0 B Bf N v n Ms W) {j : Nat} (hj : j < N) (hp : 0 < n j) : ∃ g c, v j = .slice (some ⟨g, 0, none⟩) (n j) c ∧ n j ≤ c := by
  obtain ⟨_, ⟨_, e⟩ | ⟨g, c, cur, e, _, _, h1, _⟩⟩ := h.rows j hj
  · omega
  · exact ⟨g, c, e, h1⟩
theorem NTold.set (h : NTold w0 B Bf N v n Ms W) (ha : Aparts w0 B Bf Y N v n) {i k g c : Nat} (hi : i < N) (hv : v i = .slice (some ⟨g, 0, none⟩) (n i) c) (hk : k < n i) (m : Nd) :
    NTold w0 B Bf N v n (fun j => if j = i then (Ms i).set k m else Ms j) (setAgg W g (k * 19) m.arr) ∧ there? W g (k * 19) 19 = true := by
  have hr := h.rows i hi
  rw [hv] at hr
  obtain ⟨h1, h2, h3⟩ := owns_set hr (k := k) (by rw [h.len hi]; exact hk) m
  have hs := h.size
  have := h.turn ha.apt hi (x' := ((Ms i).set k m).flatMap Nd.cells) (by rw [hv]; exact h2) (by rw [hv]; exact h1) (Nat.le_trans ha.hB hs)
  refine ⟨?_, h3⟩
  unfold NTold
  have e : (fun j => (if j = i then (Ms i).set k m else Ms j).flatMap Nd.cells) = fun j => if j = i then ((Ms i).set k m).flatMap Nd.cells else (Ms j).flatMap Nd.cells := by funext j; split <;> rfl
  rw [e]
  exact this
end
/-- within a list -/
def InA (w0 : World) (B Bf N : Nat) (v : Nat → Value) (n : Nat → Nat) (i k : Nat) (W : World) : Prop := ∃ Ms, NTold w0 B Bf N v n Ms W ∧ (∀ j, j < i → Ms j = List.replicate (n j) (mkA j)) ∧ ∀ j, j < k → (Ms i)[j]? = some (mkA i)
theorem InA.set {w0 W : World} {B Bf Y N : Nat} {v : Nat → Value} {n : Nat → Nat} {i k g c : Nat} (h : InA w0 B Bf N v n i k W) (ha : Aparts w0 B Bf Y N v n) (hi : i < N) (hv : v i = .slice (some ⟨g, 0, none⟩) (n i) c) (hk : k < n i) :
    InA w0 B Bf N v n i (k + 1) (setAgg W g (k * 19) (mkA i).arr) ∧ there? W g (k * 19) 19 = true := by
  obtain ⟨Ms, h1, h2, h3⟩ := h
  obtain ⟨h4, h5⟩ := h1.set ha hi hv hk (mkA i)
  have hl := h1.len hi
  refine ⟨⟨_, h4, fun j hj => ?_, fun j hj => ?_⟩, h5⟩
  · simp only [if_neg (show ¬ j = i by omega)]; exact h2 j hj
  · simp only [if_true]
    by_cases e : j = k
    · subst e; rw [List.getElem?_set_self (by omega)]
    · rw [List.getElem?_set_ne (by omega)]; exact h3 j (by omega)
theorem InA.next {w0 W : World} {B Bf N : Nat} {v : Nat → Value} {n : Nat → Nat} {i : Nat} (h : InA w0 B Bf N v n i (n i) W) (hi : i < N) : InA w0 B Bf N v n (i + 1) 0 W := by
  obtain ⟨Ms, h1, h2, h3⟩ := h
  refine ⟨Ms, h1, fun j hj => ?_, fun j hj => by omega⟩
  by_cases e : j = i
  · subst e
    apply List.ext_getElem?
    intro q
    have hl := h1.len hi
    rw [List.getElem?_replicate]
    split
    · exact h3 q ‹_›
    · rw [List.getElem?_eq_none (by omega)]
  · exact h2 j (by omega)
theorem InA.list {w0 W : World} {B Bf Y N : Nat} {v : Nat → Value} {n : Nat → Nat} {i k : Nat} (h : InA w0 B Bf N v n i k W) (ha : Aparts w0 B Bf Y N v n) {j : Nat} (hj : j < N) : W.cell? ⟨Y, j, none⟩ = some (v j) := by
  obtain ⟨Ms, h1, _⟩ := h
  exact h1.list ha hj
theorem InA.form {w0 W : World} {B Bf N : Nat} {v : Nat → Value} {n : Nat → Nat} {i k : Nat} (h : InA w0 B Bf N v n i k W) {j : Nat} (hj : j < N) : ∃ p c, v j = .slice p (n j) c := by
  obtain ⟨Ms, h1, _⟩ := h
  exact h1.form hj
theorem InA.at_ {w0 W : World} {B Bf N : Nat} {v : Nat → Value} {n : Nat → Nat} {i k : Nat} (h : InA w0 B Bf N v n i k W) {j : Nat} (hj : j < N) (hp : 0 < n j) : ∃ g c, v j = .slice (some ⟨g, 0, none⟩) (n j) c ∧ n j ≤ c := by
  obtain ⟨Ms, h1, _⟩ := h
  exact h1.at_ hj hp
/-- all lists are marked -/
def xsA (n : Nat → Nat) (j : Nat) : List Value := (List.replicate (n j) (mkA j)).flatMap Nd.cells
def ysB (k j : Nat) : List Value := (List.replicate k (mkB j)).flatMap Nd.cells
theorem InA.all {w0 W : World} {B Bf N : Nat} {v : Nat → Value} {n : Nat → Nat} (h : InA w0 B Bf N v n N 0 W) : Told w0 B Bf 69 19 N v n (xsA n) W := by
  obtain ⟨Ms, h1, h2, _⟩ := h
  exact ⟨fun j hj => by have := h1.rows j hj; simp only [h2 j hj] at this; exact this, h1.below, h1.frame, h1.size⟩
def Gn (B : Nat) (v : Nat → Value) (n : Nat → Nat) (i : Nat) (W0 : World) (k : Nat) (x : Value) (W : World) : Prop := Grows W0 B 69 19 (v i) (n i) (xsA n i) k (ysB k i) x W
theorem Gn.step {B : Nat} {v : Nat → Value} {n : Nat → Nat} {i : Nat} {W0 W W' : World} {k g cap : Nat} {x : Value} (h : Gn B v n i W0 k x W)
    (hrow : W'.ownsRow B 69 19 (.slice (some ⟨g, 0, none⟩) (n i + k + 1) cap) (n i + k + 1) (xsA n i ++ ysB k i ++ (mkB i).cells)) (hat : x = .slice (some ⟨g, 0, none⟩) (n i + k) cap ∧ W.grownBy W' (some g) ∨ W.heap.size ≤ g ∧ W.grownBy W' none) :
    Gn B v n i W0 (k + 1) (.slice (some ⟨g, 0, none⟩) (n i + k + 1) cap) W' := by
  have := Grows.step (by decide) h hrow hat
  have e : ysB k i ++ (mkB i).cells = ysB (k + 1) i := by unfold ysB; rw [List.replicate_succ', List.flatMap_append]; simp
  rw [e] at this
  exact this
/-- behind the second phase: what the third one reads -/
def P3 (w0 : World) (B Bf N : Nat) (v : Nat → Value) (n : Nat → Nat) (G : Value) (W : World) : Prop := ∃ gv, Ph2 w0 B Bf 69 19 22 N v n (xsA n) (ysB 40) 40 gv N G W
section
variable {w0 W : World} {B Bf Y N : Nat} {v : Nat → Value} {n : Nat → Nat} {G : Value}
theorem P3.drewN (h : P3 w0 B Bf N v n G W) (m : Nat) : P3 w0 B Bf N v n G (W.drewN m) := by
  obtain ⟨gv, t, g, a, ne, l⟩ := h
  have hb : Below W.heap.size W (W.drewN m) := below_drewN_refl _ _ _
  exact ⟨gv, ⟨fun j hj => ownsRow_below (t.rows j hj) hb, below_drewN t.below m, t.frame, t.size⟩, fun j hj => ownsRow_below (g j hj) hb, a, ne, ownsRow_below l hb⟩
end
end Go.Proofs.YtiijpbfkchokaaaGreat
namespace Go.Proofs.YtiijpbfkchokaaaGreat
open Go.ChangeShapes Go.WideShapes Go.ChangeAt Go.RowKit Go.Shelf
def mzA (i : Nat) : Int := 1000 + (i : Int)
def mzB (i : Nat) : Int := 2000 + (i : Int)
theorem owns_setZ {W : World} {B n c g : Nat} {L : List Int} (h : W.ownsRow B 3 1 (.slice (some ⟨g, 0, none⟩) n c) n (ints L)) {k : Nat} (hk : k < L.length) (m : Int) :
    (W.setCell ⟨g, k, none⟩ (.int .i64 m)).ownsRow B 3 1 (.slice (some ⟨g, 0, none⟩) n c) n (ints (L.set k m)) ∧ W.grownBy (W.setCell ⟨g, k, none⟩ (.int .i64 m)) (some g) ∧ ((W.cell? ⟨g, k, none⟩).isSome = true ∧ W.frozen? ⟨g, k, none⟩ = false) := by
  have hc := h.cells (g := g) rfl k (.int .i64 L[k]) (by rw [ints_idx, List.getElem?_eq_getElem hk]; rfl)
  rw [show (⟨g, 0, none⟩ : Addr).add k = ⟨g, k, none⟩ by unfold Addr.add; split <;> simp_all] at hc
  obtain ⟨l1, ⟨e1, _⟩ | ⟨g1, c1, cur, e1, b1, hg, n1, m1, s1, t1⟩⟩ := id h
  · cases e1
  cases e1
  have hL : L.length = n := by rw [ints_len] at l1; omega
  refine ⟨⟨by rw [ints_len, List.length_set, hL]; omega, .inr ⟨g, c, _, rfl, b1, heap_setCell_same W g k cur _ _ hg, n1, m1, by simp [s1], ?_⟩⟩, ⟨rfl, rfl, rfl, (KeepsWalks.setCell W _ _).size, fun j _ hne => Below.heap_setCell _ _ _ j (fun e => hne (by rw [e]))⟩, by rw [hc]; rfl, frozen_of_row W g k cur _ hg⟩
  rw [← ints_lset, ← t1, Array.toList_setIfInBounds, List.take_set]
def ZTold (w0 : World) (B Bf N : Nat) (v : Nat → Value) (n : Nat → Nat) (Ms : Nat → List Int) (W : World) : Prop := Told w0 B Bf 3 1 N v n (fun j => ints (Ms j)) W
section
variable {w0 W : World} {B Bf Y N : Nat} {v : Nat → Value} {n : Nat → Nat} {Ms : Nat → List Int}
theorem ZTold.list (h : ZTold w0 B Bf N v n Ms W) (ha : Aparts w0 B Bf Y N v n) {j : Nat} (hj : j < N) : W.cell? ⟨Y, j, none⟩ = some (v j) := by
  obtain ⟨cs, t, h1, h2⟩ := ha.blk
  rw [cell?_blk' ((h.frame Y ha.hY ha.ne).trans h1), h2 j hj]
theorem ZTold.len (h : ZTold w0 B Bf N v n Ms W) {j : Nat} (hj : j < N) : (Ms j).length = n j := by have := (h.rows j hj).1; simp only [ints_len] at this; omega
theorem ZTold.form (h : ZTold w0 B Bf N v n Ms W) {j : Nat} (hj : j < N) : ∃ p c, v j = .slice p (n j) c := owns_form (h.rows j hj)
theorem ZTold.at_ (h : ZTold w0 B Bf N v n Ms W) {j : Nat} (hj : j < N) (hp : 0 < n j) : ∃ g c, v j = .slice (some ⟨g, 0, none⟩) (n j) c ∧ n j ≤ c := by
  obtain ⟨_, ⟨_, e⟩ | ⟨g, c, cur, e, _, _, h1, _⟩⟩ := h.rows j hj
  · omega
  · exact ⟨g, c, e, h1⟩
theorem ZTold.set (h : ZTold w0 B Bf N v n Ms W) (ha : Aparts w0 B Bf Y N v n) {i k g c : Nat} (hi : i < N) (hv : v i = .slice (some ⟨g, 0, none⟩) (n i) c) (hk : k < n i) (m : Int) :
    ZTold w0 B Bf N v n (fun j => if j = i then (Ms i).set k m else Ms j) (W.setCell ⟨g, k, none⟩ (.int .i64 m)) ∧ ((W.cell? ⟨g, k, none⟩).isSome = true ∧ W.frozen? ⟨g, k, none⟩ = false) := by
  have hr := h.rows i hi
  rw [hv] at hr
  obtain ⟨h1, h2, h3⟩ := owns_setZ hr (k := k) (by rw [h.len hi]; exact hk) m
  have hs := h.size
  have := h.turn ha.apt hi (x' := ints ((Ms i).set k m)) (by rw [hv]; exact h2) (by rw [hv]; exact h1) (Nat.le_trans ha.hB hs)
  refine ⟨?_, h3⟩
  unfold ZTold
  have e : (fun j => ints (if j = i then (Ms i).set k m else Ms j)) = fun j => if j = i then ints ((Ms i).set k m) else ints (Ms j) := by funext j; split <;> rfl
  rw [e]
  exact this
end
/-- within a list -/
def InZ (w0 : World) (B Bf N : Nat) (v : Nat → Value) (n : Nat → Nat) (i k : Nat) (W : World) : Prop := ∃ Ms, ZTold w0 B Bf N v n Ms W ∧ (∀ j, j < i → Ms j = List.replicate (n j) (mzA j)) ∧ ∀ j, j < k → (Ms i)[j]? = some (mzA i)
theorem InZ.set {w0 W : World} {B Bf Y N : Nat} {v : Nat → Value} {n : Nat → Nat} {i k g c : Nat} (h : InZ w0 B Bf N v n i k W) (ha : Aparts w0 B Bf Y N v n) (hi : i < N) (hv : v i = .slice (some ⟨g, 0, none⟩) (n i) c) (hk : k < n i) :
    InZ w0 B Bf N v n i (k + 1) (W.setCell ⟨g, k, none⟩ (.int .i64 (mzA i))) ∧ ((W.cell? ⟨g, k, none⟩).isSome = true ∧ W.frozen? ⟨g, k, none⟩ = false) := by
  obtain ⟨Ms, h1, h2, h3⟩ := h
  obtain ⟨h4, h5⟩ := h1.set ha hi hv hk (mzA i)
  have hl := h1.len hi
  refine ⟨⟨_, h4, fun j hj => ?_, fun j hj => ?_⟩, h5⟩
  · simp only [if_neg (show ¬ j = i by omega)]; exact h2 j hj
  · simp only [if_true]
    by_cases e : j = k
    · subst e; rw [List.getElem?_set_self (by omega)]
    · rw [List.getElem?_set_ne (by omega)]; exact h3 j (by omega)
theorem InZ.next {w0 W : World} {B Bf N : Nat} {v : Nat → Value} {n : Nat → Nat} {i : Nat} (h : InZ w0 B Bf N v n i (n i) W) (hi : i < N) : InZ w0 B Bf N v n (i + 1) 0 W := by
  obtain ⟨Ms, h1, h2, h3⟩ := h
  refine ⟨Ms, h1, fun j hj => ?_, fun j hj => by omega⟩
  by_cases e : j = i
  · subst e
    apply List.ext_getElem?
    intro q
    have hl := h1.len hi
    rw [List.getElem?_replicate]
    split
    · exact h3 q ‹_›
    · rw [List.getElem?_eq_none (by omega)]
  · exact h2 j (by omega)
theorem InZ.list {w0 W : World} {B Bf Y N : Nat} {v : Nat → Value} {n : Nat → Nat} {i k : Nat} (h : InZ w0 B Bf N v n i k W) (ha : Aparts w0 B Bf Y N v n) {j : Nat} (hj : j < N) : W.cell? ⟨Y, j, none⟩ = some (v j) := by
  obtain ⟨Ms, h1, _⟩ := h
  exact h1.list ha hj
theorem InZ.form {w0 W : World} {B Bf N : Nat} {v : Nat → Value} {n : Nat → Nat} {i k : Nat} (h : InZ w0 B Bf N v n i k W) {j : Nat} (hj : j < N) : ∃ p c, v j = .slice p (n j) c := by
  obtain ⟨Ms, h1, _⟩ := h
  exact h1.form hj
theorem InZ.at_ {w0 W : World} {B Bf N : Nat} {v : Nat → Value} {n : Nat → Nat} {i k : Nat} (h : InZ w0 B Bf N v n i k W) {j : Nat} (hj : j < N) (hp : 0 < n j) : ∃ g c, v j = .slice (some ⟨g, 0, none⟩) (n j) c ∧ n j ≤ c := by
  obtain ⟨Ms, h1, _⟩ := h
  exact h1.at_ hj hp
/-- all lists are marked -/
def zsA (n : Nat → Nat) (j : Nat) : List Value := ints (List.replicate (n j) (mzA j))
def zsB (k j : Nat) : List Value := ints (List.replicate k (mzB j))
theorem InZ.all {w0 W : World} {B Bf N : Nat} {v : Nat → Value} {n : Nat → Nat} (h : InZ w0 B Bf N v n N 0 W) : Told w0 B Bf 3 1 N v n (zsA n) W := by
  obtain ⟨Ms, h1, h2, _⟩ := h
  exact ⟨fun j hj => by have := h1.rows j hj; simp only [h2 j hj] at this; exact this, h1.below, h1.frame, h1.size⟩
def Gz (B : Nat) (v : Nat → Value) (n : Nat → Nat) (i : Nat) (W0 : World) (k : Nat) (x : Value) (W : World) : Prop := Grows W0 B 3 1 (v i) (n i) (zsA n i) k (zsB k i) x W
theorem Gz.step {B : Nat} {v : Nat → Value} {n : Nat → Nat} {i : Nat} {W0 W W' : World} {k g cap : Nat} {x : Value} (h : Gz B v n i W0 k x W)
    (hrow : W'.ownsRow B 3 1 (.slice (some ⟨g, 0, none⟩) (n i + k + 1) cap) (n i + k + 1) (zsA n i ++ zsB k i ++ [.int .i64 (mzB i)])) (hat : x = .slice (some ⟨g, 0, none⟩) (n i + k) cap ∧ W.grownBy W' (some g) ∨ W.heap.size ≤ g ∧ W.grownBy W' none) :
    Gz B v n i W0 (k + 1) (.slice (some ⟨g, 0, none⟩) (n i + k + 1) cap) W' := by
  have := Grows.step (by decide) h hrow hat
  have e : zsB k i ++ [.int .i64 (mzB i)] = zsB (k + 1) i := by unfold zsB; rw [List.replicate_succ', ints_append]; rfl
  rw [e] at this
  exact this
/-- behind the second phase: what the third one reads -/
def Pz3 (w0 : World) (B Bf N : Nat) (v : Nat → Value) (n : Nat → Nat) (G : Value) (W : World) : Prop := ∃ gv, Ph2 w0 B Bf 3 1 41 N v n (zsA n) (zsB 40) 40 gv N G W
section
variable {w0 W : World} {B Bf Y N : Nat} {v : Nat → Value} {n : Nat → Nat} {G : Value}
theorem Pz3.drewN (h : Pz3 w0 B Bf N v n G W) (m : Nat) : Pz3 w0 B Bf N v n G (W.drewN m) := by
  obtain ⟨gv, t, g, a, ne, l⟩ := h
  have hb : Below W.heap.size W (W.drewN m) := below_drewN_refl _ _ _
  exact ⟨gv, ⟨fun j hj => ownsRow_below (t.rows j hj) hb, below_drewN t.below m, t.frame, t.size⟩, fun j hj => ownsRow_below (g j hj) hb, a, ne, ownsRow_below l hb⟩
end
end Go.Proofs.YtiijpbfkchokaaaGreat

namespace Go.Proofs.YtiijpbfkchokaaaGreat
open Go.ChangeShapes Go.WideShapes Go.ChangeAt Go.RowKit Go.Shelf
/-- whole numbers that are read -/
structure ZIn (w : World) (p : Option Addr) (g c : Nat) (l : List Int) : Prop where
  hp : l ≠ [] → p = some ⟨g, 0, none⟩
  cap : l.length ≤ c
  at_ : ∀ i (hi : i < l.length), w.cell? ⟨g, i, none⟩ = some (.int .i64 l[i])
theorem zin_of {w : World} {B n : Nat} {v : Value} {l : List Int} (h : w.ownsRow B 3 1 v n (ints l)) : ∃ p g c, v = .slice p l.length c ∧ n = l.length ∧ ZIn w p g c l := by
  have hl : l.length = n := by have := h.1; rw [ints_len] at this; omega
  subst hl
  by_cases h0 : l = []
  · subst h0
    obtain ⟨_, ⟨rfl, _⟩ | ⟨g, cap, cur, rfl, _, _, h1, _⟩⟩ := h
    · exact ⟨none, 0, 0, rfl, rfl, fun e => absurd rfl e, Nat.le_refl _, fun i hi => by simp at hi⟩
    · exact ⟨_, g, cap, rfl, rfl, fun e => absurd rfl e, h1, fun i hi => by simp at hi⟩
  · obtain ⟨g, c, rfl, _, hg⟩ := h.form (List.length_pos_iff.2 h0)
    refine ⟨_, g, c, rfl, rfl, fun _ => rfl, owns_cap h, fun i hi => ?_⟩
    have := h.cells (g := g) rfl i (.int .i64 l[i]) (by rw [ints_idx, List.getElem?_eq_getElem hi]; rfl)
    rwa [show (⟨g, 0, none⟩ : Addr).add i = ⟨g, i, none⟩ by unfold Addr.add; split <;> simp_all] at this
end Go.Proofs.YtiijpbfkchokaaaGreat
