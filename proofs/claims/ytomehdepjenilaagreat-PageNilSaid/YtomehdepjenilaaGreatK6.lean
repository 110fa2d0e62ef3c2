/-
  The laws' own functions over lists: lists that were told are grown in turn: which rows stay (plain, for rows of any type).
-/
import Derived.Test.YtomehdepjenilaaGreatK4
import Derived.ArgAppend
namespace Go.Proofs.YtomehdepjenilaaGreat
open Go.ChangeShapes Go.WideShapes Go.ChangeAt Go.RowKit Go.Shelf
theorem run_append_keeps {P : Program} (w : World) (t ty : TypeId) (base : Nat) (e : TypeId) (i : TypeInfo) (z : Value) (size bytes : Nat) (ht : P.underlying t = some (.slice e)) (hi : P.info? e = some i) (hz : i.zero = some z)
    (hsize : i.size = size) (hby : i.bytes = bytes) (hzs : z.cells.size = size) (hsz : 0 < size)
    (v : Value) (n : Nat) (xs : List Value) (hown : w.ownsRow base e size v n xs)
    (ad : Addr) (m c : Nat) (news : List Value) (hl : news.length = m * size) (hnews : ∀ j u, news[j]? = some u → w.cell? (ad.add j) = some u) (h1 : ∀ u ∈ news, u.oneCell' = true)
    (hm : 0 < m) (h63 : n + m ≤ maxLen) (hbytes : (n + m) * bytes ≤ 140737488355328) (hbase : base ≤ w.heap.size) :
    ∃ g cap w', (Builtin.append_ #[t, t] ty #[v, .slice (some ad) m c]).run P w = .ok (.slice (some ⟨g, 0, none⟩) (n + m) cap) w' ∧
      w'.ownsRow base e size (.slice (some ⟨g, 0, none⟩) (n + m) cap) (n + m) (xs ++ news) ∧ g < w'.heap.size ∧
      (v = .slice (some ⟨g, 0, none⟩) n cap ∧ w.grownBy w' (some g) ∨ w.heap.size ≤ g ∧ w.grownBy w' none) := by
  obtain ⟨g', cap', w', hr, h2, h3, h4, h5⟩ := run_append_lies (P := P) w t ty base e i z size bytes ht hi hz hsize hby hzs hsz v n xs hown ad m c news hl hnews h1 hm h63 hbytes hbase _ rfl
  rcases hown.2 with ⟨rfl, rfl⟩ | ⟨g, cap, cur, rfl, hbg, hg, hnc, hcm, hcs, htake⟩
  · refine ⟨g', cap', w', hr, h2, h5, .inr ⟨?_, h3⟩⟩
    rcases h4 with h4 | h4
    · cases h4
    · exact Nat.le_of_eq h4.symm
  · by_cases hroom : n + m ≤ cap
    · subst hsize
      have hfit : n * i.size + news.length ≤ cur.size := by rw [hl, hcs, ← Nat.add_mul]; exact Nat.mul_le_mul_right _ hroom
      have hr2 := run_append_room (P := P) w t ty e i ht hi g n cap cur hg ad m c news hl hnews h1 hroom hfit
      have he := hr.symm.trans hr2
      simp only [Result.ok.injEq, Value.slice.injEq, Option.some.injEq, Addr.mk.injEq, and_true, true_and] at he
      obtain ⟨⟨rfl, rfl⟩, _⟩ := he
      exact ⟨g', cap', w', hr, h2, h5, .inl ⟨rfl, h3⟩⟩
    · obtain ⟨v', w2, hr2, h6, h7⟩ := run_append_arg_grows (P := P) w t ty e i z size bytes ht hi hz hsize hby hzs hsz ⟨g, 0, none⟩ n cap xs hown.1 (hown.cells (g := g) rfl) ad m c news hl hnews (by omega) h63 hbytes
      obtain ⟨g2, cap2, rfl, hb, hlt⟩ := h6.form (by omega)
      exact ⟨g2, cap2, w2, hr2, ownsRow_base h6 hbase, hlt, .inr ⟨hb, h7⟩⟩
theorem wpList_append_keeps {P : Program} (w : World) {ops : Array Oper} {rest : List Oper} {o : Oper} {a : Act} {Q : Exit → Act → World → Prop} (hgd : o.guard = none) (s x : Operand) (t : TypeId)
    (ho : o.op = .call { callee := .builtin .append, args := #[s, x], argTypes := #[t, t] })
    (base : Nat) (e : TypeId) (i : TypeInfo) (z : Value) (size bytes : Nat) (ht : P.underlying t = some (.slice e)) (hi : P.info? e = some i) (hz : i.zero = some z)
    (hsize : i.size = size) (hby : i.bytes = bytes) (hzs : z.cells.size = size) (hsz : 0 < size)
    (v : Value) (n : Nat) (xs : List Value) (hs : a.eval s = v) (hown : w.ownsRow base e size v n xs)
    (ad : Addr) (m c : Nat) (news : List Value) (hx : a.eval x = .slice (some ad) m c) (hl : news.length = m * size) (hnews : ∀ j u, news[j]? = some u → w.cell? (ad.add j) = some u) (h1 : ∀ u ∈ news, u.oneCell' = true)
    (hm : 0 < m) (h63 : n + m ≤ maxLen) (hbytes : (n + m) * bytes ≤ 140737488355328) (hbase : base ≤ w.heap.size)
    (h : ∀ g cap w', w'.ownsRow base e size (.slice (some ⟨g, 0, none⟩) (n + m) cap) (n + m) (xs ++ news) → g < w'.heap.size → (v = .slice (some ⟨g, 0, none⟩) n cap ∧ w.grownBy w' (some g) ∨ w.heap.size ≤ g ∧ w.grownBy w' none) → wpList P ops Q rest (a.put o.dst (.slice (some ⟨g, 0, none⟩) (n + m) cap)) w') : wpList P ops Q (o :: rest) a w :=
  wpList_plain hgd fun K hK => by
    obtain ⟨g, cap, w', hr, h2, h3, h4⟩ := run_append_keeps (P := P) w t o.type base e i z size bytes ht hi hz hsize hby hzs hsz v n xs hown ad m c news hl hnews h1 hm h63 hbytes hbase
    unfold Oper.wp execOp
    simp only [ho, resolve, invoke, builtin, Sem.run_bind, Sem.run_pure, Result.andThen_ok, List.map_toArray, List.map_cons, List.map_nil, hs, hx, hr]
    exact hK _ _ (h g cap w' h2 h3 h4)
theorem grownBy_refl (w : World) (r : Option Nat) : w.grownBy w r := ⟨rfl, rfl, rfl, Nat.le_refl _, fun _ _ _ => rfl⟩
theorem grownBy_trans {a b c : World} {r r2 : Option Nat} (h : a.grownBy b r) (k : b.grownBy c r2) (hr : ∀ j, j < a.heap.size → r2 = some j → r = some j) : a.grownBy c r :=
  ⟨k.os.trans h.os, k.tape.trans h.tape, k.output.trans h.output, Nat.le_trans h.size k.size, fun j hj hne => (k.block j (Nat.lt_of_lt_of_le hj h.size) (fun e => hne (hr j hj e.symm).symm)).trans (h.block j hj hne)⟩
theorem owns_prefix {W W' : World} {B size : Nat} {E : TypeId} {g n c k m cap : Nat} {xs zs ns : List Value} (hs : 0 < size) (h1 : W.ownsRow B E size (.slice (some ⟨g, 0, none⟩) n c) n xs) (h2 : W.ownsRow B E size (.slice (some ⟨g, 0, none⟩) k cap) k zs) (h3 : W'.ownsRow B E size (.slice (some ⟨g, 0, none⟩) m cap) m (xs ++ ns)) : W'.ownsRow B E size (.slice (some ⟨g, 0, none⟩) n c) n xs := by
  obtain ⟨l1, ⟨e1, _⟩ | ⟨g1, c1, cur1, e1, b1, g1', n1, m1, s1, t1⟩⟩ := h1
  · cases e1
  obtain ⟨l2, ⟨e2, _⟩ | ⟨g2, c2, cur2, e2, b2, g2', n2, m2, s2, t2⟩⟩ := h2
  · cases e2
  obtain ⟨l3, ⟨e3, _⟩ | ⟨g3, c3, cur3, e3, b3, g3', n3, m3, s3, t3⟩⟩ := h3
  · cases e3
  cases e1; cases e2; cases e3
  rw [g1'] at g2'
  cases g2'
  have hc : c = cap := Nat.eq_of_mul_eq_mul_right hs (s1.symm.trans s2)
  subst hc
  refine ⟨l1, .inr ⟨g, c, cur3, rfl, b1, g3', n1, m1, s3, ?_⟩⟩
  have hle : n * size ≤ m * size := by rw [← l3, List.length_append, l1]; exact Nat.le_add_right _ _
  have := congrArg (List.take (n * size)) t3
  rw [List.take_take, Nat.min_eq_left hle, ← l1, List.take_left, l1] at this
  exact this
structure Grows (W0 : World) (B : Nat) (E : TypeId) (size : Nat) (v : Value) (n : Nat) (xs : List Value) (k : Nat) (zs : List Value) (x : Value) (W : World) : Prop where
  by_ : W0.grownBy W v.ownBlock
  row : W.ownsRow B E size x (n + k) (xs ++ zs)
  old : W.ownsRow B E size v n xs
  at_ : x.ownBlock = v.ownBlock ∨ ∃ h, W0.heap.size ≤ h ∧ x.ownBlock = some h
  lt : ∀ g, v.ownBlock = some g → g < W0.heap.size
theorem Grows.start {W0 : World} {B size n : Nat} {E : TypeId} {v : Value} {xs : List Value} (h : W0.ownsRow B E size v n xs) : Grows W0 B E size v n xs 0 [] v W0 :=
  ⟨grownBy_refl _ _, by simpa using h, h, .inl rfl, fun g hg => (h.lt g hg).2⟩
theorem Grows.step {W0 W W' : World} {B size n k m g cap : Nat} {E : TypeId} {v x : Value} {xs zs news : List Value} (hs : 0 < size) (h : Grows W0 B E size v n xs k zs x W)
    (hrow : W'.ownsRow B E size (.slice (some ⟨g, 0, none⟩) (n + k + m) cap) (n + k + m) (xs ++ zs ++ news)) (hat : x = .slice (some ⟨g, 0, none⟩) (n + k) cap ∧ W.grownBy W' (some g) ∨ W.heap.size ≤ g ∧ W.grownBy W' none) :
    Grows W0 B E size v n xs (k + m) (zs ++ news) (.slice (some ⟨g, 0, none⟩) (n + k + m) cap) W' := by
  have hrow' : W'.ownsRow B E size (.slice (some ⟨g, 0, none⟩) (n + k + m) cap) (n + (k + m)) (xs ++ (zs ++ news)) := by rw [← Nat.add_assoc, ← List.append_assoc]; exact hrow
  rcases hat with ⟨rfl, hg⟩ | ⟨hge, hg⟩
  · rcases h.at_ with ha | ⟨h', hh, ha⟩
    · refine ⟨grownBy_trans h.by_ hg (fun j _ e => by rw [← ha, ← e]; rfl), hrow', ?_, .inl ha, h.lt⟩
      have hv := h.old
      obtain ⟨p, c, rfl⟩ := owns_form hv
      cases p with
      | none => cases ha
      | some a =>
        obtain ⟨_, ⟨e, _⟩ | ⟨g2, c2, cur, e, _⟩⟩ := id hv
        · cases e
        · cases e
          cases ha
          exact owns_prefix hs hv h.row (by rw [← List.append_assoc]; exact hrow)
    · obtain rfl : g = h' := by simpa [Value.ownBlock] using ha
      refine ⟨grownBy_trans h.by_ hg (fun j hj e => by cases e; omega), hrow', h.old.kept hg ?_, .inr ⟨g, hh, rfl⟩, h.lt⟩
      right
      intro e
      have := h.lt g e
      omega
  · refine ⟨grownBy_trans h.by_ hg (fun j _ e => by cases e), hrow', h.old.kept hg (by cases v.ownBlock <;> simp), .inr ⟨g, Nat.le_trans h.by_.size hge, rfl⟩, h.lt⟩
theorem Grows.alloc {W0 W : World} {B size n k : Nat} {E : TypeId} {v x : Value} {xs zs : List Value} (h : Grows W0 B E size v n xs k zs x W) (o : Obj) : Grows W0 B E size v n xs k zs x (W.alloc o) :=
  ⟨grownBy_trans h.by_ (World.grownBy_alloc W o none) (fun j _ e => by cases e), h.row.alloc o, h.old.alloc o, h.at_, h.lt⟩
structure Apt (Bf N : Nat) (v : Nat → Value) : Prop where
  lt : ∀ j, j < N → ∀ g, (v j).ownBlock = some g → g < Bf
  ne : ∀ i j, i < N → j < N → i ≠ j → ∀ g, (v i).ownBlock = some g → (v j).ownBlock ≠ some g
structure Told (w0 : World) (B Bf : Nat) (E : TypeId) (size N : Nat) (v : Nat → Value) (n : Nat → Nat) (xs : Nat → List Value) (W : World) : Prop where
  rows : ∀ j, j < N → W.ownsRow B E size (v j) (n j) (xs j)
  below : Below B w0 W
  frame : ∀ k, k < Bf → (∀ j, j < N → (v j).ownBlock ≠ some k) → W.heap[k]? = w0.heap[k]?
  size : Bf ≤ W.heap.size
section
variable {w0 W W' : World} {B Bf size N : Nat} {E : TypeId} {v : Nat → Value} {n : Nat → Nat} {xs : Nat → List Value}
theorem Told.turn (ha : Apt Bf N v) (h : Told w0 B Bf E size N v n xs W) {i : Nat} (hi : i < N) (hg : W.grownBy W' (v i).ownBlock) {x' : List Value} (hr : W'.ownsRow B E size (v i) (n i) x') (hB : B ≤ W.heap.size) : Told w0 B Bf E size N v n (fun j => if j = i then x' else xs j) W' := by
  refine ⟨fun j hj => ?_, h.below.grown hg hB (fun k hk => (((h.rows i hi).lt k hk)).1), fun k hk hne => ?_, Nat.le_trans h.size hg.size⟩
  · by_cases e : j = i
    · subst e; simp only [if_true]; exact hr
    · simp only [if_neg e]
      refine (h.rows j hj).kept hg ?_
      cases hv : (v j).ownBlock with
      | none => exact .inl rfl
      | some g => exact .inr fun e2 => ha.ne j i hj hi e g hv e2.symm
  · exact (hg.block k (Nat.lt_of_lt_of_le hk h.size) (fun e => hne i hi e.symm)).trans (h.frame k hk hne)
theorem Told.far (h : Told w0 B Bf E size N v n xs W) (ha : Apt Bf N v) {r : Option Nat} (hg : W.grownBy W' r) (hr : ∀ g, r = some g → Bf ≤ g) (hB : B ≤ Bf) : Told w0 B Bf E size N v n xs W' := by
  refine ⟨fun j hj => (h.rows j hj).kept hg ?_, h.below.grown hg (Nat.le_trans hB h.size) (fun k hk => Nat.le_trans hB (hr k hk)), fun k hk hne => (hg.block k (Nat.lt_of_lt_of_le hk h.size) (fun e => ?_)).trans (h.frame k hk hne), Nat.le_trans h.size hg.size⟩
  · cases hv : (v j).ownBlock with
    | none => exact .inl rfl
    | some g => exact .inr fun e => by have := ha.lt j hj g hv; have := hr g e.symm; omega
  · have := hr k e.symm; omega
structure Ph2 (w0 : World) (B Bf : Nat) (E : TypeId) (size : Nat) (EE : TypeId) (N : Nat) (v : Nat → Value) (n : Nat → Nat) (xs ys : Nat → List Value) (k : Nat) (gv : Nat → Value) (i : Nat) (G : Value) (W : World) : Prop where
  told : Told w0 B Bf E size N v n xs W
  grown : ∀ j, j < i → W.ownsRow B E size (gv j) (n j + k) (xs j ++ ys j)
  gat : ∀ j, j < i → (gv j).ownBlock = (v j).ownBlock ∨ ∃ h, Bf ≤ h ∧ (gv j).ownBlock = some h
  gne : ∀ j, j < i → ∀ g, G.ownBlock = some g → (gv j).ownBlock ≠ some g
  list : W.ownsRow Bf EE 1 G i ((List.range i).map gv)
theorem Ph2.start {ys : Nat → List Value} {EE : TypeId} {k : Nat} (gv : Nat → Value) (h : Told w0 B Bf E size N v n xs W) : Ph2 w0 B Bf E size EE N v n xs ys k gv 0 (.slice none 0 0) W :=
  ⟨h, fun j hj => by omega, fun j hj => by omega, fun j hj => by omega, World.ownsRow_nil W Bf EE 1⟩
theorem Ph2.listIn {ys : Nat → List Value} {EE : TypeId} {gv : Nat → Value} {i k k' : Nat} {G x : Value} {zs : List Value} {W2 : World} (ha : Apt Bf N v) (h : Ph2 w0 B Bf E size EE N v n xs ys k gv i G W) (hi : i < N) (hG : Grows W B E size (v i) (n i) (xs i) k' zs x W2) :
    W2.ownsRow Bf EE 1 G i ((List.range i).map gv) := by
  refine h.list.kept hG.by_ ?_
  cases hg : G.ownBlock with
  | none => exact .inl rfl
  | some g => exact .inr fun e => by have := ha.lt i hi g e.symm; have := (h.list.lt g hg).1; omega
theorem Ph2.step {ys : Nat → List Value} {EE : TypeId} {gv : Nat → Value} {i k g cap : Nat} {G x : Value} {W2 W3 : World} (ha : Apt Bf N v) (hB : B ≤ Bf) (h : Ph2 w0 B Bf E size EE N v n xs ys k gv i G W) (hi : i < N)
    (hG : Grows W B E size (v i) (n i) (xs i) k (ys i) x W2) (hown : W3.ownsRow Bf EE 1 (.slice (some ⟨g, 0, none⟩) (i + 1) cap) (i + 1) ((List.range i).map gv ++ [x]))
    (hat : G = .slice (some ⟨g, 0, none⟩) i cap ∧ W2.grownBy W3 (some g) ∨ W2.heap.size ≤ g ∧ W2.grownBy W3 none) :
    Ph2 w0 B Bf E size EE N v n xs ys k (fun j => if j = i then x else gv j) (i + 1) (.slice (some ⟨g, 0, none⟩) (i + 1) cap) W3 := by
  have hsz := h.told.size
  have hsz2 := hG.by_.size
  have t2 : Told w0 B Bf E size N v n xs W2 := by
    have := h.told.turn ha hi hG.by_ hG.old (Nat.le_trans hB hsz)
    have e : (fun j => if j = i then xs i else xs j) = xs := by funext j; split <;> simp_all
    rwa [e] at this
  have hGg : ∀ b, G.ownBlock = some b → Bf ≤ b ∧ b < W.heap.size := fun b hb => h.list.lt b hb
  have hg3 : ∀ r, (∀ b, r = some b → G.ownBlock = some b) → W2.grownBy W3 r → Told w0 B Bf E size N v n xs W3 ∧ (∀ j, j < i → W3.ownsRow B E size (gv j) (n j + k) (xs j ++ ys j)) ∧ W3.ownsRow B E size x (n i + k) (xs i ++ ys i) := by
    intro r hr hg
    refine ⟨t2.far ha hg (fun b hb => (hGg b (hr b hb)).1) hB, fun j hj => ?_, hG.row.kept hg ?_⟩
    · refine ((h.grown j hj).kept hG.by_ ?_).kept hg ?_
      · cases hv : (gv j).ownBlock with
        | none => exact .inl rfl
        | some b =>
          refine .inr fun e => ?_
          rcases h.gat j hj with h1 | ⟨b2, hb2, h1⟩
          · exact ha.ne j i (by omega) hi (by omega) b (h1.symm.trans hv) e.symm
          · rw [hv] at h1; cases h1
            have := ha.lt i hi b e.symm
            omega
      · cases hv : (gv j).ownBlock with
        | none => exact .inl rfl
        | some b => exact .inr fun e => h.gne j hj b (hr b e.symm) hv
    · cases hv : x.ownBlock with
      | none => exact .inl rfl
      | some b =>
        refine .inr fun e => ?_
        have h4 := hGg b (hr b e.symm)
        rcases hG.at_ with h1 | ⟨b2, hb2, h1⟩
        · have := ha.lt i hi b (h1.symm.trans hv); omega
        · rw [hv] at h1; cases h1; omega
  have hne : ∀ j, j < i + 1 → ∀ b, (if j = i then x else gv j).ownBlock = some b → b < W2.heap.size ∧ G.ownBlock ≠ some b := by
    intro j hj b hb
    by_cases e : j = i
    · rw [if_pos e] at hb
      refine ⟨(hG.row.lt b hb).2, fun hb2 => ?_⟩
      have h4 := hGg b hb2
      rcases hG.at_ with h1 | ⟨b2, hb2, h1⟩
      · have := ha.lt i hi b (h1.symm.trans hb); omega
      · rw [hb] at h1; cases h1; omega
    · rw [if_neg e] at hb
      exact ⟨by have := ((h.grown j (by omega)).lt b hb).2; omega, fun hb2 => h.gne j (by omega) b hb2 hb⟩
  have hlist : W3.ownsRow Bf EE 1 (.slice (some ⟨g, 0, none⟩) (i + 1) cap) (i + 1) ((List.range (i + 1)).map fun j => if j = i then x else gv j) := by
    have e : ((List.range (i + 1)).map fun j => if j = i then x else gv j) = (List.range i).map gv ++ [x] := by
      rw [List.range_succ, List.map_append]
      congr 1
      · apply List.map_congr_left
        intro j hj
        have := List.mem_range.1 hj
        rw [if_neg (by omega)]
      · simp
    rw [e]; exact hown
  have hgat : ∀ j, j < i + 1 → (if j = i then x else gv j).ownBlock = (v j).ownBlock ∨ ∃ h, Bf ≤ h ∧ (if j = i then x else gv j).ownBlock = some h := by
    intro j hj
    by_cases e : j = i
    · rw [if_pos e, e]
      rcases hG.at_ with h1 | ⟨b2, hb2, h1⟩
      · exact .inl h1
      · exact .inr ⟨b2, by omega, h1⟩
    · rw [if_neg e]; exact h.gat j (by omega)
  have hgr : ∀ r, (∀ b, r = some b → G.ownBlock = some b) → W2.grownBy W3 r → ∀ j, j < i + 1 → W3.ownsRow B E size (if j = i then x else gv j) (n j + k) (xs j ++ ys j) := by
    intro r hr hg j hj
    obtain ⟨_, h2, h3⟩ := hg3 r hr hg
    by_cases e : j = i
    · rw [if_pos e, e]; exact h3
    · rw [if_neg e]; exact h2 j (by omega)
  rcases hat with ⟨rfl, hg⟩ | ⟨hge, hg⟩
  · refine ⟨(hg3 _ (fun b hb => hb) hg).1, hgr _ (fun b hb => hb) hg, hgat, fun j hj b hb hx => ?_, hlist⟩
    cases hb
    exact (hne j hj g hx).2 rfl
  · refine ⟨(hg3 none (fun b hb => by cases hb) hg).1, hgr none (fun b hb => by cases hb) hg, hgat, fun j hj b hb hx => ?_, hlist⟩
    cases hb
    have := (hne j hj g hx).1
    omega
end
end Go.Proofs.YtomehdepjenilaaGreat
