/-
  vlist.Prune: what its walk wants: append in a round, what is kept, what holds between two rounds.
-/
import Derived.Test.YtkkdopfdoommnaaQ13
import Derived.Test.YtkkdopfdoommnaaV10
import Derived.Stop.RegionWithIn
import Derived.Sort.CutIn
namespace Go.Proofs.Ytkkdopfdoommnaa
open Go.ChangeShapes Go.WideShapes Go.ChangeAt Go.RowKit Go.Shelf
attribute [local go_sem] Oper.semAt_some

/-- append, at a plain region's list, in a round -/
theorem wpListIn_append_lies {P : Program} {l n : Nat} (w : World) {ops : Array Oper} {rest : List Oper} {o : Oper} {a : Act} {Q : Exit → Act → World → Prop} (hgd : o.guard = none) (s x : Operand) (t : TypeId)
    (ho : o.op = .call { callee := .builtin .append, args := #[s, x], argTypes := #[t, t] })
    (base : Nat) (e : TypeId) (i : TypeInfo) (z : Value) (size bytes : Nat) (ht : P.underlying t = some (.slice e)) (hi : P.info? e = some i) (hz : i.zero = some z)
    (hsize : i.size = size) (hby : i.bytes = bytes) (hzs : z.cells.size = size) (hsz : 0 < size)
    (v : Value) (k : Nat) (xs : List Value) (hs : a.eval s = v) (hown : w.ownsRow base e size v k xs)
    (ad : Addr) (m c : Nat) (news : List Value) (hx : a.eval x = .slice (some ad) m c) (hl : news.length = m * size) (hnews : ∀ j u, news[j]? = some u → w.cell? (ad.add j) = some u) (h1 : ∀ u ∈ news, u.oneCell' = true)
    (hm : 0 < m) (h63 : k + m ≤ maxLen) (hbytes : (k + m) * bytes ≤ 140737488355328) (hbase : base ≤ w.heap.size) (H : Nat) (hH : w.heap.size = H)
    (h : ∀ g cap w', w'.ownsRow base e size (.slice (some ⟨g, 0, none⟩) (k + m) cap) (k + m) (xs ++ news) → w.grownBy w' v.ownBlock → (v.ownBlock = some g ∨ g = H) → g < w'.heap.size → wpListIn (Fence.wide.inRound l) n P ops Q rest (a.put o.dst (.slice (some ⟨g, 0, none⟩) (k + m) cap)) w') : wpListIn (Fence.wide.inRound l) n P ops Q (o :: rest) a w := by
  obtain ⟨g, cap, w', hr, h2, h3, h4, h5⟩ := run_append_lies (P := P) w t o.type base e i z size bytes ht hi hz hsize hby hzs hsz v k xs hown ad m c news hl hnews h1 hm h63 hbytes hbase H hH
  refine wpListIn_plain hgd fun K hK => ⟨fun _ _ => trivial, ?_⟩
  have hse : Oper.semAt (Fence.wide.inRound l).round a.eval o = execOp a.eval o := Oper.semAt_eq _ _ _ (fun c hc => by rw [ho] at hc; cases hc)
  rw [hse]
  unfold execOp
  simp only [ho, resolve, invoke, builtin, Sem.run_bind, Sem.run_pure, Result.andThen_ok, List.map_toArray, List.map_cons, List.map_nil, hs, hx, hr]
  exact hK _ _ (h g cap w' h2 h3 h4 h5)
/-- append of nodes: closed to the walk -/
def apNd (ty : TypeId) (x y : Value) : Sem Value := Builtin.append_ #[26, 26] ty #[x, y]
theorem execOp_apNd (ρ : Operand → Value) (dst : Option Tmp) (x y : Operand) (ty : TypeId) (pos : String) (after : Array Edge) (guard : Option (Nat × Bool)) :
    execOp ρ { dst, op := .call { callee := .builtin .append, args := #[x, y], argTypes := #[26, 26] }, type := ty, pos, after, guard } = (do pure (.value (← apNd ty (ρ x) (ρ y)))) := by
  unfold execOp apNd
  simp only [resolve, invoke, builtin, List.map_toArray, List.map_cons, List.map_nil]
  rfl
/-- what has been kept of the items pre, none of them a box or a rule -/
def outP (L : List Nd) (pre : List Nat) : List Nd := pre.foldl (fun out i => if fallsK (nth L i).kind then out else out ++ itemN L i) []
theorem outP_snoc (L : List Nd) (pre : List Nat) (x : Nat) : outP L (pre ++ [x]) = if fallsK (nth L x).kind then outP L pre else outP L pre ++ itemN L x := by simp [outP]
theorem itemN_len (L : List Nd) (i : Nat) : (itemN L i).length ≤ L.length := by unfold itemN; simp; omega
theorem outP_acc (L : List Nd) : ∀ (pre : List Nat) (acc : List Nd), (pre.foldl (fun out i => if fallsK (nth L i).kind then out else out ++ itemN L i) acc).length ≤ acc.length + pre.length * L.length
  | [], acc => by simp
  | x :: r, acc => by
    rw [List.foldl_cons]
    refine Nat.le_trans (outP_acc L r _) ?_
    have := itemN_len L x
    rw [List.length_cons, Nat.add_mul, Nat.one_mul]
    split
    · omega
    · rw [List.length_append]; omega
theorem outP_len (L : List Nd) (pre : List Nat) : (outP L pre).length ≤ pre.length * L.length := by have := outP_acc L pre []; simpa [outP] using this
theorem prunF_pre (L : List Nd) (g : Gl) : ∀ (pre rest : List Nat) (acc : List Nd), (∀ x ∈ pre, solidK (nth L x).kind = false) → prunF L g (pre ++ rest) acc = prunF L g rest (pre.foldl (fun out i => if fallsK (nth L i).kind then out else out ++ itemN L i) acc)
  | [], rest, acc, _ => rfl
  | x :: r, rest, acc, h => by
    rw [List.cons_append, List.foldl_cons, ← prunF_pre L g r rest _ (fun y hy => h y (List.mem_cons_of_mem _ hy))]
    show (if solidK (nth L x).kind then _ else prunF L g (r ++ rest) _) = _
    rw [h x List.mem_cons_self]; rfl
theorem blk_own {β : Type} (B : Nat) (c : Array Value) (t : TypeId) (fr : Nat × Nat) : Own (fun (_ : β) W => W.heap[B]? = some (.cells c t fr)) := fun s X Y row hs hg hrow =>
  (hg.block B (Array.getElem?_eq_some_iff.1 hs).1 (fun e' => by obtain ⟨o, ho, hc⟩ := hrow B e'.symm; rw [hs] at ho; cases ho; cases hc)).trans hs
theorem owns_form {W : World} {B n size : Nat} {e : TypeId} {v : Value} {xs : List Value} (h : W.ownsRow B e size v n xs) : ∃ p c, v = .slice p n c := by
  obtain ⟨_, ⟨rfl, h0⟩ | ⟨g, cap, cur, rfl, _⟩⟩ := h
  · exact ⟨none, 0, by rw [h0]⟩
  · exact ⟨_, cap, rfl⟩
theorem keepsOthers_below {W W' : World} (h : Below W.heap.size W W') : KeepsOthers W W' := ⟨h.size, fun k _ hk _ => (h.block k (Array.getElem?_eq_some_iff.1 hk).1).trans hk⟩
abbrev It (s : List Nat) := {i : Nat // i ∈ s}
/-- between two rounds -/
def PrI (w : World) (Z B0 : Nat) (p0 : Option Addr) (cap : Nat) (L : List Nd) (g : Gl) (s : List Nat) (pre : List (It s)) (W : World) : Prop :=
  ((Boxed W w.heap.size 26 (.slice p0 L.length cap) ∧ Boxed W (Z + 1) 26 (.slice p0 L.length cap) ∧ W.heap[w.heap.size + 1]? = some (.cells g.arr 23 (0, 0)) ∧ (∃ v, Boxed W Z 26 v ∧ W.ownsRow B0 25 19 v (outP L (pre.map (·.1))).length ((outP L (pre.map (·.1))).flatMap Nd.cells) ∧ True) ∧ (∀ x ∈ pre, solidK (nth L x.1).kind = false)) ∧ Below w.heap.size w W) ∧ B0 ≤ W.heap.size
/-- a round has left: at a box or a rule -/
def PrX (w : World) (Z B0 : Nat) (L : List Nd) (g : Gl) (s : List Nat) (id : Nat) (c : Code) (prex : List (It s)) (W : World) : Prop :=
  (c = .exit id ∧ ∃ (pre : List (It s)) (x : It s), prex = pre ++ [x] ∧ (∀ y ∈ pre, solidK (nth L y.1).kind = false) ∧ solidK (nth L x.1).kind = true ∧
    ∃ v, Boxed W Z 26 v ∧ W.ownsRow B0 25 19 v (outP L (pre.map (·.1)) ++ topN g (nth L x.1).h :: L.drop x.1).length ((outP L (pre.map (·.1)) ++ topN g (nth L x.1).h :: L.drop x.1).flatMap Nd.cells)) ∧ Below w.heap.size w W
theorem prI_own {w : World} {Z B0 B : Nat} {p0 : Option Addr} {cap : Nat} {L : List Nd} {g : Gl} {s : List Nat} (hB : w.heap.size ≤ B) : OwnFrom B (PrI w Z B0 p0 cap L g s) :=
  OwnFrom.and (OwnFrom.and (OwnFrom.and (Own.from (boxed_own _ _ _) _) (OwnFrom.and (Own.from (boxed_own _ _ _) _) (OwnFrom.and (Own.from (blk_own _ _ _ _) _) (OwnFrom.and (Own.from (holdsRow_own _ _ _ _ _ _ _ (fun _ _ => True)) _) (ownFrom_pure _ _))))) (ownFrom_below (Nat.le_refl _) hB)) (fun _ _ _ _ hs hg _ => Nat.le_trans hs hg.size)
theorem prX_own {w : World} {Z B0 B : Nat} {L : List Nd} {g : Gl} {s : List Nat} {id : Nat} (hB : w.heap.size ≤ B) (c : Code) : OwnFrom B (PrX w Z B0 L g s id c) :=
  OwnFrom.and (OwnFrom.and (ownFrom_pure _ _) (Own.from (fun prex X Y row hs hg hrow => by
    obtain ⟨pre, x, h1, h2, h3, v, hv, hr⟩ := hs
    obtain ⟨v2, hv2, hr2, _⟩ := holdsRow_own (β := Unit) B0 Z 26 25 19 (fun _ => (outP L (pre.map (·.1)) ++ topN g (nth L x.1).h :: L.drop x.1).length) (fun _ => (outP L (pre.map (·.1)) ++ topN g (nth L x.1).h :: L.drop x.1).flatMap Nd.cells) (fun _ _ => True) () X Y row ⟨v, hv, hr, trivial⟩ hg hrow
    exact ⟨pre, x, h1, h2, h3, v2, hv2, hr2⟩) _)) (ownFrom_below (Nat.le_refl _) hB)
end Go.Proofs.Ytkkdopfdoommnaa
