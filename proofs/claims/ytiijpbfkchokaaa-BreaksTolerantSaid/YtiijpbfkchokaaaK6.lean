/-
  The document's side: whether a row of nodes is a list.
  The document's side: Check of a row of nodes: the walk.
  The document's side: Check of a column; whether a glue may be a top glue.
  The document's side: the marks of a column.
  Where a column may be broken, and at what penalty (plain).
  What a round of any column walk wants: append in a round, what is kept; a drawn region in a round: reads and still calls first, then what must come last, by one walk in the order of the text.
  vlist.legal: a column's legal breaks, one by one: the iterator's contract.
  append at a plain region's list, as one step of a region that draws. No statement of the seat stands here.
  vlist.Legal: where a column may be broken, and at what penalty.
  The document's side: where a column may be broken: Places, Legal.
  The laws' own functions over lists of nodes: a marker; a lent list.
  The laws' own functions over lists of nodes: are two lists the same.
  The laws' own functions over lists of nodes: does a lent list stay.
  The laws' own functions over lists: lists that were told are grown in turn: which rows stay (plain, for rows of any type).
-/
import Derived.Test.YtiijpbfkchokaaaTame
import Derived.Test.YtiijpbfkchokaaaW1
import Derived.Test.YtiijpbfkchokaaaQ4
import Derived.Great.BuildSlice
import Derived.Laws.OwnMore
import Derived.Stop.RegionWithIn
import Derived.Sort.CutIn
import Derived.StillTailTactics
import Derived.Deep.RegionLaw
import Derived.Deep.QuietTactic
import Derived.Deep.LoopGhost
import Derived.ArgAppend


namespace Go.Proofs.Ytiijpbfkchokaaa
open Go.ChangeShapes Go.WideShapes Go.ChangeAt Go.RowKit
attribute [local go_sem ↓] Go.wp_at_zero Go.wp_at_succ

/-- the places s, as a slice of whole numbers -/
structure IIn (w : World) (p : Option Addr) (g c : Nat) (s : List Nat) : Prop where
  hp : s ≠ [] → p = some ⟨g, 0, none⟩
  hg : s ≠ [] → g < w.heap.size
  at_ : ∀ i (hi : i < s.length), w.cell? ⟨g, i, none⟩ = some (.int .i64 (s[i] : Nat))
theorem IIn.below {w w' : World} {p : Option Addr} {g c : Nat} {s : List Nat} (h : IIn w p g c s) (hb : Below w.heap.size w w') : IIn w' p g c s :=
  ⟨h.hp, fun e => Nat.lt_of_lt_of_le (h.hg e) hb.size, fun i hi => (hb.cell (p := ⟨g, i, none⟩) (h.hg (by intro e; rw [e] at hi; simp at hi))).trans (h.at_ i hi)⟩
theorem runC_right : ∀ (l : List Nd) (st : List Int) (d : Int) (r : List Int × Int), runC l st d = some r → ∀ x ∈ l, rightB x = true
  | [], _, _, _, _ => fun x hx => by cases hx
  | y :: l, st, d, r, h => fun x hx => by
    unfold runC at h
    split at h
    · rename_i hr
      obtain ⟨s, _, h2⟩ := Option.bind_eq_some_iff.1 h
      rcases List.mem_cons.1 hx with rfl | hx
      · exact hr
      · exact runC_right l _ _ _ h2 x hx
    · cases h
theorem check_right {L : List Nd} (h : checkC L = 0) : ∀ x ∈ L, rightB x = true := by
  obtain ⟨_, d, _, hr⟩ := checkC_zero h
  exact runC_right L [] 0 _ hr
end Go.Proofs.Ytiijpbfkchokaaa
namespace Go.Proofs.Ytiijpbfkchokaaa
open Go.ChangeShapes Go.WideShapes Go.ChangeAt Go.RowKit
attribute [local go_sem ↓] Go.wp_at_zero Go.wp_at_succ

theorem results_tmp4 {fn : Func} {t u v x : Tmp} (h : fn.results = #[.tmp t, .tmp u, .tmp v, .tmp x]) (tmps : Array Value) (P : Program) (w : World) :
    (results fn tmps).run P w = .ok (.tuple #[tmps.getD t undef, tmps.getD u undef, tmps.getD v undef, tmps.getD x undef]) w := by
  simp [results, h]
structure Mk where
  first : ByteArray
  last : ByteArray
  some : Bool
def Mk.none : Mk := ⟨⟨#[]⟩, ⟨#[]⟩, false⟩
def Mk.vals (m : Mk) (e : Int) : Value := .tuple #[.string m.first, .string m.last, .bool m.some, .int .i64 e]
end Go.Proofs.Ytiijpbfkchokaaa

namespace Go.Proofs.Ytiijpbfkchokaaa
open Go.ChangeShapes Go.WideShapes Go.ChangeAt Go.RowKit Go.Shelf
section
attribute [local go_sem] Oper.semAt_some

theorem owns_form {W : World} {B n size : Nat} {e : TypeId} {v : Value} {xs : List Value} (h : W.ownsRow B e size v n xs) : ∃ p c, v = .slice p n c := by
  obtain ⟨_, ⟨rfl, h0⟩ | ⟨g, cap, cur, rfl, _⟩⟩ := h
  · exact ⟨none, 0, by rw [h0]⟩
  · exact ⟨_, cap, rfl⟩
end
end Go.Proofs.Ytiijpbfkchokaaa

namespace Go.Proofs.Ytiijpbfkchokaaa
open Go.ChangeShapes Go.WideShapes Go.ChangeAt Go.RowKit
theorem step_append_lies {P : Program} {ops : Array Oper} {o : Oper} {a : Act} {w : World} {K : Act → World → Prop} {Q : Exit → Act → World → Prop} {E : Prop}
    (hgd : o.guard = none) (s x : Operand) (t : TypeId) (ho : o.op = .call { callee := .builtin .append, args := #[s, x], argTypes := #[t, t] })
    (base : Nat) (e : TypeId) (i : TypeInfo) (z : Value) (size bytes : Nat) (ht : P.underlying t = some (.slice e)) (hi : P.info? e = some i) (hz : i.zero = some z)
    (hsize : i.size = size) (hby : i.bytes = bytes) (hzs : z.cells.size = size) (hsz : 0 < size)
    (v : Value) (k : Nat) (xs : List Value) (hs : a.eval s = v) (hown : w.ownsRow base e size v k xs)
    (ad : Addr) (m c : Nat) (news : List Value) (hx : a.eval x = .slice (some ad) m c) (hl : news.length = m * size) (hnews : ∀ j u, news[j]? = some u → w.cell? (ad.add j) = some u) (h1 : ∀ u ∈ news, u.oneCell' = true)
    (hm : 0 < m) (h63 : k + m ≤ maxLen) (hbytes : (k + m) * bytes ≤ 140737488355328) (hbase : base ≤ w.heap.size) (H : Nat) (hH : w.heap.size = H)
    (h : ∀ g cap w', w'.ownsRow base e size (.slice (some ⟨g, 0, none⟩) (k + m) cap) (k + m) (xs ++ news) → w.grownBy w' v.ownBlock → (v.ownBlock = some g ∨ g = H) → g < w'.heap.size → K (a.put o.dst (.slice (some ⟨g, 0, none⟩) (k + m) cap)) w') :
    if Region.wanted o (yielded ops a.tmps) = true then Oper.wp P o a w K Q else E := by
  have hw : Region.wanted o (yielded ops a.tmps) = true := by simp [Region.wanted, hgd]
  rw [if_pos hw]
  obtain ⟨g, cap, w', hr, h2, h3, h4, h5⟩ := run_append_lies (P := P) w t o.type base e i z size bytes ht hi hz hsize hby hzs hsz v k xs hown ad m c news hl hnews h1 hm h63 hbytes hbase H hH
  unfold Oper.wp
  simp [execOp, ho, resolve, invoke, builtin, hs, hx, hr, Result.andThen]
  exact h g cap w' h2 h3 h4 h5
/-- a region that draws: what reads first, then the rest in its order; the world behind the draw is w.drew -/
theorem wpS_tail9 {P : Program} {id : Nat} {Q : Exit → Act → World → Prop} {a : Act} {w : World} {l : List Oper} (n : Nat) (hm : P.follows .mixedOrders = true) (hB : Region.lexTailB .any l.toArray n = true)
    (h : wpStill P l.toArray w.drew (fun a' => wpList P l.toArray Q (l.drop n) a' w.drew) (l.take n) a) : (Code.region id l.toArray true).wp P Q a w := wp_region_still_tail n hm hB h
end Go.Proofs.Ytiijpbfkchokaaa
namespace Go.Proofs.Ytiijpbfkchokaaa
open Go.ChangeShapes Go.WideShapes Go.ChangeAt Go.RowKit Go.Shelf
attribute [local go_sem] Oper.semAt_some
/-- two variables hold two slices of whole numbers of one's own -/
structure Two (W : World) (R Z n m : Nat) (a b : List Int) (v u : Value) : Prop where
  bv : Boxed W Z 40 v
  bu : Boxed W (Z + 1) 40 u
  rv : W.ownsRow R 3 1 v n (ints a)
  ru : W.ownsRow R 3 1 u m (ints b)
  ne : ∀ g, v.ownBlock = some g → u.ownBlock ≠ some g
section
variable {W w1 : World} {R Z n m g cap : Nat} {a b : List Int} {v u : Value} {x : Int}
theorem box_far {X : Nat} {t : TypeId} (ht : t ≠ 3) {y : Value} (hb : Boxed W X t y) {v : Value} {k : Nat} {xs : List Value} (hr : W.ownsRow R 3 1 v k xs) : v.ownBlock ≠ some X := fun e => hb.not_row ht hr e.symm
theorem push_box {X : Nat} {t : TypeId} {y : Value} {tmp : Obj} (ht : t ≠ 3) (hb : Boxed W X t y) {k : Nat} {xs : List Value} (hr : W.ownsRow R 3 1 v k xs) (hg : (W.alloc tmp).grownBy w1 v.ownBlock) : Boxed w1 X t y :=
  (hb.alloc tmp).kept hg (fun e => box_far ht hb hr e.symm)
theorem Two.first (h : Two W R Z n m a b v u) (hg : (W.alloc (.cells #[.int .i64 x] 3)).grownBy w1 v.ownBlock) (hown : w1.ownsRow R 3 1 (.slice (some ⟨g, 0, none⟩) (n + 1) cap) (n + 1) (ints a ++ [.int .i64 x])) (hat : v.ownBlock = some g ∨ g = (W.alloc (.cells #[.int .i64 x] 3)).heap.size) :
    Two (w1.setCell ⟨Z, 0, none⟩ (.slice (some ⟨g, 0, none⟩) (n + 1) cap)) R Z (n + 1) m (a ++ [x]) b (.slice (some ⟨g, 0, none⟩) (n + 1) cap) u := by
  have kv := push_box (by decide) h.bv h.rv hg
  have ku := push_box (by decide) h.bu h.rv hg
  have ru : w1.ownsRow R 3 1 u m (ints b) := (h.ru.alloc _).kept hg (by
    cases hu : u.ownBlock with
    | none => exact .inl rfl
    | some q => exact .inr fun e => h.ne q e.symm hu)
  refine ⟨Boxed.set _ kv, ku.other (by omega) _, (by rw [ints_append]; exact hown.kept (grownBy_setCell' w1 Z _) (.inr (box_far (by decide) kv hown))), ru.kept (grownBy_setCell' w1 Z _) (.inr (box_far (by decide) kv ru)), fun q hq hu => ?_⟩
  obtain rfl : g = q := by simpa [Value.ownBlock] using hq
  rcases hat with e | e
  · exact h.ne g e hu
  · have h5 := (h.ru.lt g hu).2
    rw [World.size_alloc] at e; omega
end
/-- each is stored back -/
theorem Two.back {W : World} {R Z n m : Nat} {a b : List Int} {v u : Value} (h : Two W R Z n m a b v u) : Two ((W.setCell ⟨Z, 0, none⟩ v).setCell ⟨Z + 1, 0, none⟩ u).drew R Z n m a b v u := by
  have k1 : Boxed (W.setCell ⟨Z, 0, none⟩ v) Z 40 v := Boxed.set _ h.bv
  have k2 : Boxed (W.setCell ⟨Z, 0, none⟩ v) (Z + 1) 40 u := h.bu.other (by omega) _
  have r1 : (W.setCell ⟨Z, 0, none⟩ v).ownsRow R 3 1 v n (ints a) := h.rv.kept (grownBy_setCell' W Z _) (.inr (box_far (by decide) h.bv h.rv))
  have r2 : (W.setCell ⟨Z, 0, none⟩ v).ownsRow R 3 1 u m (ints b) := h.ru.kept (grownBy_setCell' W Z _) (.inr (box_far (by decide) h.bv h.ru))
  have q1 := r1.kept (grownBy_setCell' _ (Z + 1) u) (.inr (box_far (by decide) k2 r1))
  have q2 := r2.kept (grownBy_setCell' _ (Z + 1) u) (.inr (box_far (by decide) k2 r2))
  exact ⟨k1.other (by omega) _, Boxed.set _ k2, ownsRow_same q1 fun _ _ _ => rfl, ownsRow_same q2 fun _ _ _ => rfl, h.ne⟩
end Go.Proofs.Ytiijpbfkchokaaa
namespace Go.Proofs.Ytiijpbfkchokaaa
open Go.ChangeShapes Go.WideShapes Go.ChangeAt Go.RowKit Go.Shelf
attribute [local go_sem ↓] Go.wp_at_zero Go.wp_at_succ
/-- two slices of whole numbers of one's own, apart -/
structure TwoV (W : World) (R n : Nat) (a b : List Int) (v u : Value) : Prop where
  rv : W.ownsRow R 3 1 v n (ints a)
  ru : W.ownsRow R 3 1 u n (ints b)
  ne : ∀ g, v.ownBlock = some g → u.ownBlock ≠ some g
theorem TwoV.below {W W' : World} {R n : Nat} {a b : List Int} {v u : Value} (h : TwoV W R n a b v u) (hb : Below W.heap.size W W') : TwoV W' R n a b v u := ⟨ownsRow_below h.rv hb, ownsRow_below h.ru hb, h.ne⟩
section
variable {W w1 w2 : World} {R n g cap g2 cap2 : Nat} {a b : List Int} {v u : Value} {x y : Int}
/-- both are appended to -/
theorem TwoV.push (h : TwoV W R n a b v u) (hg : (W.alloc (.cells #[.int .i64 x] 3)).grownBy w1 v.ownBlock) (hown : w1.ownsRow R 3 1 (.slice (some ⟨g, 0, none⟩) (n + 1) cap) (n + 1) (ints a ++ [.int .i64 x])) (hat : v.ownBlock = some g ∨ g = (W.alloc (.cells #[.int .i64 x] 3)).heap.size) :
    w1.ownsRow R 3 1 u n (ints b) ∧ (∀ q, u.ownBlock = some q → q ≠ g) := by
  refine ⟨(h.ru.alloc _).kept hg ?_, fun q hq e => ?_⟩
  · cases hu : u.ownBlock with
    | none => exact .inl rfl
    | some q => exact .inr fun e => h.ne q e.symm hu
  · subst e
    rcases hat with e | e
    · exact h.ne q e hq
    · have h5 := (h.ru.lt q hq).2
      rw [World.size_alloc] at e; omega
end
end Go.Proofs.Ytiijpbfkchokaaa
namespace Go.Proofs.Ytiijpbfkchokaaa
open Go.ChangeShapes Go.WideShapes Go.ChangeAt Go.RowKit Go.Shelf
def markN (k : Int) : Nd := { Nd.zero with kind := -k, text := ⟨#[114, 111, 111, 109]⟩ }
theorem owns_cap {W : World} {B size n c : Nat} {e : TypeId} {a : Addr} {xs : List Value} (h : W.ownsRow B e size (.slice (some a) n c) n xs) : n ≤ c := by
  obtain ⟨_, ⟨h, _⟩ | ⟨g, c2, cur, h, _, _, h1, _⟩⟩ := h
  · cases h
  · cases h; exact h1
end Go.Proofs.Ytiijpbfkchokaaa

namespace Go.Proofs.Ytiijpbfkchokaaa
open Go.ChangeShapes Go.WideShapes Go.ChangeAt Go.RowKit Go.Shelf
/-- a lent list: its nodes, its two markers -/
structure LentIn (w : World) (B g c : Nat) (L : List Nd) : Prop where
  nin : NIn w (some ⟨g, 0, none⟩) g 0 c L
  lt : g < w.heap.size
  ge : B ≤ g
  cap : L.length + 2 ≤ c
  m7 : agg? w g (L.length * 19) 19 = some (markN 7).arr
  m8 : agg? w g ((L.length + 1) * 19) 19 = some (markN 8).arr
  blk : ∃ cur, w.heap[g]? = some (.cells cur 85 (0, 0)) ∧ cur.size = c * 19
theorem LentIn.below {w w' : World} {B g c : Nat} {L : List Nd} (h : LentIn w B g c L) (hb : Below w.heap.size w w') : LentIn w' B g c L := by
  obtain ⟨cur, h1, h2⟩ := h.blk
  exact ⟨h.nin.below hb, Nat.lt_of_lt_of_le h.lt hb.size, h.ge, h.cap, ((bfacts hb).2.2.1 _ _ _ h.lt).trans h.m7, ((bfacts hb).2.2.1 _ _ _ h.lt).trans h.m8, cur, (hb.block g h.lt).trans h1, h2⟩
end Go.Proofs.Ytiijpbfkchokaaa
namespace Go.Proofs.Ytiijpbfkchokaaa
open Go.ChangeShapes Go.WideShapes Go.ChangeAt Go.RowKit Go.Shelf
theorem grownBy_refl (w : World) (r : Option Nat) : w.grownBy w r := ⟨rfl, rfl, rfl, Nat.le_refl _, fun _ _ _ => rfl⟩
theorem grownBy_trans {a b c : World} {r r2 : Option Nat} (h : a.grownBy b r) (k : b.grownBy c r2) (hr : ∀ j, j < a.heap.size → r2 = some j → r = some j) : a.grownBy c r :=
  ⟨k.os.trans h.os, k.tape.trans h.tape, k.output.trans h.output, Nat.le_trans h.size k.size, fun j hj hne => (k.block j (Nat.lt_of_lt_of_le hj h.size) (fun e => hne (hr j hj e.symm).symm)).trans (h.block j hj hne)⟩
/-- the beginning of a row that has grown within its block -/
theorem owns_prefix {W W' : World} {B size : Nat} {E : TypeId} {g n c k m cap : Nat} {xs zs ns : List Value} (hs : 0 < size) (h1 : W.ownsRow B E size (.slice (some ⟨g, 0, none⟩) n c) n xs) (h2 : W.ownsRow B E size (.slice (some ⟨g, 0, none⟩) k cap) k zs) (h3 : W'.ownsRow B E size (.slice (some ⟨g, 0, none⟩) m cap) m (xs ++ ns)) : W'.ownsRow B E size (.slice (some ⟨g, 0, none⟩) n c) n xs := by
  obtain ⟨l1, ⟨e1, _⟩ | ⟨g1, c1, cur1, e1, b1, g1', n1, m1, s1, t1⟩⟩ := h1
  · cases e1
  obtain ⟨l2, ⟨e2, _⟩ | ⟨g2, c2, cur2, e2, b2, g2', n2, m2, s2, t2⟩⟩ := h2
  · cases e2
  obtain ⟨l3, ⟨e3, _⟩ | ⟨g3, c3, cur3, e3, b3, g3', n3, m3, s3, t3⟩⟩ := h3
  · cases e3
  cases e1; cases e2; cases e3
  rw [g1'] at g2'
  cases g2'
  have hc : c = cap := Nat.eq_of_mul_eq_mul_right hs (s1.symm.trans s2)
  subst hc
  refine ⟨l1, .inr ⟨g, c, cur3, rfl, b1, g3', n1, m1, s3, ?_⟩⟩
  have hle : n * size ≤ m * size := by rw [← l3, List.length_append, l1]; exact Nat.le_add_right _ _
  have := congrArg (List.take (n * size)) t3
  rw [List.take_take, Nat.min_eq_left hle, ← l1, List.take_left, l1] at this
  exact this
/-- a row that grows out of another one: within it, or in new blocks -/
structure Grows (W0 : World) (B : Nat) (E : TypeId) (size : Nat) (v : Value) (n : Nat) (xs : List Value) (k : Nat) (zs : List Value) (x : Value) (W : World) : Prop where
  by_ : W0.grownBy W v.ownBlock
  row : W.ownsRow B E size x (n + k) (xs ++ zs)
  old : W.ownsRow B E size v n xs
  at_ : x.ownBlock = v.ownBlock ∨ ∃ h, W0.heap.size ≤ h ∧ x.ownBlock = some h
  lt : ∀ g, v.ownBlock = some g → g < W0.heap.size
theorem Grows.start {W0 : World} {B size n : Nat} {E : TypeId} {v : Value} {xs : List Value} (h : W0.ownsRow B E size v n xs) : Grows W0 B E size v n xs 0 [] v W0 :=
  ⟨grownBy_refl _ _, by simpa using h, h, .inl rfl, fun g hg => (h.lt g hg).2⟩
theorem Grows.step {W0 W W' : World} {B size n k m g cap : Nat} {E : TypeId} {v x : Value} {xs zs news : List Value} (hs : 0 < size) (h : Grows W0 B E size v n xs k zs x W)
    (hrow : W'.ownsRow B E size (.slice (some ⟨g, 0, none⟩) (n + k + m) cap) (n + k + m) (xs ++ zs ++ news)) (hat : x = .slice (some ⟨g, 0, none⟩) (n + k) cap ∧ W.grownBy W' (some g) ∨ W.heap.size ≤ g ∧ W.grownBy W' none) :
    Grows W0 B E size v n xs (k + m) (zs ++ news) (.slice (some ⟨g, 0, none⟩) (n + k + m) cap) W' := by
  have hrow' : W'.ownsRow B E size (.slice (some ⟨g, 0, none⟩) (n + k + m) cap) (n + (k + m)) (xs ++ (zs ++ news)) := by rw [← Nat.add_assoc, ← List.append_assoc]; exact hrow
  rcases hat with ⟨rfl, hg⟩ | ⟨hge, hg⟩
  · rcases h.at_ with ha | ⟨h', hh, ha⟩
    · refine ⟨grownBy_trans h.by_ hg (fun j _ e => by rw [← ha, ← e]; rfl), hrow', ?_, .inl ha, h.lt⟩
      have hv := h.old
      obtain ⟨p, c, rfl⟩ := owns_form hv
      cases p with
      | none => cases ha
      | some a =>
        obtain ⟨_, ⟨e, _⟩ | ⟨g2, c2, cur, e, _⟩⟩ := id hv
        · cases e
        · cases e
          cases ha
          exact owns_prefix hs hv h.row (by rw [← List.append_assoc]; exact hrow)
    · obtain rfl : g = h' := by simpa [Value.ownBlock] using ha
      refine ⟨grownBy_trans h.by_ hg (fun j hj e => by cases e; omega), hrow', h.old.kept hg ?_, .inr ⟨g, hh, rfl⟩, h.lt⟩
      right
      intro e
      have := h.lt g e
      omega
  · refine ⟨grownBy_trans h.by_ hg (fun j _ e => by cases e), hrow', h.old.kept hg (by cases v.ownBlock <;> simp), .inr ⟨g, Nat.le_trans h.by_.size hge, rfl⟩, h.lt⟩
/-- a block that is made beside -/
theorem Grows.alloc {W0 W : World} {B size n k : Nat} {E : TypeId} {v x : Value} {xs zs : List Value} (h : Grows W0 B E size v n xs k zs x W) (o : Obj) : Grows W0 B E size v n xs k zs x (W.alloc o) :=
  ⟨grownBy_trans h.by_ (World.grownBy_alloc W o none) (fun j _ e => by cases e), h.row.alloc o, h.old.alloc o, h.at_, h.lt⟩
/-- blocks that are apart -/
structure Apt (Bf N : Nat) (v : Nat → Value) : Prop where
  lt : ∀ j, j < N → ∀ g, (v j).ownBlock = some g → g < Bf
  ne : ∀ i j, i < N → j < N → i ≠ j → ∀ g, (v i).ownBlock = some g → (v j).ownBlock ≠ some g
/-- what the lists hold -/
structure Told (w0 : World) (B Bf : Nat) (E : TypeId) (size N : Nat) (v : Nat → Value) (n : Nat → Nat) (xs : Nat → List Value) (W : World) : Prop where
  rows : ∀ j, j < N → W.ownsRow B E size (v j) (n j) (xs j)
  below : Below B w0 W
  frame : ∀ k, k < Bf → (∀ j, j < N → (v j).ownBlock ≠ some k) → W.heap[k]? = w0.heap[k]?
  size : Bf ≤ W.heap.size
section
variable {w0 W W' : World} {B Bf size N : Nat} {E : TypeId} {v : Nat → Value} {n : Nat → Nat} {xs : Nat → List Value}
theorem Told.turn (ha : Apt Bf N v) (h : Told w0 B Bf E size N v n xs W) {i : Nat} (hi : i < N) (hg : W.grownBy W' (v i).ownBlock) {x' : List Value} (hr : W'.ownsRow B E size (v i) (n i) x') (hB : B ≤ W.heap.size) : Told w0 B Bf E size N v n (fun j => if j = i then x' else xs j) W' := by
  refine ⟨fun j hj => ?_, h.below.grown hg hB (fun k hk => (((h.rows i hi).lt k hk)).1), fun k hk hne => ?_, Nat.le_trans h.size hg.size⟩
  · by_cases e : j = i
    · subst e; simp only [if_true]; exact hr
    · simp only [if_neg e]
      refine (h.rows j hj).kept hg ?_
      cases hv : (v j).ownBlock with
      | none => exact .inl rfl
      | some g => exact .inr fun e2 => ha.ne j i hj hi e g hv e2.symm
  · exact (hg.block k (Nat.lt_of_lt_of_le hk h.size) (fun e => hne i hi e.symm)).trans (h.frame k hk hne)
theorem Told.far (h : Told w0 B Bf E size N v n xs W) (ha : Apt Bf N v) {r : Option Nat} (hg : W.grownBy W' r) (hr : ∀ g, r = some g → Bf ≤ g) (hB : B ≤ Bf) : Told w0 B Bf E size N v n xs W' := by
  refine ⟨fun j hj => (h.rows j hj).kept hg ?_, h.below.grown hg (Nat.le_trans hB h.size) (fun k hk => Nat.le_trans hB (hr k hk)), fun k hk hne => (hg.block k (Nat.lt_of_lt_of_le hk h.size) (fun e => ?_)).trans (h.frame k hk hne), Nat.le_trans h.size hg.size⟩
  · cases hv : (v j).ownBlock with
    | none => exact .inl rfl
    | some g => exact .inr fun e => by have := ha.lt j hj g hv; have := hr g e.symm; omega
  · have := hr k e.symm; omega
/-- the second phase: i of the lists have been grown -/
structure Ph2 (w0 : World) (B Bf : Nat) (E : TypeId) (size : Nat) (EE : TypeId) (N : Nat) (v : Nat → Value) (n : Nat → Nat) (xs ys : Nat → List Value) (k : Nat) (gv : Nat → Value) (i : Nat) (G : Value) (W : World) : Prop where
  told : Told w0 B Bf E size N v n xs W
  grown : ∀ j, j < i → W.ownsRow B E size (gv j) (n j + k) (xs j ++ ys j)
  gat : ∀ j, j < i → (gv j).ownBlock = (v j).ownBlock ∨ ∃ h, Bf ≤ h ∧ (gv j).ownBlock = some h
  gne : ∀ j, j < i → ∀ g, G.ownBlock = some g → (gv j).ownBlock ≠ some g
  list : W.ownsRow Bf EE 1 G i ((List.range i).map gv)
theorem Ph2.start {ys : Nat → List Value} {EE : TypeId} {k : Nat} (gv : Nat → Value) (h : Told w0 B Bf E size N v n xs W) : Ph2 w0 B Bf E size EE N v n xs ys k gv 0 (.slice none 0 0) W :=
  ⟨h, fun j hj => by omega, fun j hj => by omega, fun j hj => by omega, World.ownsRow_nil W Bf EE 1⟩
theorem Ph2.step {ys : Nat → List Value} {EE : TypeId} {gv : Nat → Value} {i k g cap : Nat} {G x : Value} {W2 W3 : World} (ha : Apt Bf N v) (hB : B ≤ Bf) (h : Ph2 w0 B Bf E size EE N v n xs ys k gv i G W) (hi : i < N)
    (hG : Grows W B E size (v i) (n i) (xs i) k (ys i) x W2) (hown : W3.ownsRow Bf EE 1 (.slice (some ⟨g, 0, none⟩) (i + 1) cap) (i + 1) ((List.range i).map gv ++ [x]))
    (hat : G = .slice (some ⟨g, 0, none⟩) i cap ∧ W2.grownBy W3 (some g) ∨ W2.heap.size ≤ g ∧ W2.grownBy W3 none) :
    Ph2 w0 B Bf E size EE N v n xs ys k (fun j => if j = i then x else gv j) (i + 1) (.slice (some ⟨g, 0, none⟩) (i + 1) cap) W3 := by
  have hsz := h.told.size
  have hsz2 := hG.by_.size
  have t2 : Told w0 B Bf E size N v n xs W2 := by
    have := h.told.turn ha hi hG.by_ hG.old (Nat.le_trans hB hsz)
    have e : (fun j => if j = i then xs i else xs j) = xs := by funext j; split <;> simp_all
    rwa [e] at this
  have hGg : ∀ b, G.ownBlock = some b → Bf ≤ b ∧ b < W.heap.size := fun b hb => h.list.lt b hb
  have hg3 : ∀ r, (∀ b, r = some b → G.ownBlock = some b) → W2.grownBy W3 r → Told w0 B Bf E size N v n xs W3 ∧ (∀ j, j < i → W3.ownsRow B E size (gv j) (n j + k) (xs j ++ ys j)) ∧ W3.ownsRow B E size x (n i + k) (xs i ++ ys i) := by
    intro r hr hg
    refine ⟨t2.far ha hg (fun b hb => (hGg b (hr b hb)).1) hB, fun j hj => ?_, hG.row.kept hg ?_⟩
    · refine ((h.grown j hj).kept hG.by_ ?_).kept hg ?_
      · cases hv : (gv j).ownBlock with
        | none => exact .inl rfl
        | some b =>
          refine .inr fun e => ?_
          rcases h.gat j hj with h1 | ⟨b2, hb2, h1⟩
          · exact ha.ne j i (by omega) hi (by omega) b (h1.symm.trans hv) e.symm
          · rw [hv] at h1; cases h1
            have := ha.lt i hi b e.symm
            omega
      · cases hv : (gv j).ownBlock with
        | none => exact .inl rfl
        | some b => exact .inr fun e => h.gne j hj b (hr b e.symm) hv
    · cases hv : x.ownBlock with
      | none => exact .inl rfl
      | some b =>
        refine .inr fun e => ?_
        have h4 := hGg b (hr b e.symm)
        rcases hG.at_ with h1 | ⟨b2, hb2, h1⟩
        · have := ha.lt i hi b (h1.symm.trans hv); omega
        · rw [hv] at h1; cases h1; omega
  have hne : ∀ j, j < i + 1 → ∀ b, (if j = i then x else gv j).ownBlock = some b → b < W2.heap.size ∧ G.ownBlock ≠ some b := by
    intro j hj b hb
    by_cases e : j = i
    · rw [if_pos e] at hb
      refine ⟨(hG.row.lt b hb).2, fun hb2 => ?_⟩
      have h4 := hGg b hb2
      rcases hG.at_ with h1 | ⟨b2, hb2, h1⟩
      · have := ha.lt i hi b (h1.symm.trans hb); omega
      · rw [hb] at h1; cases h1; omega
    · rw [if_neg e] at hb
      exact ⟨by have := ((h.grown j (by omega)).lt b hb).2; omega, fun hb2 => h.gne j (by omega) b hb2 hb⟩
  have hlist : W3.ownsRow Bf EE 1 (.slice (some ⟨g, 0, none⟩) (i + 1) cap) (i + 1) ((List.range (i + 1)).map fun j => if j = i then x else gv j) := by
    have e : ((List.range (i + 1)).map fun j => if j = i then x else gv j) = (List.range i).map gv ++ [x] := by
      rw [List.range_succ, List.map_append]
      congr 1
      · apply List.map_congr_left
        intro j hj
        have := List.mem_range.1 hj
        rw [if_neg (by omega)]
      · simp
    rw [e]; exact hown
  have hgat : ∀ j, j < i + 1 → (if j = i then x else gv j).ownBlock = (v j).ownBlock ∨ ∃ h, Bf ≤ h ∧ (if j = i then x else gv j).ownBlock = some h := by
    intro j hj
    by_cases e : j = i
    · rw [if_pos e, e]
      rcases hG.at_ with h1 | ⟨b2, hb2, h1⟩
      · exact .inl h1
      · exact .inr ⟨b2, by omega, h1⟩
    · rw [if_neg e]; exact h.gat j (by omega)
  have hgr : ∀ r, (∀ b, r = some b → G.ownBlock = some b) → W2.grownBy W3 r → ∀ j, j < i + 1 → W3.ownsRow B E size (if j = i then x else gv j) (n j + k) (xs j ++ ys j) := by
    intro r hr hg j hj
    obtain ⟨_, h2, h3⟩ := hg3 r hr hg
    by_cases e : j = i
    · rw [if_pos e, e]; exact h3
    · rw [if_neg e]; exact h2 j (by omega)
  rcases hat with ⟨rfl, hg⟩ | ⟨hge, hg⟩
  · refine ⟨(hg3 _ (fun b hb => hb) hg).1, hgr _ (fun b hb => hb) hg, hgat, fun j hj b hb hx => ?_, hlist⟩
    cases hb
    exact (hne j hj g hx).2 rfl
  · refine ⟨(hg3 none (fun b hb => by cases hb) hg).1, hgr none (fun b hb => by cases hb) hg, hgat, fun j hj b hb hx => ?_, hlist⟩
    cases hb
    have := (hne j hj g hx).1
    omega
end
end Go.Proofs.Ytiijpbfkchokaaa
