/-
  The document's side: Check of a column; whether a glue may be a top glue.
  The document's side: the marks of a column.
  Where a column may be broken, and at what penalty (plain).
  What a round of any column walk wants: append in a round, what is kept; a drawn region in a round: reads and still calls first, then what must come last, by one walk in the order of the text.
  vlist.legal: a column's legal breaks, one by one: the iterator's contract.
  append at a plain region's list, as one step of a region that draws. No statement of the seat stands here.
  vlist.Legal: where a column may be broken, and at what penalty.
  The document's side: where a column may be broken: Places, Legal.
  The laws' own functions over lists of nodes: a marker; a lent list.
  The laws' own functions over lists of nodes: are two lists the same.
  The laws' own functions over lists of nodes: does a lent list stay.
-/
import Derived.Test.YtiijpbfkchokaaaGreatTame
import Derived.Test.YtiijpbfkchokaaaGreatW2
import Derived.Test.YtiijpbfkchokaaaGreatQ8
import Derived.Test.YtiijpbfkchokaaaGreatQ6
import Derived.Test.YtiijpbfkchokaaaGreatVBs
import Derived.Stop.RegionWithIn
import Derived.Sort.CutIn
import Derived.StillTailTactics
import Derived.Deep.RegionLaw
import Derived.Deep.QuietTactic
import Derived.Deep.LoopGhost
namespace Go.Proofs.YtiijpbfkchokaaaGreat
open Go.ChangeShapes Go.WideShapes Go.ChangeAt Go.RowKit
attribute [local go_sem ↓] Go.wp_at_zero Go.wp_at_succ

/-- the places s, as a slice of whole numbers -/
structure IIn (w : World) (p : Option Addr) (g c : Nat) (s : List Nat) : Prop where
  hp : s ≠ [] → p = some ⟨g, 0, none⟩
  hg : s ≠ [] → g < w.heap.size
  at_ : ∀ i (hi : i < s.length), w.cell? ⟨g, i, none⟩ = some (.int .i64 (s[i] : Nat))
theorem IIn.below {w w' : World} {p : Option Addr} {g c : Nat} {s : List Nat} (h : IIn w p g c s) (hb : Below w.heap.size w w') : IIn w' p g c s :=
  ⟨h.hp, fun e => Nat.lt_of_lt_of_le (h.hg e) hb.size, fun i hi => (hb.cell (p := ⟨g, i, none⟩) (h.hg (by intro e; rw [e] at hi; simp at hi))).trans (h.at_ i hi)⟩
theorem irow_seen {w w' : World} {v : Value} {s : List Nat} (h : IRow w v s w') : ∃ p g c, v = .slice p s.length c ∧ IIn w' p g c s := by
  unfold IRow at h
  by_cases h0 : s = []
  · subst h0
    obtain ⟨_, ⟨rfl, _⟩ | ⟨g, cap, cur, rfl, _⟩⟩ := h
    · exact ⟨none, 0, 0, rfl, fun e => absurd rfl e, fun e => absurd rfl e, fun i hi => by simp at hi⟩
    · exact ⟨_, g, cap, rfl, fun e => absurd rfl e, fun e => absurd rfl e, fun i hi => by simp at hi⟩
  · obtain ⟨g, c, rfl, _, hg⟩ := h.form (List.length_pos_iff.2 h0)
    refine ⟨_, g, c, rfl, fun _ => rfl, fun _ => hg, fun i hi => ?_⟩
    rw [h.cellAt i (by omega), ints_idx]
    simp [ofN, hi]
theorem runC_right : ∀ (l : List Nd) (st : List Int) (d : Int) (r : List Int × Int), runC l st d = some r → ∀ x ∈ l, rightB x = true
  | [], _, _, _, _ => fun x hx => by cases hx
  | y :: l, st, d, r, h => fun x hx => by
    unfold runC at h
    split at h
    · rename_i hr
      obtain ⟨s, _, h2⟩ := Option.bind_eq_some_iff.1 h
      rcases List.mem_cons.1 hx with rfl | hx
      · exact hr
      · exact runC_right l _ _ _ h2 x hx
    · cases h
theorem check_right {L : List Nd} (h : checkC L = 0) : ∀ x ∈ L, rightB x = true := by
  obtain ⟨_, d, _, hr⟩ := checkC_zero h
  exact runC_right L [] 0 _ hr
theorem right_skip {n : Nd} (h : rightB n = true) (hk : n.kind = 7) : n.glue.good = true ∧ withinB n.sub 0 20 = true := by
  unfold rightB at h
  rw [hk] at h
  simp only [Bool.and_eq_true] at h
  have : skipB n = true := h.1.2
  simpa [skipB] using this
end Go.Proofs.YtiijpbfkchokaaaGreat
namespace Go.Proofs.YtiijpbfkchokaaaGreat
open Go.ChangeShapes Go.WideShapes Go.ChangeAt Go.RowKit
attribute [local go_sem ↓] Go.wp_at_zero Go.wp_at_succ

theorem results_tmp4 {fn : Func} {t u v x : Tmp} (h : fn.results = #[.tmp t, .tmp u, .tmp v, .tmp x]) (tmps : Array Value) (P : Program) (w : World) :
    (results fn tmps).run P w = .ok (.tuple #[tmps.getD t undef, tmps.getD u undef, tmps.getD v undef, tmps.getD x undef]) w := by
  simp [results, h]
structure Mk where
  first : ByteArray
  last : ByteArray
  some : Bool
def Mk.none : Mk := ⟨⟨#[]⟩, ⟨#[]⟩, false⟩
def Mk.vals (m : Mk) (e : Int) : Value := .tuple #[.string m.first, .string m.last, .bool m.some, .int .i64 e]
end Go.Proofs.YtiijpbfkchokaaaGreat

namespace Go.Proofs.YtiijpbfkchokaaaGreat
open Go.ChangeShapes Go.WideShapes Go.ChangeAt Go.RowKit Go.Shelf
section
attribute [local go_sem] Oper.semAt_some

theorem owns_form {W : World} {B n size : Nat} {e : TypeId} {v : Value} {xs : List Value} (h : W.ownsRow B e size v n xs) : ∃ p c, v = .slice p n c := by
  obtain ⟨_, ⟨rfl, h0⟩ | ⟨g, cap, cur, rfl, _⟩⟩ := h
  · exact ⟨none, 0, by rw [h0]⟩
  · exact ⟨_, cap, rfl⟩
end
end Go.Proofs.YtiijpbfkchokaaaGreat

namespace Go.Proofs.YtiijpbfkchokaaaGreat
open Go.ChangeShapes Go.WideShapes Go.ChangeAt Go.RowKit
theorem step_append_lies {P : Program} {ops : Array Oper} {o : Oper} {a : Act} {w : World} {K : Act → World → Prop} {Q : Exit → Act → World → Prop} {E : Prop}
    (hgd : o.guard = none) (s x : Operand) (t : TypeId) (ho : o.op = .call { callee := .builtin .append, args := #[s, x], argTypes := #[t, t] })
    (base : Nat) (e : TypeId) (i : TypeInfo) (z : Value) (size bytes : Nat) (ht : P.underlying t = some (.slice e)) (hi : P.info? e = some i) (hz : i.zero = some z)
    (hsize : i.size = size) (hby : i.bytes = bytes) (hzs : z.cells.size = size) (hsz : 0 < size)
    (v : Value) (k : Nat) (xs : List Value) (hs : a.eval s = v) (hown : w.ownsRow base e size v k xs)
    (ad : Addr) (m c : Nat) (news : List Value) (hx : a.eval x = .slice (some ad) m c) (hl : news.length = m * size) (hnews : ∀ j u, news[j]? = some u → w.cell? (ad.add j) = some u) (h1 : ∀ u ∈ news, u.oneCell' = true)
    (hm : 0 < m) (h63 : k + m ≤ maxLen) (hbytes : (k + m) * bytes ≤ 140737488355328) (hbase : base ≤ w.heap.size) (H : Nat) (hH : w.heap.size = H)
    (h : ∀ g cap w', w'.ownsRow base e size (.slice (some ⟨g, 0, none⟩) (k + m) cap) (k + m) (xs ++ news) → w.grownBy w' v.ownBlock → (v.ownBlock = some g ∨ g = H) → g < w'.heap.size → K (a.put o.dst (.slice (some ⟨g, 0, none⟩) (k + m) cap)) w') :
    if Region.wanted o (yielded ops a.tmps) = true then Oper.wp P o a w K Q else E := by
  have hw : Region.wanted o (yielded ops a.tmps) = true := by simp [Region.wanted, hgd]
  rw [if_pos hw]
  obtain ⟨g, cap, w', hr, h2, h3, h4, h5⟩ := run_append_lies (P := P) w t o.type base e i z size bytes ht hi hz hsize hby hzs hsz v k xs hown ad m c news hl hnews h1 hm h63 hbytes hbase H hH
  unfold Oper.wp
  simp [execOp, ho, resolve, invoke, builtin, hs, hx, hr, Result.andThen]
  exact h g cap w' h2 h3 h4 h5
/-- a region that draws: what reads first, then the rest in its order; the world behind the draw is w.drew -/
theorem wpS_tail9 {P : Program} {id : Nat} {Q : Exit → Act → World → Prop} {a : Act} {w : World} {l : List Oper} (n : Nat) (hm : P.follows .mixedOrders = true) (hB : Region.lexTailB .any l.toArray n = true)
    (h : wpStill P l.toArray w.drew (fun a' => wpList P l.toArray Q (l.drop n) a' w.drew) (l.take n) a) : (Code.region id l.toArray true).wp P Q a w := wp_region_still_tail n hm hB h
end Go.Proofs.YtiijpbfkchokaaaGreat
namespace Go.Proofs.YtiijpbfkchokaaaGreat
open Go.ChangeShapes Go.WideShapes Go.ChangeAt Go.RowKit Go.Shelf
attribute [local go_sem] Oper.semAt_some
/-- two variables hold two slices of whole numbers of one's own -/
structure Two (W : World) (R Z n m : Nat) (a b : List Int) (v u : Value) : Prop where
  bv : Boxed W Z 41 v
  bu : Boxed W (Z + 1) 41 u
  rv : W.ownsRow R 3 1 v n (ints a)
  ru : W.ownsRow R 3 1 u m (ints b)
  ne : ∀ g, v.ownBlock = some g → u.ownBlock ≠ some g
section
variable {W w1 : World} {R Z n m g cap : Nat} {a b : List Int} {v u : Value} {x : Int}
theorem box_far {X : Nat} {t : TypeId} (ht : t ≠ 3) {y : Value} (hb : Boxed W X t y) {v : Value} {k : Nat} {xs : List Value} (hr : W.ownsRow R 3 1 v k xs) : v.ownBlock ≠ some X := fun e => hb.not_row ht hr e.symm
theorem push_box {X : Nat} {t : TypeId} {y : Value} {tmp : Obj} (ht : t ≠ 3) (hb : Boxed W X t y) {k : Nat} {xs : List Value} (hr : W.ownsRow R 3 1 v k xs) (hg : (W.alloc tmp).grownBy w1 v.ownBlock) : Boxed w1 X t y :=
  (hb.alloc tmp).kept hg (fun e => box_far ht hb hr e.symm)
theorem Two.first (h : Two W R Z n m a b v u) (hg : (W.alloc (.cells #[.int .i64 x] 3)).grownBy w1 v.ownBlock) (hown : w1.ownsRow R 3 1 (.slice (some ⟨g, 0, none⟩) (n + 1) cap) (n + 1) (ints a ++ [.int .i64 x])) (hat : v.ownBlock = some g ∨ g = (W.alloc (.cells #[.int .i64 x] 3)).heap.size) :
    Two (w1.setCell ⟨Z, 0, none⟩ (.slice (some ⟨g, 0, none⟩) (n + 1) cap)) R Z (n + 1) m (a ++ [x]) b (.slice (some ⟨g, 0, none⟩) (n + 1) cap) u := by
  have kv := push_box (by decide) h.bv h.rv hg
  have ku := push_box (by decide) h.bu h.rv hg
  have ru : w1.ownsRow R 3 1 u m (ints b) := (h.ru.alloc _).kept hg (by
    cases hu : u.ownBlock with
    | none => exact .inl rfl
    | some q => exact .inr fun e => h.ne q e.symm hu)
  refine ⟨Boxed.set _ kv, ku.other (by omega) _, (by rw [ints_append]; exact hown.kept (grownBy_setCell' w1 Z _) (.inr (box_far (by decide) kv hown))), ru.kept (grownBy_setCell' w1 Z _) (.inr (box_far (by decide) kv ru)), fun q hq hu => ?_⟩
  obtain rfl : g = q := by simpa [Value.ownBlock] using hq
  rcases hat with e | e
  · exact h.ne g e hu
  · have h5 := (h.ru.lt g hu).2
    rw [World.size_alloc] at e; omega
end
/-- each is stored back -/
theorem Two.back {W : World} {R Z n m : Nat} {a b : List Int} {v u : Value} (h : Two W R Z n m a b v u) : Two ((W.setCell ⟨Z, 0, none⟩ v).setCell ⟨Z + 1, 0, none⟩ u).drew R Z n m a b v u := by
  have k1 : Boxed (W.setCell ⟨Z, 0, none⟩ v) Z 41 v := Boxed.set _ h.bv
  have k2 : Boxed (W.setCell ⟨Z, 0, none⟩ v) (Z + 1) 41 u := h.bu.other (by omega) _
  have r1 : (W.setCell ⟨Z, 0, none⟩ v).ownsRow R 3 1 v n (ints a) := h.rv.kept (grownBy_setCell' W Z _) (.inr (box_far (by decide) h.bv h.rv))
  have r2 : (W.setCell ⟨Z, 0, none⟩ v).ownsRow R 3 1 u m (ints b) := h.ru.kept (grownBy_setCell' W Z _) (.inr (box_far (by decide) h.bv h.ru))
  have q1 := r1.kept (grownBy_setCell' _ (Z + 1) u) (.inr (box_far (by decide) k2 r1))
  have q2 := r2.kept (grownBy_setCell' _ (Z + 1) u) (.inr (box_far (by decide) k2 r2))
  exact ⟨k1.other (by omega) _, Boxed.set _ k2, ownsRow_same q1 fun _ _ _ => rfl, ownsRow_same q2 fun _ _ _ => rfl, h.ne⟩
end Go.Proofs.YtiijpbfkchokaaaGreat
namespace Go.Proofs.YtiijpbfkchokaaaGreat
open Go.ChangeShapes Go.WideShapes Go.ChangeAt Go.RowKit Go.Shelf
attribute [local go_sem ↓] Go.wp_at_zero Go.wp_at_succ
/-- two slices of whole numbers of one's own, apart -/
structure TwoV (W : World) (R n : Nat) (a b : List Int) (v u : Value) : Prop where
  rv : W.ownsRow R 3 1 v n (ints a)
  ru : W.ownsRow R 3 1 u n (ints b)
  ne : ∀ g, v.ownBlock = some g → u.ownBlock ≠ some g
theorem TwoV.below {W W' : World} {R n : Nat} {a b : List Int} {v u : Value} (h : TwoV W R n a b v u) (hb : Below W.heap.size W W') : TwoV W' R n a b v u := ⟨ownsRow_below h.rv hb, ownsRow_below h.ru hb, h.ne⟩
section
variable {W w1 w2 : World} {R n g cap g2 cap2 : Nat} {a b : List Int} {v u : Value} {x y : Int}
/-- both are appended to -/
theorem TwoV.push (h : TwoV W R n a b v u) (hg : (W.alloc (.cells #[.int .i64 x] 3)).grownBy w1 v.ownBlock) (hown : w1.ownsRow R 3 1 (.slice (some ⟨g, 0, none⟩) (n + 1) cap) (n + 1) (ints a ++ [.int .i64 x])) (hat : v.ownBlock = some g ∨ g = (W.alloc (.cells #[.int .i64 x] 3)).heap.size) :
    w1.ownsRow R 3 1 u n (ints b) ∧ (∀ q, u.ownBlock = some q → q ≠ g) := by
  refine ⟨(h.ru.alloc _).kept hg ?_, fun q hq e => ?_⟩
  · cases hu : u.ownBlock with
    | none => exact .inl rfl
    | some q => exact .inr fun e => h.ne q e.symm hu
  · subst e
    rcases hat with e | e
    · exact h.ne q e hq
    · have h5 := (h.ru.lt q hq).2
      rw [World.size_alloc] at e; omega
theorem TwoV.both (hown : w1.ownsRow R 3 1 (.slice (some ⟨g, 0, none⟩) (n + 1) cap) (n + 1) (ints a ++ [.int .i64 x])) (hne : ∀ q, u.ownBlock = some q → q ≠ g) (hlt : g < w1.heap.size)
    (hg : (w1.alloc (.cells #[.int .i64 y] 3)).grownBy w2 u.ownBlock) (hown2 : w2.ownsRow R 3 1 (.slice (some ⟨g2, 0, none⟩) (n + 1) cap2) (n + 1) (ints b ++ [.int .i64 y])) (hat : u.ownBlock = some g2 ∨ g2 = (w1.alloc (.cells #[.int .i64 y] 3)).heap.size) :
    TwoV w2 R (n + 1) (a ++ [x]) (b ++ [y]) (.slice (some ⟨g, 0, none⟩) (n + 1) cap) (.slice (some ⟨g2, 0, none⟩) (n + 1) cap2) := by
  refine ⟨by rw [ints_append]; exact (hown.alloc _).kept hg (.inr fun e => hne g e.symm rfl), by rw [ints_append]; exact hown2, fun q hq hu => ?_⟩
  obtain rfl : g = q := by simpa [Value.ownBlock] using hq
  obtain rfl : g2 = g := by simpa [Value.ownBlock] using hu
  rcases hat with e | e
  · exact hne g2 e rfl
  · rw [World.size_alloc] at e; omega
end
end Go.Proofs.YtiijpbfkchokaaaGreat
namespace Go.Proofs.YtiijpbfkchokaaaGreat
open Go.ChangeShapes Go.WideShapes Go.ChangeAt Go.RowKit Go.Shelf
def markN (k : Int) : Nd := { Nd.zero with kind := -k, text := ⟨#[114, 111, 111, 109]⟩ }
set_option maxRecDepth 100000 in
set_option maxHeartbeats 4000000 in
theorem marker_any (k : Int) (h1 : 0 ≤ k) (h2 : k ≤ 100) (w : World) : Calls Tryz.prog 26 #[.int .i64 k] w fun e w' => e = .returned (.agg (markN k).arr) ∧ Below w.heap.size w w' := by
  have hw : IntKind.i64.wrap (-k) = -k := Go.IntWalk.i64_in _ (by omega)
  go_enter Tryz.func26, Tryz.ntmps26
  go_wp2_with fail
  exact ret_row _ _ _ u_nd rfl i_nd rfl w.heap.size 0 _ rfl (agg?_nd _ _ _ _ _ rfl) rfl ⟨rfl, (Below.refl _ _).alloc (Nat.le_refl _) _⟩
theorem owns_empty (W : World) : (W.alloc (.cells #[] 69)).ownsRow W.heap.size 69 19 (.slice (some ⟨W.heap.size, 0, none⟩) 0 0) 0 [] :=
  ⟨rfl, .inr ⟨W.heap.size, 0, #[], rfl, Nat.le_refl _, heap_alloc_new _ _, Nat.le_refl _, by unfold maxLen; omega, rfl, rfl⟩⟩
theorem owns_cap {W : World} {B size n c : Nat} {e : TypeId} {a : Addr} {xs : List Value} (h : W.ownsRow B e size (.slice (some a) n c) n xs) : n ≤ c := by
  obtain ⟨_, ⟨h, _⟩ | ⟨g, c2, cur, h, _, _, h1, _⟩⟩ := h
  · cases h
  · cases h; exact h1
set_option maxRecDepth 100000 in
set_option maxHeartbeats 4000000 in
theorem lent_any (p0 : Option Addr) (b off cap : Nat) (L : List Nd) (w : World) (hN : NIn w p0 b off cap L) : Calls Tryz.prog 7 #[.slice p0 L.length cap] w fun e w' =>
    (∃ g c, e = .returned (.slice (some ⟨g, 0, none⟩) L.length c) ∧ L.length + 2 ≤ c ∧ w'.ownsRow w.heap.size 69 19 (.slice (some ⟨g, 0, none⟩) (L.length + 2) c) (L.length + 2) ((L ++ [markN 7, markN 8]).flatMap Nd.cells)) ∧ Below w.heap.size w w' := by
  have HM : Hid (∀ (k : Int) W, 0 ≤ k → k ≤ 100 → Calls Tryz.prog 26 #[.int .i64 k] W fun e w' => e = .returned (.agg (markN k).arr) ∧ Below W.heap.size W w') := Lib.hid fun k W h1 h2 => marker_any k h1 h2 W
  have hl := hN.len
  obtain ⟨i0, hi0', hz0, hz1, hz2⟩ := info_parts info_node
  have r0 := owns_empty w
  have hb0 : Below w.heap.size w (w.alloc (.cells #[] 69)) := (Below.refl _ _).alloc (Nat.le_refl _) _
  go_enter Tryz.func7, Tryz.ntmps7
  go_upto_region 1 with (fail)
  go_cut [3] from 3 (fun s3 wx => ∃ g c, s3 = .slice (some ⟨g, 0, none⟩) L.length c ∧ wx.ownsRow w.heap.size 69 19 s3 L.length (L.flatMap Nd.cells) ∧ Below w.heap.size w wx)
  case first =>
    by_cases hL : L = []
    · subst hL
      cases p0
      all_goals
        simp only [List.length_nil]
        go_wp2_with fail
        go_meet
        exact ⟨_, _, rfl, r0, hb0⟩
    · have hpos : 0 < L.length := List.length_pos_iff.2 hL
      obtain rfl := hN.hp hL
      have Hnews := Lib.hid (fun W h => (NIn.below hN h : NIn W _ _ _ _ _).news)
      have hcap := hN.cap'
      go_wp2_with (at_builtin; refine wpList_append_lies _ rfl _ _ _ rfl w.heap.size 69 i0 (.agg Nd.zero.arr) 19 160 Tryz.underlying22 hi0' hz0 hz1 hz2 rfl (by decide) (.slice (some ⟨w.heap.size, 0, none⟩) 0 0) 0 [] rfl r0 ⟨b, off, none⟩ L.length cap (L.flatMap Nd.cells) rfl (flat_len _) (Hnews.out _ hb0) (nodes_one _) hpos (by unfold maxLen; omega) (by omega) (by simp) _ rfl ?_; intro g1 cap1 w1 hown1 hgrow1 hat1 hlt1)
      go_meet
      rw [Nat.zero_add, List.nil_append] at hown1
      exact ⟨_, _, rfl, hown1, Below.grown hb0 hgrow1 (by simp) (fun q hq => by cases hq; exact Nat.le_refl _)⟩
  case rest =>
    obtain ⟨g, c, rfl, hown, hb⟩ := hcut
    have HB := Lib.hid hb
    have HO := Lib.hid hown
    have hsz : w.heap.size ≤ wc.heap.size := hb.size
    have hone : Hid (∀ u ∈ (markN 7).cells ++ (markN 8).cells, u.oneCell' = true) := Lib.hid (by have := nodes_one [markN 7, markN 8]; simpa using this)
    clear hown hb r0 hb0 hN
    go_wp2_with (first | (at_builtin; refine wpList_append_lies _ rfl _ _ _ rfl w.heap.size 69 i0 (.agg Nd.zero.arr) 19 160 Tryz.underlying22 hi0' hz0 hz1 hz2 rfl (by decide) (.slice (some ⟨g, 0, none⟩) L.length c) L.length (L.flatMap Nd.cells) rfl hown4 ⟨w4.heap.size, 0, none⟩ 2 2 ((markN 7).cells ++ (markN 8).cells) rfl rfl (World.news_of_block (cs := ((markN 7).cells ++ (markN 8).cells).toArray) (heap_alloc_new _ _)) hone.out (by decide) (by unfold maxLen; omega) (by omega) (by simp; omega) _ rfl ?_; intro g1 cap1 w1 hown1 hgrow1 hat1 hlt1; (have hc1 := owns_cap hown1); (have hc2 : (L.length : Int) ≤ (cap1 : Int) := by omega); (have hc3 : ¬ cap1 = 0 := by omega); (have hc4 : L.length ≤ cap1 := by omega); (have hc5 : ¬ (cap1 : Int) < (L.length : Int) := by omega)) | (go_at_call 26; first | (refine (HM.out 7 _ (by decide) (by decide)).mono ?_; rintro e w3 ⟨rfl, hb3⟩) | (refine (HM.out 8 _ (by decide) (by decide)).mono ?_; rintro e w4 ⟨rfl, hb4⟩; (have hown4 := (ownsRow_below (ownsRow_below HO.out hb3) hb4).alloc (.cells ((markN 7).cells ++ (markN 8).cells).toArray 69)); (have hsz4 : w.heap.size ≤ w4.heap.size := Nat.le_trans hsz (Nat.le_trans hb3.size hb4.size)))))
    go_ret
    have hbA : Below w.heap.size w (w4.alloc (.cells ((markN 7).cells ++ (markN 8).cells).toArray 69)) := ((HB.out.trans (hb3.mono hsz)).trans (hb4.mono (Nat.le_trans hsz hb3.size))).alloc hsz4 _
    refine ⟨⟨g1, cap1, rfl, hc1, ?_⟩, Below.grown hbA hgrow1 (by simp; omega) (fun q hq => (HO.out.lt q hq).1)⟩
    exact hown1
end Go.Proofs.YtiijpbfkchokaaaGreat
namespace Go.Proofs.YtiijpbfkchokaaaGreat
open Go.ChangeShapes Go.WideShapes Go.ChangeAt Go.RowKit Go.Shelf
def neqlNd (X Y : Operand) (x y : Value) : Sem Value := do eqGuard .neq 69 X Y x y; binOp .neq 69 x y
@[go_sem ↓] theorem execOp_neqNd (ρ : Operand → Value) (dst : Option Tmp) (x y : Operand) (k ty : TypeId) (pos : String) (after : Array Edge) (guard : Option (Nat × Bool)) :
    execOp ρ { dst, op := .binOp .neq 69 x y k, type := ty, pos, after, guard } = (do pure (.value (← neqlNd x y (ρ x) (ρ y)))) := by
  rfl
@[go_sem] theorem run_neqlNd' (a b : Nd) (X Y : Operand) (w : World) : (neqlNd X Y (.agg a.arr) (.agg b.arr)).run Tryz.prog w = .ok (.bool (!eqNd a b)) w := by
  unfold neqlNd
  have h1 := run_eqGuard_agg (P := Tryz.prog) w .neq 69 X Y a.arr b.arr eqGuardNd
  have h2 : (binOp .neq 69 (.agg a.arr) (.agg b.arr)).run Tryz.prog w = .ok (.bool (!eqNd a b)) w := run_neqNd a b w
  simp only [Sem.run_bind, h1, Result.andThen_ok, h2]
set_option maxRecDepth 100000 in
set_option maxHeartbeats 4000000 in
theorem same_any (p q : Option Addr) (b1 o1 c1 b2 o2 c2 : Nat) (l1 l2 : List Nd) (w : World) (h1 : NIn w p b1 o1 c1 l1) (h2 : NIn w q b2 o2 c2 l2) :
    Calls Tryz.prog 35 #[.slice p l1.length c1, .slice q l2.length c2] w fun e w' => e = .returned (.bool (decide (l1 = l2))) ∧ ∃ n, w' = w.drewN n := by
  have hm1 := h1.len
  by_cases hlen : l1.length = l2.length
  · have hL := Lib.hid hlen
    have H1 := Lib.hid h1
    have H2 := Lib.hid h2
    have hll : ((l1.length : Int) != (l2.length : Int)) = false := by simp [hlen]
    have k1 := h1.cap'
    have k2 := h2.cap'
    clear hlen h1 h2
    go_enter Tryz.func35, Tryz.ntmps35
    go_wp2_with fail
    go_loopg [5] (l1.length + 1) (fun g t wr => ∃ k m : Nat, g = l1.length + 1 - k ∧ k ≤ l1.length ∧ t = .int .i64 k ∧ wr = w.drewN m ∧ l1.take k = l2.take k)
    case atStart => exact ⟨0, 0, rfl, Nat.zero_le _, rfl, rfl, rfl⟩
    case round =>
      obtain ⟨k, m, rfl, hk, rfl, rfl, heq⟩ := hrel
      have Heq := Lib.hid heq
      clear heq
      have hk1 : (0 : Int) ≤ (k : Int) := by omega
      by_cases hlt : k < l1.length
      · have hk2 : (k : Int) < (l1.length : Int) := by omega
        have hk3 : (k : Int) < (l2.length : Int) := by have := hL.out; omega
        have hlt2 : k < l2.length := by omega
        have x1 : agg? w b1 (o1 + k * 19) 19 = some (l1[k]).arr := H1.out.nd k hlt
        have x2 : agg? w b2 (o2 + k * 19) 19 = some (l2[k]).arr := H2.out.nd k hlt2
        have t1 := Lib.hid (List.take_succ_eq_append_getElem hlt)
        have t2 := Lib.hid (List.take_succ_eq_append_getElem hlt2)
        have e1 := Lib.hid (List.getElem?_eq_getElem hlt)
        have e2 := Lib.hid (List.getElem?_eq_getElem hlt2)
        obtain rfl := H1.out.hp (by intro e; rw [e] at hlt; simp at hlt)
        obtain rfl := H2.out.hp (by intro e; rw [e] at hlt2; simp at hlt2)
        generalize l1[k] = y1 at x1 t1 e1
        generalize l2[k] = y2 at x2 t2 e2
        cases hy : eqNd y1 y2
        · have Hy := Lib.hid (show y1 ≠ y2 by simpa [eqNd] using hy)
          go_wp2_with fail
          go_quiet (fail)
          go_wp2_with fail
          go_ret
          refine ⟨ret_bool ?_, m + nq, by first | rfl | exact World.drewN_drewN _ _ _⟩
          rw [eq_comm, decide_eq_false_iff_not]
          intro e
          have := e1.out
          rw [e, e2.out] at this
          exact Hy.out (Option.some.inj this).symm
        · have Hy := Lib.hid (show y1 = y2 by simpa [eqNd] using hy)
          go_wp2_with fail
          go_quiet (fail)
          go_wp2_with fail
          go_roundg (l1.length + 1 - (k + 1))
          case measure => omega
          case rel => exact ⟨k + 1, _, rfl, hlt, by go_num, rfl, by rw [t1.out, t2.out, Heq.out, Hy.out]⟩
      · have hk2 : (l1.length : Int) ≤ (k : Int) := by omega
        have Hfin := Lib.hid (show l1 = l2 by
          have := Heq.out
          rw [List.take_of_length_le (by omega), List.take_of_length_le (by have := hL.out; omega)] at this
          exact this)
        go_wp2_with fail
        go_ret
        exact ⟨ret_bool (by rw [eq_comm, decide_eq_true_iff]; exact Hfin.out), _, rfl⟩
  · have hll : ((l1.length : Int) != (l2.length : Int)) = true := by simp; omega
    have Hne := Lib.hid (show ¬ l1 = l2 from fun e => hlen (by rw [e]))
    clear hlen h1 h2
    go_enter Tryz.func35, Tryz.ntmps35
    go_wp2_with fail
    go_ret
    exact ⟨ret_bool (by rw [eq_comm, decide_eq_false_iff_not]; exact Hne.out), 0, rfl⟩
end Go.Proofs.YtiijpbfkchokaaaGreat
namespace Go.Proofs.YtiijpbfkchokaaaGreat
open Go.ChangeShapes Go.WideShapes Go.ChangeAt Go.RowKit Go.Shelf
set_option maxRecDepth 100000 in
set_option maxHeartbeats 4000000 in
theorem stays_any (g c b o cap : Nat) (p : Option Addr) (L : List Nd) (w : World) (hX : NIn w (some ⟨g, 0, none⟩) g 0 c L) (hgw : g < w.heap.size) (hn : L.length + 2 ≤ c) (h7' : agg? w g (L.length * 19) 19 = some (markN 7).arr) (h8' : agg? w g ((L.length + 1) * 19) 19 = some (markN 8).arr) (hN : NIn w p b o cap L) :
    Calls Tryz.prog 12 #[.slice (some ⟨g, 0, none⟩) L.length c, .slice p L.length cap] w fun e w' => e = .returned (.bool true) ∧ Below w.heap.size w w' := by
  have hc := hX.cap'
  have hl := hX.len
  have HX := Lib.hid hX
  have HN := Lib.hid hN
  have h1 : ((L.length : Int) + 2) ≤ (c : Int) := by omega
  have h2 : (0 : Int) ≤ (L.length : Int) := by omega
  have h3 : (L.length : Int) ≤ (c : Int) := by omega
  have h4 : ¬ c = 0 := by omega
  have hw1 : IntKind.i64.wrap ((L.length : Int) + 2) = (L.length : Int) + 2 := Go.IntWalk.i64_in _ (by omega)
  have hw2 : IntKind.i64.wrap ((L.length : Int) + 1) = (L.length : Int) + 1 := Go.IntWalk.i64_in _ (by omega)
  have hS : Hid (∀ W, Below w.heap.size w W → Calls Tryz.prog 35 #[.slice (some ⟨g, 0, none⟩) L.length c, .slice p L.length cap] W fun e w' => e = .returned (.bool true) ∧ Below W.heap.size W w') := Lib.hid fun W hb => by
    have hx : NIn W (some ⟨g, 0, none⟩) g 0 c L := hX.below hb
    refine (same_any _ _ g 0 c b o cap L L W hx (hN.below hb)).mono ?_
    rintro e w' ⟨rfl, n, rfl⟩
    exact ⟨by simp, ⟨rfl, rfl, rfl, Nat.le_refl _, fun _ _ => rfl⟩⟩
  have HM : Hid (∀ (k : Int) W, 0 ≤ k → k ≤ 100 → Calls Tryz.prog 26 #[.int .i64 k] W fun e w' => e = .returned (.agg (markN k).arr) ∧ Below W.heap.size W w') := Lib.hid fun k W h1 h2 => marker_any k h1 h2 W
  have HA : Hid (∀ W, Below w.heap.size w W → Below w.heap.size w W ∧ agg? W g (L.length * 19) 19 = some (markN 7).arr ∧ agg? W g ((L.length + 1) * 19) 19 = some (markN 8).arr) := Lib.hid fun W hb => by
    exact ⟨hb, ((bfacts hb).2.2.1 _ _ _ hgw).trans h7', ((bfacts hb).2.2.1 _ _ _ hgw).trans h8'⟩
  have q7 : eqNd (markN 7) (markN 7) = true := by simp [eqNd]
  have q8 : eqNd (markN 8) (markN 8) = true := by simp [eqNd]
  have h5 : L.length < L.length + 2 := by omega
  have h6 : ((L.length : Int) + 1) < ((L.length : Int) + 2) := by omega
  have h7 : ((L.length : Int)) < ((L.length : Int) + 2) := by omega
  have h8 : (0 : Int) ≤ (L.length : Int) + 1 := by omega
  have h9 : ((L.length : Int) + 1).toNat = L.length + 1 := by omega
  have h10 : ((L.length : Int) + 2).toNat = L.length + 2 := by omega
  clear hX hN hc h7' h8'
  go_enter Tryz.func12, Tryz.ntmps12
  go_wp2_with fail
  refine TW.region (fun w' => Below w.heap.size w w' ∧ agg? w' g (L.length * 19) 19 = some (markN 7).arr ∧ agg? w' g ((L.length + 1) * 19) 19 = some (markN 8).arr) follows (by kernel_rfl) (HA.out _ (Below.refl _ _).drew) ?_
  iterate 26 first
    | (refine TW.cons_n rfl _ (by intro wT hT R hR K hK; simp only [Act.put, List.setIfInBounds_toArray, List.set_cons_zero, List.set_cons_succ] at hK; obtain ⟨hm, c7, c8⟩ := hT; go_step; first | ((with_reducible refine (hS.out _ hm).mono ?_); rintro e w8 ⟨rfl, h8⟩; exact hK _ _ (hR _ (HA.out _ (hm.trans (h8.mono hm.size))))) | exact hK _ _ (hR _ ⟨hm, c7, c8⟩)) ?_; try simp only [Act.put, List.setIfInBounds_toArray, List.set_cons_zero, List.set_cons_succ])
    | (refine TW.cons_g _ _ _ rfl rfl rfl _ (by intro wT hT R hR K hK; simp only [Act.put, List.setIfInBounds_toArray, List.set_cons_zero, List.set_cons_succ] at hK; obtain ⟨hm, c7, c8⟩ := hT; go_step; first | ((with_reducible refine (HM.out _ _ (by decide) (by decide)).mono ?_); rintro e w8 ⟨rfl, h8⟩; exact hK _ _ (hR _ (HA.out _ (hm.trans (h8.mono hm.size))))) | exact hK _ _ (hR _ ⟨hm, c7, c8⟩)) ?_; try simp only [Act.put, List.setIfInBounds_toArray, List.set_cons_zero, List.set_cons_succ])
  refine TW.nil fun w9 h9 => ?_
  have h9 := h9.1
  go_wp2_with fail
  go_ret
  exact ⟨rfl, h9⟩
theorem owns_agg {w : World} {B n c g : Nat} {L : List Nd} (h : w.ownsRow B 69 19 (.slice (some ⟨g, 0, none⟩) n c) n (L.flatMap Nd.cells)) : (∃ cur, w.heap[g]? = some (.cells cur 69 (0, 0)) ∧ cur.size = c * 19) ∧ L.length = n ∧ n ≤ c ∧ B ≤ g ∧ ∀ j, (hj : j < L.length) → agg? w g (j * 19) 19 = some L[j].arr := by
  obtain ⟨hl, h2⟩ := h
  have hn : L.length = n := by rw [flat_len] at hl; omega
  subst hn
  rcases h2 with ⟨e, _⟩ | ⟨g1, cap, cur, e, hb, hg, hn, hm, hs, ht⟩
  · cases e
  · cases e
    refine ⟨⟨cur, hg, hs⟩, rfl, hn, hb, fun i hi => ?_⟩
    have h1 : i * 19 + 19 ≤ L.length * 19 := by omega
    have h2 : L.length * 19 ≤ c * 19 := Nat.mul_le_mul_right _ hn
    unfold agg?
    rw [hg]
    simp only
    rw [if_pos (by omega)]
    congr 1
    have e := flat_nodes L i hi
    rw [← ht, List.drop_take, List.take_take, Nat.min_eq_left (by omega)] at e
    show cur.extract (i * 19) (i * 19 + 19) = (L[i]).cells.toArray
    rw [← e]
    apply Array.ext'
    simp [List.take_drop]
/-- a lent list: its nodes, its two markers -/
structure LentIn (w : World) (B g c : Nat) (L : List Nd) : Prop where
  nin : NIn w (some ⟨g, 0, none⟩) g 0 c L
  lt : g < w.heap.size
  ge : B ≤ g
  cap : L.length + 2 ≤ c
  m7 : agg? w g (L.length * 19) 19 = some (markN 7).arr
  m8 : agg? w g ((L.length + 1) * 19) 19 = some (markN 8).arr
  blk : ∃ cur, w.heap[g]? = some (.cells cur 69 (0, 0)) ∧ cur.size = c * 19
theorem lentIn_of {w : World} {B g c : Nat} {L : List Nd} (h : w.ownsRow B 69 19 (.slice (some ⟨g, 0, none⟩) (L.length + 2) c) (L.length + 2) ((L ++ [markN 7, markN 8]).flatMap Nd.cells)) (hlen : L.length * 160 ≤ 140737488351232) : LentIn w B g c L := by
  obtain ⟨⟨cur, h1, h2⟩, _, h4, h5, h6⟩ := owns_agg h
  have hlt := (Array.getElem?_eq_some_iff.1 h1).1
  have e7 := h6 L.length (by simp)
  have e8 := h6 (L.length + 1) (by simp)
  simp at e7 e8
  refine ⟨⟨fun _ => rfl, fun _ => hlt, fun j hj => ?_, by omega, hlen⟩, hlt, h5, h4, e7, e8, cur, h1, h2⟩
  have := h6 j (by simp; omega)
  rw [List.getElem_append_left hj] at this
  rw [Nat.zero_add]; exact this
theorem LentIn.below {w w' : World} {B g c : Nat} {L : List Nd} (h : LentIn w B g c L) (hb : Below w.heap.size w w') : LentIn w' B g c L := by
  obtain ⟨cur, h1, h2⟩ := h.blk
  exact ⟨h.nin.below hb, Nat.lt_of_lt_of_le h.lt hb.size, h.ge, h.cap, ((bfacts hb).2.2.1 _ _ _ h.lt).trans h.m7, ((bfacts hb).2.2.1 _ _ _ h.lt).trans h.m8, cur, (hb.block g h.lt).trans h1, h2⟩
theorem LentIn.stays {w : World} {B g c b o cap : Nat} {p : Option Addr} {L : List Nd} (h : LentIn w B g c L) (hN : NIn w p b o cap L) :
    Calls Tryz.prog 12 #[.slice (some ⟨g, 0, none⟩) L.length c, .slice p L.length cap] w fun e w' => e = .returned (.bool true) ∧ Below w.heap.size w w' :=
  stays_any g c b o cap p L w h.nin h.lt h.cap h.m7 h.m8 hN
end Go.Proofs.YtiijpbfkchokaaaGreat
