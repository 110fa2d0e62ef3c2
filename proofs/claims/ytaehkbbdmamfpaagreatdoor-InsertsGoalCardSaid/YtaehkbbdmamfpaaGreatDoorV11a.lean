/-
  The document's side: whether a row of nodes is a list.
-/
import Derived.Test.YtaehkbbdmamfpaaGreatDoorTame
import Derived.Test.YtaehkbbdmamfpaaGreatDoorQ6
import Derived.Test.YtaehkbbdmamfpaaGreatDoorVBs
import Derived.Great.BuildSlice
import Derived.Laws.OwnMore
import Derived.Stop.RegionWithIn
import Derived.Sort.CutIn
import Derived.StillTailTactics
import Derived.Deep.QuietTactic
import Derived.Deep.LoopGhost
import Derived.ArgAppend


namespace Go.Proofs.YtaehkbbdmamfpaaGreatDoor
open Go.ChangeShapes Go.WideShapes Go.ChangeAt Go.RowKit
attribute [local go_sem ↓] Go.wp_at_zero Go.wp_at_succ

theorem runC_right : ∀ (l : List Nd) (st : List Int) (d : Int) (r : List Int × Int), runC l st d = some r → ∀ x ∈ l, rightB x = true
  | [], _, _, _, _ => fun x hx => by cases hx
  | y :: l, st, d, r, h => fun x hx => by
    unfold runC at h
    split at h
    · rename_i hr
      obtain ⟨s, _, h2⟩ := Option.bind_eq_some_iff.1 h
      rcases List.mem_cons.1 hx with rfl | hx
      · exact hr
      · exact runC_right l _ _ _ h2 x hx
    · cases h
theorem check_right {L : List Nd} (h : checkC L = 0) : ∀ x ∈ L, rightB x = true := by
  obtain ⟨_, d, _, hr⟩ := checkC_zero h
  exact runC_right L [] 0 _ hr
theorem good_ho {g : Gl} (h : g.good = true) : (0 ≤ g.so ∧ g.so ≤ 3) ∧ 0 ≤ g.ho ∧ g.ho ≤ 3 := by
  simp [Gl.good, withinB] at h
  omega
end Go.Proofs.YtaehkbbdmamfpaaGreatDoor
namespace Go.Proofs.YtaehkbbdmamfpaaGreatDoor
open Go.ChangeShapes Go.WideShapes Go.ChangeAt Go.RowKit
attribute [local go_sem ↓] Go.wp_at_zero Go.wp_at_succ

theorem results_tmp4 {fn : Func} {t u v x : Tmp} (h : fn.results = #[.tmp t, .tmp u, .tmp v, .tmp x]) (tmps : Array Value) (P : Program) (w : World) :
    (results fn tmps).run P w = .ok (.tuple #[tmps.getD t undef, tmps.getD u undef, tmps.getD v undef, tmps.getD x undef]) w := by
  simp [results, h]
theorem colP_check {L : List Nd} {s : List Nat} (h : colP L s = 0) : checkC L = 0 := by
  unfold colP at h
  split at h
  · assumption
  · exact h
end Go.Proofs.YtaehkbbdmamfpaaGreatDoor

namespace Go.Proofs.YtaehkbbdmamfpaaGreatDoor
open Go.RowKit
def qOf (L : List Nd) (prev : Option Nat) (i : Nat) : Int :=
  if ((nth L i).kind == 7 && prev.any fun j => !fallsK (nth L j).kind) = true then 0
  else if ((nth L i).kind == 8 && decide (i + 1 < L.length) && (nth L (i + 1)).kind == 7) = true then 0
  else if ((nth L i).kind == 9) = true then (nth L i).pen else 10000
def brk (i : Nat) (q : Int) : List (Nat × Int) := if q < 10000 then [(i, q)] else []
def breaksF (L : List Nd) : Option Nat → List Nat → List (Nat × Int)
  | _, [] => []
  | prev, i :: s => brk i (qOf L prev i) ++ breaksF L (some i) s
def lastO (prev : Option Nat) (pre : List Nat) : Option Nat := match pre.getLast? with | some x => some x | none => prev
theorem lastO_snoc (prev : Option Nat) (pre : List Nat) (x : Nat) : lastO prev (pre ++ [x]) = some x := by simp [lastO]
theorem lastO_cons (prev : Option Nat) (i : Nat) (pre : List Nat) : lastO prev (i :: pre) = lastO (some i) pre := by
  unfold lastO
  cases pre with
  | nil => rfl
  | cons a r => simp [List.getLast?_cons]
theorem breaksF_append (L : List Nd) : ∀ (pre rest : List Nat) (prev : Option Nat), breaksF L prev (pre ++ rest) = breaksF L prev pre ++ breaksF L (lastO prev pre) rest
  | [], rest, prev => by simp [breaksF, lastO]
  | i :: pre, rest, prev => by
    rw [List.cons_append, breaksF, breaksF, breaksF_append L pre rest (some i), List.append_assoc, lastO_cons]
theorem breaksF_snoc (L : List Nd) (pre : List Nat) (i : Nat) : breaksF L none (pre ++ [i]) = breaksF L none pre ++ brk i (qOf L (lastO none pre) i) := by
  rw [breaksF_append]; simp [breaksF]
theorem breaksF_mem (L : List Nd) : ∀ (s : List Nat) (prev : Option Nat) (x : Nat × Int), x ∈ breaksF L prev s → x.1 ∈ s
  | [], _, _, h => by cases h
  | i :: s, prev, x, h => by
    rw [breaksF, List.mem_append] at h
    rcases h with h | h
    · unfold brk at h
      split at h
      · simp only [List.mem_singleton] at h; rw [h]; simp
      · cases h
    · exact List.mem_cons_of_mem _ (breaksF_mem L s _ x h)
theorem breaksF_len (L : List Nd) : ∀ (s : List Nat) (prev : Option Nat), (breaksF L prev s).length ≤ s.length
  | [], _ => Nat.le_refl _
  | i :: s, prev => by
    rw [breaksF, List.length_append, List.length_cons]
    have := breaksF_len L s (some i)
    have h2 : (brk i (qOf L prev i)).length ≤ 1 := by unfold brk; split <;> simp
    omega
def legalP (L : List Nd) (s : List Nat) : List (Nat × Int) := breaksF L none s ++ [(L.length, -10000)]
def BrOk (L : List Nd) (s : List Nat) (x : Nat × Int) : Prop := (x.1 ∈ s ∧ x.2 < 10000 ∧ ∃ prev, x.2 = qOf L prev x.1) ∨ x = (L.length, -10000)
abbrev Br (L : List Nd) (s : List Nat) := {x : Nat × Int // BrOk L s x}
def lastV (prev : Option Nat) : Int := match prev with | some j => j | none => -1
theorem breaksF_pre {L : List Nd} {s pre : List Nat} (h : pre <+: s) : breaksF L none pre <+: legalP L s := by
  obtain ⟨r, rfl⟩ := h
  unfold legalP
  rw [breaksF_append, List.append_assoc]
  exact List.prefix_append _ _
theorem lastO_mem {pre : List Nat} {j : Nat} (h : lastO none pre = some j) : j ∈ pre := by
  unfold lastO at h
  cases hp : pre.getLast? with
  | none => rw [hp] at h; cases h
  | some x => rw [hp] at h; cases h; exact List.mem_of_getLast? hp
end Go.Proofs.YtaehkbbdmamfpaaGreatDoor
namespace Go.Proofs.YtaehkbbdmamfpaaGreatDoor
open Go.ChangeShapes Go.WideShapes Go.ChangeAt Go.RowKit Go.Shelf
section
attribute [local go_sem] Oper.semAt_some

theorem wpListIn_append_lies {P : Program} {l n : Nat} (w : World) {ops : Array Oper} {rest : List Oper} {o : Oper} {a : Act} {Q : Exit → Act → World → Prop} (hgd : o.guard = none) (s x : Operand) (t : TypeId)
    (ho : o.op = .call { callee := .builtin .append, args := #[s, x], argTypes := #[t, t] })
    (base : Nat) (e : TypeId) (i : TypeInfo) (z : Value) (size bytes : Nat) (ht : P.underlying t = some (.slice e)) (hi : P.info? e = some i) (hz : i.zero = some z)
    (hsize : i.size = size) (hby : i.bytes = bytes) (hzs : z.cells.size = size) (hsz : 0 < size)
    (v : Value) (k : Nat) (xs : List Value) (hs : a.eval s = v) (hown : w.ownsRow base e size v k xs)
    (ad : Addr) (m c : Nat) (news : List Value) (hx : a.eval x = .slice (some ad) m c) (hl : news.length = m * size) (hnews : ∀ j u, news[j]? = some u → w.cell? (ad.add j) = some u) (h1 : ∀ u ∈ news, u.oneCell' = true)
    (hm : 0 < m) (h63 : k + m ≤ maxLen) (hbytes : (k + m) * bytes ≤ 140737488355328) (hbase : base ≤ w.heap.size) (H : Nat) (hH : w.heap.size = H)
    (h : ∀ g cap w', w'.ownsRow base e size (.slice (some ⟨g, 0, none⟩) (k + m) cap) (k + m) (xs ++ news) → w.grownBy w' v.ownBlock → (v.ownBlock = some g ∨ g = H) → g < w'.heap.size → wpListIn (Fence.wide.inRound l) n P ops Q rest (a.put o.dst (.slice (some ⟨g, 0, none⟩) (k + m) cap)) w') : wpListIn (Fence.wide.inRound l) n P ops Q (o :: rest) a w := by
  obtain ⟨g, cap, w', hr, h2, h3, h4, h5⟩ := run_append_lies (P := P) w t o.type base e i z size bytes ht hi hz hsize hby hzs hsz v k xs hown ad m c news hl hnews h1 hm h63 hbytes hbase H hH
  refine wpListIn_plain hgd fun K hK => ⟨fun _ _ => trivial, ?_⟩
  have hse : Oper.semAt (Fence.wide.inRound l).round a.eval o = execOp a.eval o := Oper.semAt_eq _ _ _ (fun c hc => by rw [ho] at hc; cases hc)
  rw [hse]
  unfold execOp
  simp only [ho, resolve, invoke, builtin, Sem.run_bind, Sem.run_pure, Result.andThen_ok, List.map_toArray, List.map_cons, List.map_nil, hs, hx, hr]
  exact hK _ _ (h g cap w' h2 h3 h4 h5)
theorem blk_own {β : Type} (B : Nat) (c : Array Value) (t : TypeId) (fr : Nat × Nat) : Own (fun (_ : β) W => W.heap[B]? = some (.cells c t fr)) := fun s X Y row hs hg hrow =>
  (hg.block B (Array.getElem?_eq_some_iff.1 hs).1 (fun e' => by obtain ⟨o, ho, hc⟩ := hrow B e'.symm; rw [hs] at ho; cases ho; cases hc)).trans hs
theorem owns_form {W : World} {B n size : Nat} {e : TypeId} {v : Value} {xs : List Value} (h : W.ownsRow B e size v n xs) : ∃ p c, v = .slice p n c := by
  obtain ⟨_, ⟨rfl, h0⟩ | ⟨g, cap, cur, rfl, _⟩⟩ := h
  · exact ⟨none, 0, by rw [h0]⟩
  · exact ⟨_, cap, rfl⟩
theorem keepsOthers_below {W W' : World} (h : Below W.heap.size W W') : KeepsOthers W W' := ⟨h.size, fun k _ hk _ => (h.block k (Array.getElem?_eq_some_iff.1 hk).1).trans hk⟩
end
theorem owns_cells {W : World} {B n size : Nat} {e : TypeId} {v : Value} {xs : List Value} (h : W.ownsRow B e size v n xs) (j : Nat) (o : Obj) (hj : v.ownBlock = some j) (ho : W.heap[j]? = some o) : o.isCells = true := by
  obtain ⟨_, ⟨rfl, _⟩ | ⟨g, cap, cur, rfl, h1⟩⟩ := h
  · cases hj
  · cases hj
    rw [h1.2.1] at ho
    cases ho
    rfl
theorem frozen_zero {W : World} {B : Nat} {c : Array Value} {t : TypeId} (h : W.heap[B]? = some (.cells c t (0, 0))) (o : Nat := 0) : W.frozen? ⟨B, o, none⟩ = false := by
  simp [World.frozen?, h]
def QN (K : Act → World → Prop) : Exit → Act → World → Prop
  | .normal, a, w => K a w
  | _, _, _ => False
theorem qn_intro {K : Act → World → Prop} {a : Act} {w : World} (h : K a w) : QN K .normal a w := h
theorem qn_out {K : Act → World → Prop} : ¬ LetsOut (QN K) := fun h => by obtain ⟨_, _, h⟩ := h; exact h
def noDefer (ops : Array Oper) : Bool := ops.all fun o => match o.op with | .defer _ => false | _ => true
theorem noDefer_at {ops : Array Oper} (h : noDefer ops = true) {i : Nat} {o : Oper} (ho : ops[i]? = some o) : ∀ c, o.op ≠ .defer c := by
  intro c hc
  obtain ⟨hi, rfl⟩ := Array.getElem?_eq_some_iff.1 ho
  unfold noDefer at h
  have := Array.all_eq_true.1 h i hi
  rw [hc] at this
  cases this
theorem rowsIn_round {l n : Nat} {P : Program} {row : String} {args : Array Value} {w : World} {R : Value → World → Prop} (h : Rows P row args w R) : RowsIn (Fence.wide.inRound l) n P row args w R := fun c cs _ => by
  obtain ⟨v, w', r, s⟩ := h c cs
  exact ⟨v, w', r, stepsIn_wide.2 s⟩
theorem roundAny {l n : Nat} {P : Program} {ops : Array Oper} {md : Region.Mode} {Q : Exit → Act → World → Prop} (hnd : noDefer ops = true) : ∀ (fuel : Nat) (listed : Array Bool) (a : Act) (w : World),
    wpAny P md ops (QN (Q .normal)) fuel listed a w → wpAnyIn (Fence.wide.inRound l) n P md ops Q fuel listed a w
  | 0, _, _, _, h => h
  | fuel + 1, listed, a, w, h => by
    refine ⟨h.1, fun i hi => ?_⟩
    have h2 := h.2 i hi
    unfold wpOp at h2
    unfold wpOpIn
    cases ho : ops[i]? with
    | none => rw [ho] at h2; exact roundAny hnd fuel _ _ _ h2
    | some o =>
      rw [ho] at h2
      simp only at h2 ⊢
      split
      · rename_i hw
        rw [if_pos hw] at h2
        rcases h2 with h2 | ⟨_, h2⟩
        · refine ⟨fun _ _ => trivial, ?_⟩
          rw [Oper.semAt_eq _ _ _ (noDefer_at hnd ho)]
          unfold Oper.wp at h2
          generalize (execOp a.eval o).run P w = r at h2 ⊢
          cases r with
          | ok x w' =>
            cases x <;> simp only [Oper.upon, Oper.uponIn] at h2 ⊢
            case value v => exact roundAny hnd fuel _ _ _ h2
            case skip => exact roundAny hnd fuel _ _ _ h2
            case defer d => exact roundAny hnd fuel _ _ _ h2
            case enter f args =>
              refine ⟨(fun h => by cases h), (CallsIn.inRound l (callsIn_wide.2 h2)).mono ?_⟩
              intro e w'' he
              cases e with
              | returned v => exact roundAny hnd fuel _ _ _ he
              | panicked c => exact False.elim he
              | outgrown => exact (qn_out he).elim
            case row row args =>
              refine ⟨(fun h => by cases h), (rowsIn_round h2).mono ?_⟩
              intro v w'' he
              exact roundAny hnd fuel _ _ _ he
          | halt x w' => cases x <;> simp only [Oper.upon] at h2 <;> exact False.elim h2
        · exact (qn_out h2).elim
      · rename_i hw
        rw [if_neg hw] at h2
        exact ⟨fun _ _ => trivial, roundAny hnd fuel _ _ _ h2⟩
theorem wpAny_still_tail {P : Program} {Q : Exit → Act → World → Prop} {a : Act} {w : World} {l : List Oper} (n : Nat) (hB : Region.lexTailB .any l.toArray n = true)
    (h : wpStill P l.toArray w (fun a' => wpList P l.toArray Q (l.drop n) a' w) (l.take n) a) : wpAny P .any l.toArray Q l.toArray.size (Array.replicate l.toArray.size false) a w := by
  simp only [Region.lexTailB, Bool.and_eq_true, decide_eq_true_eq] at hB
  obtain ⟨⟨⟨⟨hsel, hn⟩, hs⟩, hc⟩, hlex⟩ := hB
  have hn' : n < l.length := by simpa using hn
  have htl : (l.take n).length = n := by simp; omega
  have hdl : (l.drop n).length = l.toArray.size - n := by simp
  have inv0 : HeadInv .any l.toArray n (Array.replicate l.toArray.size false) :=
    ⟨by simp, fun j oj _ hl => (by rw [getD_replicate_false] at hl; cases hl), fun t _ ht => getD_in (by simpa using ht) (getD_replicate_false _ _)⟩
  have H := wpAnyL_lex (md := .any) (g := l.toArray.size - n) hsel hs hc hn (l.take n) 0 _ a (fun j hj => by
    have hj' : j < n := by rw [htl] at hj; exact hj
    simp [hj']) (by simpa using htl) inv0 (by rw [htl]; exact hlex) h
  have := wpAny_of_head (Q' := Q) (g := l.toArray.size - n) (fun listed a' hL => by
    have := wpAny_of_seq (md := .any) (Q' := Q) (l.drop n) n listed a' w (fun j => by simp [List.getElem?_drop]) (by rw [hdl]; exact hL.1) hL.2
    rwa [hdl] at this) _ _ _ H
  rw [htl, show n + (l.toArray.size - n) = l.toArray.size by omega] at this
  exact this
theorem wpIn_still_tail {l r : Nat} {P : Program} {id : Nat} {Q : Exit → Act → World → Prop} {a : Act} {w : World} {ops : List Oper} (n : Nat) (hm : P.follows .mixedOrders = true) (hnd : noDefer ops.toArray = true) (hB : Region.lexTailB .any ops.toArray n = true)
    (h : wpStill P ops.toArray w.drew (fun a' => wpList P ops.toArray (QN (Q .normal)) (ops.drop n) a' w.drew) (ops.take n) a) : (Code.region id ops.toArray true).wpIn (Fence.wide.inRound l) r P Q a w := by
  refine wpIn_region_any hm (roundAny hnd _ _ _ _ ?_)
  exact wpAny_still_tail n hB h
end Go.Proofs.YtaehkbbdmamfpaaGreatDoor
namespace Go.Proofs.YtaehkbbdmamfpaaGreatDoor
open Go.ChangeShapes Go.WideShapes Go.ChangeAt Go.RowKit Go.Shelf
theorem owns_cap {W : World} {B size n c : Nat} {e : TypeId} {a : Addr} {xs : List Value} (h : W.ownsRow B e size (.slice (some a) n c) n xs) : n ≤ c := by
  obtain ⟨_, ⟨h, _⟩ | ⟨g, c2, cur, h, _, _, h1, _⟩⟩ := h
  · cases h
  · cases h; exact h1
end Go.Proofs.YtaehkbbdmamfpaaGreatDoor




namespace Go.Proofs.YtaehkbbdmamfpaaGreatDoor
open Go.ChangeShapes Go.WideShapes Go.ChangeAt Go.RowKit
attribute [local go_sem ↓] Go.wp_at_zero Go.wp_at_succ

def itemN (L : List Nd) (i : Nat) : List Nd := (L.drop i).take ((behC (L.drop i) 0).getD 0)
def topNat (g : Gl) (h : Int) : Int := min 1073741823 (max 0 (g.nat - h))
def topN (g : Gl) (h : Int) : Nd := { Nd.zero with kind := 7, glue := { g with nat := topNat g h }, sub := 10 }
def prunF (L : List Nd) (g : Gl) : List Nat → List Nd → List Nd
  | [], out => out
  | i :: s, out => if solidK (nth L i).kind then out ++ topN g (nth L i).h :: L.drop i else prunF L g s (if fallsK (nth L i).kind then out else out ++ itemN L i)
def topB (g : Gl) : Bool := g.good && (g.ho == 0 || g.shr == 0)
end Go.Proofs.YtaehkbbdmamfpaaGreatDoor
namespace Go.Proofs.YtaehkbbdmamfpaaGreatDoor
open Go.ChangeShapes Go.WideShapes Go.ChangeAt Go.RowKit
attribute [local go_sem ↓] Go.wp_at_zero Go.wp_at_succ

theorem solid_h {n : Nd} (h : rightB n = true) (hk : solidK n.kind = true) : -1073741823 ≤ n.h ∧ n.h ≤ 1073741823 := by
  unfold rightB at h
  simp only [Bool.and_eq_true] at h
  have hg := h.1.2
  have hk' : n.kind = 4 ∨ n.kind = 5 ∨ n.kind = 3 := by simp [solidK] at hk; omega
  have hd : dimenB n.h = true := by
    rcases hk' with e | e | e
    · rw [e] at hg
      have : boxB n = true := hg
      simp [boxB, dims4] at this
      exact this.1.1.1.2
    · rw [e] at hg
      have : boxB n = true := hg
      simp [boxB, dims4] at this
      exact this.1.1.1.2
    · rw [e] at hg
      have : ruleB n = true := hg
      simp [ruleB, dims3] at this
      exact this.1.1.2.1.2
  simpa [dimenB] using hd
theorem top_if (a h : Int) : (if (if h < a then a - h else 0) < 1073741823 then if h < a then a - h else 0 else 1073741823) = min 1073741823 (max 0 (a - h)) := by
  split <;> split at * <;> omega
def NRow (w : World) (v : Value) (R : List Nd) (w' : World) : Prop := w'.ownsRow w.heap.size 53 19 v R.length (R.flatMap Nd.cells)
end Go.Proofs.YtaehkbbdmamfpaaGreatDoor
namespace Go.Proofs.YtaehkbbdmamfpaaGreatDoor
open Go.ChangeShapes Go.WideShapes Go.ChangeAt Go.RowKit
attribute [local go_sem ↓] Go.wp_at_zero Go.wp_at_succ

def prunC (L : List Nd) (s : List Nat) (g : Gl) : Int := if colP L s = 0 then (if topB g then (if 2000 < (prunF L g s []).length then 6 else 0) else 30) else colP L s
structure PrunPost (w : World) (L : List Nd) (s : List Nat) (g : Gl) (e : Ending) (w' : World) : Prop where
  ex : ∃ v, e = .returned (.tuple #[v, .int .i64 (prunC L s g)]) ∧ (prunC L s g = 0 → NRow w v (prunF L g s []) w') ∧ (prunC L s g ≠ 0 → v = .slice none 0 0)
  below : Below w.heap.size w w'
theorem nrow_base {w w0 w' : World} {v : Value} {R : List Nd} (h : NRow w v R w') (hb : w0.heap.size ≤ w.heap.size) : NRow w0 v R w' := ownsRow_base h hb
end Go.Proofs.YtaehkbbdmamfpaaGreatDoor
namespace Go.Proofs.YtaehkbbdmamfpaaGreatDoor
open Go.ChangeShapes Go.WideShapes Go.ChangeAt Go.RowKit Go.Shelf
attribute [local go_sem] Oper.semAt_some

def outP (L : List Nd) (pre : List Nat) : List Nd := pre.foldl (fun out i => if fallsK (nth L i).kind then out else out ++ itemN L i) []
theorem outP_snoc (L : List Nd) (pre : List Nat) (x : Nat) : outP L (pre ++ [x]) = if fallsK (nth L x).kind then outP L pre else outP L pre ++ itemN L x := by simp [outP]
theorem itemN_len (L : List Nd) (i : Nat) : (itemN L i).length ≤ L.length := by unfold itemN; simp; omega
theorem outP_acc (L : List Nd) : ∀ (pre : List Nat) (acc : List Nd), (pre.foldl (fun out i => if fallsK (nth L i).kind then out else out ++ itemN L i) acc).length ≤ acc.length + pre.length * L.length
  | [], acc => by simp
  | x :: r, acc => by
    rw [List.foldl_cons]
    refine Nat.le_trans (outP_acc L r _) ?_
    have := itemN_len L x
    rw [List.length_cons, Nat.add_mul, Nat.one_mul]
    split
    · omega
    · rw [List.length_append]; omega
theorem outP_len (L : List Nd) (pre : List Nat) : (outP L pre).length ≤ pre.length * L.length := by have := outP_acc L pre []; simpa [outP] using this
theorem prunF_pre (L : List Nd) (g : Gl) : ∀ (pre rest : List Nat) (acc : List Nd), (∀ x ∈ pre, solidK (nth L x).kind = false) → prunF L g (pre ++ rest) acc = prunF L g rest (pre.foldl (fun out i => if fallsK (nth L i).kind then out else out ++ itemN L i) acc)
  | [], rest, acc, _ => rfl
  | x :: r, rest, acc, h => by
    rw [List.cons_append, List.foldl_cons, ← prunF_pre L g r rest _ (fun y hy => h y (List.mem_cons_of_mem _ hy))]
    show (if solidK (nth L x).kind then _ else prunF L g (r ++ rest) _) = _
    rw [h x List.mem_cons_self]; rfl
abbrev It (s : List Nat) := {i : Nat // i ∈ s}
def PrI (w : World) (Z B0 : Nat) (p0 : Option Addr) (cap : Nat) (L : List Nd) (g : Gl) (s : List Nat) (pre : List (It s)) (W : World) : Prop :=
  ((Boxed W w.heap.size 22 (.slice p0 L.length cap) ∧ Boxed W (Z + 1) 22 (.slice p0 L.length cap) ∧ W.heap[w.heap.size + 1]? = some (.cells g.arr 51 (0, 0)) ∧ (∃ v, Boxed W Z 22 v ∧ W.ownsRow B0 53 19 v (outP L (pre.map (·.1))).length ((outP L (pre.map (·.1))).flatMap Nd.cells) ∧ True) ∧ (∀ x ∈ pre, solidK (nth L x.1).kind = false)) ∧ Below w.heap.size w W) ∧ B0 ≤ W.heap.size
def PrX (w : World) (Z B0 : Nat) (L : List Nd) (g : Gl) (s : List Nat) (id : Nat) (c : Code) (prex : List (It s)) (W : World) : Prop :=
  (c = .exit id ∧ ∃ (pre : List (It s)) (x : It s), prex = pre ++ [x] ∧ (∀ y ∈ pre, solidK (nth L y.1).kind = false) ∧ solidK (nth L x.1).kind = true ∧
    ∃ v, Boxed W Z 22 v ∧ W.ownsRow B0 53 19 v (outP L (pre.map (·.1)) ++ topN g (nth L x.1).h :: L.drop x.1).length ((outP L (pre.map (·.1)) ++ topN g (nth L x.1).h :: L.drop x.1).flatMap Nd.cells)) ∧ Below w.heap.size w W
theorem prI_own {w : World} {Z B0 B : Nat} {p0 : Option Addr} {cap : Nat} {L : List Nd} {g : Gl} {s : List Nat} (hB : w.heap.size ≤ B) : OwnFrom B (PrI w Z B0 p0 cap L g s) :=
  OwnFrom.and (OwnFrom.and (OwnFrom.and (Own.from (boxed_own _ _ _) _) (OwnFrom.and (Own.from (boxed_own _ _ _) _) (OwnFrom.and (Own.from (blk_own _ _ _ _) _) (OwnFrom.and (Own.from (holdsRow_own _ _ _ _ _ _ _ (fun _ _ => True)) _) (ownFrom_pure _ _))))) (ownFrom_below (Nat.le_refl _) hB)) (fun _ _ _ _ hs hg _ => Nat.le_trans hs hg.size)
theorem prX_own {w : World} {Z B0 B : Nat} {L : List Nd} {g : Gl} {s : List Nat} {id : Nat} (hB : w.heap.size ≤ B) (c : Code) : OwnFrom B (PrX w Z B0 L g s id c) :=
  OwnFrom.and (OwnFrom.and (ownFrom_pure _ _) (Own.from (fun prex X Y row hs hg hrow => by
    obtain ⟨pre, x, h1, h2, h3, v, hv, hr⟩ := hs
    obtain ⟨v2, hv2, hr2, _⟩ := holdsRow_own (β := Unit) B0 Z 22 53 19 (fun _ => (outP L (pre.map (·.1)) ++ topN g (nth L x.1).h :: L.drop x.1).length) (fun _ => (outP L (pre.map (·.1)) ++ topN g (nth L x.1).h :: L.drop x.1).flatMap Nd.cells) (fun _ _ => True) () X Y row ⟨v, hv, hr, trivial⟩ hg hrow
    exact ⟨pre, x, h1, h2, h3, v2, hv2, hr2⟩) _)) (ownFrom_below (Nat.le_refl _) hB)
end Go.Proofs.YtaehkbbdmamfpaaGreatDoor
