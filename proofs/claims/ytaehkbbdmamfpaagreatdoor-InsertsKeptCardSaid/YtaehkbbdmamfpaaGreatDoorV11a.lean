/-
  The document's side: the marks of a column.
-/
import Derived.Test.YtaehkbbdmamfpaaGreatDoorTame
import Derived.Test.YtaehkbbdmamfpaaGreatDoorQ6
import Derived.Test.YtaehkbbdmamfpaaGreatDoorQ9
import Derived.Test.YtaehkbbdmamfpaaGreatDoorVBs
import Derived.Stop.RegionWithIn
import Derived.Sort.CutIn
import Derived.StillTailTactics
import Derived.Deep.QuietTactic
import Derived.Deep.LoopGhost
import Derived.ArgAppend
namespace Go.Proofs.YtaehkbbdmamfpaaGreatDoor
open Go.ChangeShapes Go.WideShapes Go.ChangeAt Go.RowKit
attribute [local go_sem ↓] Go.wp_at_zero Go.wp_at_succ

theorem results_tmp4 {fn : Func} {t u v x : Tmp} (h : fn.results = #[.tmp t, .tmp u, .tmp v, .tmp x]) (tmps : Array Value) (P : Program) (w : World) :
    (results fn tmps).run P w = .ok (.tuple #[tmps.getD t undef, tmps.getD u undef, tmps.getD v undef, tmps.getD x undef]) w := by
  simp [results, h]
theorem colP_check {L : List Nd} {s : List Nat} (h : colP L s = 0) : checkC L = 0 := by
  unfold colP at h
  split at h
  · assumption
  · exact h
end Go.Proofs.YtaehkbbdmamfpaaGreatDoor

namespace Go.Proofs.YtaehkbbdmamfpaaGreatDoor
open Go.RowKit
def qOf (L : List Nd) (prev : Option Nat) (i : Nat) : Int :=
  if ((nth L i).kind == 7 && prev.any fun j => !fallsK (nth L j).kind) = true then 0
  else if ((nth L i).kind == 8 && decide (i + 1 < L.length) && (nth L (i + 1)).kind == 7) = true then 0
  else if ((nth L i).kind == 9) = true then (nth L i).pen else 10000
def brk (i : Nat) (q : Int) : List (Nat × Int) := if q < 10000 then [(i, q)] else []
def breaksF (L : List Nd) : Option Nat → List Nat → List (Nat × Int)
  | _, [] => []
  | prev, i :: s => brk i (qOf L prev i) ++ breaksF L (some i) s
def lastO (prev : Option Nat) (pre : List Nat) : Option Nat := match pre.getLast? with | some x => some x | none => prev
theorem lastO_snoc (prev : Option Nat) (pre : List Nat) (x : Nat) : lastO prev (pre ++ [x]) = some x := by simp [lastO]
theorem lastO_cons (prev : Option Nat) (i : Nat) (pre : List Nat) : lastO prev (i :: pre) = lastO (some i) pre := by
  unfold lastO
  cases pre with
  | nil => rfl
  | cons a r => simp [List.getLast?_cons]
theorem breaksF_append (L : List Nd) : ∀ (pre rest : List Nat) (prev : Option Nat), breaksF L prev (pre ++ rest) = breaksF L prev pre ++ breaksF L (lastO prev pre) rest
  | [], rest, prev => by simp [breaksF, lastO]
  | i :: pre, rest, prev => by
    rw [List.cons_append, breaksF, breaksF, breaksF_append L pre rest (some i), List.append_assoc, lastO_cons]
theorem breaksF_snoc (L : List Nd) (pre : List Nat) (i : Nat) : breaksF L none (pre ++ [i]) = breaksF L none pre ++ brk i (qOf L (lastO none pre) i) := by
  rw [breaksF_append]; simp [breaksF]
theorem breaksF_mem (L : List Nd) : ∀ (s : List Nat) (prev : Option Nat) (x : Nat × Int), x ∈ breaksF L prev s → x.1 ∈ s
  | [], _, _, h => by cases h
  | i :: s, prev, x, h => by
    rw [breaksF, List.mem_append] at h
    rcases h with h | h
    · unfold brk at h
      split at h
      · simp only [List.mem_singleton] at h; rw [h]; simp
      · cases h
    · exact List.mem_cons_of_mem _ (breaksF_mem L s _ x h)
theorem breaksF_len (L : List Nd) : ∀ (s : List Nat) (prev : Option Nat), (breaksF L prev s).length ≤ s.length
  | [], _ => Nat.le_refl _
  | i :: s, prev => by
    rw [breaksF, List.length_append, List.length_cons]
    have := breaksF_len L s (some i)
    have h2 : (brk i (qOf L prev i)).length ≤ 1 := by unfold brk; split <;> simp
    omega
def legalP (L : List Nd) (s : List Nat) : List (Nat × Int) := breaksF L none s ++ [(L.length, -10000)]
def BrOk (L : List Nd) (s : List Nat) (x : Nat × Int) : Prop := (x.1 ∈ s ∧ x.2 < 10000 ∧ ∃ prev, x.2 = qOf L prev x.1) ∨ x = (L.length, -10000)
abbrev Br (L : List Nd) (s : List Nat) := {x : Nat × Int // BrOk L s x}
def lastV (prev : Option Nat) : Int := match prev with | some j => j | none => -1
theorem breaksF_pre {L : List Nd} {s pre : List Nat} (h : pre <+: s) : breaksF L none pre <+: legalP L s := by
  obtain ⟨r, rfl⟩ := h
  unfold legalP
  rw [breaksF_append, List.append_assoc]
  exact List.prefix_append _ _
theorem lastO_mem {pre : List Nat} {j : Nat} (h : lastO none pre = some j) : j ∈ pre := by
  unfold lastO at h
  cases hp : pre.getLast? with
  | none => rw [hp] at h; cases h
  | some x => rw [hp] at h; cases h; exact List.mem_of_getLast? hp
end Go.Proofs.YtaehkbbdmamfpaaGreatDoor
namespace Go.Proofs.YtaehkbbdmamfpaaGreatDoor
open Go.ChangeShapes Go.WideShapes Go.ChangeAt Go.RowKit Go.Shelf
section
attribute [local go_sem] Oper.semAt_some

theorem wpListIn_append_lies {P : Program} {l n : Nat} (w : World) {ops : Array Oper} {rest : List Oper} {o : Oper} {a : Act} {Q : Exit → Act → World → Prop} (hgd : o.guard = none) (s x : Operand) (t : TypeId)
    (ho : o.op = .call { callee := .builtin .append, args := #[s, x], argTypes := #[t, t] })
    (base : Nat) (e : TypeId) (i : TypeInfo) (z : Value) (size bytes : Nat) (ht : P.underlying t = some (.slice e)) (hi : P.info? e = some i) (hz : i.zero = some z)
    (hsize : i.size = size) (hby : i.bytes = bytes) (hzs : z.cells.size = size) (hsz : 0 < size)
    (v : Value) (k : Nat) (xs : List Value) (hs : a.eval s = v) (hown : w.ownsRow base e size v k xs)
    (ad : Addr) (m c : Nat) (news : List Value) (hx : a.eval x = .slice (some ad) m c) (hl : news.length = m * size) (hnews : ∀ j u, news[j]? = some u → w.cell? (ad.add j) = some u) (h1 : ∀ u ∈ news, u.oneCell' = true)
    (hm : 0 < m) (h63 : k + m ≤ maxLen) (hbytes : (k + m) * bytes ≤ 140737488355328) (hbase : base ≤ w.heap.size) (H : Nat) (hH : w.heap.size = H)
    (h : ∀ g cap w', w'.ownsRow base e size (.slice (some ⟨g, 0, none⟩) (k + m) cap) (k + m) (xs ++ news) → w.grownBy w' v.ownBlock → (v.ownBlock = some g ∨ g = H) → g < w'.heap.size → wpListIn (Fence.wide.inRound l) n P ops Q rest (a.put o.dst (.slice (some ⟨g, 0, none⟩) (k + m) cap)) w') : wpListIn (Fence.wide.inRound l) n P ops Q (o :: rest) a w := by
  obtain ⟨g, cap, w', hr, h2, h3, h4, h5⟩ := run_append_lies (P := P) w t o.type base e i z size bytes ht hi hz hsize hby hzs hsz v k xs hown ad m c news hl hnews h1 hm h63 hbytes hbase H hH
  refine wpListIn_plain hgd fun K hK => ⟨fun _ _ => trivial, ?_⟩
  have hse : Oper.semAt (Fence.wide.inRound l).round a.eval o = execOp a.eval o := Oper.semAt_eq _ _ _ (fun c hc => by rw [ho] at hc; cases hc)
  rw [hse]
  unfold execOp
  simp only [ho, resolve, invoke, builtin, Sem.run_bind, Sem.run_pure, Result.andThen_ok, List.map_toArray, List.map_cons, List.map_nil, hs, hx, hr]
  exact hK _ _ (h g cap w' h2 h3 h4 h5)
theorem blk_own {β : Type} (B : Nat) (c : Array Value) (t : TypeId) (fr : Nat × Nat) : Own (fun (_ : β) W => W.heap[B]? = some (.cells c t fr)) := fun s X Y row hs hg hrow =>
  (hg.block B (Array.getElem?_eq_some_iff.1 hs).1 (fun e' => by obtain ⟨o, ho, hc⟩ := hrow B e'.symm; rw [hs] at ho; cases ho; cases hc)).trans hs
theorem owns_form {W : World} {B n size : Nat} {e : TypeId} {v : Value} {xs : List Value} (h : W.ownsRow B e size v n xs) : ∃ p c, v = .slice p n c := by
  obtain ⟨_, ⟨rfl, h0⟩ | ⟨g, cap, cur, rfl, _⟩⟩ := h
  · exact ⟨none, 0, by rw [h0]⟩
  · exact ⟨_, cap, rfl⟩
theorem keepsOthers_below {W W' : World} (h : Below W.heap.size W W') : KeepsOthers W W' := ⟨h.size, fun k _ hk _ => (h.block k (Array.getElem?_eq_some_iff.1 hk).1).trans hk⟩
end
theorem owns_cells {W : World} {B n size : Nat} {e : TypeId} {v : Value} {xs : List Value} (h : W.ownsRow B e size v n xs) (j : Nat) (o : Obj) (hj : v.ownBlock = some j) (ho : W.heap[j]? = some o) : o.isCells = true := by
  obtain ⟨_, ⟨rfl, _⟩ | ⟨g, cap, cur, rfl, h1⟩⟩ := h
  · cases hj
  · cases hj
    rw [h1.2.1] at ho
    cases ho
    rfl
theorem frozen_zero {W : World} {B : Nat} {c : Array Value} {t : TypeId} (h : W.heap[B]? = some (.cells c t (0, 0))) (o : Nat := 0) : W.frozen? ⟨B, o, none⟩ = false := by
  simp [World.frozen?, h]
def QN (K : Act → World → Prop) : Exit → Act → World → Prop
  | .normal, a, w => K a w
  | _, _, _ => False
theorem qn_intro {K : Act → World → Prop} {a : Act} {w : World} (h : K a w) : QN K .normal a w := h
theorem qn_out {K : Act → World → Prop} : ¬ LetsOut (QN K) := fun h => by obtain ⟨_, _, h⟩ := h; exact h
def noDefer (ops : Array Oper) : Bool := ops.all fun o => match o.op with | .defer _ => false | _ => true
theorem noDefer_at {ops : Array Oper} (h : noDefer ops = true) {i : Nat} {o : Oper} (ho : ops[i]? = some o) : ∀ c, o.op ≠ .defer c := by
  intro c hc
  obtain ⟨hi, rfl⟩ := Array.getElem?_eq_some_iff.1 ho
  unfold noDefer at h
  have := Array.all_eq_true.1 h i hi
  rw [hc] at this
  cases this
theorem rowsIn_round {l n : Nat} {P : Program} {row : String} {args : Array Value} {w : World} {R : Value → World → Prop} (h : Rows P row args w R) : RowsIn (Fence.wide.inRound l) n P row args w R := fun c cs _ => by
  obtain ⟨v, w', r, s⟩ := h c cs
  exact ⟨v, w', r, stepsIn_wide.2 s⟩
theorem roundAny {l n : Nat} {P : Program} {ops : Array Oper} {md : Region.Mode} {Q : Exit → Act → World → Prop} (hnd : noDefer ops = true) : ∀ (fuel : Nat) (listed : Array Bool) (a : Act) (w : World),
    wpAny P md ops (QN (Q .normal)) fuel listed a w → wpAnyIn (Fence.wide.inRound l) n P md ops Q fuel listed a w
  | 0, _, _, _, h => h
  | fuel + 1, listed, a, w, h => by
    refine ⟨h.1, fun i hi => ?_⟩
    have h2 := h.2 i hi
    unfold wpOp at h2
    unfold wpOpIn
    cases ho : ops[i]? with
    | none => rw [ho] at h2; exact roundAny hnd fuel _ _ _ h2
    | some o =>
      rw [ho] at h2
      simp only at h2 ⊢
      split
      · rename_i hw
        rw [if_pos hw] at h2
        rcases h2 with h2 | ⟨_, h2⟩
        · refine ⟨fun _ _ => trivial, ?_⟩
          rw [Oper.semAt_eq _ _ _ (noDefer_at hnd ho)]
          unfold Oper.wp at h2
          generalize (execOp a.eval o).run P w = r at h2 ⊢
          cases r with
          | ok x w' =>
            cases x <;> simp only [Oper.upon, Oper.uponIn] at h2 ⊢
            case value v => exact roundAny hnd fuel _ _ _ h2
            case skip => exact roundAny hnd fuel _ _ _ h2
            case defer d => exact roundAny hnd fuel _ _ _ h2
            case enter f args =>
              refine ⟨(fun h => by cases h), (CallsIn.inRound l (callsIn_wide.2 h2)).mono ?_⟩
              intro e w'' he
              cases e with
              | returned v => exact roundAny hnd fuel _ _ _ he
              | panicked c => exact False.elim he
              | outgrown => exact (qn_out he).elim
            case row row args =>
              refine ⟨(fun h => by cases h), (rowsIn_round h2).mono ?_⟩
              intro v w'' he
              exact roundAny hnd fuel _ _ _ he
          | halt x w' => cases x <;> simp only [Oper.upon] at h2 <;> exact False.elim h2
        · exact (qn_out h2).elim
      · rename_i hw
        rw [if_neg hw] at h2
        exact ⟨fun _ _ => trivial, roundAny hnd fuel _ _ _ h2⟩
theorem wpAny_still_tail {P : Program} {Q : Exit → Act → World → Prop} {a : Act} {w : World} {l : List Oper} (n : Nat) (hB : Region.lexTailB .any l.toArray n = true)
    (h : wpStill P l.toArray w (fun a' => wpList P l.toArray Q (l.drop n) a' w) (l.take n) a) : wpAny P .any l.toArray Q l.toArray.size (Array.replicate l.toArray.size false) a w := by
  simp only [Region.lexTailB, Bool.and_eq_true, decide_eq_true_eq] at hB
  obtain ⟨⟨⟨⟨hsel, hn⟩, hs⟩, hc⟩, hlex⟩ := hB
  have hn' : n < l.length := by simpa using hn
  have htl : (l.take n).length = n := by simp; omega
  have hdl : (l.drop n).length = l.toArray.size - n := by simp
  have inv0 : HeadInv .any l.toArray n (Array.replicate l.toArray.size false) :=
    ⟨by simp, fun j oj _ hl => (by rw [getD_replicate_false] at hl; cases hl), fun t _ ht => getD_in (by simpa using ht) (getD_replicate_false _ _)⟩
  have H := wpAnyL_lex (md := .any) (g := l.toArray.size - n) hsel hs hc hn (l.take n) 0 _ a (fun j hj => by
    have hj' : j < n := by rw [htl] at hj; exact hj
    simp [hj']) (by simpa using htl) inv0 (by rw [htl]; exact hlex) h
  have := wpAny_of_head (Q' := Q) (g := l.toArray.size - n) (fun listed a' hL => by
    have := wpAny_of_seq (md := .any) (Q' := Q) (l.drop n) n listed a' w (fun j => by simp [List.getElem?_drop]) (by rw [hdl]; exact hL.1) hL.2
    rwa [hdl] at this) _ _ _ H
  rw [htl, show n + (l.toArray.size - n) = l.toArray.size by omega] at this
  exact this
theorem wpIn_still_tail {l r : Nat} {P : Program} {id : Nat} {Q : Exit → Act → World → Prop} {a : Act} {w : World} {ops : List Oper} (n : Nat) (hm : P.follows .mixedOrders = true) (hnd : noDefer ops.toArray = true) (hB : Region.lexTailB .any ops.toArray n = true)
    (h : wpStill P ops.toArray w.drew (fun a' => wpList P ops.toArray (QN (Q .normal)) (ops.drop n) a' w.drew) (ops.take n) a) : (Code.region id ops.toArray true).wpIn (Fence.wide.inRound l) r P Q a w := by
  refine wpIn_region_any hm (roundAny hnd _ _ _ _ ?_)
  exact wpAny_still_tail n hB h
end Go.Proofs.YtaehkbbdmamfpaaGreatDoor
namespace Go.Proofs.YtaehkbbdmamfpaaGreatDoor
open Go.ChangeShapes Go.WideShapes Go.ChangeAt Go.RowKit Go.Shelf
theorem owns_empty (W : World) : (W.alloc (.cells #[] 53)).ownsRow W.heap.size 53 19 (.slice (some ⟨W.heap.size, 0, none⟩) 0 0) 0 [] :=
  ⟨rfl, .inr ⟨W.heap.size, 0, #[], rfl, Nat.le_refl _, heap_alloc_new _ _, Nat.le_refl _, by unfold maxLen; omega, rfl, rfl⟩⟩
theorem owns_cap {W : World} {B size n c : Nat} {e : TypeId} {a : Addr} {xs : List Value} (h : W.ownsRow B e size (.slice (some a) n c) n xs) : n ≤ c := by
  obtain ⟨_, ⟨h, _⟩ | ⟨g, c2, cur, h, _, _, h1, _⟩⟩ := h
  · cases h
  · cases h; exact h1
def neqlNd (X Y : Operand) (x y : Value) : Sem Value := do eqGuard .neq 53 X Y x y; binOp .neq 53 x y
@[go_sem ↓] theorem execOp_neqNd (ρ : Operand → Value) (dst : Option Tmp) (x y : Operand) (k ty : TypeId) (pos : String) (after : Array Edge) (guard : Option (Nat × Bool)) :
    execOp ρ { dst, op := .binOp .neq 53 x y k, type := ty, pos, after, guard } = (do pure (.value (← neqlNd x y (ρ x) (ρ y)))) := by
  rfl
@[go_sem] theorem run_neqlNd' (a b : Nd) (X Y : Operand) (w : World) : (neqlNd X Y (.agg a.arr) (.agg b.arr)).run Tryz.prog w = .ok (.bool (!eqNd a b)) w := by
  unfold neqlNd
  have h1 := run_eqGuard_agg (P := Tryz.prog) w .neq 53 X Y a.arr b.arr eqGuardNd
  have h2 : (binOp .neq 53 (.agg a.arr) (.agg b.arr)).run Tryz.prog w = .ok (.bool (!eqNd a b)) w := run_neqNd a b w
  simp only [Sem.run_bind, h1, Result.andThen_ok, h2]
set_option maxRecDepth 100000 in
set_option maxHeartbeats 4000000 in
theorem same_any (p q : Option Addr) (b1 o1 c1 b2 o2 c2 : Nat) (l1 l2 : List Nd) (w : World) (h1 : NIn w p b1 o1 c1 l1) (h2 : NIn w q b2 o2 c2 l2) :
    Calls Tryz.prog 11 #[.slice p l1.length c1, .slice q l2.length c2] w fun e w' => e = .returned (.bool (decide (l1 = l2))) ∧ ∃ n, w' = w.drewN n := by
  have hm1 := h1.len
  by_cases hlen : l1.length = l2.length
  · have hL := Lib.hid hlen
    have H1 := Lib.hid h1
    have H2 := Lib.hid h2
    have hll : ((l1.length : Int) != (l2.length : Int)) = false := by simp [hlen]
    have k1 := h1.cap'
    have k2 := h2.cap'
    clear hlen h1 h2
    go_enter Tryz.func11, Tryz.ntmps11
    go_wp2_with fail
    go_loopg [5] (l1.length + 1) (fun g t wr => ∃ k m : Nat, g = l1.length + 1 - k ∧ k ≤ l1.length ∧ t = .int .i64 k ∧ wr = w.drewN m ∧ l1.take k = l2.take k)
    case atStart => exact ⟨0, 0, rfl, Nat.zero_le _, rfl, rfl, rfl⟩
    case round =>
      obtain ⟨k, m, rfl, hk, rfl, rfl, heq⟩ := hrel
      have Heq := Lib.hid heq
      clear heq
      have hk1 : (0 : Int) ≤ (k : Int) := by omega
      by_cases hlt : k < l1.length
      · have hk2 : (k : Int) < (l1.length : Int) := by omega
        have hk3 : (k : Int) < (l2.length : Int) := by have := hL.out; omega
        have hlt2 : k < l2.length := by omega
        have x1 : agg? w b1 (o1 + k * 19) 19 = some (l1[k]).arr := H1.out.nd k hlt
        have x2 : agg? w b2 (o2 + k * 19) 19 = some (l2[k]).arr := H2.out.nd k hlt2
        have t1 := Lib.hid (List.take_succ_eq_append_getElem hlt)
        have t2 := Lib.hid (List.take_succ_eq_append_getElem hlt2)
        have e1 := Lib.hid (List.getElem?_eq_getElem hlt)
        have e2 := Lib.hid (List.getElem?_eq_getElem hlt2)
        obtain rfl := H1.out.hp (by intro e; rw [e] at hlt; simp at hlt)
        obtain rfl := H2.out.hp (by intro e; rw [e] at hlt2; simp at hlt2)
        generalize l1[k] = y1 at x1 t1 e1
        generalize l2[k] = y2 at x2 t2 e2
        cases hy : eqNd y1 y2
        · have Hy := Lib.hid (show y1 ≠ y2 by simpa [eqNd] using hy)
          go_wp2_with fail
          go_quiet (fail)
          go_wp2_with fail
          go_ret
          refine ⟨ret_bool ?_, m + nq, by first | rfl | exact World.drewN_drewN _ _ _⟩
          rw [eq_comm, decide_eq_false_iff_not]
          intro e
          have := e1.out
          rw [e, e2.out] at this
          exact Hy.out (Option.some.inj this).symm
        · have Hy := Lib.hid (show y1 = y2 by simpa [eqNd] using hy)
          go_wp2_with fail
          go_quiet (fail)
          go_wp2_with fail
          go_roundg (l1.length + 1 - (k + 1))
          case measure => omega
          case rel => exact ⟨k + 1, _, rfl, hlt, by go_num, rfl, by rw [t1.out, t2.out, Heq.out, Hy.out]⟩
      · have hk2 : (l1.length : Int) ≤ (k : Int) := by omega
        have Hfin := Lib.hid (show l1 = l2 by
          have := Heq.out
          rw [List.take_of_length_le (by omega), List.take_of_length_le (by have := hL.out; omega)] at this
          exact this)
        go_wp2_with fail
        go_ret
        exact ⟨ret_bool (by rw [eq_comm, decide_eq_true_iff]; exact Hfin.out), _, rfl⟩
  · have hll : ((l1.length : Int) != (l2.length : Int)) = true := by simp; omega
    have Hne := Lib.hid (show ¬ l1 = l2 from fun e => hlen (by rw [e]))
    clear hlen h1 h2
    go_enter Tryz.func11, Tryz.ntmps11
    go_wp2_with fail
    go_ret
    exact ⟨ret_bool (by rw [eq_comm, decide_eq_false_iff_not]; exact Hne.out), 0, rfl⟩
end Go.Proofs.YtaehkbbdmamfpaaGreatDoor



namespace Go.Proofs.YtaehkbbdmamfpaaGreatDoor
open Go.ChangeShapes Go.WideShapes Go.ChangeAt Go.RowKit
attribute [local go_sem ↓] Go.wp_at_zero Go.wp_at_succ

def itemN (L : List Nd) (i : Nat) : List Nd := (L.drop i).take ((behC (L.drop i) 0).getD 0)
def topNat (g : Gl) (h : Int) : Int := min 1073741823 (max 0 (g.nat - h))
def topN (g : Gl) (h : Int) : Nd := { Nd.zero with kind := 7, glue := { g with nat := topNat g h }, sub := 10 }
def prunF (L : List Nd) (g : Gl) : List Nat → List Nd → List Nd
  | [], out => out
  | i :: s, out => if solidK (nth L i).kind then out ++ topN g (nth L i).h :: L.drop i else prunF L g s (if fallsK (nth L i).kind then out else out ++ itemN L i)
def topB (g : Gl) : Bool := g.good && (g.ho == 0 || g.shr == 0)
end Go.Proofs.YtaehkbbdmamfpaaGreatDoor
namespace Go.Proofs.YtaehkbbdmamfpaaGreatDoor
open Go.ChangeShapes Go.WideShapes Go.ChangeAt Go.RowKit
attribute [local go_sem ↓] Go.wp_at_zero Go.wp_at_succ

theorem solid_h {n : Nd} (h : rightB n = true) (hk : solidK n.kind = true) : -1073741823 ≤ n.h ∧ n.h ≤ 1073741823 := by
  unfold rightB at h
  simp only [Bool.and_eq_true] at h
  have hg := h.1.2
  have hk' : n.kind = 4 ∨ n.kind = 5 ∨ n.kind = 3 := by simp [solidK] at hk; omega
  have hd : dimenB n.h = true := by
    rcases hk' with e | e | e
    · rw [e] at hg
      have : boxB n = true := hg
      simp [boxB, dims4] at this
      exact this.1.1.1.2
    · rw [e] at hg
      have : boxB n = true := hg
      simp [boxB, dims4] at this
      exact this.1.1.1.2
    · rw [e] at hg
      have : ruleB n = true := hg
      simp [ruleB, dims3] at this
      exact this.1.1.2.1.2
  simpa [dimenB] using hd
theorem top_if (a h : Int) : (if (if h < a then a - h else 0) < 1073741823 then if h < a then a - h else 0 else 1073741823) = min 1073741823 (max 0 (a - h)) := by
  split <;> split at * <;> omega
def NRow (w : World) (v : Value) (R : List Nd) (w' : World) : Prop := w'.ownsRow w.heap.size 53 19 v R.length (R.flatMap Nd.cells)
end Go.Proofs.YtaehkbbdmamfpaaGreatDoor
namespace Go.Proofs.YtaehkbbdmamfpaaGreatDoor
open Go.ChangeShapes Go.WideShapes Go.ChangeAt Go.RowKit
attribute [local go_sem ↓] Go.wp_at_zero Go.wp_at_succ

def prunC (L : List Nd) (s : List Nat) (g : Gl) : Int := if colP L s = 0 then (if topB g then (if 2000 < (prunF L g s []).length then 6 else 0) else 30) else colP L s
structure PrunPost (w : World) (L : List Nd) (s : List Nat) (g : Gl) (e : Ending) (w' : World) : Prop where
  ex : ∃ v, e = .returned (.tuple #[v, .int .i64 (prunC L s g)]) ∧ (prunC L s g = 0 → NRow w v (prunF L g s []) w') ∧ (prunC L s g ≠ 0 → v = .slice none 0 0)
  below : Below w.heap.size w w'
theorem nrow_base {w w0 w' : World} {v : Value} {R : List Nd} (h : NRow w v R w') (hb : w0.heap.size ≤ w.heap.size) : NRow w0 v R w' := ownsRow_base h hb
end Go.Proofs.YtaehkbbdmamfpaaGreatDoor
namespace Go.Proofs.YtaehkbbdmamfpaaGreatDoor
open Go.ChangeShapes Go.WideShapes Go.ChangeAt Go.RowKit Go.Shelf
attribute [local go_sem] Oper.semAt_some

def outP (L : List Nd) (pre : List Nat) : List Nd := pre.foldl (fun out i => if fallsK (nth L i).kind then out else out ++ itemN L i) []
theorem outP_snoc (L : List Nd) (pre : List Nat) (x : Nat) : outP L (pre ++ [x]) = if fallsK (nth L x).kind then outP L pre else outP L pre ++ itemN L x := by simp [outP]
theorem itemN_len (L : List Nd) (i : Nat) : (itemN L i).length ≤ L.length := by unfold itemN; simp; omega
theorem outP_acc (L : List Nd) : ∀ (pre : List Nat) (acc : List Nd), (pre.foldl (fun out i => if fallsK (nth L i).kind then out else out ++ itemN L i) acc).length ≤ acc.length + pre.length * L.length
  | [], acc => by simp
  | x :: r, acc => by
    rw [List.foldl_cons]
    refine Nat.le_trans (outP_acc L r _) ?_
    have := itemN_len L x
    rw [List.length_cons, Nat.add_mul, Nat.one_mul]
    split
    · omega
    · rw [List.length_append]; omega
theorem outP_len (L : List Nd) (pre : List Nat) : (outP L pre).length ≤ pre.length * L.length := by have := outP_acc L pre []; simpa [outP] using this
theorem prunF_pre (L : List Nd) (g : Gl) : ∀ (pre rest : List Nat) (acc : List Nd), (∀ x ∈ pre, solidK (nth L x).kind = false) → prunF L g (pre ++ rest) acc = prunF L g rest (pre.foldl (fun out i => if fallsK (nth L i).kind then out else out ++ itemN L i) acc)
  | [], rest, acc, _ => rfl
  | x :: r, rest, acc, h => by
    rw [List.cons_append, List.foldl_cons, ← prunF_pre L g r rest _ (fun y hy => h y (List.mem_cons_of_mem _ hy))]
    show (if solidK (nth L x).kind then _ else prunF L g (r ++ rest) _) = _
    rw [h x List.mem_cons_self]; rfl
abbrev It (s : List Nat) := {i : Nat // i ∈ s}
def PrI (w : World) (Z B0 : Nat) (p0 : Option Addr) (cap : Nat) (L : List Nd) (g : Gl) (s : List Nat) (pre : List (It s)) (W : World) : Prop :=
  ((Boxed W w.heap.size 22 (.slice p0 L.length cap) ∧ Boxed W (Z + 1) 22 (.slice p0 L.length cap) ∧ W.heap[w.heap.size + 1]? = some (.cells g.arr 51 (0, 0)) ∧ (∃ v, Boxed W Z 22 v ∧ W.ownsRow B0 53 19 v (outP L (pre.map (·.1))).length ((outP L (pre.map (·.1))).flatMap Nd.cells) ∧ True) ∧ (∀ x ∈ pre, solidK (nth L x.1).kind = false)) ∧ Below w.heap.size w W) ∧ B0 ≤ W.heap.size
def PrX (w : World) (Z B0 : Nat) (L : List Nd) (g : Gl) (s : List Nat) (id : Nat) (c : Code) (prex : List (It s)) (W : World) : Prop :=
  (c = .exit id ∧ ∃ (pre : List (It s)) (x : It s), prex = pre ++ [x] ∧ (∀ y ∈ pre, solidK (nth L y.1).kind = false) ∧ solidK (nth L x.1).kind = true ∧
    ∃ v, Boxed W Z 22 v ∧ W.ownsRow B0 53 19 v (outP L (pre.map (·.1)) ++ topN g (nth L x.1).h :: L.drop x.1).length ((outP L (pre.map (·.1)) ++ topN g (nth L x.1).h :: L.drop x.1).flatMap Nd.cells)) ∧ Below w.heap.size w W
theorem prI_own {w : World} {Z B0 B : Nat} {p0 : Option Addr} {cap : Nat} {L : List Nd} {g : Gl} {s : List Nat} (hB : w.heap.size ≤ B) : OwnFrom B (PrI w Z B0 p0 cap L g s) :=
  OwnFrom.and (OwnFrom.and (OwnFrom.and (Own.from (boxed_own _ _ _) _) (OwnFrom.and (Own.from (boxed_own _ _ _) _) (OwnFrom.and (Own.from (blk_own _ _ _ _) _) (OwnFrom.and (Own.from (holdsRow_own _ _ _ _ _ _ _ (fun _ _ => True)) _) (ownFrom_pure _ _))))) (ownFrom_below (Nat.le_refl _) hB)) (fun _ _ _ _ hs hg _ => Nat.le_trans hs hg.size)
theorem prX_own {w : World} {Z B0 B : Nat} {L : List Nd} {g : Gl} {s : List Nat} {id : Nat} (hB : w.heap.size ≤ B) (c : Code) : OwnFrom B (PrX w Z B0 L g s id c) :=
  OwnFrom.and (OwnFrom.and (ownFrom_pure _ _) (Own.from (fun prex X Y row hs hg hrow => by
    obtain ⟨pre, x, h1, h2, h3, v, hv, hr⟩ := hs
    obtain ⟨v2, hv2, hr2, _⟩ := holdsRow_own (β := Unit) B0 Z 22 53 19 (fun _ => (outP L (pre.map (·.1)) ++ topN g (nth L x.1).h :: L.drop x.1).length) (fun _ => (outP L (pre.map (·.1)) ++ topN g (nth L x.1).h :: L.drop x.1).flatMap Nd.cells) (fun _ _ => True) () X Y row ⟨v, hv, hr, trivial⟩ hg hrow
    exact ⟨pre, x, h1, h2, h3, v2, hv2, hr2⟩) _)) (ownFrom_below (Nat.le_refl _) hB)
end Go.Proofs.YtaehkbbdmamfpaaGreatDoor
