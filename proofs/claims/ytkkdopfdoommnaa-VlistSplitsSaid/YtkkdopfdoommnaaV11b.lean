/-
  The document's side: the marks of a column.
  Where a column may be broken, and at what penalty (plain).
  The document's side: what is left of a column at the top of a page (plain; Top).
  What a round of any column walk wants: append in a round, what is kept; a drawn region in a round: reads and still calls first, then what must come last, by one walk in the order of the text.
-/
import Derived.Test.YtkkdopfdoommnaaQ6
import Derived.Test.YtkkdopfdoommnaaQ9
import Derived.Test.YtkkdopfdoommnaaVBs
import Derived.Stop.RegionWithIn
import Derived.Sort.CutIn
import Derived.StillTailTactics
namespace Go.Proofs.Ytkkdopfdoommnaa
open Go.ChangeShapes Go.WideShapes Go.ChangeAt Go.RowKit
attribute [local go_sem ↓] Go.wp_at_zero Go.wp_at_succ

theorem results_tmp4 {fn : Func} {t u v x : Tmp} (h : fn.results = #[.tmp t, .tmp u, .tmp v, .tmp x]) (tmps : Array Value) (P : Program) (w : World) :
    (results fn tmps).run P w = .ok (.tuple #[tmps.getD t undef, tmps.getD u undef, tmps.getD v undef, tmps.getD x undef]) w := by
  simp [results, h]
structure Mk where
  first : ByteArray
  last : ByteArray
  some : Bool
def Mk.none : Mk := ⟨⟨#[]⟩, ⟨#[]⟩, false⟩
def mkStep (n : Nd) (a : Mk) : Mk := if n.kind = 12 then ⟨if a.some then a.first else n.text, n.text, true⟩ else a
def marksP (L : List Nd) (s : List Nat) : Mk := s.foldl (fun a i => mkStep (nth L i) a) Mk.none
theorem marksP_step {L : List Nd} {s t : List Nat} {x : Nat} (h : t = s ++ [x]) : marksP L t = mkStep (nth L x) (marksP L s) := by rw [h]; simp [marksP]
def marksR (L : List Nd) (s : List Nat) : Mk := if colP L s = 0 then marksP L s else Mk.none
def Mk.vals (m : Mk) (e : Int) : Value := .tuple #[.string m.first, .string m.last, .bool m.some, .int .i64 e]
theorem colP_check {L : List Nd} {s : List Nat} (h : colP L s = 0) : checkC L = 0 := by
  unfold colP at h
  split at h
  · assumption
  · exact h
set_option maxRecDepth 100000 in
set_option maxHeartbeats 8000000 in
theorem qmarks (p0 : Option Addr) (b off cap : Nat) (L : List Nd) (s : List Nat) (hs : checkC L = 0 → Items L 0 s) (w : World) (hN : NIn w p0 b off cap L) :
    Calls Try.prog 32 #[.slice p0 L.length cap] w fun e w' => e = .returned ((marksR L s).vals (colP L s)) ∧ Below w.heap.size w w' := by
  have HC := Lib.hid (qcolumn p0 b off cap L s hs w hN)
  have H := Lib.hid hN
  have Hs := Lib.hid hs
  have hlen := hN.len
  clear hN hs
  go_enter Try.func32, Try.ntmps32
  go_wp2_with fail
  refine HC.out.mono ?_
  clear HC
  rintro e w1 ⟨rfl, hb1⟩
  by_cases hck : colP L s = 0
  · have hs := Hs.out (colP_check hck)
    have hkd := items_kind0 hs (colP_check hck)
    have HS := Lib.hid (qstarts p0 b off cap L s w1 (H.out.below hb1) hs fun x hx => (hkd x hx).1)
    have HR := Lib.hid (show marksR L s = marksP L s by unfold marksR; rw [if_pos hck])
    have Hck := Lib.hid hck
    have HI := Lib.hid hs.lt
    have hsl := hs.len
    rw [hck]
    clear hck hs hkd Hs
    go_wp2_with fail
    refine HS.out.mono ?_
    clear HS
    rintro e w2 ⟨⟨v, rfl, hrow⟩, hb2⟩
    obtain ⟨p, g, c, rfl, hII⟩ := irow_seen hrow
    have hbw := hb1.trans (hb2.mono hb1.size)
    clear hb1 hb2 hrow
    have hN2 := H.out.below hbw
    go_wp2_with fail
    go_loopg [7, 8, 9, 11] (s.length + 1) (fun gg t7 t8 t9 t11 wr => ∃ (i : Nat) (m : Mk), gg = s.length + 1 - i ∧ i ≤ s.length ∧ marksP L (s.take i) = m ∧ t7 = .string m.first ∧ t8 = .string m.last ∧ t9 = .bool m.some ∧ t11 = .int .i64 i ∧ wr = w2)
    case atStart => exact ⟨0, Mk.none, rfl, Nat.zero_le _, rfl, rfl, rfl, rfl, rfl, rfl⟩
    case round =>
      obtain ⟨i, m, rfl, hi, hm, rfl, rfl, rfl, rfl, rfl⟩ := hrel
      have hi1 : (0 : Int) ≤ (i : Int) := by omega
      have Hm := Lib.hid hm
      clear hm
      by_cases hin : i < s.length
      · have hi2 : (i : Int) < (s.length : Int) := by omega
        have cI := hII.at_ i hin
        have hne : s ≠ [] := by intro e; rw [e] at hin; simp at hin
        obtain rfl := hII.hp hne
        have hxl := (HI.out s[i] (List.getElem_mem hin)).2
        have hst := marksP_step (L := L) (List.take_succ_eq_append_getElem hin)
        rw [Hm.out] at hst
        obtain ⟨x, hx⟩ : ∃ x, s[i] = x := ⟨_, rfl⟩
        rw [hx] at cI hxl hst
        clear hx
        have xa := hN2.nth hxl
        obtain rfl := hN2.at_ hxl
        have hx1 : (0 : Int) ≤ (x : Int) := by omega
        have hx2 : (x : Int) < (L.length : Int) := by omega
        obtain ⟨n, hn⟩ : ∃ n, nth L x = n := ⟨_, rfl⟩
        rw [hn] at xa hst
        have Hst := Lib.hid hst
        have Hin := Lib.hid hin
        have x0 : wr.cell? ⟨b, off + x * 19, none⟩ = some (.int .i64 n.kind) := by have := agg_cell xa 0 (.int .i64 n.kind) rfl; simpa using this
        have x18 : wr.cell? ⟨b, off + x * 19 + 18, none⟩ = some (.string n.text) := agg_cell xa 18 (.string n.text) rfl
        clear hst hn hin
        cases k12 : (n.kind != 12)
        · have e12 : n.kind = 12 := by simpa using k12
          obtain ⟨f, la, so⟩ := m
          cases so
          · go_wp2_with fail
            go_roundg (s.length + 1 - (i + 1))
            case measure => have := Hin.out; omega
            case rel => exact ⟨i + 1, ⟨n.text, n.text, true⟩, rfl, Hin.out, by rw [Hst.out]; simp [mkStep, e12], rfl, rfl, rfl, by go_num, rfl⟩
          · go_wp2_with fail
            go_roundg (s.length + 1 - (i + 1))
            case measure => have := Hin.out; omega
            case rel => exact ⟨i + 1, ⟨f, n.text, true⟩, rfl, Hin.out, by rw [Hst.out]; simp [mkStep, e12], rfl, rfl, rfl, by go_num, rfl⟩
        · have e12 : n.kind ≠ 12 := by simpa using k12
          go_wp2_with fail
          go_roundg (s.length + 1 - (i + 1))
          case measure => have := Hin.out; omega
          case rel => exact ⟨i + 1, m, rfl, Hin.out, by rw [Hst.out]; simp [mkStep, e12], rfl, rfl, rfl, by go_num, rfl⟩
      · have hi2 : (s.length : Int) ≤ (i : Int) := by omega
        have hmm : marksP L s = m := by have := Hm.out; rwa [List.take_of_length_le (by omega)] at this
        have Hmm := Lib.hid hmm
        clear hmm
        go_wp2_with fail
        (try simp only [Exit.inBlock, Exit.then])
        refine bodyPost_ret (results_tmp4 rfl _ _ _) rfl ?_
        exact ⟨by rw [HR.out, Hmm.out, Hck.out]; rfl, hbw⟩
  · have hck' : ((colP L s : Int) != 0) = true := by simpa using hck
    have HR := Lib.hid (show marksR L s = Mk.none by unfold marksR; rw [if_neg hck])
    clear hck
    go_wp2_with fail
    (try simp only [Exit.inBlock, Exit.then])
    refine bodyPost_ret (results_tmp4 rfl _ _ _) rfl ?_
    exact ⟨by rw [HR.out]; rfl, hb1⟩
end Go.Proofs.Ytkkdopfdoommnaa
namespace Go.Proofs.Ytkkdopfdoommnaa
open Go.RowKit
/-- an item's penalty, the item ahead of it known -/
def qOf (L : List Nd) (prev : Option Nat) (i : Nat) : Int :=
  if ((nth L i).kind == 7 && prev.any fun j => !fallsK (nth L j).kind) = true then 0
  else if ((nth L i).kind == 8 && decide (i + 1 < L.length) && (nth L (i + 1)).kind == 7) = true then 0
  else if ((nth L i).kind == 9) = true then (nth L i).pen else 10000
def brk (i : Nat) (q : Int) : List (Nat × Int) := if q < 10000 then [(i, q)] else []
def breaksF (L : List Nd) : Option Nat → List Nat → List (Nat × Int)
  | _, [] => []
  | prev, i :: s => brk i (qOf L prev i) ++ breaksF L (some i) s
def lastO (prev : Option Nat) (pre : List Nat) : Option Nat := match pre.getLast? with | some x => some x | none => prev
theorem lastO_snoc (prev : Option Nat) (pre : List Nat) (x : Nat) : lastO prev (pre ++ [x]) = some x := by simp [lastO]
theorem lastO_cons (prev : Option Nat) (i : Nat) (pre : List Nat) : lastO prev (i :: pre) = lastO (some i) pre := by
  unfold lastO
  cases pre with
  | nil => rfl
  | cons a r => simp [List.getLast?_cons]
theorem breaksF_append (L : List Nd) : ∀ (pre rest : List Nat) (prev : Option Nat), breaksF L prev (pre ++ rest) = breaksF L prev pre ++ breaksF L (lastO prev pre) rest
  | [], rest, prev => by simp [breaksF, lastO]
  | i :: pre, rest, prev => by
    rw [List.cons_append, breaksF, breaksF, breaksF_append L pre rest (some i), List.append_assoc, lastO_cons]
theorem breaksF_snoc (L : List Nd) (pre : List Nat) (i : Nat) : breaksF L none (pre ++ [i]) = breaksF L none pre ++ brk i (qOf L (lastO none pre) i) := by
  rw [breaksF_append]; simp [breaksF]
theorem breaksF_mem (L : List Nd) : ∀ (s : List Nat) (prev : Option Nat) (x : Nat × Int), x ∈ breaksF L prev s → x.1 ∈ s
  | [], _, _, h => by cases h
  | i :: s, prev, x, h => by
    rw [breaksF, List.mem_append] at h
    rcases h with h | h
    · unfold brk at h
      split at h
      · simp only [List.mem_singleton] at h; rw [h]; simp
      · cases h
    · exact List.mem_cons_of_mem _ (breaksF_mem L s _ x h)
theorem breaksF_len (L : List Nd) : ∀ (s : List Nat) (prev : Option Nat), (breaksF L prev s).length ≤ s.length
  | [], _ => Nat.le_refl _
  | i :: s, prev => by
    rw [breaksF, List.length_append, List.length_cons]
    have := breaksF_len L s (some i)
    have h2 : (brk i (qOf L prev i)).length ≤ 1 := by unfold brk; split <;> simp
    omega
/-- the legal breaks, with their penalties -/
def legalP (L : List Nd) (s : List Nat) : List (Nat × Int) := breaksF L none s ++ [(L.length, -10000)]
theorem legalP_len (L : List Nd) (s : List Nat) : (legalP L s).length ≤ s.length + 1 := by unfold legalP; rw [List.length_append]; have := breaksF_len L s none; simp; omega
theorem legalP_pre {L : List Nd} {s pre rest : List Nat} {i : Nat} (h : s = pre ++ i :: rest) : legalP L s = breaksF L none pre ++ (brk i (qOf L (lastO none pre) i) ++ (breaksF L (some i) rest ++ [(L.length, -10000)])) := by
  unfold legalP
  rw [h, breaksF_append, breaksF]
  simp [List.append_assoc]
theorem legalP_le {L : List Nd} {s : List Nat} {i : Nat} (hs : Items L i s) : ∀ x ∈ legalP L s, x.1 ≤ L.length := by
  intro x hx
  unfold legalP at hx
  rw [List.mem_append] at hx
  rcases hx with hx | hx
  · exact Nat.le_of_lt (hs.lt _ (breaksF_mem L s none x hx)).2
  · simp only [List.mem_singleton] at hx; rw [hx]; exact Nat.le_refl _
/-- what an iterator over the breaks may tell: an item and the penalty that it would have behind some other one; the end -/
def BrOk (L : List Nd) (s : List Nat) (x : Nat × Int) : Prop := (x.1 ∈ s ∧ x.2 < 10000 ∧ ∃ prev, x.2 = qOf L prev x.1) ∨ x = (L.length, -10000)
abbrev Br (L : List Nd) (s : List Nat) := {x : Nat × Int // BrOk L s x}
def lastV (prev : Option Nat) : Int := match prev with | some j => j | none => -1
theorem breaksF_pre {L : List Nd} {s pre : List Nat} (h : pre <+: s) : breaksF L none pre <+: legalP L s := by
  obtain ⟨r, rfl⟩ := h
  unfold legalP
  rw [breaksF_append, List.append_assoc]
  exact List.prefix_append _ _
theorem lastO_mem {pre : List Nat} {j : Nat} (h : lastO none pre = some j) : j ∈ pre := by
  unfold lastO at h
  cases hp : pre.getLast? with
  | none => rw [hp] at h; cases h
  | some x => rw [hp] at h; cases h; exact List.mem_of_getLast? hp
end Go.Proofs.Ytkkdopfdoommnaa
namespace Go.Proofs.Ytkkdopfdoommnaa
open Go.ChangeShapes Go.WideShapes Go.ChangeAt Go.RowKit
attribute [local go_sem ↓] Go.wp_at_zero Go.wp_at_succ

/-- an item's nodes -/
def itemN (L : List Nd) (i : Nat) : List Nd := (L.drop i).take ((behC (L.drop i) 0).getD 0)
/-- the top glue over a box of height h -/
def topNat (g : Gl) (h : Int) : Int := min 1073741823 (max 0 (g.nat - h))
def topN (g : Gl) (h : Int) : Nd := { Nd.zero with kind := 7, glue := { g with nat := topNat g h }, sub := 10 }
def prunF (L : List Nd) (g : Gl) : List Nat → List Nd → List Nd
  | [], out => out
  | i :: s, out => if solidK (nth L i).kind then out ++ topN g (nth L i).h :: L.drop i else prunF L g s (if fallsK (nth L i).kind then out else out ++ itemN L i)
def topB (g : Gl) : Bool := g.good && (g.ho == 0 || g.shr == 0)
theorem qtop (g : Gl) (w : World) : Calls Try.prog 65 #[.agg g.arr] w fun e w' => e = .returned (.bool (topB g)) ∧ Below w.heap.size w w' := by
  cases hg : g.good
  · have HC : Hid (∀ W, Calls Try.prog 87 #[.agg g.arr] W fun e w' => e = .returned (.int .i64 30) ∧ Below W.heap.size W w') := Lib.hid fun W => q2check_v _ _ (by rw [hg]; rfl) W
    have Hv := Lib.hid (show topB g = false by simp [topB, hg])
    clear hg
    go_enter Try.func65, Try.ntmps65
    go_wp2_with (go_at_call 87; refine (HC.out _).mono ?_; rintro e w2 ⟨rfl, hb2⟩)
    go_ret
    exact ⟨ret_bool Hv.out.symm, Below.trans ((Below.refl _ _).alloc (Nat.le_refl _) _) (hb2.mono (by simp))⟩
  · have HC : Hid (∀ W, Calls Try.prog 87 #[.agg g.arr] W fun e w' => e = .returned (.int .i64 0) ∧ Below W.heap.size W w') := Lib.hid fun W => q2check_v _ _ (by rw [hg]; rfl) W
    have d0 := heap_alloc_new w (.cells g.arr 23)
    cases h1 : (g.ho == 0) <;> cases h2 : (g.shr == 0)
    all_goals
      have Hv := Lib.hid (show topB g = _ by simp only [topB, hg, h1, h2]; rfl)
      have D0 := Lib.hid d0
      go_enter Try.func65, Try.ntmps65
      go_wp2_with (go_at_call 87; refine (HC.out _).mono ?_; rintro e w2 ⟨rfl, hb2⟩; (have d2 := (hb2.block w.heap.size (by simp)).trans D0.out); (have c2 : w2.cell? ⟨w.heap.size, 2, none⟩ = some (.int .i64 g.shr) := by rw [cell?_blk' d2]; rfl); (have c4 : w2.cell? ⟨w.heap.size, 4, none⟩ = some (.int .i64 g.ho) := by rw [cell?_blk' d2]; rfl))
      go_ret
      exact ⟨ret_bool (by rw [Hv.out]; rfl), Below.trans ((Below.refl _ _).alloc (Nat.le_refl _) _) (hb2.mono (by simp))⟩
end Go.Proofs.Ytkkdopfdoommnaa
namespace Go.Proofs.Ytkkdopfdoommnaa
open Go.ChangeShapes Go.WideShapes Go.ChangeAt Go.RowKit Go.Shelf
section
attribute [local go_sem] Oper.semAt_some

/-- append, at a plain region's list, in a round -/
theorem wpListIn_append_lies {P : Program} {l n : Nat} (w : World) {ops : Array Oper} {rest : List Oper} {o : Oper} {a : Act} {Q : Exit → Act → World → Prop} (hgd : o.guard = none) (s x : Operand) (t : TypeId)
    (ho : o.op = .call { callee := .builtin .append, args := #[s, x], argTypes := #[t, t] })
    (base : Nat) (e : TypeId) (i : TypeInfo) (z : Value) (size bytes : Nat) (ht : P.underlying t = some (.slice e)) (hi : P.info? e = some i) (hz : i.zero = some z)
    (hsize : i.size = size) (hby : i.bytes = bytes) (hzs : z.cells.size = size) (hsz : 0 < size)
    (v : Value) (k : Nat) (xs : List Value) (hs : a.eval s = v) (hown : w.ownsRow base e size v k xs)
    (ad : Addr) (m c : Nat) (news : List Value) (hx : a.eval x = .slice (some ad) m c) (hl : news.length = m * size) (hnews : ∀ j u, news[j]? = some u → w.cell? (ad.add j) = some u) (h1 : ∀ u ∈ news, u.oneCell' = true)
    (hm : 0 < m) (h63 : k + m ≤ maxLen) (hbytes : (k + m) * bytes ≤ 140737488355328) (hbase : base ≤ w.heap.size) (H : Nat) (hH : w.heap.size = H)
    (h : ∀ g cap w', w'.ownsRow base e size (.slice (some ⟨g, 0, none⟩) (k + m) cap) (k + m) (xs ++ news) → w.grownBy w' v.ownBlock → (v.ownBlock = some g ∨ g = H) → g < w'.heap.size → wpListIn (Fence.wide.inRound l) n P ops Q rest (a.put o.dst (.slice (some ⟨g, 0, none⟩) (k + m) cap)) w') : wpListIn (Fence.wide.inRound l) n P ops Q (o :: rest) a w := by
  obtain ⟨g, cap, w', hr, h2, h3, h4, h5⟩ := run_append_lies (P := P) w t o.type base e i z size bytes ht hi hz hsize hby hzs hsz v k xs hown ad m c news hl hnews h1 hm h63 hbytes hbase H hH
  refine wpListIn_plain hgd fun K hK => ⟨fun _ _ => trivial, ?_⟩
  have hse : Oper.semAt (Fence.wide.inRound l).round a.eval o = execOp a.eval o := Oper.semAt_eq _ _ _ (fun c hc => by rw [ho] at hc; cases hc)
  rw [hse]
  unfold execOp
  simp only [ho, resolve, invoke, builtin, Sem.run_bind, Sem.run_pure, Result.andThen_ok, List.map_toArray, List.map_cons, List.map_nil, hs, hx, hr]
  exact hK _ _ (h g cap w' h2 h3 h4 h5)
/-- append of nodes: closed to the walk -/
def apNd (ty : TypeId) (x y : Value) : Sem Value := Builtin.append_ #[26, 26] ty #[x, y]
theorem execOp_apNd (ρ : Operand → Value) (dst : Option Tmp) (x y : Operand) (ty : TypeId) (pos : String) (after : Array Edge) (guard : Option (Nat × Bool)) :
    execOp ρ { dst, op := .call { callee := .builtin .append, args := #[x, y], argTypes := #[26, 26] }, type := ty, pos, after, guard } = (do pure (.value (← apNd ty (ρ x) (ρ y)))) := by
  unfold execOp apNd
  simp only [resolve, invoke, builtin, List.map_toArray, List.map_cons, List.map_nil]
  rfl
theorem blk_own {β : Type} (B : Nat) (c : Array Value) (t : TypeId) (fr : Nat × Nat) : Own (fun (_ : β) W => W.heap[B]? = some (.cells c t fr)) := fun s X Y row hs hg hrow =>
  (hg.block B (Array.getElem?_eq_some_iff.1 hs).1 (fun e' => by obtain ⟨o, ho, hc⟩ := hrow B e'.symm; rw [hs] at ho; cases ho; cases hc)).trans hs
theorem owns_form {W : World} {B n size : Nat} {e : TypeId} {v : Value} {xs : List Value} (h : W.ownsRow B e size v n xs) : ∃ p c, v = .slice p n c := by
  obtain ⟨_, ⟨rfl, h0⟩ | ⟨g, cap, cur, rfl, _⟩⟩ := h
  · exact ⟨none, 0, by rw [h0]⟩
  · exact ⟨_, cap, rfl⟩
theorem keepsOthers_below {W W' : World} (h : Below W.heap.size W W') : KeepsOthers W W' := ⟨h.size, fun k _ hk _ => (h.block k (Array.getElem?_eq_some_iff.1 hk).1).trans hk⟩
end
theorem owns_cells {W : World} {B n size : Nat} {e : TypeId} {v : Value} {xs : List Value} (h : W.ownsRow B e size v n xs) (j : Nat) (o : Obj) (hj : v.ownBlock = some j) (ho : W.heap[j]? = some o) : o.isCells = true := by
  obtain ⟨_, ⟨rfl, _⟩ | ⟨g, cap, cur, rfl, h1⟩⟩ := h
  · cases hj
  · cases hj
    rw [h1.2.1] at ho
    cases ho
    rfl
theorem frozen_zero {W : World} {B : Nat} {c : Array Value} {t : TypeId} (h : W.heap[B]? = some (.cells c t (0, 0))) (o : Nat := 0) : W.frozen? ⟨B, o, none⟩ = false := by
  simp [World.frozen?, h]
/-- the region's end, and no other way out -/
def QN (K : Act → World → Prop) : Exit → Act → World → Prop
  | .normal, a, w => K a w
  | _, _, _ => False
theorem qn_intro {K : Act → World → Prop} {a : Act} {w : World} (h : K a w) : QN K .normal a w := h
theorem qn_out {K : Act → World → Prop} : ¬ LetsOut (QN K) := fun h => by obtain ⟨_, _, h⟩ := h; exact h
def noDefer (ops : Array Oper) : Bool := ops.all fun o => match o.op with | .defer _ => false | _ => true
theorem noDefer_at {ops : Array Oper} (h : noDefer ops = true) {i : Nat} {o : Oper} (ho : ops[i]? = some o) : ∀ c, o.op ≠ .defer c := by
  intro c hc
  obtain ⟨hi, rfl⟩ := Array.getElem?_eq_some_iff.1 ho
  unfold noDefer at h
  have := Array.all_eq_true.1 h i hi
  rw [hc] at this
  cases this
theorem rowsIn_round {l n : Nat} {P : Program} {row : String} {args : Array Value} {w : World} {R : Value → World → Prop} (h : Rows P row args w R) : RowsIn (Fence.wide.inRound l) n P row args w R := fun c cs _ => by
  obtain ⟨v, w', r, s⟩ := h c cs
  exact ⟨v, w', r, stepsIn_wide.2 s⟩
theorem roundAny {l n : Nat} {P : Program} {ops : Array Oper} {md : Region.Mode} {Q : Exit → Act → World → Prop} (hnd : noDefer ops = true) : ∀ (fuel : Nat) (listed : Array Bool) (a : Act) (w : World),
    wpAny P md ops (QN (Q .normal)) fuel listed a w → wpAnyIn (Fence.wide.inRound l) n P md ops Q fuel listed a w
  | 0, _, _, _, h => h
  | fuel + 1, listed, a, w, h => by
    refine ⟨h.1, fun i hi => ?_⟩
    have h2 := h.2 i hi
    unfold wpOp at h2
    unfold wpOpIn
    cases ho : ops[i]? with
    | none => rw [ho] at h2; exact roundAny hnd fuel _ _ _ h2
    | some o =>
      rw [ho] at h2
      simp only at h2 ⊢
      split
      · rename_i hw
        rw [if_pos hw] at h2
        rcases h2 with h2 | ⟨_, h2⟩
        · refine ⟨fun _ _ => trivial, ?_⟩
          rw [Oper.semAt_eq _ _ _ (noDefer_at hnd ho)]
          unfold Oper.wp at h2
          generalize (execOp a.eval o).run P w = r at h2 ⊢
          cases r with
          | ok x w' =>
            cases x <;> simp only [Oper.upon, Oper.uponIn] at h2 ⊢
            case value v => exact roundAny hnd fuel _ _ _ h2
            case skip => exact roundAny hnd fuel _ _ _ h2
            case defer d => exact roundAny hnd fuel _ _ _ h2
            case enter f args =>
              refine ⟨(fun h => by cases h), (CallsIn.inRound l (callsIn_wide.2 h2)).mono ?_⟩
              intro e w'' he
              cases e with
              | returned v => exact roundAny hnd fuel _ _ _ he
              | panicked c => exact False.elim he
              | outgrown => exact (qn_out he).elim
            case row row args =>
              refine ⟨(fun h => by cases h), (rowsIn_round h2).mono ?_⟩
              intro v w'' he
              exact roundAny hnd fuel _ _ _ he
          | halt x w' => cases x <;> simp only [Oper.upon] at h2 <;> exact False.elim h2
        · exact (qn_out h2).elim
      · rename_i hw
        rw [if_neg hw] at h2
        exact ⟨fun _ _ => trivial, roundAny hnd fuel _ _ _ h2⟩
/-- the kit's law of a still head and a forced tail, one step ahead of its end -/
theorem wpAny_still_tail {P : Program} {Q : Exit → Act → World → Prop} {a : Act} {w : World} {l : List Oper} (n : Nat) (hB : Region.lexTailB .any l.toArray n = true)
    (h : wpStill P l.toArray w (fun a' => wpList P l.toArray Q (l.drop n) a' w) (l.take n) a) : wpAny P .any l.toArray Q l.toArray.size (Array.replicate l.toArray.size false) a w := by
  simp only [Region.lexTailB, Bool.and_eq_true, decide_eq_true_eq] at hB
  obtain ⟨⟨⟨⟨hsel, hn⟩, hs⟩, hc⟩, hlex⟩ := hB
  have hn' : n < l.length := by simpa using hn
  have htl : (l.take n).length = n := by simp; omega
  have hdl : (l.drop n).length = l.toArray.size - n := by simp
  have inv0 : HeadInv .any l.toArray n (Array.replicate l.toArray.size false) :=
    ⟨by simp, fun j oj _ hl => (by rw [getD_replicate_false] at hl; cases hl), fun t _ ht => getD_in (by simpa using ht) (getD_replicate_false _ _)⟩
  have H := wpAnyL_lex (md := .any) (g := l.toArray.size - n) hsel hs hc hn (l.take n) 0 _ a (fun j hj => by
    have hj' : j < n := by rw [htl] at hj; exact hj
    simp [hj']) (by simpa using htl) inv0 (by rw [htl]; exact hlex) h
  have := wpAny_of_head (Q' := Q) (g := l.toArray.size - n) (fun listed a' hL => by
    have := wpAny_of_seq (md := .any) (Q' := Q) (l.drop n) n listed a' w (fun j => by simp [List.getElem?_drop]) (by rw [hdl]; exact hL.1) hL.2
    rwa [hdl] at this) _ _ _ H
  rw [htl, show n + (l.toArray.size - n) = l.toArray.size by omega] at this
  exact this
/-- as the kit's law of a still head and a forced tail, in a round -/
theorem wpIn_still_tail {l r : Nat} {P : Program} {id : Nat} {Q : Exit → Act → World → Prop} {a : Act} {w : World} {ops : List Oper} (n : Nat) (hm : P.follows .mixedOrders = true) (hnd : noDefer ops.toArray = true) (hB : Region.lexTailB .any ops.toArray n = true)
    (h : wpStill P ops.toArray w.drew (fun a' => wpList P ops.toArray (QN (Q .normal)) (ops.drop n) a' w.drew) (ops.take n) a) : (Code.region id ops.toArray true).wpIn (Fence.wide.inRound l) r P Q a w := by
  refine wpIn_region_any hm (roundAny hnd _ _ _ _ ?_)
  exact wpAny_still_tail n hB h
end Go.Proofs.Ytkkdopfdoommnaa
