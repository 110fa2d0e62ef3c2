/-
  The document's side: Check of a column; whether a glue may be a top glue.
-/
import Derived.Test.YtaehkbbdmamfpaaGreatDoorQ8
import Derived.Test.YtaehkbbdmamfpaaGreatDoorQ6
import Derived.Test.YtaehkbbdmamfpaaGreatDoorVBs
import Derived.Stop.RegionWithIn
import Derived.Sort.CutIn
import Derived.StillTailTactics
import Derived.Deep.RegionLaw
namespace Go.Proofs.YtaehkbbdmamfpaaGreatDoor
open Go.ChangeShapes Go.WideShapes Go.ChangeAt Go.RowKit
section
attribute [local go_sem ↓] Go.wp_at_zero Go.wp_at_succ
structure IIn (w : World) (p : Option Addr) (g c : Nat) (s : List Nat) : Prop where
 hp : s ≠ [] -> p = some ⟨g, 0, none⟩
 hg : s ≠ [] -> g < w.heap.size
 at_ : ∀ i (hi : i < s.length), w.cell? ⟨g, i, none⟩ = some (.int .i64 (s[i] : Nat))
theorem IIn.below {w w' : World} {p : Option Addr} {g c : Nat} {s : List Nat} (h : IIn w p g c s) (hb : Below w.heap.size w w') : IIn w' p g c s :=
 ⟨h.hp, fun e => Nat.lt_of_lt_of_le (h.hg e) hb.size, fun i hi => (hb.cell (p := ⟨g, i, none⟩) (h.hg (by intro e; rw [e] at hi; simp at hi))).trans (h.at_ i hi)⟩
theorem zcG {w w' : World} {v : Value} {s : List Nat} (h : IRow w v s w') : ∃ p g c, v = .slice p s.length c /\ IIn w' p g c s := by
 unfold IRow at h
 by_cases h0 : s = []
 ·
  subst h0
  obtain ⟨_, ⟨rfl, _⟩ | ⟨g, cap, cur, rfl, _⟩⟩ := h
  · exact ⟨none, 0, 0, rfl, fun e => absurd rfl e, fun e => absurd rfl e, fun i hi => by simp at hi⟩
  · exact ⟨_, g, cap, rfl, fun e => absurd rfl e, fun e => absurd rfl e, fun i hi => by simp at hi⟩
 ·
  obtain ⟨g, c, rfl, _, hg⟩ := h.form (List.length_pos_iff.2 h0)
  refine ⟨_, g, c, rfl, fun _ => rfl, fun _ => hg, fun i hi => ?_⟩
  rw [h.cellAt i (by omega), ints_idx]
  simp [ofN, hi]
def frmC (L : List Nd) (s : List Nat) : Int := if s.all (fun x => zbU (nth L x)) then 0 else 30
theorem frmC_step {L : List Nd} {s t : List Nat} {x : Nat} (h : t = s ++ [x]) : frmC L t = if zbU (nth L x) then frmC L s else 30 := by
 rw [h]
 unfold frmC
 rw [List.all_append, List.all_cons, List.all_nil, Bool.and_true]
 cases s.all (fun x => zbU (nth L x)) <;> cases zbU (nth L x) <;> rfl
theorem runC_right : ∀ (l : List Nd) (st : List Int) (d : Int) (r : List Int × Int), runC l st d = some r -> ∀ x ∈ l, zaW x = true
 | [], _, _, _, _ => fun x hx => by cases hx
 | y :: l, st, d, r, h => fun x hx => by
  unfold runC at h
  split at h
  ·
   rename_i hr
   obtain ⟨s, _, h2⟩ := Option.bind_eq_some_iff.1 h
   rcases List.mem_cons.1 hx with rfl | hx
   · exact hr
   · exact runC_right l _ _ _ h2 x hx
  · cases h
theorem zaO {L : List Nd} (h : zao L = 0) : ∀ x ∈ L, zaW x = true := by
 obtain ⟨_, d, _, hr⟩ := zaj h
 exact runC_right L [] 0 _ hr
theorem right_skip {n : Nd} (h : zaW n = true) (hk : n.kind = 7) : n.glue.good = true /\ zab n.sub 0 20 = true := by
 unfold zaW at h
 rw [hk] at h
 simp only [Bool.and_eq_true] at h
 have : skipB n = true := h.1.2
 simpa [skipB] using this
theorem good_ho {g : Gl} (h : g.good = true) : (0 <= g.so /\ g.so <= 3) /\ 0 <= g.ho /\ g.ho <= 3 := by
 simp [Gl.good, zab] at h
 omega
set_option maxRecDepth 100000 in
set_option maxHeartbeats 8000000 in
theorem qcolumn (p0 : Option Addr) (b off cap : Nat) (L : List Nd) (s : List Nat) (hs : zao L = 0 -> Items L 0 s) (w : World) (hN : NIn w p0 b off cap L) :
 Calls Tryz.prog 23 #[.slice p0 L.length cap] w fun e w' => e = .returned (.int .i64 (colP L s)) /\ Below w.heap.size w w' := by
 have HC := zzh (qcheck p0 b off cap L w hN)
 have H := zzh hN
 have Hs := zzh hs
 have hlen := hN.len
 clear hN hs
 go_enter Tryz.func23, Tryz.ntmps23
 go_wp2_with fail
 refine HC.out.mono ?_
 clear HC
 rintro e w1 ⟨rfl, hb1⟩
 by_cases hck : zao L = 0
 ·
  have hs := Hs.out hck
  have hkd := zdd hs hck
  have HS := zzh (zdb p0 b off cap L s w1 (H.out.below hb1) hs fun x hx => (hkd x hx).1)
  have Hck := zzh hck
  have HI := zzh hs.lt
  have hsl := hs.len
  rw [hck]
  clear hck hs hkd Hs
  go_wp2_with fail
  refine HS.out.mono ?_
  clear HS
  rintro e w2 ⟨⟨v, rfl, hrow⟩, hb2⟩
  obtain ⟨p, g, c, rfl, hII⟩ := zcG hrow
  have hbw := hb1.trans (hb2.mono hb1.size)
  clear hb1 hb2 hrow
  go_wp2_with fail
  go_loopg [5, 6] (s.length + 1) (fun gg t5 t6 wr => ∃ i : Nat, gg = s.length + 1 - i /\ i <= s.length /\ t5 = .int .i64 (frmC L (s.take i)) /\ t6 = .int .i64 i /\ (s.take i).any (fun x => badN (nth L x)) = false /\ Below w2.heap.size w2 wr)
  case atStart => exact ⟨0, rfl, Nat.zero_le _, rfl, rfl, rfl, .refl _ _⟩
  case round =>
   obtain ⟨i, rfl, hi, rfl, rfl, hbad, hbl⟩ := hrel
   have hi1 : (0 : Int) <= (i : Int) := by omega
   have Hbad := zzh hbad
   have Hbl := zzh hbl
   by_cases hin : i < s.length
   ·
    have hi2 : (i : Int) < (s.length : Int) := by omega
    have hIr := hII.below hbl
    have cI := hIr.at_ i hin
    have hne : s ≠ [] := by intro e; rw [e] at hin; simp at hin
    obtain rfl := hII.hp hne
    have hmem : s[i] ∈ s := List.getElem_mem hin
    have hxl := (HI.out s[i] hmem).2
    have Htk := zzh (List.take_succ_eq_append_getElem hin)
    obtain ⟨x, hx⟩ : ∃ x, s[i] = x := ⟨_, rfl⟩
    rw [hx] at cI hxl Htk
    clear hmem hx
    have hN2 := H.out.below (hbw.trans (hbl.mono hbw.size))
    have xa := hN2.nth hxl
    obtain rfl := hN2.at_ hxl
    have hx1 : (0 : Int) <= (x : Int) := by omega
    have hx2 : (x : Int) < (L.length : Int) := by omega
    obtain ⟨n, hn⟩ : ∃ n, nth L x = n := ⟨_, rfl⟩
    rw [hn] at xa
    have Hn := zzh hn
    have hho : n.kind = 7 -> 0 <= n.glue.ho := fun h => (good_ho (right_skip (zaO Hck.out n (by rw [<- hn, zaT hxl]; exact List.getElem_mem _)) h).1).2.1
    have Hin := zzh hin
    clear hn hbl hbad hIr hN2 hin
    have HbB : Hid (badN n = true -> colP L s = 50) := zzh fun hb => by
     unfold colP
     rw [if_pos Hck.out, if_pos]
     refine List.any_eq_true.2 ⟨x, ?_, by rw [Hn.out]; exact hb⟩
     have := Htk.out ▸ (List.mem_append_right (s.take i) (List.mem_singleton_self x))
     exact List.mem_of_mem_take this
    have HbG : Hid (badN n = false -> (s.take (i + 1)).any (fun x => badN (nth L x)) = false) := zzh fun hb => by rw [Htk.out, List.any_append, Hbad.out, List.any_cons, Hn.out, hb]; rfl
    have dX : (wr.alloc (.cells n.arr 53)).heap[wr.heap.size]? = some (.cells n.arr 53 (0, 0)) := heap_alloc_new _ _
    have x0 : (wr.alloc (.cells n.arr 53)).cell? ⟨wr.heap.size, 0, none⟩ = some (.int .i64 n.kind) := by rw [cell?_blk' dX]; rfl
    have x9 : (wr.alloc (.cells n.arr 53)).cell? ⟨wr.heap.size, 9, none⟩ = some (.int .i64 n.glue.shr) := by rw [cell?_blk' dX]; rfl
    have x11 : (wr.alloc (.cells n.arr 53)).cell? ⟨wr.heap.size, 11, none⟩ = some (.int .i64 n.glue.ho) := by rw [cell?_blk' dX]; rfl
    have hb4 : Below w2.heap.size w2 (wr.alloc (.cells n.arr 53)) := Hbl.out.alloc Hbl.out.size _
    have hst := frmC_step (L := L) Htk.out
    rw [Hn.out] at hst
    have HT := zzh (fun h => HbG.out h)
    generalize frmC L (s.take i) = f at hst ⊢
    have Hst := zzh hst
    have Hho := zzh hho
    have Hb4 := zzh hb4
    clear hst hho hb4 dX
    cases k1 : (n.kind == 1)
    rotate_left
    ·
     have Hc := zzh (HbB.out (by simp [badN, k1]))
     go_wp2_with fail
     go_ret
     exact ⟨zaC Hc.out.symm, hbw.trans (Hb4.out.mono hbw.size)⟩
    cases k2 : (n.kind == 2)
    rotate_left
    ·
     have Hc := zzh (HbB.out (by simp [badN, k2]))
     go_wp2_with fail
     go_ret
     exact ⟨zaC Hc.out.symm, hbw.trans (Hb4.out.mono hbw.size)⟩
    cases k10 : (n.kind == 10)
    rotate_left
    ·
     have Hc := zzh (HbB.out (by simp [badN, k10]))
     go_wp2_with fail
     go_ret
     exact ⟨zaC Hc.out.symm, hbw.trans (Hb4.out.mono hbw.size)⟩
    cases k15 : (n.kind == 15)
    rotate_left
    ·
     have Hc := zzh (HbB.out (by simp [badN, k15]))
     go_wp2_with fail
     go_ret
     exact ⟨zaC Hc.out.symm, hbw.trans (Hb4.out.mono hbw.size)⟩
    cases k16 : (n.kind == 16)
    rotate_left
    ·
     have Hc := zzh (HbB.out (by simp [badN, k16]))
     go_wp2_with fail
     go_ret
     exact ⟨zaC Hc.out.symm, hbw.trans (Hb4.out.mono hbw.size)⟩
    cases k17 : (n.kind == 17)
    rotate_left
    ·
     have Hc := zzh (HbB.out (by simp [badN, k17]))
     go_wp2_with fail
     go_ret
     exact ⟨zaC Hc.out.symm, hbw.trans (Hb4.out.mono hbw.size)⟩
    have hg := HT.out (by simp [badN, k1, k2, k10, k15, k16, k17])
    have HG := zzh hg
    clear hg
    cases k7 : (n.kind == 7)
    ·
     have hf : frmC L (s.take (i + 1)) = f := by rw [Hst.out, show zbU n = true by simp [zbU, k7]]; rfl
     go_wp2_with fail
     go_roundg (s.length + 1 - (i + 1))
     case measure => have := Hin.out; omega
     case rel => exact ⟨i + 1, rfl, Hin.out, by rw [hf], by go_num, HG.out, Hb4.out⟩
    ·
     have h0 := Hho.out (by simpa using k7)
     rcases Int.lt_or_le 0 n.glue.ho with hh | hh
     ·
      cases kr : (n.glue.shr == 0)
      ·
       have hr' : (n.glue.shr != 0) = true := by rw [bne, kr]; rfl
       have hf : frmC L (s.take (i + 1)) = 30 := by rw [Hst.out, show zbU n = false by simp [zbU, k7, kr]; omega]; rfl
       go_wp2_with fail
       go_roundg (s.length + 1 - (i + 1))
       case measure => have := Hin.out; omega
       case rel => exact ⟨i + 1, rfl, Hin.out, by rw [hf], by go_num, HG.out, Hb4.out⟩
      ·
       have hr' : (n.glue.shr != 0) = false := by rw [bne, kr]; rfl
       have hf : frmC L (s.take (i + 1)) = f := by rw [Hst.out, show zbU n = true by simp [zbU, kr]]; rfl
       go_wp2_with fail
       go_roundg (s.length + 1 - (i + 1))
       case measure => have := Hin.out; omega
       case rel => exact ⟨i + 1, rfl, Hin.out, by rw [hf], by go_num, HG.out, Hb4.out⟩
     ·
      have hf : frmC L (s.take (i + 1)) = f := by rw [Hst.out, show zbU n = true by simp [zbU]; omega]; rfl
      go_wp2_with fail
      go_roundg (s.length + 1 - (i + 1))
      case measure => have := Hin.out; omega
      case rel => exact ⟨i + 1, rfl, Hin.out, by rw [hf], by go_num, HG.out, Hb4.out⟩
   ·
    have hi2 : (s.length : Int) <= (i : Int) := by omega
    have ht : s.take i = s := List.take_of_length_le (by omega)
    have hcol : colP L s = frmC L s := by
     have := Hbad.out
     rw [ht] at this
     unfold colP
     rw [if_pos Hck.out, this]; rfl
    have Hcol := zzh hcol
    rw [ht]
    clear hcol ht
    go_wp2_with fail
    go_ret
    exact ⟨zaC Hcol.out.symm, hbw.trans (hbl.mono hbw.size)⟩
 ·
  have hck' : ((zao L : Int) != 0) = true := by simpa using hck
  have Hcol : Hid (colP L s = zao L) := zzh (by unfold colP; rw [if_neg hck])
  clear hck
  go_wp2_with fail
  go_ret
  exact ⟨zaC Hcol.out.symm, hb1⟩
end
section
attribute [local go_sem ↓] Go.wp_at_zero Go.wp_at_succ
theorem zai {fn : Func} {t u v x : Tmp} (h : fn.results = #[.tmp t, .tmp u, .tmp v, .tmp x]) (tmps : Array Value) (P : Program) (w : World) :
 (results fn tmps).run P w = .ok (.tuple #[tmps.getD t undef, tmps.getD u undef, tmps.getD v undef, tmps.getD x undef]) w := by
 simp [results, h]
theorem zau {L : List Nd} {s : List Nat} (h : colP L s = 0) : zao L = 0 := by
 unfold colP at h
 split at h
 · assumption
 · exact h
end
section
def qOf (L : List Nd) (prev : Option Nat) (i : Nat) : Int :=
 if ((nth L i).kind == 7 && prev.any fun j => !zbA (nth L j).kind) = true then 0
 else if ((nth L i).kind == 8 && decide (i + 1 < L.length) && (nth L (i + 1)).kind == 7) = true then 0
 else if ((nth L i).kind == 9) = true then (nth L i).pen else 10000
def brk (i : Nat) (q : Int) : List (Nat × Int) := if q < 10000 then [(i, q)] else []
def zak (L : List Nd) : Option Nat -> List Nat -> List (Nat × Int)
 | _, [] => []
 | prev, i :: s => brk i (qOf L prev i) ++ zak L (some i) s
def zbS (prev : Option Nat) (pre : List Nat) : Option Nat := match pre.getLast? with | some x => some x | none => prev
theorem lastO_snoc (prev : Option Nat) (pre : List Nat) (x : Nat) : zbS prev (pre ++ [x]) = some x := by simp [zbS]
theorem lastO_cons (prev : Option Nat) (i : Nat) (pre : List Nat) : zbS prev (i :: pre) = zbS (some i) pre := by
 unfold zbS
 cases pre with
 | nil => rfl
 | cons a r => simp [List.getLast?_cons]
theorem zcQ (L : List Nd) : ∀ (pre rest : List Nat) (prev : Option Nat), zak L prev (pre ++ rest) = zak L prev pre ++ zak L (zbS prev pre) rest
 | [], rest, prev => by simp [zak, zbS]
 | i :: pre, rest, prev => by
  rw [List.cons_append, zak, zak, zcQ L pre rest (some i), List.append_assoc, lastO_cons]
theorem zcN (L : List Nd) (pre : List Nat) (i : Nat) : zak L none (pre ++ [i]) = zak L none pre ++ brk i (qOf L (zbS none pre) i) := by
 rw [zcQ]; simp [zak]
theorem breaksF_mem (L : List Nd) : ∀ (s : List Nat) (prev : Option Nat) (x : Nat × Int), x ∈ zak L prev s -> x.1 ∈ s
 | [], _, _, h => by cases h
 | i :: s, prev, x, h => by
  rw [zak, List.mem_append] at h
  rcases h with h | h
  ·
   unfold brk at h
   split at h
   · simp only [List.mem_singleton] at h; rw [h]; simp
   · cases h
  · exact List.mem_cons_of_mem _ (breaksF_mem L s _ x h)
theorem zcI (L : List Nd) : ∀ (s : List Nat) (prev : Option Nat), (zak L prev s).length <= s.length
 | [], _ => Nat.le_refl _
 | i :: s, prev => by
  rw [zak, List.length_append, List.length_cons]
  have := zcI L s (some i)
  have h2 : (brk i (qOf L prev i)).length <= 1 := by unfold brk; split <;> simp
  omega
def zaD (L : List Nd) (s : List Nat) : List (Nat × Int) := zak L none s ++ [(L.length, -10000)]
theorem legalP_len (L : List Nd) (s : List Nat) : (zaD L s).length <= s.length + 1 := by unfold zaD; rw [List.length_append]; have := zcI L s none; simp; omega
def BrOk (L : List Nd) (s : List Nat) (x : Nat × Int) : Prop := (x.1 ∈ s /\ x.2 < 10000 /\ ∃ prev, x.2 = qOf L prev x.1) \/ x = (L.length, -10000)
abbrev Br (L : List Nd) (s : List Nat) := {x : Nat × Int // BrOk L s x}
def lastV (prev : Option Nat) : Int := match prev with | some j => j | none => -1
theorem breaksF_pre {L : List Nd} {s pre : List Nat} (h : pre <+: s) : zak L none pre <+: zaD L s := by
 obtain ⟨r, rfl⟩ := h
 unfold zaD
 rw [zcQ, List.append_assoc]
 exact List.prefix_append _ _
theorem lastO_mem {pre : List Nat} {j : Nat} (h : zbS none pre = some j) : j ∈ pre := by
 unfold zbS at h
 cases hp : pre.getLast? with
 | none => rw [hp] at h; cases h
 | some x => rw [hp] at h; cases h; exact List.mem_of_getLast? hp
end
section
open Go.Shelf
section
attribute [local go_sem] Oper.semAt_some
theorem zbB {P : Program} {l n : Nat} (w : World) {ops : Array Oper} {rest : List Oper} {o : Oper} {a : Act} {Q : Exit -> Act -> World -> Prop} (hgd : o.guard = none) (s x : Operand) (t : TypeId)
 (ho : o.op = .call { callee := .builtin .append, args := #[s, x], argTypes := #[t, t] })
 (base : Nat) (e : TypeId) (i : TypeInfo) (z : Value) (size bytes : Nat) (ht : P.underlying t = some (.slice e)) (hi : P.info? e = some i) (hz : i.zero = some z)
 (hsize : i.size = size) (hby : i.bytes = bytes) (hzs : z.cells.size = size) (hsz : 0 < size)
 (v : Value) (k : Nat) (xs : List Value) (hs : a.eval s = v) (hown : w.ownsRow base e size v k xs)
 (ad : Addr) (m c : Nat) (news : List Value) (hx : a.eval x = .slice (some ad) m c) (hl : news.length = m * size) (hnews : ∀ j u, news[j]? = some u -> w.cell? (ad.add j) = some u) (h1 : ∀ u ∈ news, u.oneCell' = true)
 (hm : 0 < m) (h63 : k + m <= maxLen) (hbytes : (k + m) * bytes <= 140737488355328) (hbase : base <= w.heap.size) (H : Nat) (hH : w.heap.size = H)
 (h : ∀ g cap w', w'.ownsRow base e size (.slice (some ⟨g, 0, none⟩) (k + m) cap) (k + m) (xs ++ news) -> w.grownBy w' v.ownBlock -> (v.ownBlock = some g \/ g = H) -> g < w'.heap.size -> wpListIn (Fence.wide.inRound l) n P ops Q rest (a.put o.dst (.slice (some ⟨g, 0, none⟩) (k + m) cap)) w') : wpListIn (Fence.wide.inRound l) n P ops Q (o :: rest) a w := by
 obtain ⟨g, cap, w', hr, h2, h3, h4, h5⟩ := run_append_lies (P := P) w t o.type base e i z size bytes ht hi hz hsize hby hzs hsz v k xs hown ad m c news hl hnews h1 hm h63 hbytes hbase H hH
 refine wpListIn_plain hgd fun K hK => ⟨fun _ _ => trivial, ?_⟩
 have hse : Oper.semAt (Fence.wide.inRound l).round a.eval o = execOp a.eval o := Oper.semAt_eq _ _ _ (fun c hc => by rw [ho] at hc; cases hc)
 rw [hse]
 unfold execOp
 simp only [ho, resolve, invoke, builtin, Sem.run_bind, Sem.run_pure, Result.andThen_ok, List.map_toArray, List.map_cons, List.map_nil, hs, hx, hr]
 exact hK _ _ (h g cap w' h2 h3 h4 h5)
theorem blk_own {β : Type} (B : Nat) (c : Array Value) (t : TypeId) (fr : Nat × Nat) : Own (fun (_ : β) W => W.heap[B]? = some (.cells c t fr)) := fun s X Y row hs hg hrow =>
 (hg.block B (Array.getElem?_eq_some_iff.1 hs).1 (fun e' => by obtain ⟨o, ho, hc⟩ := hrow B e'.symm; rw [hs] at ho; cases ho; cases hc)).trans hs
theorem zaf {W : World} {B n size : Nat} {e : TypeId} {v : Value} {xs : List Value} (h : W.ownsRow B e size v n xs) : ∃ p c, v = .slice p n c := by
 obtain ⟨_, ⟨rfl, h0⟩ | ⟨g, cap, cur, rfl, _⟩⟩ := h
 · exact ⟨none, 0, by rw [h0]⟩
 · exact ⟨_, cap, rfl⟩
theorem zbj {W W' : World} (h : Below W.heap.size W W') : KeepsOthers W W' := ⟨h.size, fun k _ hk _ => (h.block k (Array.getElem?_eq_some_iff.1 hk).1).trans hk⟩
end
theorem zcT {W : World} {B n size : Nat} {e : TypeId} {v : Value} {xs : List Value} (h : W.ownsRow B e size v n xs) (j : Nat) (o : Obj) (hj : v.ownBlock = some j) (ho : W.heap[j]? = some o) : o.isCells = true := by
 obtain ⟨_, ⟨rfl, _⟩ | ⟨g, cap, cur, rfl, h1⟩⟩ := h
 · cases hj
 ·
  cases hj
  rw [h1.2.1] at ho
  cases ho
  rfl
theorem frozen_zero {W : World} {B : Nat} {c : Array Value} {t : TypeId} (h : W.heap[B]? = some (.cells c t (0, 0))) (o : Nat := 0) : W.frozen? ⟨B, o, none⟩ = false := by
 simp [World.frozen?, h]
def QN (K : Act -> World -> Prop) : Exit -> Act -> World -> Prop
 | .normal, a, w => K a w
 | _, _, _ => False
theorem zcL {K : Act -> World -> Prop} {a : Act} {w : World} (h : K a w) : QN K .normal a w := h
theorem qn_out {K : Act -> World -> Prop} : ¬ LetsOut (QN K) := fun h => by obtain ⟨_, _, h⟩ := h; exact h
def noDefer (ops : Array Oper) : Bool := ops.all fun o => match o.op with | .defer _ => false | _ => true
theorem noDefer_at {ops : Array Oper} (h : noDefer ops = true) {i : Nat} {o : Oper} (ho : ops[i]? = some o) : ∀ c, o.op ≠ .defer c := by
 intro c hc
 obtain ⟨hi, rfl⟩ := Array.getElem?_eq_some_iff.1 ho
 unfold noDefer at h
 have := Array.all_eq_true.1 h i hi
 rw [hc] at this
 cases this
theorem rowsIn_round {l n : Nat} {P : Program} {row : String} {args : Array Value} {w : World} {R : Value -> World -> Prop} (h : Rows P row args w R) : RowsIn (Fence.wide.inRound l) n P row args w R := fun c cs _ => by
 obtain ⟨v, w', r, s⟩ := h c cs
 exact ⟨v, w', r, stepsIn_wide.2 s⟩
theorem zce {l n : Nat} {P : Program} {ops : Array Oper} {md : Region.Mode} {Q : Exit -> Act -> World -> Prop} (hnd : noDefer ops = true) : ∀ (fuel : Nat) (listed : Array Bool) (a : Act) (w : World),
 wpAny P md ops (QN (Q .normal)) fuel listed a w -> wpAnyIn (Fence.wide.inRound l) n P md ops Q fuel listed a w
 | 0, _, _, _, h => h
 | fuel + 1, listed, a, w, h => by
  refine ⟨h.1, fun i hi => ?_⟩
  have h2 := h.2 i hi
  unfold wpOp at h2
  unfold wpOpIn
  cases ho : ops[i]? with
  | none => rw [ho] at h2; exact zce hnd fuel _ _ _ h2
  | some o =>
   rw [ho] at h2
   simp only at h2 ⊢
   split
   ·
    rename_i hw
    rw [if_pos hw] at h2
    rcases h2 with h2 | ⟨_, h2⟩
    ·
     refine ⟨fun _ _ => trivial, ?_⟩
     rw [Oper.semAt_eq _ _ _ (noDefer_at hnd ho)]
     unfold Oper.wp at h2
     generalize (execOp a.eval o).run P w = r at h2 ⊢
     cases r with
     | ok x w' =>
      cases x <;> simp only [Oper.upon, Oper.uponIn] at h2 ⊢
      case value v => exact zce hnd fuel _ _ _ h2
      case skip => exact zce hnd fuel _ _ _ h2
      case defer d => exact zce hnd fuel _ _ _ h2
      case enter f args =>
       refine ⟨(fun h => by cases h), (CallsIn.inRound l (callsIn_wide.2 h2)).mono ?_⟩
       intro e w'' he
       cases e with
       | returned v => exact zce hnd fuel _ _ _ he
       | panicked c => exact False.elim he
       | outgrown => exact (qn_out he).elim
      case row row args =>
       refine ⟨(fun h => by cases h), (rowsIn_round h2).mono ?_⟩
       intro v w'' he
       exact zce hnd fuel _ _ _ he
     | halt x w' => cases x <;> simp only [Oper.upon] at h2 <;> exact False.elim h2
    · exact (qn_out h2).elim
   ·
    rename_i hw
    rw [if_neg hw] at h2
    exact ⟨fun _ _ => trivial, zce hnd fuel _ _ _ h2⟩
theorem wpAny_still_tail {P : Program} {Q : Exit -> Act -> World -> Prop} {a : Act} {w : World} {l : List Oper} (n : Nat) (hB : Region.lexTailB .any l.toArray n = true)
 (h : wpStill P l.toArray w (fun a' => wpList P l.toArray Q (l.drop n) a' w) (l.take n) a) : wpAny P .any l.toArray Q l.toArray.size (Array.replicate l.toArray.size false) a w := by
 simp only [Region.lexTailB, Bool.and_eq_true, decide_eq_true_eq] at hB
 obtain ⟨⟨⟨⟨hsel, hn⟩, hs⟩, hc⟩, hlex⟩ := hB
 have hn' : n < l.length := by simpa using hn
 have htl : (l.take n).length = n := by simp; omega
 have hdl : (l.drop n).length = l.toArray.size - n := by simp
 have inv0 : HeadInv .any l.toArray n (Array.replicate l.toArray.size false) :=
  ⟨by simp, fun j oj _ hl => (by rw [getD_replicate_false] at hl; cases hl), fun t _ ht => getD_in (by simpa using ht) (getD_replicate_false _ _)⟩
 have H := wpAnyL_lex (md := .any) (g := l.toArray.size - n) hsel hs hc hn (l.take n) 0 _ a (fun j hj => by
  have hj' : j < n := by rw [htl] at hj; exact hj
  simp [hj']) (by simpa using htl) inv0 (by rw [htl]; exact hlex) h
 have := wpAny_of_head (Q' := Q) (g := l.toArray.size - n) (fun listed a' hL => by
  have := wpAny_of_seq (md := .any) (Q' := Q) (l.drop n) n listed a' w (fun j => by simp [List.getElem?_drop]) (by rw [hdl]; exact hL.1) hL.2
  rwa [hdl] at this) _ _ _ H
 rw [htl, show n + (l.toArray.size - n) = l.toArray.size by omega] at this
 exact this
theorem zbP {l r : Nat} {P : Program} {id : Nat} {Q : Exit -> Act -> World -> Prop} {a : Act} {w : World} {ops : List Oper} (n : Nat) (hm : P.follows .mixedOrders = true) (hnd : noDefer ops.toArray = true) (hB : Region.lexTailB .any ops.toArray n = true)
 (h : wpStill P ops.toArray w.drew (fun a' => wpList P ops.toArray (QN (Q .normal)) (ops.drop n) a' w.drew) (ops.take n) a) : (Code.region id ops.toArray true).wpIn (Fence.wide.inRound l) r P Q a w := by
 refine wpIn_region_any hm (zce hnd _ _ _ _ ?_)
 exact wpAny_still_tail n hB h
end
section
theorem step_append_lies {P : Program} {ops : Array Oper} {o : Oper} {a : Act} {w : World} {K : Act -> World -> Prop} {Q : Exit -> Act -> World -> Prop} {E : Prop}
 (hgd : o.guard = none) (s x : Operand) (t : TypeId) (ho : o.op = .call { callee := .builtin .append, args := #[s, x], argTypes := #[t, t] })
 (base : Nat) (e : TypeId) (i : TypeInfo) (z : Value) (size bytes : Nat) (ht : P.underlying t = some (.slice e)) (hi : P.info? e = some i) (hz : i.zero = some z)
 (hsize : i.size = size) (hby : i.bytes = bytes) (hzs : z.cells.size = size) (hsz : 0 < size)
 (v : Value) (k : Nat) (xs : List Value) (hs : a.eval s = v) (hown : w.ownsRow base e size v k xs)
 (ad : Addr) (m c : Nat) (news : List Value) (hx : a.eval x = .slice (some ad) m c) (hl : news.length = m * size) (hnews : ∀ j u, news[j]? = some u -> w.cell? (ad.add j) = some u) (h1 : ∀ u ∈ news, u.oneCell' = true)
 (hm : 0 < m) (h63 : k + m <= maxLen) (hbytes : (k + m) * bytes <= 140737488355328) (hbase : base <= w.heap.size) (H : Nat) (hH : w.heap.size = H)
 (h : ∀ g cap w', w'.ownsRow base e size (.slice (some ⟨g, 0, none⟩) (k + m) cap) (k + m) (xs ++ news) -> w.grownBy w' v.ownBlock -> (v.ownBlock = some g \/ g = H) -> g < w'.heap.size -> K (a.put o.dst (.slice (some ⟨g, 0, none⟩) (k + m) cap)) w') :
 if Region.wanted o (yielded ops a.tmps) = true then Oper.wp P o a w K Q else E := by
 have hw : Region.wanted o (yielded ops a.tmps) = true := by simp [Region.wanted, hgd]
 rw [if_pos hw]
 obtain ⟨g, cap, w', hr, h2, h3, h4, h5⟩ := run_append_lies (P := P) w t o.type base e i z size bytes ht hi hz hsize hby hzs hsz v k xs hown ad m c news hl hnews h1 hm h63 hbytes hbase H hH
 unfold Oper.wp
 simp [execOp, ho, resolve, invoke, builtin, hs, hx, hr, Result.andThen]
 exact h g cap w' h2 h3 h4 h5
attribute [local go_sem ↓] Go.wp_at_zero Go.wp_at_succ
def zbx (L : List Nd) (i : Nat) : List Nd := (L.drop i).take ((behC (L.drop i) 0).getD 0)
def topNat (g : Gl) (h : Int) : Int := min 1073741823 (max 0 (g.nat - h))
def topN (g : Gl) (h : Int) : Nd := { Nd.zero with kind := 7, glue := { g with nat := topNat g h }, sub := 10 }
def zbT (L : List Nd) (g : Gl) : List Nat -> List Nd -> List Nd
 | [], out => out
 | i :: s, out => if zaq (nth L i).kind then out ++ topN g (nth L i).h :: L.drop i else zbT L g s (if zbA (nth L i).kind then out else out ++ zbx L i)
def topB (g : Gl) : Bool := g.good && (g.ho == 0 || g.shr == 0)
theorem qtop (g : Gl) (w : World) : Calls Tryz.prog 120 #[.agg g.arr] w fun e w' => e = .returned (.bool (topB g)) /\ Below w.heap.size w w' := by
 cases hg : g.good
 ·
  have HC : Hid (∀ W, Calls Tryz.prog 129 #[.agg g.arr] W fun e w' => e = .returned (.int .i64 30) /\ Below W.heap.size W w') := zzh fun W => zcp _ _ (by rw [hg]; rfl) W
  have Hv := zzh (show topB g = false by simp [topB, hg])
  clear hg
  go_enter Tryz.func120, Tryz.ntmps120
  go_wp2_with (go_at_call 129; refine (HC.out _).mono ?_; rintro e w2 ⟨rfl, hb2⟩)
  go_ret
  exact ⟨zaa Hv.out.symm, Below.trans ((Below.refl _ _).alloc (Nat.le_refl _) _) (hb2.mono (by simp))⟩
 ·
  have HC : Hid (∀ W, Calls Tryz.prog 129 #[.agg g.arr] W fun e w' => e = .returned (.int .i64 0) /\ Below W.heap.size W w') := zzh fun W => zcp _ _ (by rw [hg]; rfl) W
  have d0 := heap_alloc_new w (.cells g.arr 51)
  cases h1 : (g.ho == 0) <;> cases h2 : (g.shr == 0)
  all_goals
   have Hv := zzh (show topB g = _ by simp only [topB, hg, h1, h2]; rfl)
   have D0 := zzh d0
   go_enter Tryz.func120, Tryz.ntmps120
   go_wp2_with (go_at_call 129; refine (HC.out _).mono ?_; rintro e w2 ⟨rfl, hb2⟩; (have d2 := (hb2.block w.heap.size (by simp)).trans D0.out); (have c2 : w2.cell? ⟨w.heap.size, 2, none⟩ = some (.int .i64 g.shr) := by rw [cell?_blk' d2]; rfl); (have c4 : w2.cell? ⟨w.heap.size, 4, none⟩ = some (.int .i64 g.ho) := by rw [cell?_blk' d2]; rfl))
   go_ret
   exact ⟨zaa (by rw [Hv.out]; rfl), Below.trans ((Below.refl _ _).alloc (Nat.le_refl _) _) (hb2.mono (by simp))⟩
end
section
open Go.Shelf
attribute [local go_sem] Oper.semAt_some
def outP (L : List Nd) (pre : List Nat) : List Nd := pre.foldl (fun out i => if zbA (nth L i).kind then out else out ++ zbx L i) []
theorem outP_snoc (L : List Nd) (pre : List Nat) (x : Nat) : outP L (pre ++ [x]) = if zbA (nth L x).kind then outP L pre else outP L pre ++ zbx L x := by simp [outP]
theorem itemN_len (L : List Nd) (i : Nat) : (zbx L i).length <= L.length := by unfold zbx; simp; omega
theorem outP_acc (L : List Nd) : ∀ (pre : List Nat) (acc : List Nd), (pre.foldl (fun out i => if zbA (nth L i).kind then out else out ++ zbx L i) acc).length <= acc.length + pre.length * L.length
 | [], acc => by simp
 | x :: r, acc => by
  rw [List.foldl_cons]
  refine Nat.le_trans (outP_acc L r _) ?_
  have := itemN_len L x
  rw [List.length_cons, Nat.add_mul, Nat.one_mul]
  split
  · omega
  · rw [List.length_append]; omega
theorem outP_len (L : List Nd) (pre : List Nat) : (outP L pre).length <= pre.length * L.length := by have := outP_acc L pre []; simpa [outP] using this
theorem prunF_pre (L : List Nd) (g : Gl) : ∀ (pre rest : List Nat) (acc : List Nd), (∀ x ∈ pre, zaq (nth L x).kind = false) -> zbT L g (pre ++ rest) acc = zbT L g rest (pre.foldl (fun out i => if zbA (nth L i).kind then out else out ++ zbx L i) acc)
 | [], rest, acc, _ => rfl
 | x :: r, rest, acc, h => by
  rw [List.cons_append, List.foldl_cons, <- prunF_pre L g r rest _ (fun y hy => h y (List.mem_cons_of_mem _ hy))]
  show (if zaq (nth L x).kind then _ else zbT L g (r ++ rest) _) = _
  rw [h x List.mem_cons_self]; rfl
abbrev It (s : List Nat) := {i : Nat // i ∈ s}
def PrI (w : World) (Z B0 : Nat) (p0 : Option Addr) (cap : Nat) (L : List Nd) (g : Gl) (s : List Nat) (pre : List (It s)) (W : World) : Prop :=
 ((Boxed W w.heap.size 22 (.slice p0 L.length cap) /\ Boxed W (Z + 1) 22 (.slice p0 L.length cap) /\ W.heap[w.heap.size + 1]? = some (.cells g.arr 51 (0, 0)) /\ (∃ v, Boxed W Z 22 v /\ W.ownsRow B0 53 19 v (outP L (pre.map (·.1))).length ((outP L (pre.map (·.1))).flatMap Nd.cells) /\ True) /\ (∀ x ∈ pre, zaq (nth L x.1).kind = false)) /\ Below w.heap.size w W) /\ B0 <= W.heap.size
def PrX (w : World) (Z B0 : Nat) (L : List Nd) (g : Gl) (s : List Nat) (id : Nat) (c : Code) (prex : List (It s)) (W : World) : Prop :=
 (c = .exit id /\ ∃ (pre : List (It s)) (x : It s), prex = pre ++ [x] /\ (∀ y ∈ pre, zaq (nth L y.1).kind = false) /\ zaq (nth L x.1).kind = true /\
  ∃ v, Boxed W Z 22 v /\ W.ownsRow B0 53 19 v (outP L (pre.map (·.1)) ++ topN g (nth L x.1).h :: L.drop x.1).length ((outP L (pre.map (·.1)) ++ topN g (nth L x.1).h :: L.drop x.1).flatMap Nd.cells)) /\ Below w.heap.size w W
theorem prI_own {w : World} {Z B0 B : Nat} {p0 : Option Addr} {cap : Nat} {L : List Nd} {g : Gl} {s : List Nat} (hB : w.heap.size <= B) : OwnFrom B (PrI w Z B0 p0 cap L g s) :=
 OwnFrom.and (OwnFrom.and (OwnFrom.and (Own.from (boxed_own _ _ _) _) (OwnFrom.and (Own.from (boxed_own _ _ _) _) (OwnFrom.and (Own.from (blk_own _ _ _ _) _) (OwnFrom.and (Own.from (holdsRow_own _ _ _ _ _ _ _ (fun _ _ => True)) _) (ownFrom_pure _ _))))) (ownFrom_below (Nat.le_refl _) hB)) (fun _ _ _ _ hs hg _ => Nat.le_trans hs hg.size)
theorem prX_own {w : World} {Z B0 B : Nat} {L : List Nd} {g : Gl} {s : List Nat} {id : Nat} (hB : w.heap.size <= B) (c : Code) : OwnFrom B (PrX w Z B0 L g s id c) :=
 OwnFrom.and (OwnFrom.and (ownFrom_pure _ _) (Own.from (fun prex X Y row hs hg hrow => by
  obtain ⟨pre, x, h1, h2, h3, v, hv, hr⟩ := hs
  obtain ⟨v2, hv2, hr2, _⟩ := holdsRow_own (β := Unit) B0 Z 22 53 19 (fun _ => (outP L (pre.map (·.1)) ++ topN g (nth L x.1).h :: L.drop x.1).length) (fun _ => (outP L (pre.map (·.1)) ++ topN g (nth L x.1).h :: L.drop x.1).flatMap Nd.cells) (fun _ _ => True) () X Y row ⟨v, hv, hr, trivial⟩ hg hrow
  exact ⟨pre, x, h1, h2, h3, v2, hv2, hr2⟩) _)) (ownFrom_below (Nat.le_refl _) hB)
end
end Go.Proofs.YtaehkbbdmamfpaaGreatDoor
