/-
  The document's side: Check of a column; whether a glue may be a top glue.
-/
import Derived.Test.YtaehkbbdmamfpaaGreatDoorQ8
import Derived.Test.YtaehkbbdmamfpaaGreatDoorQ6
import Derived.Test.YtaehkbbdmamfpaaGreatDoorVBs
set_option maxRecDepth 100000
set_option maxHeartbeats 16000000
namespace Go.Proofs.YtaehkbbdmamfpaaGreatDoor
open Go.ChangeShapes Go.WideShapes Go.ChangeAt Go.RowKit
section
attribute [local go_sem ↓] Go.wp_at_zero Go.wp_at_succ
structure IIn (w : World) (p : Option Addr) (g c : Nat) (s : List Nat) : Prop where
 hp : s ≠ [] -> p = some ⟨g, 0, none⟩
 hg : s ≠ [] -> g < w.heap.size
 at_ : ∀ i (hi : i < s.length), w.cell? ⟨g, i, none⟩ = some (.int .i64 (s[i] : Nat))
theorem IIn.below {w w' : World} {p : Option Addr} {g c : Nat} {s : List Nat} (h : IIn w p g c s) (hb : Below w.heap.size w w') : IIn w' p g c s :=
 ⟨h.hp, fun e => Nat.lt_of_lt_of_le (h.hg e) hb.size, fun i hi => (hb.cell (p := ⟨g, i, none⟩) (h.hg (by intro e; rw [e] at hi; simp at hi))).trans (h.at_ i hi)⟩
theorem zcG {w w' : World} {v : Value} {s : List Nat} (h : IRow w v s w') : ∃ p g c, v = .slice p s.length c /\ IIn w' p g c s := by
 unfold IRow at h
 by_cases h0 : s = []
 ·
  subst h0
  obtain ⟨_, ⟨rfl, _⟩ | ⟨g, cap, cur, rfl, _⟩⟩ := h
  · exact ⟨none, 0, 0, rfl, fun e => absurd rfl e, fun e => absurd rfl e, fun i hi => by simp at hi⟩
  · exact ⟨_, g, cap, rfl, fun e => absurd rfl e, fun e => absurd rfl e, fun i hi => by simp at hi⟩
 ·
  obtain ⟨g, c, rfl, _, hg⟩ := h.form (List.length_pos_iff.2 h0)
  refine ⟨_, g, c, rfl, fun _ => rfl, fun _ => hg, fun i hi => ?_⟩
  rw [h.cellAt i (by omega), ints_idx]
  simp [ofN, hi]
def frmC (L : List Nd) (s : List Nat) : Int := if s.all (fun x => zbV (nth L x)) then 0 else 30
theorem frmC_step {L : List Nd} {s t : List Nat} {x : Nat} (h : t = s ++ [x]) : frmC L t = if zbV (nth L x) then frmC L s else 30 := by
 rw [h]
 unfold frmC
 rw [List.all_append, List.all_cons, List.all_nil, Bool.and_true]
 cases s.all (fun x => zbV (nth L x)) <;> cases zbV (nth L x) <;> rfl
theorem runC_right : ∀ (l : List Nd) (st : List Int) (d : Int) (r : List Int × Int), runC l st d = some r -> ∀ x ∈ l, zaX x = true
 | [], _, _, _, _ => fun x hx => by cases hx
 | y :: l, st, d, r, h => fun x hx => by
  unfold runC at h
  split at h
  ·
   rename_i hr
   obtain ⟨s, _, h2⟩ := Option.bind_eq_some_iff.1 h
   rcases List.mem_cons.1 hx with rfl | hx
   · exact hr
   · exact runC_right l _ _ _ h2 x hx
  · cases h
theorem zaQ {L : List Nd} (h : zao L = 0) : ∀ x ∈ L, zaX x = true := by
 obtain ⟨_, d, _, hr⟩ := zaj h
 exact runC_right L [] 0 _ hr
theorem right_skip {n : Nd} (h : zaX n = true) (hk : n.kind = 7) : n.glue.good = true /\ zab n.sub 0 20 = true := by
 unfold zaX at h
 rw [hk] at h
 simp only [Bool.and_eq_true] at h
 have : skipB n = true := h.1.2
 simpa [skipB] using this
theorem good_ho {g : Gl} (h : g.good = true) : (0 <= g.so /\ g.so <= 3) /\ 0 <= g.ho /\ g.ho <= 3 := by
 simp [Gl.good, zab] at h
 omega
theorem qcolumn (p0 : Option Addr) (b off cap : Nat) (L : List Nd) (s : List Nat) (hs : zao L = 0 -> Items L 0 s) (w : World) (hN : NIn w p0 b off cap L) :
 Calls Tryz.prog 23 #[.slice p0 L.length cap] w fun e w' => e = .returned (.int .i64 (colP L s)) /\ Below w.heap.size w w' := by
 have HC := zzh (qcheck p0 b off cap L w hN)
 have H := zzh hN
 have Hs := zzh hs
 have hlen := hN.len
 clear hN hs
 go_enter Tryz.func23, Tryz.ntmps23
 go_wp2_with fail
 refine HC.out.mono ?_
 clear HC
 rintro e w1 ⟨rfl, hb1⟩
 by_cases hck : zao L = 0
 ·
  have hs := Hs.out hck
  have hkd := zdd hs hck
  have HS := zzh (zdb p0 b off cap L s w1 (H.out.below hb1) hs fun x hx => (hkd x hx).1)
  have Hck := zzh hck
  have HI := zzh hs.lt
  have hsl := hs.len
  rw [hck]
  clear hck hs hkd Hs
  go_wp2_with fail
  refine HS.out.mono ?_
  clear HS
  rintro e w2 ⟨⟨v, rfl, hrow⟩, hb2⟩
  obtain ⟨p, g, c, rfl, hII⟩ := zcG hrow
  have hbw := hb1.trans (hb2.mono hb1.size)
  clear hb1 hb2 hrow
  go_wp2_with fail
  go_loopg [5, 6] (s.length + 1) (fun gg t5 t6 wr => ∃ i : Nat, gg = s.length + 1 - i /\ i <= s.length /\ t5 = .int .i64 (frmC L (s.take i)) /\ t6 = .int .i64 i /\ (s.take i).any (fun x => badN (nth L x)) = false /\ Below w2.heap.size w2 wr)
  case atStart => exact ⟨0, rfl, Nat.zero_le _, rfl, rfl, rfl, .refl _ _⟩
  case round =>
   obtain ⟨i, rfl, hi, rfl, rfl, hbad, hbl⟩ := hrel
   have hi1 : (0 : Int) <= (i : Int) := by omega
   have Hbad := zzh hbad
   have Hbl := zzh hbl
   by_cases hin : i < s.length
   ·
    have hi2 : (i : Int) < (s.length : Int) := by omega
    have hIr := hII.below hbl
    have cI := hIr.at_ i hin
    have hne : s ≠ [] := by intro e; rw [e] at hin; simp at hin
    obtain rfl := hII.hp hne
    have hmem : s[i] ∈ s := List.getElem_mem hin
    have hxl := (HI.out s[i] hmem).2
    have Htk := zzh (List.take_succ_eq_append_getElem hin)
    obtain ⟨x, hx⟩ : ∃ x, s[i] = x := ⟨_, rfl⟩
    rw [hx] at cI hxl Htk
    clear hmem hx
    have hN2 := H.out.below (hbw.trans (hbl.mono hbw.size))
    have xa := hN2.nth hxl
    obtain rfl := hN2.at_ hxl
    have hx1 : (0 : Int) <= (x : Int) := by omega
    have hx2 : (x : Int) < (L.length : Int) := by omega
    obtain ⟨n, hn⟩ : ∃ n, nth L x = n := ⟨_, rfl⟩
    rw [hn] at xa
    have Hn := zzh hn
    have hho : n.kind = 7 -> 0 <= n.glue.ho := fun h => (good_ho (right_skip (zaQ Hck.out n (by rw [<- hn, zaV hxl]; exact List.getElem_mem _)) h).1).2.1
    have Hin := zzh hin
    clear hn hbl hbad hIr hN2 hin
    have HbB : Hid (badN n = true -> colP L s = 50) := zzh fun hb => by
     unfold colP
     rw [if_pos Hck.out, if_pos]
     refine List.any_eq_true.2 ⟨x, ?_, by rw [Hn.out]; exact hb⟩
     have := Htk.out ▸ (List.mem_append_right (s.take i) (List.mem_singleton_self x))
     exact List.mem_of_mem_take this
    have HbG : Hid (badN n = false -> (s.take (i + 1)).any (fun x => badN (nth L x)) = false) := zzh fun hb => by rw [Htk.out, List.any_append, Hbad.out, List.any_cons, Hn.out, hb]; rfl
    have dX : (wr.alloc (.cells n.arr 53)).heap[wr.heap.size]? = some (.cells n.arr 53 (0, 0)) := heap_alloc_new _ _
    have x0 : (wr.alloc (.cells n.arr 53)).cell? ⟨wr.heap.size, 0, none⟩ = some (.int .i64 n.kind) := by rw [cell?_blk' dX]; rfl
    have x9 : (wr.alloc (.cells n.arr 53)).cell? ⟨wr.heap.size, 9, none⟩ = some (.int .i64 n.glue.shr) := by rw [cell?_blk' dX]; rfl
    have x11 : (wr.alloc (.cells n.arr 53)).cell? ⟨wr.heap.size, 11, none⟩ = some (.int .i64 n.glue.ho) := by rw [cell?_blk' dX]; rfl
    have hb4 : Below w2.heap.size w2 (wr.alloc (.cells n.arr 53)) := Hbl.out.alloc Hbl.out.size _
    have hst := frmC_step (L := L) Htk.out
    rw [Hn.out] at hst
    have HT := zzh (fun h => HbG.out h)
    generalize frmC L (s.take i) = f at hst ⊢
    have Hst := zzh hst
    have Hho := zzh hho
    have Hb4 := zzh hb4
    clear hst hho hb4 dX
    cases k1 : (n.kind == 1)
    rotate_left
    ·
     have Hc := zzh (HbB.out (by simp [badN, k1]))
     go_wp2_with fail
     go_ret
     exact ⟨zaD Hc.out.symm, hbw.trans (Hb4.out.mono hbw.size)⟩
    cases k2 : (n.kind == 2)
    rotate_left
    ·
     have Hc := zzh (HbB.out (by simp [badN, k2]))
     go_wp2_with fail
     go_ret
     exact ⟨zaD Hc.out.symm, hbw.trans (Hb4.out.mono hbw.size)⟩
    cases k10 : (n.kind == 10)
    rotate_left
    ·
     have Hc := zzh (HbB.out (by simp [badN, k10]))
     go_wp2_with fail
     go_ret
     exact ⟨zaD Hc.out.symm, hbw.trans (Hb4.out.mono hbw.size)⟩
    cases k15 : (n.kind == 15)
    rotate_left
    ·
     have Hc := zzh (HbB.out (by simp [badN, k15]))
     go_wp2_with fail
     go_ret
     exact ⟨zaD Hc.out.symm, hbw.trans (Hb4.out.mono hbw.size)⟩
    cases k16 : (n.kind == 16)
    rotate_left
    ·
     have Hc := zzh (HbB.out (by simp [badN, k16]))
     go_wp2_with fail
     go_ret
     exact ⟨zaD Hc.out.symm, hbw.trans (Hb4.out.mono hbw.size)⟩
    cases k17 : (n.kind == 17)
    rotate_left
    ·
     have Hc := zzh (HbB.out (by simp [badN, k17]))
     go_wp2_with fail
     go_ret
     exact ⟨zaD Hc.out.symm, hbw.trans (Hb4.out.mono hbw.size)⟩
    have hg := HT.out (by simp [badN, k1, k2, k10, k15, k16, k17])
    have HG := zzh hg
    clear hg
    cases k7 : (n.kind == 7)
    ·
     have hf : frmC L (s.take (i + 1)) = f := by rw [Hst.out, show zbV n = true by simp [zbV, k7]]; rfl
     go_wp2_with fail
     go_roundg (s.length + 1 - (i + 1))
     case measure => have := Hin.out; omega
     case rel => exact ⟨i + 1, rfl, Hin.out, by rw [hf], by go_num, HG.out, Hb4.out⟩
    ·
     have h0 := Hho.out (by simpa using k7)
     rcases Int.lt_or_le 0 n.glue.ho with hh | hh
     ·
      cases kr : (n.glue.shr == 0)
      ·
       have hr' : (n.glue.shr != 0) = true := by rw [bne, kr]; rfl
       have hf : frmC L (s.take (i + 1)) = 30 := by rw [Hst.out, show zbV n = false by simp [zbV, k7, kr]; omega]; rfl
       go_wp2_with fail
       go_roundg (s.length + 1 - (i + 1))
       case measure => have := Hin.out; omega
       case rel => exact ⟨i + 1, rfl, Hin.out, by rw [hf], by go_num, HG.out, Hb4.out⟩
      ·
       have hr' : (n.glue.shr != 0) = false := by rw [bne, kr]; rfl
       have hf : frmC L (s.take (i + 1)) = f := by rw [Hst.out, show zbV n = true by simp [zbV, kr]]; rfl
       go_wp2_with fail
       go_roundg (s.length + 1 - (i + 1))
       case measure => have := Hin.out; omega
       case rel => exact ⟨i + 1, rfl, Hin.out, by rw [hf], by go_num, HG.out, Hb4.out⟩
     ·
      have hf : frmC L (s.take (i + 1)) = f := by rw [Hst.out, show zbV n = true by simp [zbV]; omega]; rfl
      go_wp2_with fail
      go_roundg (s.length + 1 - (i + 1))
      case measure => have := Hin.out; omega
      case rel => exact ⟨i + 1, rfl, Hin.out, by rw [hf], by go_num, HG.out, Hb4.out⟩
   ·
    have hi2 : (s.length : Int) <= (i : Int) := by omega
    have ht : s.take i = s := List.take_of_length_le (by omega)
    have hcol : colP L s = frmC L s := by
     have := Hbad.out
     rw [ht] at this
     unfold colP
     rw [if_pos Hck.out, this]; rfl
    have Hcol := zzh hcol
    rw [ht]
    clear hcol ht
    go_wp2_with fail
    go_ret
    exact ⟨zaD Hcol.out.symm, hbw.trans (hbl.mono hbw.size)⟩
 ·
  have hck' : ((zao L : Int) != 0) = true := by simpa using hck
  have Hcol : Hid (colP L s = zao L) := zzh (by unfold colP; rw [if_neg hck])
  clear hck
  go_wp2_with fail
  go_ret
  exact ⟨zaD Hcol.out.symm, hb1⟩
end
section
attribute [local go_sem ↓] Go.wp_at_zero Go.wp_at_succ
theorem zai {fn : Func} {t u v x : Tmp} (h : fn.results = #[.tmp t, .tmp u, .tmp v, .tmp x]) (tmps : Array Value) (P : Program) (w : World) :
 (results fn tmps).run P w = .ok (.tuple #[tmps.getD t undef, tmps.getD u undef, tmps.getD v undef, tmps.getD x undef]) w := by
 simp [results, h]
theorem zav {L : List Nd} {s : List Nat} (h : colP L s = 0) : zao L = 0 := by
 unfold colP at h
 split at h
 · assumption
 · exact h
end
section
def qOf (L : List Nd) (prev : Option Nat) (i : Nat) : Int :=
 if ((nth L i).kind == 7 && prev.any fun j => !zbB (nth L j).kind) = true then 0
 else if ((nth L i).kind == 8 && decide (i + 1 < L.length) && (nth L (i + 1)).kind == 7) = true then 0
 else if ((nth L i).kind == 9) = true then (nth L i).pen else 10000
def brk (i : Nat) (q : Int) : List (Nat × Int) := if q < 10000 then [(i, q)] else []
def zak (L : List Nd) : Option Nat -> List Nat -> List (Nat × Int)
 | _, [] => []
 | prev, i :: s => brk i (qOf L prev i) ++ zak L (some i) s
def zbT (prev : Option Nat) (pre : List Nat) : Option Nat := match pre.getLast? with | some x => some x | none => prev
theorem lastO_snoc (prev : Option Nat) (pre : List Nat) (x : Nat) : zbT prev (pre ++ [x]) = some x := by simp [zbT]
theorem lastO_cons (prev : Option Nat) (i : Nat) (pre : List Nat) : zbT prev (i :: pre) = zbT (some i) pre := by
 unfold zbT
 cases pre with
 | nil => rfl
 | cons a r => simp [List.getLast?_cons]
theorem zcQ (L : List Nd) : ∀ (pre rest : List Nat) (prev : Option Nat), zak L prev (pre ++ rest) = zak L prev pre ++ zak L (zbT prev pre) rest
 | [], rest, prev => by simp [zak, zbT]
 | i :: pre, rest, prev => by
  rw [List.cons_append, zak, zak, zcQ L pre rest (some i), List.append_assoc, lastO_cons]
theorem zcN (L : List Nd) (pre : List Nat) (i : Nat) : zak L none (pre ++ [i]) = zak L none pre ++ brk i (qOf L (zbT none pre) i) := by
 rw [zcQ]; simp [zak]
theorem breaksF_mem (L : List Nd) : ∀ (s : List Nat) (prev : Option Nat) (x : Nat × Int), x ∈ zak L prev s -> x.1 ∈ s
 | [], _, _, h => by cases h
 | i :: s, prev, x, h => by
  rw [zak, List.mem_append] at h
  rcases h with h | h
  ·
   unfold brk at h
   split at h
   · simp only [List.mem_singleton] at h; rw [h]; simp
   · cases h
  · exact List.mem_cons_of_mem _ (breaksF_mem L s _ x h)
theorem zcI (L : List Nd) : ∀ (s : List Nat) (prev : Option Nat), (zak L prev s).length <= s.length
 | [], _ => Nat.le_refl _
 | i :: s, prev => by
  rw [zak, List.length_append, List.length_cons]
  have := zcI L s (some i)
  have h2 : (brk i (qOf L prev i)).length <= 1 := by unfold brk; split <;> simp
  omega
def zaE (L : List Nd) (s : List Nat) : List (Nat × Int) := zak L none s ++ [(L.length, -10000)]
theorem legalP_len (L : List Nd) (s : List Nat) : (zaE L s).length <= s.length + 1 := by unfold zaE; rw [List.length_append]; have := zcI L s none; simp; omega
def BrOk (L : List Nd) (s : List Nat) (x : Nat × Int) : Prop := (x.1 ∈ s /\ x.2 < 10000 /\ ∃ prev, x.2 = qOf L prev x.1) \/ x = (L.length, -10000)
abbrev Br (L : List Nd) (s : List Nat) := {x : Nat × Int // BrOk L s x}
def lastV (prev : Option Nat) : Int := match prev with | some j => j | none => -1
theorem breaksF_pre {L : List Nd} {s pre : List Nat} (h : pre <+: s) : zak L none pre <+: zaE L s := by
 obtain ⟨r, rfl⟩ := h
 unfold zaE
 rw [zcQ, List.append_assoc]
 exact List.prefix_append _ _
theorem lastO_mem {pre : List Nat} {j : Nat} (h : zbT none pre = some j) : j ∈ pre := by
 unfold zbT at h
 cases hp : pre.getLast? with
 | none => rw [hp] at h; cases h
 | some x => rw [hp] at h; cases h; exact List.mem_of_getLast? hp
end
section
attribute [local go_sem ↓] Go.wp_at_zero Go.wp_at_succ
def zby (L : List Nd) (i : Nat) : List Nd := (L.drop i).take ((behC (L.drop i) 0).getD 0)
def topNat (g : Gl) (h : Int) : Int := min 1073741823 (max 0 (g.nat - h))
def topN (g : Gl) (h : Int) : Nd := { Nd.zero with kind := 7, glue := { g with nat := topNat g h }, sub := 10 }
def zbU (L : List Nd) (g : Gl) : List Nat -> List Nd -> List Nd
 | [], out => out
 | i :: s, out => if zaq (nth L i).kind then out ++ topN g (nth L i).h :: L.drop i else zbU L g s (if zbB (nth L i).kind then out else out ++ zby L i)
def topB (g : Gl) : Bool := g.good && (g.ho == 0 || g.shr == 0)
theorem qtop (g : Gl) (w : World) : Calls Tryz.prog 120 #[.agg g.arr] w fun e w' => e = .returned (.bool (topB g)) /\ Below w.heap.size w w' := by
 cases hg : g.good
 ·
  have HC : Hid (∀ W, Calls Tryz.prog 129 #[.agg g.arr] W fun e w' => e = .returned (.int .i64 30) /\ Below W.heap.size W w') := zzh fun W => zcp _ _ (by rw [hg]; rfl) W
  have Hv := zzh (show topB g = false by simp [topB, hg])
  clear hg
  go_enter Tryz.func120, Tryz.ntmps120
  go_wp2_with (go_at_call 129; refine (HC.out _).mono ?_; rintro e w2 ⟨rfl, hb2⟩)
  go_ret
  exact ⟨zaa Hv.out.symm, Below.trans ((Below.refl _ _).alloc (Nat.le_refl _) _) (hb2.mono (by simp))⟩
 ·
  have HC : Hid (∀ W, Calls Tryz.prog 129 #[.agg g.arr] W fun e w' => e = .returned (.int .i64 0) /\ Below W.heap.size W w') := zzh fun W => zcp _ _ (by rw [hg]; rfl) W
  have d0 := heap_alloc_new w (.cells g.arr 51)
  cases h1 : (g.ho == 0) <;> cases h2 : (g.shr == 0)
  all_goals
   have Hv := zzh (show topB g = _ by simp only [topB, hg, h1, h2]; rfl)
   have D0 := zzh d0
   go_enter Tryz.func120, Tryz.ntmps120
   go_wp2_with (go_at_call 129; refine (HC.out _).mono ?_; rintro e w2 ⟨rfl, hb2⟩; (have d2 := (hb2.block w.heap.size (by simp)).trans D0.out); (have c2 : w2.cell? ⟨w.heap.size, 2, none⟩ = some (.int .i64 g.shr) := by rw [cell?_blk' d2]; rfl); (have c4 : w2.cell? ⟨w.heap.size, 4, none⟩ = some (.int .i64 g.ho) := by rw [cell?_blk' d2]; rfl))
   go_ret
   exact ⟨zaa (by rw [Hv.out]; rfl), Below.trans ((Below.refl _ _).alloc (Nat.le_refl _) _) (hb2.mono (by simp))⟩
end
section
attribute [local go_sem ↓] Go.wp_at_zero Go.wp_at_succ
theorem solid_h {n : Nd} (h : zaX n = true) (hk : zaq n.kind = true) : -1073741823 <= n.h /\ n.h <= 1073741823 := by
 unfold zaX at h
 simp only [Bool.and_eq_true] at h
 have hg := h.1.2
 have hk' : n.kind = 4 \/ n.kind = 5 \/ n.kind = 3 := by simp [zaq] at hk; omega
 have hd : zac n.h = true := by
  rcases hk' with e | e | e
  ·
   rw [e] at hg
   have : boxB n = true := hg
   simp [boxB, dims4] at this
   exact this.1.1.1.2
  ·
   rw [e] at hg
   have : boxB n = true := hg
   simp [boxB, dims4] at this
   exact this.1.1.1.2
  ·
   rw [e] at hg
   have : zbO n = true := hg
   simp [zbO, zbG] at this
   exact this.1.1.2.1.2
 simpa [zac] using hd
theorem top_if (a h : Int) : (if (if h < a then a - h else 0) < 1073741823 then if h < a then a - h else 0 else 1073741823) = min 1073741823 (max 0 (a - h)) := by
 split <;> split at * <;> omega
def NRow (w : World) (v : Value) (R : List Nd) (w' : World) : Prop := w'.ownsRow w.heap.size 53 19 v R.length (R.flatMap Nd.cells)
theorem qpruned (p0 : Option Addr) (b off cap : Nat) (L : List Nd) (s : List Nat) (g : Gl) (hs : Items L 0 s) (hk : ∀ x ∈ s, (nth L x).kind ≠ 6) (hr : ∀ x ∈ L, zaX x = true) (hlen : L.length <= 2000) (hg : g.good = true) (w : World) (hN : NIn w p0 b off cap L) :
 Calls Tryz.prog 121 #[.slice p0 L.length cap, .agg g.arr] w fun e w' => (∃ v, e = .returned v /\ NRow w v (zbU L g s []) w') /\ Below w.heap.size w w' := by
 have hgn : -1073741823 <= g.nat /\ g.nat <= 1073741823 := by simp [Gl.good, zac] at hg; omega
 obtain ⟨R, hR⟩ : ∃ R, zbU L g s [] = R := ⟨_, rfl⟩
 have HR := zzh hR
 rw [hR]
 have H := zzh hN
 have HS := zzh hs
 have HK := zzh hk
 have Hr := zzh hr
 have Hgn := zzh hgn
 have d0 := heap_alloc_new w (.cells g.arr 51)
 have hb0 : Below w.heap.size w (w.alloc (.cells g.arr 51)) := (Below.refl _ _).alloc (Nat.le_refl _) _
 have HSt : Hid (∀ W, Below w.heap.size w W -> Calls Tryz.prog 21 #[.slice p0 L.length cap] W fun e w' => (∃ v, e = .returned v /\ IRow W v s w') /\ Below W.heap.size W w') := zzh fun W hb => zdb p0 b off cap L s W (hN.below hb) hs hk
 clear hN hs hk hr hgn hg hR
 go_enter Tryz.func121, Tryz.ntmps121
 go_upto_region 2 with (fail)
 generalize w.alloc (.cells g.arr 51) = w1 at d0 hb0 ⊢
 go_wp2_with fail
 refine (HSt.out _ hb0).mono ?_
 clear HSt
 rintro e w2 ⟨⟨v, rfl, hrow⟩, hb2⟩
 have d2 := (hb2.block w.heap.size (Array.getElem?_eq_some_iff.1 d0).1).trans d0
 obtain ⟨p, gi, c, rfl, hII⟩ := zcG hrow
 have hbw := hb0.trans (hb2.mono hb0.size)
 have hZ := (Array.getElem?_eq_some_iff.1 d2).1
 have hsl := HS.out.len
 clear d0 hb0 hb2 hrow
 go_wp2_with fail
 go_loopg [5, 7] (s.length + 1) (fun gg t5 t7 wr => ∃ (i k : Nat) (out : List Nd), gg = s.length + 1 - i /\ i <= s.length /\ t7 = .int .i64 i /\ zbU L g (s.drop i) out = R /\ Items L k (s.drop i) /\ out.length <= k /\ wr.ownsRow w2.heap.size 53 19 t5 out.length (out.flatMap Nd.cells) /\ Below w2.heap.size w2 wr)
 case atStart => exact ⟨0, 0, [], rfl, Nat.zero_le _, rfl, by rw [List.drop_zero]; exact HR.out, by rw [List.drop_zero]; exact HS.out, Nat.le_refl _, World.ownsRow_nil _ _ _ _, .refl _ _⟩
 case round =>
  clear HR
  obtain ⟨i, k, out, rfl, hi, rfl, hrun, hit, hok, hown, hbl⟩ := hrel
  have hi1 : (0 : Int) <= (i : Int) := by omega
  by_cases hin : i < s.length
  ·
   have hi2 : (i : Int) < (s.length : Int) := by omega
   have hIr := hII.below hbl
   have cI := hIr.at_ i hin
   have hne : s ≠ [] := by intro e; rw [e] at hin; simp at hin
   obtain rfl := hII.hp hne
   have hgi := hII.hg hne
   have hdr := List.drop_eq_getElem_cons hin
   rw [hdr] at hrun hit
   have hmem : s[i] ∈ s := List.getElem_mem hin
   obtain ⟨x, hx⟩ : ∃ x, s[i] = x := ⟨_, rfl⟩
   rw [hx] at cI hrun hit hmem
   have Hx := zzh (show s[i]? = some x by rw [List.getElem?_eq_getElem hin, hx])
   clear hx hdr
   cases hit with
   | step hxl hm hs2 =>
    rename_i m
    have hN2 := H.out.below (hbw.trans (hbl.mono hbw.size))
    have xa := hN2.nth hxl
    obtain rfl := hN2.at_ hxl
    have hblt := hN2.lt hxl
    have hx1 : (0 : Int) <= (k : Int) := by omega
    have hx2 : (k : Int) < (L.length : Int) := by omega
    obtain ⟨n, hn⟩ : ∃ n, nth L k = n := ⟨_, rfl⟩
    have hrn : zaX n = true := Hr.out n (by rw [<- hn, zaV hxl]; exact List.getElem_mem _)
    rw [hn] at xa
    have Hn := zzh hn
    have Hin := zzh hin
    have Hm := zzh hm
    have HS2 := zzh hs2
    have Hrun := zzh hrun
    have Hmem := zzh hmem
    have Hrn := zzh hrn
    have hm2 := zaw _ _ _ hm
    rw [List.length_drop] at hm2
    have dX : (wr.alloc (.cells n.arr 53)).heap[wr.heap.size]? = some (.cells n.arr 53 (0, 0)) := heap_alloc_new _ _
    have hcapL := hN2.cap'
    clear hn hin hm hs2 hrun hmem hrn hIr
    go_upto_region 7 with (fail)
    have ax := agg_nd dX
    have hb4 : Below w2.heap.size w2 (wr.alloc (.cells n.arr 53)) := hbl.alloc hbl.size _
    have hown4 := hown.alloc (.cells n.arr 53)
    have hwX : w2.heap.size <= wr.heap.size := hbl.size
    have HSo := zzh (qsolid n (wr.alloc (.cells n.arr 53)))
    clear hown hbl xa hN2
    generalize wr.heap.size = X at dX ax hwX ⊢
    generalize wr.alloc (.cells n.arr 53) = w4 at dX ax hb4 hown4 HSo ⊢
    go_wp2_with fail
    refine HSo.out.mono ?_
    clear HSo
    rintro e w5 ⟨rfl, hb5⟩
    have dX5 := (hb5.block X (Array.getElem?_eq_some_iff.1 dX).1).trans dX
    have hown5 := zad hown4 hb5
    have hbl5 := hb4.trans (hb5.mono hb4.size)
    clear dX ax hown4 hb4 hb5 cI
    have d5 := (hbl5.block w.heap.size hZ).trans d2
    have hbw5 := hbw.trans (hbl5.mono hbw.size)
    have hN5 := H.out.below hbw5
    cases hsol : zaq n.kind
    ·
     have Hsol := zzh hsol
     have ax := agg_nd dX5
     have HF := zzh (qfalls n w5)
     clear hsol
     cases hfal : zbB n.kind
     ·
      have hrun2 : zbU L g (s.drop (i + 1)) (out ++ zby L k) = R := by
       have := Hrun.out
       unfold zbU at this
       rw [Hn.out, Hsol.out, hfal] at this
       exact this
      have Hrun2 := zzh hrun2
      rw [hfal] at HF
      clear hfal hrun2
      go_wp2_with fail
      refine HF.out.mono ?_
      clear HF
      rintro e w6 ⟨rfl, hb6⟩
      have hown6 := zad hown5 hb6
      have hbl6 := hbl5.trans (hb6.mono hbl5.size)
      have hbw6 := hbw.trans (hbl6.mono hbw.size)
      have hN6 := H.out.below hbw6
      have cI6 : w6.cell? ⟨gi, i, none⟩ = some (.int .i64 (k : Int)) := by
       have h1 := (hII.below hbl6).at_ i Hin.out
       have h2 := Hx.out
       rw [List.getElem?_eq_getElem Hin.out] at h2
       rw [Option.some.inj h2] at h1
       exact h1
      have HE := zzh (qends (some ⟨b, off, none⟩) b off cap L k m w6.drew hN6.drew Hm.out (HK.out k Hmem.out))
      have hown6d : w6.drew.ownsRow w2.heap.size 53 19 u5 out.length (out.flatMap Nd.cells) := zar hown6 fun _ _ _ => rfl
      have hbl6d := hbl6.drew
      have HSn : Hid (∀ W, Below w2.heap.size w2 W -> Below w2.heap.size w2 W /\ W.cell? ⟨gi, i, none⟩ = some (.int .i64 (k : Int))) := zzh fun W h => ⟨h, ((h.cell (p := ⟨gi, i, none⟩) hgi).trans (hbl6.cell (p := ⟨gi, i, none⟩) hgi).symm).trans cI6⟩
      have HT : Hid (∀ w8, Below w6.drew.heap.size w6.drew w8 -> Below w2.heap.size w2 w8) := zzh fun w8 h => hbl6d.trans (h.mono hbl6d.size)
      have HG : Hid (∀ w8 w9, Below w6.drew.heap.size w6.drew w8 -> w8.grownBy w9 u5.ownBlock -> Below w2.heap.size w2 w9) := zzh fun w8 w9 h hg => Below.grown (HT.out _ h) hg (HT.out _ h).size (fun q hq => (hown6d.lt q hq).1)
      have hil : (zby L k).length = m := by unfold zby; rw [Hm.out]; simp; omega
      have Hnews : Hid (∀ w8, Below w6.drew.heap.size w6.drew w8 -> ∀ j u, ((zby L k).flatMap Nd.cells)[j]? = some u -> w8.cell? ((⟨b, off + k * 19, none⟩ : Addr).add j) = some u) := zzh fun w8 h => (((hN6.drew.below h).drop k (Nat.le_of_lt hxl)).take _).news
      have Hone := zzh (zax (zby L k))
      have Hil := zzh hil
      obtain ⟨i0, hi0', hz0, hz1, hz2⟩ := info_parts zbq
      have hsz6 : w2.heap.size <= w6.heap.size := hbl6.size
      obtain ⟨q, hq⟩ : ∃ q, k + m = q := ⟨_, rfl⟩
      rw [hq] at HE
      have hkm1 : (k : Int) <= (q : Int) := by omega
      have hkm2 : (q : Int) <= (cap : Int) := by omega
      have hkm3 : (0 : Int) <= (q : Int) := by omega
      have hkm4 : k <= q := by omega
      have hkm5 : ¬ cap = k := by omega
      have hmq : (q - k : Nat) = m := by omega
      clear hq
      clear hil hown5 hown6 hbl5 hbw5 hN5 hb6 hbw6 hN6 dX5 d5 ax
      go_wp2_with fail
      go_region_held3 (fun w' => Below w2.heap.size w2 w' /\ w'.cell? ⟨gi, i, none⟩ = some (.int .i64 (k : Int)))
       (first | exact HSn.out _ hbl6d | exact HSn.out _ (HT.out _ hb8) | exact HSn.out _ (HG.out _ _ hb8 hgrow9))
       ((first | ((with_reducible refine HE.out.mono ?_); rintro e w8 ⟨rfl, hb8⟩) | (refine step_append_lies _ (by rfl) _ _ _ (by rfl) w2.heap.size 53 i0 (.agg Nd.zero.arr) 19 160 Tryz.underlying22 hi0' hz0 hz1 hz2 (by rfl) (by decide) u5 out.length (out.flatMap Nd.cells) (by rfl) (zad hown6d hb8) ⟨b, off + k * 19, none⟩ m (cap - k) ((zby L k).flatMap Nd.cells) (by rfl) (by rw [zaA, Hil.out]) (Hnews.out _ hb8) Hone.out hm2.1 (by unfold maxLen; omega) (by omega) (HT.out _ hb8).size _ rfl ?_; intro g9 cap9 w9 hown9 hgrow9 hat9 hlt9)))
      go_wp2_with fail
      go_roundg (s.length + 1 - (i + 1))
      case measure => have := Hin.out; omega
      case rel => exact ⟨i + 1, k + m, out ++ zby L k, rfl, Hin.out, by go_num, Hrun2.out, HS2.out, by rw [List.length_append, Hil.out]; omega, by rw [List.length_append, Hil.out, List.flatMap_append]; exact hown9, HG.out _ _ hb8 hgrow9⟩
     ·
      have hrun2 : zbU L g (s.drop (i + 1)) out = R := by
       have := Hrun.out
       unfold zbU at this
       rw [Hn.out, Hsol.out, hfal] at this
       exact this
      have Hrun2 := zzh hrun2
      rw [hfal] at HF
      clear hfal hrun2
      go_wp2_with fail
      refine HF.out.mono ?_
      clear HF
      rintro e w6 ⟨rfl, hb6⟩
      go_wp2_with fail
      go_roundg (s.length + 1 - (i + 1))
      case measure => have := Hin.out; omega
      case rel => exact ⟨i + 1, k + m, out, rfl, Hin.out, by go_num, Hrun2.out, HS2.out, by omega, zad hown5 hb6, hbl5.trans (hb6.mono hbl5.size)⟩
    ·
     have hrun2 : R = out ++ topN g n.h :: L.drop k := by
      have := Hrun.out
      unfold zbU at this
      rw [Hn.out, hsol] at this
      exact this.symm
     have Hrun2 := zzh hrun2
     obtain ⟨hh1, hh2⟩ := solid_h Hrn.out hsol
     obtain ⟨hg1, hg2⟩ := Hgn.out
     clear hrun2 hsol
     have hX2 : w.heap.size < w5.heap.size := (Array.getElem?_eq_some_iff.1 d5).1
     have a5 : agg? w5 w.heap.size 0 5 = some g.arr := by rw [agg?_blk' d5 0 5 (by simp [Gl.size_arr])]; simp [Gl.arr, Gl.cells]
     have n5 : w5.cell? ⟨w.heap.size, 0, none⟩ = some (.int .i64 g.nat) := by rw [cell?_blk' d5]; rfl
     have h5 : w5.cell? ⟨X, 4, none⟩ = some (.int .i64 n.h) := by rw [cell?_blk' dX5]; rfl
     have hXl := (Array.getElem?_eq_some_iff.1 dX5).1
     have Hown5 := zzh hown5
     have Hbl5 := zzh hbl5
     have hte := top_if g.nat n.h
     have Hte := zzh hte
     clear hown5 hbl5 hbw5 hN5 dX5 d5 hte
     go_upto_region 10 with (fail)
     rw [Hte.out]
     generalize (if n.h < g.nat then g.nat - n.h else 0) = q33
     have dG := heap_alloc_new w5 (.cells ({ g with nat := topNat g n.h } : Gl).arr 51)
     have hbl6 := Hbl5.out.alloc Hbl5.out.size (.cells ({ g with nat := topNat g n.h } : Gl).arr 51)
     have hown6 := Hown5.out.alloc (.cells ({ g with nat := topNat g n.h } : Gl).arr 51)
     have aG : agg? (w5.alloc (.cells ({ g with nat := topNat g n.h } : Gl).arr 51)) w5.heap.size 0 5 = some ({ g with nat := topNat g n.h } : Gl).arr := by rw [agg?_blk' dG 0 5 (by simp [Gl.size_arr])]; simp [Gl.arr, Gl.cells]
     change Code.wp _ _ _ _ (w5.alloc (.cells ({ g with nat := topNat g n.h } : Gl).arr 51))
     have hG5 : w2.heap.size <= w5.heap.size := Hbl5.out.size
     clear dG Hbl5 Hown5 Hte
     obtain ⟨tg, htg⟩ : ∃ tg : Gl, ({ g with nat := topNat g n.h } : Gl) = tg := ⟨_, rfl⟩
     have Htg := zzh htg
     simp only [htg] at hbl6 hown6 aG ⊢
     clear htg
     have hsz6 : w2.heap.size <= (w5.alloc (.cells tg.arr 51)).heap.size := hbl6.size
     generalize w5.alloc (.cells tg.arr 51) = w6 at hbl6 hown6 aG hsz6 ⊢
     obtain ⟨i0, hi0', hz0, hz1, hz2⟩ := info_parts zbq
     have hsk : topN g n.h = { Nd.zero with kind := 7, glue := tg, sub := 10 } := by unfold topN; rw [<- Htg.out]
     have Hsk := zzh hsk
     have hone : Hid (∀ u ∈ ({ Nd.zero with kind := 7, glue := tg, sub := 10 } : Nd).cells, u.oneCell' = true) := zzh (by have := Nd.one { Nd.zero with kind := 7, glue := tg, sub := 10 }; simpa [Nd.arr] using this)
     clear hsk
     go_upto_region 11 with (at_builtin; refine wpList_append_lies _ rfl _ _ _ rfl w2.heap.size 53 i0 (.agg Nd.zero.arr) 19 160 Tryz.underlying22 hi0' hz0 hz1 hz2 rfl (by decide) u5 out.length (out.flatMap Nd.cells) rfl (hown6.alloc _) ⟨w6.heap.size, 0, none⟩ 1 1 ({ Nd.zero with kind := 7, glue := tg, sub := 10 } : Nd).cells rfl rfl (World.news_of_block (cs := ({ Nd.zero with kind := 7, glue := tg, sub := 10 } : Nd).arr) (heap_alloc_new _ _)) hone.out (by decide) (by unfold maxLen; omega) (by omega) (by simp; omega) _ rfl ?_; intro g8 cap8 w8 hown8 hgrow8 hat8 hlt8)
     have hb8 := Below.grown (hbl6.alloc hsz6 _) hgrow8 (by simp; omega) (fun q hq => (hown6.lt q hq).1)
     have hbw8 := hbw.trans (hb8.mono hbw.size)
     have hN8 := H.out.below hbw8
     have cI8 : w8.cell? ⟨gi, i, none⟩ = some (.int .i64 (k : Int)) := by
      have h1 := (hII.below hb8).at_ i Hin.out
      have h2 := Hx.out
      rw [List.getElem?_eq_getElem Hin.out] at h2
      rw [Option.some.inj h2] at h1
      exact h1
     have hkc : (k : Int) <= (L.length : Int) := by omega
     have hkc2 : (L.length : Int) <= (cap : Int) := by omega
     have hdl : (L.drop k).length = L.length - k := by simp
     have Hdl := zzh hdl
     have Hnews := zzh (hN8.drop k (Nat.le_of_lt hxl)).news
     have Hone := zzh (zax (L.drop k))
     clear hown6 hbl6 aG hgrow8 hat8 hN8 hdl
     have hsz8 : w2.heap.size <= w8.heap.size := hb8.size
     have hpos : 0 < L.length - k := by omega
     go_wp2_with (at_builtin; refine wpList_append_lies _ rfl _ _ _ rfl w2.heap.size 53 i0 (.agg Nd.zero.arr) 19 160 Tryz.underlying22 hi0' hz0 hz1 hz2 rfl (by decide) (.slice (some ⟨g8, 0, none⟩) (out.length + 1) cap8) (out.length + 1) _ rfl hown8 ⟨b, off + k * 19, none⟩ (L.length - k) (cap - k) ((L.drop k).flatMap Nd.cells) rfl (by rw [zaA, Hdl.out]) Hnews.out Hone.out hpos (by unfold maxLen; omega) (by omega) hsz8 _ rfl ?_; intro g9 cap9 w9 hown9 hgrow9 hat9 hlt9)
     all_goals go_ret
     all_goals
      refine ⟨⟨_, rfl, ?_⟩, hbw8.trans (Below.grown (Below.refl _ _) hgrow9 hbw8.size (fun q hq => Nat.le_trans hbw.size (hown8.lt q hq).1))⟩
      have hfl : (R.flatMap Nd.cells) = out.flatMap Nd.cells ++ ({ Nd.zero with kind := 7, glue := tg, sub := 10 } : Nd).cells ++ (L.drop k).flatMap Nd.cells := by rw [Hrun2.out, Hsk.out, List.flatMap_append, List.flatMap_cons, List.append_assoc]
      have hRl : R.length = out.length + 1 + (L.length - k) := by rw [Hrun2.out, List.length_append, List.length_cons, Hdl.out]; omega
      unfold NRow
      rw [hfl, hRl]
      exact zas hown9 hbw.size
  ·
   have hi2 : (s.length : Int) <= (i : Int) := by omega
   have hR2 : out = R := by rw [List.drop_eq_nil_of_le (by omega)] at hrun; exact hrun
   subst hR2
   have Hbl := zzh hbl
   have hown' := zas (base' := w.heap.size) hown hbw.size
   clear hrun hit
   go_wp2_with fail
   go_ret
   exact ⟨⟨_, rfl, hown'⟩, hbw.trans (Hbl.out.mono hbw.size)⟩
end
section
attribute [local go_sem ↓] Go.wp_at_zero Go.wp_at_succ
def zca (L : List Nd) (s : List Nat) (g : Gl) : Int := if colP L s = 0 then (if topB g then (if 2000 < (zbU L g s []).length then 6 else 0) else 30) else colP L s
structure PrunPost (w : World) (L : List Nd) (s : List Nat) (g : Gl) (e : Ending) (w' : World) : Prop where
 ex : ∃ v, e = .returned (.tuple #[v, .int .i64 (zca L s g)]) /\ (zca L s g = 0 -> NRow w v (zbU L g s []) w') /\ (zca L s g ≠ 0 -> v = .slice none 0 0)
 below : Below w.heap.size w w'
theorem nrow_form {w w' : World} {v : Value} {R : List Nd} (h : NRow w v R w') : ∃ p c, v = .slice p R.length c := by
 unfold NRow at h
 obtain ⟨_, ⟨rfl, h0⟩ | ⟨g, cap, cur, rfl, _⟩⟩ := h
 · exact ⟨none, 0, by rw [h0]⟩
 · exact ⟨_, cap, rfl⟩
theorem nrow_base {w w0 w' : World} {v : Value} {R : List Nd} (h : NRow w v R w') (hb : w0.heap.size <= w.heap.size) : NRow w0 v R w' := zas h hb
theorem qprune (p0 : Option Addr) (b off cap : Nat) (L : List Nd) (s : List Nat) (g : Gl) (hs : zao L = 0 -> Items L 0 s) (w : World) (hN : NIn w p0 b off cap L) :
 Calls Tryz.prog 68 #[.slice p0 L.length cap, .agg g.arr] w (PrunPost w L s g) := by
 have d0 := heap_alloc_new w (.cells g.arr 51)
 have hb0 : Below w.heap.size w (w.alloc (.cells g.arr 51)) := (Below.refl _ _).alloc (Nat.le_refl _) _
 have HC := zzh (qcolumn p0 b off cap L s hs _ (hN.below hb0))
 have H := zzh hN
 have Hs := zzh hs
 clear hN hs
 go_enter Tryz.func68, Tryz.ntmps68
 go_upto_region 1 with (fail)
 generalize w.alloc (.cells g.arr 51) = w1 at d0 hb0 HC ⊢
 go_wp2_with fail
 refine HC.out.mono ?_
 clear HC
 rintro e w2 ⟨rfl, hb2⟩
 have d2 := (hb2.block w.heap.size (Array.getElem?_eq_some_iff.1 d0).1).trans d0
 have hbw := hb0.trans (hb2.mono hb0.size)
 have a2 : agg? w2 w.heap.size 0 5 = some g.arr := by rw [agg?_blk' d2 0 5 (by simp [Gl.size_arr])]; simp [Gl.arr, Gl.cells]
 have h2 := (Array.getElem?_eq_some_iff.1 d2).1
 clear d0 hb0 hb2
 by_cases hck : colP L s = 0
 ·
  have hs := Hs.out (zav hck)
  have hkd := zdd hs (zav hck)
  have hl := (zaj (zav hck)).1
  have hr := zaQ (zav hck)
  have Hck := zzh hck
  rw [hck]
  clear hck Hs
  have HT := zzh (qtop g w2)
  cases ht : topB g
  ·
   have Hc := zzh (show zca L s g = 30 by unfold zca; rw [if_pos Hck.out, ht]; rfl)
   rw [ht] at HT
   clear ht hs hkd hr
   go_wp2_with fail
   refine HT.out.mono ?_
   clear HT
   rintro e w3 ⟨rfl, hb3⟩
   go_wp2_with fail
   go_ret2
   exact ⟨⟨.slice none 0 0, by rw [Hc.out]; rfl, fun h => absurd (Hc.out.symm.trans h) (by decide), fun _ => rfl⟩, hbw.trans (hb3.mono hbw.size)⟩
  ·
   have hg : g.good = true := by simp [topB] at ht; exact ht.1
   have HP : Hid (∀ W, Below w2.heap.size w2 W -> Calls Tryz.prog 121 #[.slice p0 L.length cap, .agg g.arr] W fun e w' => (∃ v, e = .returned v /\ NRow W v (zbU L g s []) w') /\ Below W.heap.size W w') := zzh fun W hb => qpruned p0 b off cap L s g hs (fun x hx => (hkd x hx).1) hr hl hg W (H.out.below (hbw.trans (hb.mono hbw.size)))
   have Hc : Hid (zca L s g = if 2000 < (zbU L g s []).length then 6 else 0) := zzh (by unfold zca; rw [if_pos Hck.out, ht]; rfl)
   rw [ht] at HT
   clear ht hs hkd hr hg
   go_wp2_with fail
   refine HT.out.mono ?_
   clear HT
   rintro e w3 ⟨rfl, hb3⟩
   have a3 : agg? w3 w.heap.size 0 5 = some g.arr := ((zbc hb3).2.2.1 _ _ _ h2).trans a2
   clear a2 d2
   have HP3 := zzh (HP.out w3 hb3)
   clear HP
   go_wp2_with fail
   refine HP3.out.mono ?_
   clear HP3
   rintro e w4 ⟨⟨v, rfl, hrow⟩, hb4⟩
   obtain ⟨p, c, rfl⟩ := nrow_form hrow
   have hb34 := hb3.trans (hb4.mono hb3.size)
   have hrow2 := nrow_base (w0 := w) hrow (Nat.le_trans hbw.size hb3.size)
   obtain ⟨R, hR⟩ : ∃ R, zbU L g s [] = R := ⟨_, rfl⟩
   have HR := zzh hR
   rw [hR] at hrow2
   have Hrow := zzh hrow2
   rw [hR] at Hc
   rw [hR]
   clear hrow hrow2 a3 hR
   by_cases hbig : 2000 < R.length
   ·
    have hbg : (2000 : Int) < (R.length : Int) := by omega
    have Hc2 := zzh (Hc.out.trans (if_pos hbig))
    clear hbig
    go_wp2_with fail
    go_ret2
    exact ⟨⟨.slice none 0 0, by rw [Hc2.out]; rfl, fun h => absurd (Hc2.out.symm.trans h) (by decide), fun _ => rfl⟩, hbw.trans (hb34.mono hbw.size)⟩
   ·
    have hbg : (R.length : Int) <= (2000 : Int) := by omega
    have Hc2 := zzh (Hc.out.trans (if_neg hbig))
    clear hbig
    go_wp2_with fail
    go_ret2
    exact ⟨⟨_, by rw [Hc2.out]; rfl, fun _ => by rw [HR.out]; exact Hrow.out, fun h => absurd Hc2.out h⟩, hbw.trans (hb34.mono hbw.size)⟩
 ·
  have hck' : ((colP L s : Int) != 0) = true := by simpa using hck
  have Hc := zzh (show zca L s g = colP L s by unfold zca; rw [if_neg hck])
  have Hck := zzh hck
  clear hck
  go_wp2_with fail
  go_ret2
  exact ⟨⟨.slice none 0 0, by rw [Hc.out]; rfl, fun h => absurd (Hc.out.symm.trans h) Hck.out, fun _ => rfl⟩, hbw⟩
end
end Go.Proofs.YtaehkbbdmamfpaaGreatDoor
