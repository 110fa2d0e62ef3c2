/-
  Inserts, plain: a beginning of a page is a list, and its account is the beginning of the page's. No statement of the seat stands here.
-/
import Derived.Test.YtaehkbbdmamfpaaGreatDoorC5
import Derived.Test.YtaehkbbdmamfpaaGreatDoorI17
import Derived.Deep.QuietTactic
set_option maxRecDepth 100000
set_option maxHeartbeats 8000000
namespace Go.Proofs.YtaehkbbdmamfpaaGreatDoor
open Go.ChangeShapes Go.WideShapes Go.ChangeAt Go.RowKit
theorem run_items {X : List Nd} {i : Nat} {s : List Nat} (h : Items X i s) : ∀ {d d2 : Int} {st2 : List Int}, runC (X.drop i) [] d = some (st2, d2) → st2 = [] := by
  induction h with
  | done =>
    intro d d2 st2 h
    rw [List.drop_length] at h
    unfold runC at h
    cases h
    rfl
  | step hi hm hs ih =>
    rename_i i m r
    intro d d2 st2 h
    have hp := behC_pos _ _ _ hm
    have e : X.drop i = (X.drop i).take m ++ X.drop (i + m) := by rw [← List.drop_drop, List.take_append_drop]
    rw [e, runC_app] at h
    obtain ⟨⟨st3, d3⟩, h1, h2⟩ := Option.bind_eq_some_iff.1 h
    have h3 : st3 = [] := runC_len _ (X.drop (i + m)) [] st3 d d3 h1 (by rw [← e, List.length_take, Nat.min_eq_left hp.2]; exact hm)
    subst h3
    exact ih h2
theorem check_take {L : List Nd} {t : Nat} (hc : checkC L = 0) (ht : t ∈ itsP L ∨ t = L.length) : checkC (L.take t) = 0 := by
  obtain ⟨hl, d, hd, hr⟩ := checkC_zero hc
  have hi := items_take (its_of hc) ht
  rw [← List.take_append_drop t L, runC_app] at hr
  obtain ⟨⟨st2, d2⟩, h1, h2⟩ := Option.bind_eq_some_iff.1 hr
  have h3 : st2 = [] := run_items (X := L.take t) hi (by rw [List.drop_zero]; exact h1)
  subst h3
  obtain ⟨h4, _⟩ := runC_dd _ _ _ _ _ 0 h2
  unfold checkC
  rw [if_neg (by rw [List.length_take]; omega), h1]
  unfold codeC
  simp only [List.length_nil, Nat.lt_irrefl, if_false]
  rw [if_neg (by simp only at h4; omega)]
theorem colP_zero {L : List Nd} {s : List Nat} : colP L s = 0 ↔ checkC L = 0 ∧ s.any (fun i => badN (nth L i)) = false ∧ s.all (fun i => firmN (nth L i)) = true := by
  unfold colP
  constructor
  · intro h
    split at h
    · rename_i hc
      split at h
      · cases h
      · rename_i hb
        split at h
        · rename_i hf; exact ⟨hc, by simpa using hb, hf⟩
        · cases h
    · rename_i hc; exact absurd h hc
  · rintro ⟨h1, h2, h3⟩
    rw [if_pos h1, h2, h3]
    simp
theorem insE_zero {L : List Nd} : ∀ (s : List Nat), (∀ x ∈ s, (nth L x).kind = 13 → colQ (insP L x) = 0) → insE L s = 0
  | [], _ => rfl
  | x :: r, h => by
    unfold insE
    have hr := insE_zero r fun y hy => h y (List.mem_cons_of_mem _ hy)
    split
    · rename_i hk
      rw [if_pos (h x List.mem_cons_self hk)]
      exact hr
    · exact hr
theorem ahead_ahead {s : List Nat} {t x : Nat} (hx : x ∈ aheadP s t) : aheadP (aheadP s t) x = aheadP s x := by
  unfold aheadP at hx ⊢
  induction s with
  | nil => cases hx
  | cons a r ih =>
    rw [List.takeWhile_cons] at hx
    by_cases ha : a = t
    · subst ha; simp at hx
    · rw [if_pos (by simpa using ha)] at hx
      rw [List.takeWhile_cons, if_pos (by simpa using ha)]
      by_cases hax : a = x
      · subst hax; simp
      · rw [List.takeWhile_cons, if_pos (by simpa using hax), List.takeWhile_cons, if_pos (by simpa using hax)]
        rcases List.mem_cons.1 hx with h | h
        · exact absurd h.symm hax
        · rw [ih h]
theorem foldM_same {L L' : List Nd} {depth : Int} {s : List Nat} (h : ∀ x ∈ s, nth L' x = nth L x) : foldM L' depth s = foldM L depth s := by
  unfold foldM
  generalize (⟨.zero, 0, depth⟩ : Mt) = m
  induction s generalizing m with
  | nil => rfl
  | cons a r ih =>
    rw [List.foldl_cons, List.foldl_cons, h a List.mem_cons_self]
    exact ih (fun x hx => h x (List.mem_cons_of_mem _ hx)) _
theorem step_same {L L' : List Nd} {C : List Cl} {depth : Int} {st : As} {x : Nat} (h1 : nth L' x = nth L x) (h2 : insP L' x = insP L x) (h3 : measP L' (itsP L') x depth = measP L (itsP L) x depth) : stepI L' C depth st x = stepI L C depth st x := by
  unfold stepI fitI roomI
  rw [h1, h2, h3]
theorem fold_same {L L' : List Nd} {C : List Cl} {depth : Int} : ∀ (s : List Nat) (p : As × List Sp), (∀ x ∈ s, nth L' x = nth L x) → (∀ x ∈ s, (nth L x).kind = 13 → ∀ st, stepI L' C depth st x = stepI L C depth st x) → s.foldl (addI L' C depth) p = s.foldl (addI L C depth) p
  | [], p, _, _ => rfl
  | x :: s, p, h1, h2 => by
    rw [List.foldl_cons, List.foldl_cons]
    have e : addI L' C depth p x = addI L C depth p x := by
      unfold addI
      rw [h1 x List.mem_cons_self]
      split
      · rename_i hk; rw [h2 x List.mem_cons_self hk]
      · rfl
    rw [e]
    exact fold_same s _ (fun y hy => h1 y (List.mem_cons_of_mem _ hy)) (fun y hy => h2 y (List.mem_cons_of_mem _ hy))
theorem fold_pref {L : List Nd} {C : List Cl} {depth : Int} : ∀ (s : List Nat) (p : As × List Sp), p.2 <+: (s.foldl (addI L C depth) p).2
  | [], p => List.prefix_refl _
  | x :: s, p => by
    rw [List.foldl_cons]
    refine List.IsPrefix.trans ?_ (fold_pref s _)
    unfold addI
    split
    · exact List.prefix_append _ _
    · exact List.prefix_refl _
theorem begin_acc {L : List Nd} {C : List Cl} {t : Nat} (h : AccOk L C) (ht : t ∈ itsP L ∨ t = L.length) : accE (L.take t) C = 0 ∧ ∀ goal depth : Int, (accF (L.take t) C goal depth (itsP (L.take t))).2 <+: (accF L C goal depth (itsP L)).2 := by
  obtain ⟨hc, hb, hf⟩ := colP_zero.1 h.col
  have hs := its_of hc
  have hct := check_take hc ht
  have hit : itsP (L.take t) = aheadP (itsP L) t := itsP_eq (items_take hs ht)
  have hlen : (L.take t).length ≤ t := by rw [List.length_take]; omega
  have hst := its_of hct
  have hlt : ∀ x ∈ itsP (L.take t), x < t := fun x hx => by have := (hst.lt x hx).2; omega
  have hn : ∀ x ∈ itsP (L.take t), nth (L.take t) x = nth L x := fun x hx => nth_take (hlt x hx)
  have hmem : ∀ x ∈ itsP (L.take t), x ∈ itsP L := fun x hx => by rw [hit] at hx; exact ahead_sub x hx
  have hins : ∀ x ∈ itsP (L.take t), insP (L.take t) x = insP L x := fun x hx => by
    obtain ⟨m, hm⟩ := hst.at_ x hx
    exact take_ins (hst.lt x hx).2 hm
  have hcol : colQ (L.take t) = 0 := colP_zero.2 ⟨hct, by
    rw [List.any_eq_false] at hb ⊢
    intro x hx
    rw [hn x hx]
    exact hb x (hmem x hx), by
    rw [List.all_eq_true] at hf ⊢
    intro x hx
    rw [hn x hx]
    exact hf x (hmem x hx)⟩
  refine ⟨?_, fun goal depth => ?_⟩
  · unfold accE
    rw [if_pos h.cls, if_pos hcol]
    refine insE_zero _ fun x hx hk => ?_
    rw [hins x hx]
    exact h.ins x (hmem x hx) (by rw [← hn x hx]; exact hk)
  · unfold accF
    rw [fold_same (L := L) (L' := L.take t) (itsP (L.take t)) _ hn (fun x hx _ st => step_same (hn x hx) (hins x hx) (by
      unfold measP
      rw [hit] at hx ⊢
      rw [ahead_ahead hx]
      rw [foldM_same fun y hy => ?_]
      refine nth_take ?_
      rw [← ahead_ahead hx, ← hit] at hy
      exact hlt y (ahead_sub y hy)))]
    obtain ⟨r, hr⟩ : aheadP (itsP L) t <+: itsP L := List.takeWhile_prefix _
    rw [hit]
    conv => rhs; rw [← hr, List.foldl_append]
    exact fold_pref r _
attribute [local go_sem ↓] Go.wp_at_zero Go.wp_at_succ
def neqlSp (X Y : Operand) (x y : Value) : Sem Value := do eqGuard .neq 49 X Y x y; binOp .neq 49 x y
@[go_sem ↓] theorem execOp_neqSp (ρ : Operand → Value) (dst : Option Tmp) (x y : Operand) (k ty : TypeId) (pos : String) (after : Array Edge) (guard : Option (Nat × Bool)) :
    execOp ρ { dst, op := .binOp .neq 49 x y k, type := ty, pos, after, guard } = (do pure (.value (← neqlSp x y (ρ x) (ρ y)))) := by
  rfl
theorem eqGuardSp : Tryz.prog.eqGuardType Tryz.prog.depth 49 = false := by kernel_rfl
theorem run_eqSp (a : Sp) (w : World) : (Op.equalIn 10000 49 (.agg a.arr) (.agg a.arr)).run Tryz.prog w = .ok true w := by
  simp only [Sp.arr, Sp.cells]
  simp [go_sem]
@[go_sem] theorem run_neqlSp (a : Sp) (X Y : Operand) (w : World) : (neqlSp X Y (.agg a.arr) (.agg a.arr)).run Tryz.prog w = .ok (.bool false) w := by
  unfold neqlSp
  have h1 := run_eqGuard_agg (P := Tryz.prog) w .neq 49 X Y a.arr a.arr eqGuardSp
  have h2 : (binOp .neq 49 (.agg a.arr) (.agg a.arr)).run Tryz.prog w = .ok (.bool false) w := by rw [run_neq_struct, run_eqSp]; rfl
  simp only [Sem.run_bind, h1, Result.andThen_ok, h2]
theorem size_place {L : List Nd} {tk depth : Int} (h : (sizeR L (itsP L) tk depth).2.2 = 0) : ∃ t : Nat, tk = (t : Int) ∧ (t ∈ itsP L ∨ t = L.length) := by
  unfold sizeR at h
  split at h
  · split at h
    · rename_i hf
      unfold foundB at hf
      simp only [Bool.or_eq_true, beq_iff_eq, List.any_eq_true] at hf
      rcases hf with h | ⟨x, hx, e⟩
      · exact ⟨_, h, .inr rfl⟩
      · exact ⟨x, e.symm, .inl hx⟩
    · cases h
  · rename_i hc; exact absurd h hc
theorem accR_zero {L : List Nd} {C : List Cl} {goal depth : Int} (h : (accR L C goal depth).2.2 = 0) : accE L C = 0 ∧ (dimenB goal && dimenB depth) = true := by
  unfold accR at h
  split at h
  · rename_i hE
    split at h
    · rename_i hd; exact ⟨hE, hd⟩
    · cases h
  · rename_i hE; exact absurd h hE
theorem accR_fine {L : List Nd} {C : List Cl} {goal depth : Int} (h : accE L C = 0) (hd : (dimenB goal && dimenB depth) = true) : accR L C goal depth = ((accF L C goal depth (itsP L)).2, (accF L C goal depth (itsP L)).1.t, 0) := by
  unfold accR
  rw [if_pos h, if_pos hd]
theorem ibegin_walk (p0 : Option Addr) (b off cap : Nat) (L : List Nd) (pc : Option Addr) (bc oc cc : Nat) (C : List Cl) (tk goal depth : Int) (w : World) (hN : NIn w p0 b off cap L) (hC : CIn w pc bc oc cc C) :
    Calls Tryz.prog 6 #[.slice p0 L.length cap, .int .i64 tk, .slice pc C.length cc, .int .i64 goal, .int .i64 depth] w fun e w' => e = .returned (.bool true) ∧ Below w.heap.size w w' := by
  have HS := Lib.hid (vsize p0 b off cap L (itsP L) (fun h => its_of h) tk 0 w hN)
  have H := Lib.hid (And.intro hN hC)
  have hcp := hN.cap'
  clear hN hC
  go_enter Tryz.func6, Tryz.ntmps6
  obtain ⟨E, hE⟩ : ∃ E, (sizeR L (itsP L) tk 0).2.2 = E := ⟨_, rfl⟩
  obtain ⟨T1, hT1⟩ : ∃ E, (sizeR L (itsP L) tk 0).1 = E := ⟨_, rfl⟩
  obtain ⟨d1, hd1⟩ : ∃ E, (sizeR L (itsP L) tk 0).2.1 = E := ⟨_, rfl⟩
  rw [hE, hT1, hd1] at HS
  have HE := Lib.hid hE
  clear hE hT1 hd1
  go_upto_region 2 with (go_at_call 26; refine HS.out.mono ?_; clear HS; rintro e w2 ⟨rfl, hb2⟩)
  have hb3 := hb2.trans (((Below.refl w2.heap.size w2).alloc (Nat.le_refl _) (.cells T1.arr 43)).mono hb2.size)
  generalize w2.alloc (.cells T1.arr 43) = w3 at hb3 ⊢
  have HA := Lib.hid (iaccount p0 b off cap L pc bc oc cc C goal depth w3 (H.out.1.below hb3) (H.out.2.below hb3))
  obtain ⟨A, hA⟩ : ∃ A, accR L C goal depth = A := ⟨_, rfl⟩
  rw [hA] at HA
  obtain ⟨sa, Ta, F⟩ := A
  have HAA := Lib.hid hA
  have Hb3 := Lib.hid hb3
  clear hb2 hb3 hA
  go_upto_region 3 with (go_at_call 18; refine HA.out.mono ?_; clear HA; rintro e w4 hp; obtain ⟨v, rfl, hrow4⟩ := hp.out; have hb4 := hp.below; clear hp; obtain ⟨pa, ca, rfl⟩ := owns_form hrow4)
  have hal : Below w4.heap.size w4 (w4.alloc (.cells Ta.arr 43)) := (Below.refl _ _).alloc (Nat.le_refl _) _
  have hb5 := Hb3.out.trans ((hb4.trans (hal.mono hb4.size)).mono Hb3.out.size)
  have hrow5 := ownsRow_below hrow4 hal
  generalize w4.alloc (.cells Ta.arr 43) = w5 at hb5 hrow5 ⊢
  have Hb5 := Lib.hid hb5
  have Hrow5 := Lib.hid hrow5
  clear hb4 hal hb5 hrow4 hrow5 Hb3
  by_cases hE0 : E = 0
  case neg =>
    have hE1 : (E != 0) = true := by simpa using hE0
    go_wp2_with (first | (go_at_call 13; refine (num12_any _ _).mono ?_; rintro e w' ⟨rfl, rfl⟩) | (go_at_call 17; refine (live12_any _).mono ?_; rintro e w6 ⟨rfl, hb6⟩))
    go_ret
    exact ⟨rfl, Hb5.out.trans (hb6.mono Hb5.out.size)⟩
  by_cases hF0 : F = 0
  case neg =>
    have hF1 : (F != 0) = true := by simpa using hF0
    go_wp2_with (first | (go_at_call 13; refine (num12_any _ _).mono ?_; rintro e w' ⟨rfl, rfl⟩) | (go_at_call 17; refine (live12_any _).mono ?_; rintro e w6 ⟨rfl, hb6⟩))
    go_ret
    exact ⟨rfl, Hb5.out.trans (hb6.mono Hb5.out.size)⟩
  subst hE0 hF0
  obtain ⟨t, rfl, ht⟩ := size_place HE.out
  obtain ⟨hac, hdi⟩ := accR_zero (by rw [HAA.out] : (accR L C goal depth).2.2 = 0)
  have hfin := accR_fine hac hdi
  have hok := accE_ok hac
  obtain ⟨hbe, hpf⟩ := begin_acc hok ht
  have hpf := hpf goal depth
  have hbf := accR_fine (L := L.take t) hbe hdi
  obtain ⟨sb, hsb⟩ : ∃ s, (accF (L.take t) C goal depth (itsP (L.take t))).2 = s := ⟨_, rfl⟩
  obtain ⟨Tb, hTb⟩ : ∃ s, (accF (L.take t) C goal depth (itsP (L.take t))).1.t = s := ⟨_, rfl⟩
  have hsa : (accF L C goal depth (itsP L)).2 = sa := by rw [HAA.out] at hfin; exact (congrArg (·.1) hfin).symm
  rw [hsb, hTb] at hbf
  rw [hsa, hsb] at hpf
  have htl : t ≤ L.length := by
    rcases ht with h | h
    · exact Nat.le_of_lt ((its_of (colP_zero.1 hok.col).1).lt t h).2
    · omega
  have htlen : (L.take t).length = t := by rw [List.length_take]; omega
  have hsl : sb.length ≤ 2000 := by
    have hck := (colP_zero.1 hok.col).1
    have h1 := steps_few (L := L.take t) (C := C) (goal := goal) (depth := depth)
    rw [hbf] at h1
    exact Nat.le_trans h1 (its_few (items_take (its_of hck) ht) (by have := (checkC_zero hck).1; omega))
  have hB := iaccount p0 b off cap (L.take t) pc bc oc cc C goal depth w5 ((H.out.1.below Hb5.out).take t) (H.out.2.below Hb5.out)
  rw [htlen, hbf] at hB
  have HB := Lib.hid hB
  have Hpf := Lib.hid hpf
  have hnn := hpf.length_le
  clear hB hbf hpf hfin hac hdi hok hbe hsb hTb hsa ht htlen
  have ht1 : (t : Int) ≤ (L.length : Int) := by omega
  have ht3 : (t : Int) ≤ (cap : Int) := by omega
  have ht2 : (0 : Int) ≤ (t : Int) := by omega
  have hnn1 : (sb.length : Int) ≤ (sa.length : Int) := by omega
  go_upto_region 6 with (first | (go_at_call 13; refine (num12_any _ _).mono ?_; rintro e w' ⟨rfl, rfl⟩) | (go_at_call 18; refine HB.out.mono ?_; clear HB; rintro e w6 hp; obtain ⟨v, rfl, hrow6⟩ := hp.out; have hb6 := hp.below; clear hp; obtain ⟨pb, cb, rfl⟩ := owns_form hrow6))
  have hal : Below w6.heap.size w6 (w6.alloc (.cells Tb.arr 43)) := (Below.refl _ _).alloc (Nat.le_refl _) _
  have hb56 := hb6.trans (hal.mono hb6.size)
  have hrow7 := ownsRow_below hrow6 hal
  generalize w6.alloc (.cells Tb.arr 43) = w7 at hb56 hrow7 ⊢
  have Hra := Lib.hid (ownsRow_below Hrow5.out hb56)
  have Hrb := Lib.hid hrow7
  have Hb7 := Lib.hid (Hb5.out.trans (hb56.mono Hb5.out.size))
  clear hal hb56 hrow6 hrow7 hb6 Hrow5 Hb5
  go_wp2_with (go_at_call 13; refine (num12_any _ _).mono ?_; rintro e w' ⟨rfl, rfl⟩)
  go_loopg [20] (sb.length + 1) (fun gg t20 wr => ∃ i : Nat, gg = sb.length - i + 1 ∧ i ≤ sb.length ∧ t20 = .int .i64 (i : Int) ∧ Below w7.heap.size w7 wr)
  case atStart => exact ⟨0, rfl, Nat.zero_le _, rfl, Below.refl _ _⟩
  case round =>
    obtain ⟨i, rfl, hi, rfl, hb⟩ := hrel
    have hi0 : (0 : Int) ≤ (i : Int) := by omega
    by_cases hlt : i < sb.length
    · have hi1 : (i : Int) < (sb.length : Int) := by omega
      have hi2 : (i : Int) < (sa.length : Int) := by omega
      have hia : i < sa.length := by omega
      have heq : sa[i] = sb[i] := by
        obtain ⟨r, hr⟩ := Hpf.out
        simp only [← hr]
        rw [List.getElem_append_left hlt]
      obtain ⟨ga, xa, ea, _, _, ha⟩ := row_agg Sp.cells (fun _ => rfl) (ownsRow_below Hra.out hb) (by decide) hia
      obtain ⟨gb, xb, eb, _, _, hbb⟩ := row_agg Sp.cells (fun _ => rfl) (ownsRow_below Hrb.out hb) (by decide) hlt
      cases ea
      cases eb
      obtain ⟨sp, hsp⟩ : ∃ sp, sb[i] = sp := ⟨_, rfl⟩
      rw [heq, hsp] at ha
      rw [hsp] at hbb
      have HX : Hid (∀ k, agg? (wr.drewN k) ga (i * 7) 7 = some sp.arr ∧ agg? (wr.drewN k) gb (i * 7) 7 = some sp.arr) := Lib.hid fun k => ⟨ha, hbb⟩
      have a1 : agg? wr ga (i * 7) 7 = some sp.arr := ha
      have a2 : agg? wr gb (i * 7) 7 = some sp.arr := hbb
      have Hb := Lib.hid hb
      clear ha hbb heq hsp hb
      go_upto_region 11 with fail
      go_quiet (fail)
      go_wp2_with fail
      go_roundg (sb.length - (i + 1) + 1)
      case measure => omega
      case rel => exact ⟨i + 1, rfl, hlt, by go_num, below_drewN Hb.out _⟩
    · have Hb := Lib.hid hb
      clear hb
      go_wp2_with (go_at_call 17; refine (live12_any _).mono ?_; rintro e w8 ⟨rfl, hb8⟩)
      go_ret
      exact ⟨rfl, Hb7.out.trans ((Hb.out.trans (hb8.mono Hb.out.size)).mono Hb7.out.size)⟩
end Go.Proofs.YtaehkbbdmamfpaaGreatDoor
