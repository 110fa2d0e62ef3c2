/-
  The breaks of a column lie in order, each place once (plain); what Cost tells.
-/
import Derived.Test.YtaehkbbdmamfpaaGreatDoorL6
import Derived.Test.YtaehkbbdmamfpaaGreatDoorB6
import Derived.Sort.AtCall
import Derived.RegionIn
import Derived.StillTailTactics
import Derived.BigQuiet
set_option maxRecDepth 100000
set_option maxHeartbeats 8000000
namespace Go.Proofs.YtaehkbbdmamfpaaGreatDoor
open Go.RowKit
section
theorem zdh (L : List Nd) : ∀ (s : List Nat) (prev : Option Nat), ((zak L prev s).map (·.1)).Sublist s
 | [], _ => List.Sublist.refl _
 | i :: s, prev => by
  rw [zak, List.map_append]
  unfold brk
  split
  · exact (zdh L s (some i)).cons_cons i
  · exact (zdh L s (some i)).cons i
theorem items_pairwise {L : List Nd} {i : Nat} {s : List Nat} (h : Items L i s) : s.Pairwise (· < ·) := by
 induction h with
 | done => exact List.Pairwise.nil
 | step hi hm hs ih =>
  have := zaw _ _ _ hm
  refine List.Pairwise.cons (fun x hx => ?_) ih
  have := (hs.lt x hx).1
  omega
theorem legalP_pair {L : List Nd} {s : List Nat} (h : Items L 0 s) : ((zaE L s).map (·.1)).Pairwise (· < ·) := by
 unfold zaE
 rw [List.map_append, List.pairwise_append]
 refine ⟨(items_pairwise h).sublist (zdh L s none), by simp, fun a ha b hb => ?_⟩
 simp only [List.map_cons, List.map_nil, List.mem_singleton] at hb
 rw [hb]
 exact (h.lt a ((zdh L s none).subset ha)).2
theorem legalP_at {L : List Nd} {s : List Nat} {j : Nat} (hj : j < (zaE L s).length) : ((zaE L s)[j].1 ∈ s \/ (zaE L s)[j].1 = L.length) /\ ((zaE L s)[j] ∈ zak L none s \/ (zaE L s)[j] = (L.length, -10000)) := by
 have hx := List.getElem_mem hj
 generalize (zaE L s)[j] = x at hx
 unfold zaE at hx
 rw [List.mem_append] at hx
 rcases hx with hx | hx
 · exact ⟨.inl (breaksF_mem L s none x hx), .inl hx⟩
 ·
  simp only [List.mem_singleton] at hx
  exact ⟨.inr (by rw [hx]), .inr hx⟩
end
section
open Go.ChangeShapes Go.WideShapes Go.ChangeAt
theorem brk_lt {L : List Nd} : ∀ (s : List Nat) (prev : Option Nat) (x : Nat × Int), x ∈ zak L prev s -> x.2 < 10000
 | [], _, _, h => by cases h
 | i :: s, prev, x, h => by
  rw [zak, List.mem_append] at h
  rcases h with h | h
  ·
   unfold brk at h
   split at h
   ·
    rename_i hq
    simp only [List.mem_singleton] at h
    rw [h]; exact hq
   · cases h
  · exact brk_lt s _ x h
theorem legalP_pen {L : List Nd} {s : List Nat} {j : Nat} (hj : j < (zaE L s).length) : (zaE L s)[j].2 < 10000 := by
 rcases (legalP_at hj).2 with h | h
 · exact brk_lt s none _ h
 · rw [h]; show (-10000 : Int) < 10000; decide
end
section
open Go.ChangeShapes Go.WideShapes Go.ChangeAt Go.Shelf
attribute [local go_sem] Oper.semAt_some
def six (w : World) (v : Value) (tk h d : Int) : World := (((((w.alloc (.cells #[v] 22)).alloc (.cells #[.int .i64 tk] 3)).alloc (.cells #[.int .i64 h] 3)).alloc (.cells #[.int .i64 d] 3)).alloc (.cells #[.int .i64 0] 3)).alloc (.cells #[.int .i64 0] 26)
end
section
theorem costP_le (T : Tt) (h q : Int) (hq : q < 10000) : zdg T h q <= 1073741823 := by
 unfold zdg
 split
 · omega
 split
 · omega
 split
 · omega
 · omega
def atB (L : List Nd) (s : List Nat) (height depth : Int) (x : Nat × Int) : Nat × Int × Int :=
 (x.1, (zap L s x.1 depth).1.nat + (zap L s x.1 depth).2, zdg (zap L s x.1 depth).1 height x.2)
def stepB (L : List Nd) (s : List Nat) (height depth : Int) (o : Option (Nat × Int × Int)) (x : Nat × Int) : Option (Nat × Int × Int) :=
 match o with
 | none => some (atB L s height depth x)
 | some y => if (atB L s height depth x).2.2 <= y.2.2 then some (atB L s height depth x) else some y
def zcR (L : List Nd) (s : List Nat) (height depth : Int) (x : Nat × Int) : Bool := decide (x.2 <= -10000) || (atB L s height depth x).2.2 == 1073741823
def bestF (L : List Nd) (s : List Nat) (height depth : Int) : Option (Nat × Int × Int) -> List (Nat × Int) -> Option (Nat × Int × Int)
 | o, [] => o
 | o, x :: r => if zcR L s height depth x = true then stepB L s height depth o x else bestF L s height depth (stepB L s height depth o x) r
def chosF (L : List Nd) (s : List Nat) (height depth : Int) : Bool -> Nat -> Int -> List (Nat × Int) -> Nat × Int
 | _, b, l, [] => (b, l)
 | f, b, l, x :: r =>
  let c := (atB L s height depth x).2.2
  let y : Nat × Int := if c <= l /\ (c < 1073741823 \/ f = true) then (x.1, c) else (b, l)
  if c = 1073741823 \/ x.2 <= -10000 then y else chosF L s height depth false y.1 y.2 r
theorem chosF_best (L : List Nd) (s : List Nat) (height depth : Int) : ∀ (r : List (Nat × Int)) (y : Nat × Int × Int), y.2.2 < 1073741823 -> (∀ x ∈ r, x.2 < 10000) ->
 (bestF L s height depth (some y) r).map (fun z => (z.1, z.2.2)) = some (chosF L s height depth false y.1 y.2.2 r)
 | [], y, _, _ => rfl
 | x :: r, y, hy, hr => by
  have hc := costP_le (zap L s x.1 depth).1 height x.2 (hr x List.mem_cons_self)
  unfold bestF chosF
  by_cases h1 : (atB L s height depth x).2.2 <= y.2.2
  ·
   have h2 : (atB L s height depth x).2.2 < 1073741823 := by omega
   have e1 : stepB L s height depth (some y) x = some (atB L s height depth x) := by simp only [stepB, if_pos h1]
   rw [e1]
   by_cases h3 : x.2 <= -10000
   ·
    rw [if_pos (by simp [zcR, h3])]
    simp [h1, h2, h3]
    rfl
   ·
    have h4 : ¬ ((atB L s height depth x).2.2 = 1073741823) := by omega
    rw [if_neg (by simp only [zcR, Bool.or_eq_true, decide_eq_true_eq, beq_iff_eq]; rintro (h | h); exact h3 h; exact h4 h)]
    rw [chosF_best L s height depth r _ h2 (fun z hz => hr z (List.mem_cons_of_mem _ hz))]
    simp [h1, h2, h3, h4]
    rfl
  ·
   have e1 : stepB L s height depth (some y) x = some y := by simp only [stepB, if_neg h1]
   rw [e1]
   by_cases h3 : (atB L s height depth x).2.2 = 1073741823 \/ x.2 <= -10000
   ·
    rw [if_pos (by simp only [zcR, Bool.or_eq_true, decide_eq_true_eq, beq_iff_eq]; rcases h3 with h | h; exact .inr h; exact .inl h)]
    simp [h1, h3]
   ·
    rw [if_neg (by simp only [zcR, Bool.or_eq_true, decide_eq_true_eq, beq_iff_eq]; rintro (h | h); exact h3 (.inr h); exact h3 (.inl h))]
    rw [chosF_best L s height depth r y hy (fun z hz => hr z (List.mem_cons_of_mem _ hz))]
    simp [h1, h3]
theorem chosF_all (L : List Nd) (s : List Nat) (height depth : Int) (x : Nat × Int) (r : List (Nat × Int)) (hr : ∀ z ∈ x :: r, z.2 < 10000) :
 (bestF L s height depth none (x :: r)).map (fun z => (z.1, z.2.2)) = some (chosF L s height depth true 0 1073741823 (x :: r)) := by
 have hc : (atB L s height depth x).2.2 <= 1073741823 := costP_le _ _ _ (hr x List.mem_cons_self)
 have e1 : stepB L s height depth none x = some (atB L s height depth x) := rfl
 unfold bestF chosF
 rw [e1]
 by_cases h3 : (atB L s height depth x).2.2 = 1073741823 \/ x.2 <= -10000
 ·
  rw [if_pos (by simp only [zcR, Bool.or_eq_true, decide_eq_true_eq, beq_iff_eq]; rcases h3 with h | h; exact .inr h; exact .inl h)]
  simp [hc, h3]
  rfl
 ·
  rw [if_neg (by simp only [zcR, Bool.or_eq_true, decide_eq_true_eq, beq_iff_eq]; rintro (h | h); exact h3 (.inr h); exact h3 (.inl h))]
  rw [chosF_best L s height depth r _ (by omega) (fun z hz => hr z (List.mem_cons_of_mem _ hz))]
  simp [hc, h3]
  rfl
end
section
open Go.ChangeShapes Go.WideShapes Go.ChangeAt Go.Shelf
attribute [local go_sem] Oper.semAt_some
theorem bestF_app (L : List Nd) (s : List Nat) (h d : Int) : ∀ (pre r : List (Nat × Int)) (o : Option (Nat × Int × Int)), (∀ x ∈ pre, zcR L s h d x = false) -> bestF L s h d o (pre ++ r) = bestF L s h d (pre.foldl (stepB L s h d) o) r
 | [], _, _, _ => rfl
 | x :: p, r, o, hp => by
  rw [List.cons_append, bestF, if_neg (by rw [hp x List.mem_cons_self]; decide), bestF_app L s h d p r _ (fun y hy => hp y (List.mem_cons_of_mem _ hy))]
  rfl
theorem bestF_stop {L : List Nd} {s : List Nat} {h d : Int} {x : Nat × Int} (hx : zcR L s h d x = true) (r : List (Nat × Int)) (o : Option (Nat × Int × Int)) : bestF L s h d o (x :: r) = stepB L s h d o x := by
 rw [bestF, if_pos hx]
def bA (o : Option (Nat × Int × Int)) : Int := match o with | none => 0 | some y => (y.1 : Int)
def bS (o : Option (Nat × Int × Int)) : Int := match o with | none => 0 | some y => y.2.1
def bL (o : Option (Nat × Int × Int)) : Int := match o with | none => 0 | some y => y.2.2
def bestO (L : List Nd) (s : List Nat) (h d : Int) : Option (Nat × Int × Int) := bestF L s h d none (zaE L s)
def zbW (L : List Nd) (s : List Nat) (h d : Int) : Option (Nat × Int × Int) × Int :=
 if colP L s = 0 then (if (zac h && zac d) = true then (bestO L s h d, 0) else (none, 11)) else (none, colP L s)
structure SixB (W : World) (Z : Nat) (v : Value) (h d : Int) (o : Option (Nat × Int × Int)) : Prop where
 k0 : Boxed W Z 22 v
 k1 : Boxed W (Z + 1) 3 (.int .i64 h)
 k2 : Boxed W (Z + 2) 3 (.int .i64 d)
 k3 : Boxed W (Z + 3) 3 (.int .i64 (bA o))
 k4 : Boxed W (Z + 4) 3 (.int .i64 (bS o))
 k5 : Boxed W (Z + 5) 3 (.int .i64 (bL o))
theorem SixB.below {W W' : World} {Z : Nat} {v : Value} {h d : Int} {o : Option (Nat × Int × Int)} (x : SixB W Z v h d o) (hb : Below W.heap.size W W') : SixB W' Z v h d o :=
 ⟨(hb.block _ x.k0.lt).trans x.k0, (hb.block _ x.k1.lt).trans x.k1, (hb.block _ x.k2.lt).trans x.k2, (hb.block _ x.k3.lt).trans x.k3, (hb.block _ x.k4.lt).trans x.k4, (hb.block _ x.k5.lt).trans x.k5⟩
theorem SixB.put {W : World} {Z : Nat} {v : Value} {h d : Int} {o p : Option (Nat × Int × Int)} (x : SixB W Z v h d o) : SixB (((W.setCell ⟨Z + 3, 0, none⟩ (.int .i64 (bA p))).setCell ⟨Z + 4, 0, none⟩ (.int .i64 (bS p))).setCell ⟨Z + 5, 0, none⟩ (.int .i64 (bL p))) Z v h d p :=
 ⟨((x.k0.other (by omega) _).other (by omega) _).other (by omega) _, ((x.k1.other (by omega) _).other (by omega) _).other (by omega) _, ((x.k2.other (by omega) _).other (by omega) _).other (by omega) _, ((Boxed.set _ x.k3).other (by omega) _).other (by omega) _, (Boxed.set _ (x.k4.other (by omega) _)).other (by omega) _, Boxed.set _ ((x.k5.other (by omega) _).other (by omega) _)⟩
def six3 (w : World) (v : Value) (h d : Int) : World := (((((w.alloc (.cells #[v] 22)).alloc (.cells #[.int .i64 h] 3)).alloc (.cells #[.int .i64 d] 3)).alloc (.cells #[.int .i64 0] 3)).alloc (.cells #[.int .i64 0] 3)).alloc (.cells #[.int .i64 0] 3)
theorem six3_boxed (w : World) (v : Value) (h d : Int) : SixB (six3 w v h d) w.heap.size v h d none := by
 have n : ∀ (W : World) (t : TypeId) (x : Value) (k : Nat), k = W.heap.size -> Boxed (W.alloc (.cells #[x] t)) k t x := fun W t x k e => by rw [e]; exact Boxed.new W t x
 refine ⟨?_, ?_, ?_, ?_, ?_, ?_⟩
 · exact (((((n w _ v _ rfl).alloc _).alloc _).alloc _).alloc _).alloc _
 · exact ((((n _ _ _ _ (by simp)).alloc _).alloc _).alloc _).alloc _
 · exact (((n _ _ _ _ (by simp)).alloc _).alloc _).alloc _
 · exact ((n _ _ _ _ (by simp)).alloc _).alloc _
 · exact (n _ _ _ _ (by simp)).alloc _
 · exact n _ _ _ _ (by simp)
theorem six3_below (w : World) (v : Value) (h d : Int) : Below w.heap.size w (six3 w v h d) :=
 ((((((Below.refl _ w).alloc (Nat.le_refl _) _).alloc (by simp) _).alloc (by simp; omega) _).alloc (by simp; omega) _).alloc (by simp; omega) _).alloc (by simp; omega) _
theorem abides_six3 {β : Type} {B m Z : Nat} {v : Value} {h d : Int} {f : β -> Option (Nat × Int × Int)} (hZ : Z + 5 < B) : Abides B m (fun (s : β) W => SixB W Z v h d (f s)) := fun s A C row hs hg hr =>
 ⟨zbA (f := fun _ : β => v) (by omega) s A C row hs.k0 hg hr, zbA (f := fun _ : β => .int .i64 h) (by omega) s A C row hs.k1 hg hr, zbA (f := fun _ : β => .int .i64 d) (by omega) s A C row hs.k2 hg hr, zbA (f := fun s : β => .int .i64 (bA (f s))) (by omega) s A C row hs.k3 hg hr, zbA (f := fun s : β => .int .i64 (bS (f s))) (by omega) s A C row hs.k4 hg hr, zbA (f := fun s : β => .int .i64 (bL (f s))) (by omega) s A C row hs.k5 hg hr⟩
def metB (L : List Nd) (s : List Nat) (h d : Int) (pre : List (Br L s)) : Option (Nat × Int × Int) := (pre.map (·.1)).foldl (stepB L s h d) none
theorem metB_snoc (L : List Nd) (s : List Nat) (h d : Int) (pre : List (Br L s)) (x : Br L s) : metB L s h d (pre ++ [x]) = stepB L s h d (metB L s h d pre) x.1 := by simp [metB]
def BeI (w : World) (Z S Bs : Nat) (v : Value) (h d : Int) {L : List Nd} {s : List Nat} (pre : List (Br L s)) (W : World) : Prop :=
 SixB W Z v h d (metB L s h d pre) /\ Boxed W S 4 (.bool (metB L s h d pre).isSome) /\ Boxed W Bs 22 v /\ Below w.heap.size w W /\ ∀ x ∈ pre, zcR L s h d x.1 = false
def BeX (w : World) (Z : Nat) (v : Value) (h d : Int) {L : List Nd} {s : List Nat} (c : Code) (pre : List (Br L s)) (W : World) : Prop :=
 (c = .exit 0 /\ ∃ (pre' : List (Br L s)) (x : Br L s), pre = pre' ++ [x] /\ (∀ y ∈ pre', zcR L s h d y.1 = false) /\ zcR L s h d x.1 = true) /\ SixB W Z v h d (metB L s h d pre) /\ Below w.heap.size w W
theorem beI_abides {w : World} {Z S Bs B m : Nat} {v : Value} {h d : Int} {L : List Nd} {s : List Nat} (h1 : Z + 5 < B) (hS : S < B) (h2 : Bs < B) (h3 : w.heap.size <= B) : Abides B m (BeI (L := L) (s := s) w Z S Bs v h d) :=
 (abides_six3 h1).and ((zbA (f := fun pre => .bool (metB L s h d pre).isSome) hS).and ((zbA (f := fun _ => v) h2).and ((abides_below (Nat.le_refl _) h3).and (Abides.pure _ _ _))))
theorem beX_abides {w : World} {Z B m : Nat} {v : Value} {h d : Int} {L : List Nd} {s : List Nat} (c : Code) (h1 : Z + 5 < B) (h3 : w.heap.size <= B) : Abides B m (BeX (L := L) (s := s) w Z v h d c) :=
 (Abides.pure _ _ _).and ((abides_six3 h1).and (abides_below (Nat.le_refl _) h3))
theorem metB_stop {L : List Nd} {s : List Nat} {h d : Int} {pre' : List (Br L s)} {x : Br L s} (hp : (pre' ++ [x]).map (·.1) <+: zaE L s) (h1 : ∀ y ∈ pre', zcR L s h d y.1 = false) (h2 : zcR L s h d x.1 = true) : bestO L s h d = metB L s h d (pre' ++ [x]) := by
 obtain ⟨r, hr⟩ := hp
 rw [metB_snoc, bestO, <- hr, List.map_append, List.append_assoc, bestF_app _ _ _ _ _ _ _ (fun y hy => by obtain ⟨z, hz, rfl⟩ := List.mem_map.1 hy; exact h1 z hz)]
 exact bestF_stop h2 _ _
theorem metB_done {L : List Nd} {s : List Nat} {h d : Int} {ys : List (Br L s)} (hy : ys.map (·.1) = zaE L s) (h1 : ∀ y ∈ ys, zcR L s h d y.1 = false) : bestO L s h d = metB L s h d ys := by
 rw [bestO, <- hy, <- List.append_nil (ys.map (·.1)), bestF_app _ _ _ _ _ _ _ (fun y hy => by obtain ⟨z, hz, rfl⟩ := List.mem_map.1 hy; exact h1 z hz)]
 rfl
end
section
open Go.ChangeShapes Go.WideShapes Go.ChangeAt
theorem cell_lt {w : World} {p : Addr} {v : Value} (h : w.cell? p = some v) : p.block < w.heap.size := by
 rcases Nat.lt_or_ge p.block w.heap.size with h1 | h1
 · exact h1
 ·
  have e : w.heap[p.block]? = none := Array.getElem?_eq_none h1
  simp [World.cell?, e] at h
theorem cell_below {w w' : World} {p : Addr} {v : Value} (h : w.cell? p = some v) (hb : Below w.heap.size w w') : w'.cell? p = some v := (hb.cell (cell_lt h)).trans h
theorem zcZ {L : List Nd} {s : List Nat} {h d : Int} {f : Bool} {b : Nat} {l : Int} {x : Nat × Int} {r : List (Nat × Int)} {c : Int} (e : (atB L s h d x).2.2 = c) (hst : c = 1073741823 \/ x.2 <= -10000) :
 chosF L s h d f b l (x :: r) = if c <= l /\ (c < 1073741823 \/ f = true) then (x.1, c) else (b, l) := by
 subst e
 rw [chosF, if_pos hst]
theorem ahead_on {L : List Nd} {s : List Nat} {h d : Int} {f : Bool} {b : Nat} {l : Int} {x : Nat × Int} {r : List (Nat × Int)} {c : Int} (e : (atB L s h d x).2.2 = c) (h1 : c ≠ 1073741823) (h2 : ¬ x.2 <= -10000) :
 chosF L s h d f b l (x :: r) = if c <= l /\ (c < 1073741823 \/ f = true) then chosF L s h d false x.1 c r else chosF L s h d false b l r := by
 subst e
 rw [chosF, if_neg (by rintro (h | h); exact h1 h; exact h2 h)]
 split <;> rfl
theorem qchosen (p0 : Option Addr) (b off cap : Nat) (L : List Nd) (s : List Nat) (hck : colP L s = 0) (hs : Items L 0 s) (height depth : Int) (hdm : (zac height && zac depth) = true) (w : World) (hN : NIn w p0 b off cap L) :
 Calls Tryz.prog 148 #[.slice p0 L.length cap, .int .i64 height, .int .i64 depth] w fun e w' => e = .returned (.tuple #[.int .i64 ((chosF L s height depth true 0 1073741823 (zaE L s)).1 : Nat), .int .i64 (chosF L s height depth true 0 1073741823 (zaE L s)).2]) /\ Below w.heap.size w w' := by
 have H := zzh hN
 have hkd := zdd hs (zav hck)
 have hl := (zaj (zav hck)).1
 have hr := zaQ (zav hck)
 have hnb : ∀ x ∈ s, NdB (nth L x) := fun x hx => nb_of (hr _ (by rw [zaV (hs.lt x hx).2]; exact List.getElem_mem _))
 have HP := zzh (qplaces p0 b off cap L s hs (fun x hx => (hkd x hx).1) hl w hN)
 have hd2 : (-1073741823 <= height /\ height <= 1073741823) /\ -1073741823 <= depth /\ depth <= 1073741823 := by simpa [zac] using hdm
 have HPr : Hid (∀ j (hj : j < (zaE L s).length), ∀ W, Below w.heap.size w W -> Calls Tryz.prog 151 #[.slice p0 L.length cap, .int .i64 ((zaE L s)[j].1 : Nat), .int .i64 (zaE L s)[j].2, .int .i64 height, .int .i64 depth] W fun e w' => e = .returned (.int .i64 (atB L s height depth (zaE L s)[j]).2.2) /\ Below W.heap.size W w') := zzh fun j hj W hb =>
  qprice p0 b off cap L s hs (fun x hx => (hkd x hx).1) hnb hl _ (legalP_at hj).1 _ height depth hd2.2 hd2.1 (by have := legalP_pen hj; omega) W (H.out.below hb)
 have HLe : Hid (∀ j (hj : j < (zaE L s).length), (atB L s height depth (zaE L s)[j]).2.2 <= 1073741823) := zzh fun j hj => costP_le _ _ _ (legalP_pen hj)
 have hll : (zaE L s).length <= 2001 := by have := legalP_len L s; have := hs.len; omega
 clear hck hs hkd hr hnb hl hd2 hdm hN
 generalize zaE L s = P at *
 go_enter Tryz.func148, Tryz.ntmps148
 go_wp2_with fail
 refine HP.out.mono ?_
 clear HP
 rintro e w2 ⟨⟨v, u, rfl, hT⟩, hb2⟩
 have hla : (atsP P).length = P.length := by simp [atsP]
 have hlp : (zcP P).length = P.length := by simp [zcP]
 obtain ⟨pv, gv, cv, ev, lv, zv⟩ := zin_of hT.rv
 obtain ⟨pu, gu, cu, eu, lu, zu⟩ := zin_of hT.ru
 rw [hla] at ev
 rw [hlp] at eu
 subst ev eu
 have ZV : Hid (∀ i (hi : i < P.length), pv = some ⟨gv, 0, none⟩ /\ ∀ W, Below w2.heap.size w2 W -> W.cell? ⟨gv, i, none⟩ = some (.int .i64 (P[i].1 : Nat))) := zzh fun i hi => ⟨zv.hp (fun e => by rw [e] at hla; simp at hla; omega), fun W hb => cell_below (by have := zv.at_ i (by omega); simpa [atsP] using this) hb⟩
 have ZU : Hid (∀ i (hi : i < P.length), pu = some ⟨gu, 0, none⟩ /\ ∀ W, Below w2.heap.size w2 W -> W.cell? ⟨gu, i, none⟩ = some (.int .i64 P[i].2)) := zzh fun i hi => ⟨zu.hp (fun e => by rw [e] at hlp; simp at hlp; omega), fun W hb => cell_below (by have := zu.at_ i (by omega); simpa [zcP] using this) hb⟩
 have hcv : P.length <= cv := by have := zv.cap; omega
 have hcu : P.length <= cu := by have := zu.cap; omega
 clear zv zu lv lu hla hlp hT
 have HB2 := zzh hb2
 clear hb2
 go_wp2_with fail
 go_loopg [10, 11, 12] (P.length + 1) (fun gg t10 t11 t12 wr => ∃ (i bst : Nat) (least : Int), gg = P.length + 1 - i /\ i <= P.length /\ t10 = .int .i64 bst /\ t11 = .int .i64 least /\ t12 = .int .i64 i /\ chosF L s height depth true 0 1073741823 P = chosF L s height depth (decide (i = 0)) bst least (P.drop i) /\ Below w2.heap.size w2 wr)
 case atStart => exact ⟨0, 0, 1073741823, rfl, Nat.zero_le _, rfl, rfl, rfl, rfl, Below.refl _ _⟩
 case round =>
  obtain ⟨i, bst, least, rfl, hi, rfl, rfl, rfl, hv, hbr⟩ := hrel
  have HBR := zzh hbr
  have hi1 : (0 : Int) <= (i : Int) := by omega
  by_cases hin : i < P.length
  ·
   have hi2 : (i : Int) < (P.length : Int) := by omega
   have hi3 : (i : Int) < (cv : Int) := by omega
   have hi4 : (i : Int) < (cu : Int) := by omega
   obtain rfl := (ZV.out i hin).1
   obtain rfl := (ZU.out i hin).1
   have CV := zzh (ZV.out i hin).2
   have CU := zzh (ZU.out i hin).2
   have HPk := zzh (HPr.out i hin)
   have hle := HLe.out i hin
   rw [List.drop_eq_getElem_cons hin] at hv
   generalize P[i] = x at CV CU HPk hle hv
   obtain ⟨c, hc⟩ : ∃ c, (atB L s height depth x).2.2 = c := ⟨_, rfl⟩
   have Hc := zzh hc
   rw [hc] at HPk hle
   have HV := zzh hv
   have Hin := zzh hin
   obtain ⟨t, q⟩ := x
   clear hv hc hin hbr
   by_cases h1 : c <= least
   ·
    by_cases hA : c = 1073741823
    ·
     by_cases h0 : i = 0
     ·
      have hge : 1073741823 <= c := by omega
      have hcb : (c == 1073741823) = true := by simp [hA]
      have hi0 : ((i : Int) == 0) = true := by simp [h0]
      have H0 := zzh h0
      clear h0
      have HA := zzh hA
      clear hA
      have hcw := CV.out wr HBR.out
      have huw := CU.out wr HBR.out
      go_wp2_with fail
      refine wp_region_still_tail 11 (by kernel_rfl) (by kernel_rfl) ?_
      simp only [List.take_succ_cons, List.take_zero, List.drop_succ_cons, List.drop_zero]
      repeat still_step
      refine wpStill_nil ?_
      change wpList _ _ _ _ _ wr.drew
      have HW3 := zzh (HBR.out.drew)
      have HPw := zzh (HPk.out wr.drew (HB2.out.trans (HW3.out.mono HB2.out.size)))
      clear HPk
      go_wp2_with (go_at_call 151; refine HPw.out.mono ?_; rintro e w6 ⟨rfl, hb6⟩; have hb26 : Below w2.heap.size w2 w6 := HW3.out.trans (hb6.mono HW3.out.size); have hcw6 := CV.out w6 hb26; have huw6 := CU.out w6 hb26)
      have HVz := zzh (HV.out.trans ((zcZ Hc.out (by exact .inl HA.out)).trans (by exact if_pos ⟨h1, .inr (by simp [H0.out])⟩)))
      go_ret2
      exact ⟨by rw [HVz.out]; rfl, HB2.out.trans (hb26.mono HB2.out.size)⟩
     ·
      have hge : 1073741823 <= c := by omega
      have hcb : (c == 1073741823) = true := by simp [hA]
      have hi0 : ((i : Int) == 0) = false := by simp [h0]
      have hcw := CV.out wr HBR.out
      have huw := CU.out wr HBR.out
      go_wp2_with fail
      refine wp_region_still_tail 11 (by kernel_rfl) (by kernel_rfl) ?_
      simp only [List.take_succ_cons, List.take_zero, List.drop_succ_cons, List.drop_zero]
      repeat still_step
      refine wpStill_nil ?_
      change wpList _ _ _ _ _ wr.drew
      have HW3 := zzh (HBR.out.drew)
      have HPw := zzh (HPk.out wr.drew (HB2.out.trans (HW3.out.mono HB2.out.size)))
      clear HPk
      go_wp2_with (go_at_call 151; refine HPw.out.mono ?_; rintro e w6 ⟨rfl, hb6⟩; have hb26 : Below w2.heap.size w2 w6 := HW3.out.trans (hb6.mono HW3.out.size); have hcw6 := CV.out w6 hb26; have huw6 := CU.out w6 hb26)
      have HVz := zzh (HV.out.trans ((zcZ Hc.out (by exact .inl hA)).trans (by exact if_neg (fun h => h.2.elim (fun h => by omega) (fun h => h0 (of_decide_eq_true h))))))
      go_ret2
      exact ⟨by rw [HVz.out]; rfl, HB2.out.trans (hb26.mono HB2.out.size)⟩
    ·
     by_cases hq : q <= -10000
     ·
      have hlt : c < 1073741823 := by omega
      have hcb : (c == 1073741823) = false := by simp [hA]
      have hcw := CV.out wr HBR.out
      have huw := CU.out wr HBR.out
      go_wp2_with fail
      refine wp_region_still_tail 11 (by kernel_rfl) (by kernel_rfl) ?_
      simp only [List.take_succ_cons, List.take_zero, List.drop_succ_cons, List.drop_zero]
      repeat still_step
      refine wpStill_nil ?_
      change wpList _ _ _ _ _ wr.drew
      have HW3 := zzh (HBR.out.drew)
      have HPw := zzh (HPk.out wr.drew (HB2.out.trans (HW3.out.mono HB2.out.size)))
      clear HPk
      go_wp2_with (go_at_call 151; refine HPw.out.mono ?_; rintro e w6 ⟨rfl, hb6⟩; have hb26 : Below w2.heap.size w2 w6 := HW3.out.trans (hb6.mono HW3.out.size); have hcw6 := CV.out w6 hb26; have huw6 := CU.out w6 hb26)
      have HVz := zzh (HV.out.trans ((zcZ Hc.out (by exact .inr hq)).trans (by exact if_pos ⟨h1, .inl hlt⟩)))
      go_ret2
      exact ⟨by rw [HVz.out]; rfl, HB2.out.trans (hb26.mono HB2.out.size)⟩
     ·
      have hlt : c < 1073741823 := by omega
      have hcb : (c == 1073741823) = false := by simp [hA]
      have hq2 : -10000 < q := by omega
      have hcw := CV.out wr HBR.out
      have huw := CU.out wr HBR.out
      go_wp2_with fail
      refine wp_region_still_tail 11 (by kernel_rfl) (by kernel_rfl) ?_
      simp only [List.take_succ_cons, List.take_zero, List.drop_succ_cons, List.drop_zero]
      repeat still_step
      refine wpStill_nil ?_
      change wpList _ _ _ _ _ wr.drew
      have HW3 := zzh (HBR.out.drew)
      have HPw := zzh (HPk.out wr.drew (HB2.out.trans (HW3.out.mono HB2.out.size)))
      clear HPk
      go_wp2_with (go_at_call 151; refine HPw.out.mono ?_; rintro e w6 ⟨rfl, hb6⟩; have hb26 : Below w2.heap.size w2 w6 := HW3.out.trans (hb6.mono HW3.out.size); have hcw6 := CV.out w6 hb26; have huw6 := CU.out w6 hb26)
      go_roundg (P.length + 1 - (i + 1))
      case measure => have := Hin.out; omega
      case rel =>
       refine ⟨i + 1, t, c, rfl, Hin.out, rfl, rfl, by go_num, ?_, hb26⟩
       rw [HV.out, ahead_on Hc.out hA (show ¬ q <= -10000 by omega), decide_eq_false (Nat.succ_ne_zero i)]
       exact if_pos ⟨h1, .inl hlt⟩
   ·
    by_cases hA : c = 1073741823
    ·
     have hn : least < c := by omega
     have hcb : (c == 1073741823) = true := by simp [hA]
     have hcw := CV.out wr HBR.out
     have huw := CU.out wr HBR.out
     go_wp2_with fail
     refine wp_region_still_tail 11 (by kernel_rfl) (by kernel_rfl) ?_
     simp only [List.take_succ_cons, List.take_zero, List.drop_succ_cons, List.drop_zero]
     repeat still_step
     refine wpStill_nil ?_
     change wpList _ _ _ _ _ wr.drew
     have HW3 := zzh (HBR.out.drew)
     have HPw := zzh (HPk.out wr.drew (HB2.out.trans (HW3.out.mono HB2.out.size)))
     clear HPk
     go_wp2_with (go_at_call 151; refine HPw.out.mono ?_; rintro e w6 ⟨rfl, hb6⟩; have hb26 : Below w2.heap.size w2 w6 := HW3.out.trans (hb6.mono HW3.out.size); have hcw6 := CV.out w6 hb26; have huw6 := CU.out w6 hb26)
     have HVz := zzh (HV.out.trans ((zcZ Hc.out (by exact .inl hA)).trans (by exact if_neg (fun h => absurd h.1 (by omega)))))
     go_ret2
     exact ⟨by rw [HVz.out]; rfl, HB2.out.trans (hb26.mono HB2.out.size)⟩
    ·
     by_cases hq : q <= -10000
     ·
      have hn : least < c := by omega
      have hcb : (c == 1073741823) = false := by simp [hA]
      have hcw := CV.out wr HBR.out
      have huw := CU.out wr HBR.out
      go_wp2_with fail
      refine wp_region_still_tail 11 (by kernel_rfl) (by kernel_rfl) ?_
      simp only [List.take_succ_cons, List.take_zero, List.drop_succ_cons, List.drop_zero]
      repeat still_step
      refine wpStill_nil ?_
      change wpList _ _ _ _ _ wr.drew
      have HW3 := zzh (HBR.out.drew)
      have HPw := zzh (HPk.out wr.drew (HB2.out.trans (HW3.out.mono HB2.out.size)))
      clear HPk
      go_wp2_with (go_at_call 151; refine HPw.out.mono ?_; rintro e w6 ⟨rfl, hb6⟩; have hb26 : Below w2.heap.size w2 w6 := HW3.out.trans (hb6.mono HW3.out.size); have hcw6 := CV.out w6 hb26; have huw6 := CU.out w6 hb26)
      have HVz := zzh (HV.out.trans ((zcZ Hc.out (by exact .inr hq)).trans (by exact if_neg (fun h => absurd h.1 (by omega)))))
      go_ret2
      exact ⟨by rw [HVz.out]; rfl, HB2.out.trans (hb26.mono HB2.out.size)⟩
     ·
      have hn : least < c := by omega
      have hcb : (c == 1073741823) = false := by simp [hA]
      have hq2 : -10000 < q := by omega
      have hcw := CV.out wr HBR.out
      have huw := CU.out wr HBR.out
      go_wp2_with fail
      refine wp_region_still_tail 11 (by kernel_rfl) (by kernel_rfl) ?_
      simp only [List.take_succ_cons, List.take_zero, List.drop_succ_cons, List.drop_zero]
      repeat still_step
      refine wpStill_nil ?_
      change wpList _ _ _ _ _ wr.drew
      have HW3 := zzh (HBR.out.drew)
      have HPw := zzh (HPk.out wr.drew (HB2.out.trans (HW3.out.mono HB2.out.size)))
      clear HPk
      go_wp2_with (go_at_call 151; refine HPw.out.mono ?_; rintro e w6 ⟨rfl, hb6⟩; have hb26 : Below w2.heap.size w2 w6 := HW3.out.trans (hb6.mono HW3.out.size); have hcw6 := CV.out w6 hb26; have huw6 := CU.out w6 hb26)
      go_roundg (P.length + 1 - (i + 1))
      case measure => have := Hin.out; omega
      case rel =>
       refine ⟨i + 1, bst, least, rfl, Hin.out, rfl, rfl, by go_num, ?_, hb26⟩
       rw [HV.out, ahead_on Hc.out hA (show ¬ q <= -10000 by omega), decide_eq_false (Nat.succ_ne_zero i)]
       exact if_neg (fun h => absurd h.1 (by omega))
  ·
   have hi2 : (P.length : Int) <= (i : Int) := by omega
   have hv2 : chosF L s height depth true 0 1073741823 P = (bst, least) := by rw [hv, List.drop_eq_nil_of_le (by omega)]; rfl
   have HV := zzh hv2
   clear hv hv2 hin
   go_wp2_with fail
   go_ret2
   exact ⟨by rw [HV.out]; rfl, HB2.out.trans (HBR.out.mono HB2.out.size)⟩
theorem stepB_form {L : List Nd} {s : List Nat} {h d : Int} {o : Option (Nat × Int × Int)} {x : Nat × Int} {Z : Nat -> Prop} (ho : ∀ y, o = some y -> Z y.1 /\ y.2.1 = (zap L s y.1 d).1.nat + (zap L s y.1 d).2) (hx : Z x.1) : ∀ y, stepB L s h d o x = some y -> Z y.1 /\ y.2.1 = (zap L s y.1 d).1.nat + (zap L s y.1 d).2 := by
 intro y hy
 cases o with
 | none => cases hy; exact ⟨hx, rfl⟩
 | some z =>
  simp only [stepB] at hy
  split at hy
  · cases hy; exact ⟨hx, rfl⟩
  · cases hy; exact ho _ rfl
theorem bestF_form {L : List Nd} {s : List Nat} {h d : Int} {Z : Nat -> Prop} : ∀ (r : List (Nat × Int)) (o : Option (Nat × Int × Int)), (∀ y, o = some y -> Z y.1 /\ y.2.1 = (zap L s y.1 d).1.nat + (zap L s y.1 d).2) -> (∀ x ∈ r, Z x.1) -> ∀ y, bestF L s h d o r = some y -> Z y.1 /\ y.2.1 = (zap L s y.1 d).1.nat + (zap L s y.1 d).2
 | [], o, ho, _, y, hy => ho y hy
 | x :: r, o, ho, hr, y, hy => by
  rw [bestF] at hy
  split at hy
  · exact stepB_form ho (hr x List.mem_cons_self) y hy
  · exact bestF_form r _ (stepB_form ho (hr x List.mem_cons_self)) (fun z hz => hr z (List.mem_cons_of_mem _ hz)) y hy
theorem bestO_chos (L : List Nd) (s : List Nat) (h d : Int) : ∃ y : Nat × Int × Int, bestO L s h d = some y /\ (y.1 ∈ s \/ y.1 = L.length) /\ y.2.1 = (zap L s y.1 d).1.nat + (zap L s y.1 d).2 /\ chosF L s h d true 0 1073741823 (zaE L s) = (y.1, y.2.2) := by
 have hpen : ∀ z ∈ zaE L s, z.2 < 10000 := fun z hz => by
  obtain ⟨j, hj, rfl⟩ := List.getElem_of_mem hz
  exact legalP_pen hj
 have hmem : ∀ z ∈ zaE L s, z.1 ∈ s \/ z.1 = L.length := fun z hz => by
  obtain ⟨j, hj, rfl⟩ := List.getElem_of_mem hz
  exact (legalP_at hj).1
 have hne : zaE L s ≠ [] := by unfold zaE; simp
 unfold bestO
 generalize zaE L s = P at *
 cases P with
 | nil => exact absurd rfl hne
 | cons x r =>
  have h1 := chosF_all L s h d x r hpen
  cases hb : bestF L s h d none (x :: r) with
  | none => rw [hb] at h1; cases h1
  | some y =>
   rw [hb] at h1
   obtain ⟨h2, h3⟩ := bestF_form (Z := fun t => t ∈ s \/ t = L.length) (x :: r) none (fun y hy => by cases hy) hmem y hb
   exact ⟨y, rfl, h2, h3, (Option.some.inj h1).symm⟩
theorem qbest (p0 : Option Addr) (b off cap : Nat) (L : List Nd) (s : List Nat) (hs : zao L = 0 -> Items L 0 s) (height depth : Int) (w : World) (hN : NIn w p0 b off cap L) :
 Calls Tryz.prog 137 #[.slice p0 L.length cap, .int .i64 height, .int .i64 depth] w fun e w' => e = .returned (.tuple #[.int .i64 (bA (zbW L s height depth).1), .int .i64 (bS (zbW L s height depth).1), .int .i64 (bL (zbW L s height depth).1), .int .i64 (zbW L s height depth).2]) /\ Below w.heap.size w w' := by
 have HC := zzh (qcolumn p0 b off cap L s hs w hN)
 have H := zzh hN
 have Hs := zzh hs
 clear hN hs
 go_enter Tryz.func137, Tryz.ntmps137
 go_wp2_with fail
 refine HC.out.mono ?_
 clear HC
 rintro e w1 ⟨rfl, hb1⟩
 by_cases hck : colP L s = 0
 ·
  have hs := Hs.out (zav hck)
  have hkd := zdd hs (zav hck)
  have hl := (zaj (zav hck)).1
  have hr := zaQ (zav hck)
  have hnb : ∀ x ∈ s, NdB (nth L x) := fun x hx => nb_of (hr _ (by rw [zaV (hs.lt x hx).2]; exact List.getElem_mem _))
  have Hck := zzh hck
  have HD := zzh (qdimen11 height w1)
  have HE := zzh (qdimen11 depth w1)
  rw [hck]
  clear hck
  cases hd1 : zac height
  ·
   have HV := zzh (show zbW L s height depth = (none, 11) by unfold zbW; rw [if_pos Hck.out]; simp [hd1])
   rw [hd1] at HD
   clear hd1 hs hkd hl hr hnb Hs H HE
   go_wp2_with (go_at_call 147; refine HD.out.mono ?_; rintro e w5 ⟨rfl, rfl⟩)
   (try simp only [Exit.inBlock, Exit.then])
   refine bodyPost_ret (zai rfl _ _ _) rfl ?_
   exact ⟨by rw [HV.out]; rfl, hb1⟩
  ·
   rw [hd1] at HD
   cases hd2 : zac depth
   ·
    have HV := zzh (show zbW L s height depth = (none, 11) by unfold zbW; rw [if_pos Hck.out]; simp [hd1, hd2])
    rw [hd2] at HE
    clear hd1 hd2 hs hkd hl hr hnb Hs H
    go_wp2_with (first | (go_at_call_has 147 (Value.int IntKind.i64 height); refine HD.out.mono ?_; rintro e w5 ⟨rfl, rfl⟩) | (go_at_call_has 147 (Value.int IntKind.i64 depth); refine HE.out.mono ?_; rintro e w5 ⟨rfl, rfl⟩))
    (try simp only [Exit.inBlock, Exit.then])
    refine bodyPost_ret (zai rfl _ _ _) rfl ?_
    exact ⟨by rw [HV.out]; rfl, hb1⟩
   ·
    obtain ⟨y, hy, hyz, hym, hyc⟩ := bestO_chos L s height depth
    have HV := zzh (show zbW L s height depth = (some y, 0) by unfold zbW; rw [if_pos Hck.out]; simp [hd1, hd2, hy])
    have hd3 : (-1073741823 <= height /\ height <= 1073741823) /\ -1073741823 <= depth /\ depth <= 1073741823 := by simpa [zac] using (show (zac height && zac depth) = true by rw [hd1, hd2]; rfl)
    have HCh := zzh (qchosen p0 b off cap L s Hck.out hs height depth (by rw [hd1, hd2]; rfl) w1 (H.out.below hb1))
    rw [hyc] at HCh
    have HZ : Hid (∀ W, Below w.heap.size w W -> Calls Tryz.prog 117 #[.slice p0 L.length cap, .int .i64 (y.1 : Nat), .int .i64 depth] W fun e w' => e = .returned (.tuple #[.agg (zap L s y.1 depth).1.arr, .int .i64 (zap L s y.1 depth).2]) /\ Below W.heap.size W w') := zzh fun W hb => qsized p0 b off cap L s hs (fun x hx => (hkd x hx).1) hnb hl y.1 hyz depth hd3.2 W (H.out.below hb)
    have hmb := meas_bound (L := L) y.1 hnb (by have := hs.len; omega) hd3.2
    rw [hd2] at HE
    have Hym := zzh hym
    clear hd1 hd2 hs hkd hl hr hnb Hs H hy hyz hym hyc hd3
    obtain ⟨t, sz, c⟩ := y
    simp only at HCh HZ hmb Hym
    generalize zap L s t depth = mm at HZ hmb Hym
    obtain ⟨T, dd⟩ := mm
    simp only at hmb Hym
    obtain ⟨⟨m1, m2⟩, m3, m4⟩ := hmb
    go_wp2_with (first
     | (go_at_call 148; refine HCh.out.mono ?_; rintro e w6 ⟨rfl, hb6⟩; have hb06 := hb1.trans (hb6.mono hb1.size))
     | (go_at_call 117; refine (HZ.out _ hb06).mono ?_; rintro e w7 ⟨rfl, hb7⟩; go_upto_region 8 with (fail))
     | (go_at_call_has 147 (Value.int IntKind.i64 height); refine HD.out.mono ?_; rintro e w5 ⟨rfl, rfl⟩) | (go_at_call_has 147 (Value.int IntKind.i64 depth); refine HE.out.mono ?_; rintro e w5 ⟨rfl, rfl⟩))
    have hb07 := hb06.trans (hb7.mono hb06.size)
    have aT : TAt (w7.alloc (.cells T.arr 43)) w7.heap.size T := heap_alloc_new w7 _
    have hb08 := hb07.alloc hb07.size (.cells T.arr 43)
    clear hb07 hb7 hb6 hb06 HCh HZ HD HE
    generalize w7.alloc (.cells T.arr 43) = w8 at aT hb08 ⊢
    generalize w7.heap.size = X at aT ⊢
    have a1 : w8.cell? ⟨X, 0, none⟩ = some (.int .i64 T.nat) := zau aT.agg 0 _ rfl
    go_wp2_with fail
    go_quiet (fail)
    go_wp2_with fail
    (try simp only [Exit.inBlock, Exit.then])
    refine bodyPost_ret (zai rfl _ _ _) rfl ?_
    exact ⟨by rw [HV.out]; simp only [bA, bS, bL, Hym.out]; rfl, zdk hb08 _⟩
 ·
  have hck' : ((colP L s : Int) != 0) = true := by simpa using hck
  have HR := zzh (show zbW L s height depth = (none, colP L s) by unfold zbW; rw [if_neg hck])
  clear hck
  go_wp2_with fail
  (try simp only [Exit.inBlock, Exit.then])
  refine bodyPost_ret (zai rfl _ _ _) rfl ?_
  exact ⟨by rw [HR.out]; rfl, hb1⟩
end
end Go.Proofs.YtaehkbbdmamfpaaGreatDoor
