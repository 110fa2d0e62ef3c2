/-
  The breaks of a column lie in order, each place once (plain); what Cost tells.
  The document's Cost.
-/
import Derived.Test.YtkkdopfdoommnaaC5
import Derived.Test.YtkkdopfdoommnaaL6
import Derived.Sort.AtCall
namespace Go.Proofs.Ytkkdopfdoommnaa
open Go.RowKit
theorem breaksF_sub (L : List Nd) : ∀ (s : List Nat) (prev : Option Nat), ((breaksF L prev s).map (·.1)).Sublist s
  | [], _ => List.Sublist.refl _
  | i :: s, prev => by
    rw [breaksF, List.map_append]
    unfold brk
    split
    · exact (breaksF_sub L s (some i)).cons_cons i
    · exact (breaksF_sub L s (some i)).cons i
theorem items_pairwise {L : List Nd} {i : Nat} {s : List Nat} (h : Items L i s) : s.Pairwise (· < ·) := by
  induction h with
  | done => exact List.Pairwise.nil
  | step hi hm hs ih =>
    have := behC_pos _ _ _ hm
    refine List.Pairwise.cons (fun x hx => ?_) ih
    have := (hs.lt x hx).1
    omega
theorem legalP_pair {L : List Nd} {s : List Nat} (h : Items L 0 s) : ((legalP L s).map (·.1)).Pairwise (· < ·) := by
  unfold legalP
  rw [List.map_append, List.pairwise_append]
  refine ⟨(items_pairwise h).sublist (breaksF_sub L s none), by simp, fun a ha b hb => ?_⟩
  simp only [List.map_cons, List.map_nil, List.mem_singleton] at hb
  rw [hb]
  exact (h.lt a ((breaksF_sub L s none).subset ha)).2
theorem legalP_inj {L : List Nd} {s : List Nat} (h : Items L 0 s) {i j : Nat} (hi : i < (legalP L s).length) (hj : j < (legalP L s).length) (e : (legalP L s)[i].1 = (legalP L s)[j].1) : i = j := by
  have hp := legalP_pair h
  rw [List.pairwise_iff_getElem] at hp
  rcases Nat.lt_trichotomy i j with a | a | a
  · have := hp i j (by simpa using hi) (by simpa using hj) a
    simp only [List.getElem_map] at this
    omega
  · exact a
  · have := hp j i (by simpa using hj) (by simpa using hi) a
    simp only [List.getElem_map] at this
    omega
/-- the break at a place -/
def findB (l : List (Nat × Int)) (tk : Int) : Option (Nat × Int) := l.find? fun x => (x.1 : Int) == tk
theorem findB_none {l : List (Nat × Int)} {tk : Int} (h : ∀ j (hj : j < l.length), (l[j].1 : Int) ≠ tk) : findB l tk = none := by
  unfold findB
  rw [List.find?_eq_none]
  intro x hx
  obtain ⟨j, hj, rfl⟩ := List.getElem_of_mem hx
  simpa using h j hj
theorem findB_at {L : List Nd} {s : List Nat} (h : Items L 0 s) {tk : Int} {j : Nat} (hj : j < (legalP L s).length) (e : ((legalP L s)[j].1 : Int) = tk) : findB (legalP L s) tk = some (legalP L s)[j] := by
  unfold findB
  cases hf : (legalP L s).find? fun x => (x.1 : Int) == tk with
  | none =>
    rw [List.find?_eq_none] at hf
    exact absurd (by simpa using e) (hf _ (List.getElem_mem hj))
  | some x =>
    have h1 := List.find?_some hf
    obtain ⟨i, hi, rfl⟩ := List.getElem_of_mem (List.mem_of_find?_eq_some hf)
    have h2 : ((legalP L s)[i].1 : Int) = tk := by simpa using h1
    have := legalP_inj h hi hj (by omega)
    subst this
    rfl
/-- what Cost tells, of a break that is there or not -/
def costF (L : List Nd) (s : List Nat) (height depth : Int) : Option (Nat × Int) → Int × Int
  | none => (0, 3)
  | some x => if (dimenB height && dimenB depth) = true then (costP (measP L s x.1 depth).1 height x.2, 0) else (0, 11)
/-- what Cost tells -/
def costR (L : List Nd) (s : List Nat) (tk height depth : Int) : Int × Int :=
  if colP L s = 0 then costF L s height depth (findB (legalP L s) tk) else (0, colP L s)
theorem legalP_at {L : List Nd} {s : List Nat} {j : Nat} (hj : j < (legalP L s).length) : ((legalP L s)[j].1 ∈ s ∨ (legalP L s)[j].1 = L.length) ∧ ((legalP L s)[j] ∈ breaksF L none s ∨ (legalP L s)[j] = (L.length, -10000)) := by
  have hx := List.getElem_mem hj
  generalize (legalP L s)[j] = x at hx
  unfold legalP at hx
  rw [List.mem_append] at hx
  rcases hx with hx | hx
  · exact ⟨.inl (breaksF_mem L s none x hx), .inl hx⟩
  · simp only [List.mem_singleton] at hx
    exact ⟨.inr (by rw [hx]), .inr hx⟩
end Go.Proofs.Ytkkdopfdoommnaa
namespace Go.Proofs.Ytkkdopfdoommnaa
open Go.ChangeShapes Go.WideShapes Go.ChangeAt Go.RowKit
theorem brk_lt {L : List Nd} : ∀ (s : List Nat) (prev : Option Nat) (x : Nat × Int), x ∈ breaksF L prev s → x.2 < 10000
  | [], _, _, h => by cases h
  | i :: s, prev, x, h => by
    rw [breaksF, List.mem_append] at h
    rcases h with h | h
    · unfold brk at h
      split at h
      · rename_i hq
        simp only [List.mem_singleton] at h
        rw [h]; exact hq
      · cases h
    · exact brk_lt s _ x h
theorem legalP_pen {L : List Nd} {s : List Nat} {j : Nat} (hj : j < (legalP L s).length) : (legalP L s)[j].2 < 10000 := by
  rcases (legalP_at hj).2 with h | h
  · exact brk_lt s none _ h
  · rw [h]; show (-10000 : Int) < 10000; decide
set_option maxRecDepth 100000 in
set_option maxHeartbeats 8000000 in
theorem qcost (p0 : Option Addr) (b off cap : Nat) (L : List Nd) (s : List Nat) (hs : checkC L = 0 → Items L 0 s) (tk height depth : Int) (w : World) (hN : NIn w p0 b off cap L) :
    Calls Try.prog 44 #[.slice p0 L.length cap, .int .i64 tk, .int .i64 height, .int .i64 depth] w fun e w' => e = .returned (.tuple #[.int .i64 (costR L s tk height depth).1, .int .i64 (costR L s tk height depth).2]) ∧ Below w.heap.size w w' := by
  have HC := Lib.hid (qcolumn p0 b off cap L s hs w hN)
  have H := Lib.hid hN
  have Hs := Lib.hid hs
  clear hN hs
  go_enter Try.func44, Try.ntmps44
  go_wp2_with fail
  refine HC.out.mono ?_
  clear HC
  rintro e w1 ⟨rfl, hb1⟩
  by_cases hck : colP L s = 0
  · have hs := Hs.out (colP_check hck)
    have hkd := items_kind0 hs (colP_check hck)
    have hl := (checkC_zero (colP_check hck)).1
    have hr := check_right (colP_check hck)
    have hnb : ∀ x ∈ s, NdB (nth L x) := fun x hx => nb_of (hr _ (by rw [nth_get (hs.lt x hx).2]; exact List.getElem_mem _))
    have HP := Lib.hid (qplaces p0 b off cap L s hs (fun x hx => (hkd x hx).1) hl w1 (H.out.below hb1))
    have HPr : Hid (∀ j (hj : j < (legalP L s).length), (dimenB height && dimenB depth) = true → ∀ W, Below w.heap.size w W → Calls Try.prog 74 #[.slice p0 L.length cap, .int .i64 ((legalP L s)[j].1 : Nat), .int .i64 (legalP L s)[j].2, .int .i64 height, .int .i64 depth] W fun e w' => e = .returned (.int .i64 (costP (measP L s (legalP L s)[j].1 depth).1 height (legalP L s)[j].2)) ∧ Below W.heap.size W w') := Lib.hid fun j hj hd W hb => by
      have hd2 : (-1073741823 ≤ height ∧ height ≤ 1073741823) ∧ -1073741823 ≤ depth ∧ depth ≤ 1073741823 := by simpa [dimenB] using hd
      exact qprice p0 b off cap L s hs (fun x hx => (hkd x hx).1) hnb hl _ (legalP_at hj).1 _ height depth hd2.2 hd2.1 (by have := legalP_pen hj; omega) W (H.out.below hb)
    have HR := Lib.hid (show costR L s tk height depth = costF L s height depth (findB (legalP L s) tk) by unfold costR; rw [if_pos hck])
    have hll : (legalP L s).length ≤ 2001 := by have := legalP_len L s; have := hs.len; omega
    have HF : Hid (∀ j (hj : j < (legalP L s).length), ((legalP L s)[j].1 : Int) = tk → findB (legalP L s) tk = some (legalP L s)[j]) := Lib.hid fun j hj e => findB_at hs hj e
    rw [hck]
    clear hck hs hkd Hs hr hnb hl
    generalize legalP L s = P at *
    go_wp2_with fail
    refine HP.out.mono ?_
    clear HP
    rintro e w2 ⟨⟨v, u, rfl, hT⟩, hb2⟩
    have hla : (atsP P).length = P.length := by simp [atsP]
    have hlp : (pensP P).length = P.length := by simp [pensP]
    obtain ⟨pv, gv, cv, ev, lv, zv⟩ := zin_of hT.rv
    obtain ⟨pu, gu, cu, eu, lu, zu⟩ := zin_of hT.ru
    rw [hla] at ev
    rw [hlp] at eu
    subst ev eu
    have hbw := hb1.trans (hb2.mono hb1.size)
    have ZV : Hid (∀ i (hi : i < P.length), pv = some ⟨gv, 0, none⟩ ∧ w2.cell? ⟨gv, i, none⟩ = some (.int .i64 (P[i].1 : Nat))) := Lib.hid fun i hi => ⟨zv.hp (fun e => by rw [e] at hla; simp at hla; omega), by have := zv.at_ i (by omega); simpa [atsP] using this⟩
    have ZU : Hid (∀ i (hi : i < P.length), pu = some ⟨gu, 0, none⟩ ∧ w2.cell? ⟨gu, i, none⟩ = some (.int .i64 P[i].2)) := Lib.hid fun i hi => ⟨zu.hp (fun e => by rw [e] at hlp; simp at hlp; omega), by have := zu.at_ i (by omega); simpa [pensP] using this⟩
    have hcv : P.length ≤ cv := by have := zv.cap; omega
    have hcu : P.length ≤ cu := by have := zu.cap; omega
    clear zv zu lv lu hla hlp hT hb1 hb2
    have HBW := Lib.hid hbw
    clear hbw
    go_wp2_with fail
    go_loopg [13, 14] (P.length + 1) (fun gg t13 t14 wr => ∃ (i : Nat) (k : Int), gg = P.length + 1 - i ∧ i ≤ P.length ∧ t13 = .int .i64 k ∧ t14 = .int .i64 i ∧ ((k = -1 ∧ ∀ j (hj : j < P.length), j < i → (P[j].1 : Int) ≠ tk) ∨ ∃ (j : Nat) (hj : j < P.length), k = j ∧ (P[j].1 : Int) = tk) ∧ wr = w2)
    case atStart => exact ⟨0, -1, rfl, Nat.zero_le _, rfl, rfl, .inl ⟨rfl, fun j _ h => by omega⟩, rfl⟩
    case round =>
      obtain ⟨i, k, rfl, hi, rfl, rfl, hk, rfl⟩ := hrel
      have Hk := Lib.hid hk
      clear hk
      have hi1 : (0 : Int) ≤ (i : Int) := by omega
      by_cases hin : i < P.length
      · have hi2 : (i : Int) < (P.length : Int) := by omega
        obtain rfl := (ZV.out i hin).1
        have Hin := Lib.hid hin
        obtain ⟨x, hx⟩ : ∃ x, P[i].1 = x := ⟨_, rfl⟩
        have cI : wr.cell? ⟨gv, i, none⟩ = some (.int .i64 (x : Nat)) := by rw [← hx]; exact (ZV.out i hin).2
        have Hx := Lib.hid (show ∃ h : i < P.length, P[i].1 = x from ⟨hin, hx⟩)
        clear hx hin
        cases h2 : ((x : Int) == tk)
        · go_wp2_with fail
          go_roundg (P.length + 1 - (i + 1))
          case measure => have := Hin.out; omega
          case rel =>
            refine ⟨i + 1, k, rfl, Hin.out, rfl, by go_num, ?_, rfl⟩
            rcases Hk.out with ⟨e, h⟩ | h
            · refine .inl ⟨e, fun j hj hji => ?_⟩
              by_cases hij : j = i
              · subst hij
                obtain ⟨_, hx⟩ := Hx.out
                rw [hx]
                simpa using h2
              · exact h j hj (by omega)
            · exact .inr h
        · go_wp2_with fail
          go_roundg (P.length + 1 - (i + 1))
          case measure => have := Hin.out; omega
          case rel =>
            obtain ⟨hh, hx⟩ := Hx.out
            exact ⟨i + 1, i, rfl, Hin.out, rfl, by go_num, .inr ⟨i, hh, rfl, by rw [hx]; simpa using h2⟩, rfl⟩
      · have hi2 : (P.length : Int) ≤ (i : Int) := by omega
        rcases Hk.out with ⟨rfl, h⟩ | ⟨j, hj, rfl, hje⟩
        · have HRz := Lib.hid (show costR L s tk height depth = (0, 3) by rw [HR.out, findB_none fun j hj => h j hj (by omega)]; rfl)
          clear h hin
          go_wp2_with fail
          go_ret2
          exact ⟨by rw [HRz.out]; rfl, HBW.out⟩
        · have hfo := HR.out.trans (congrArg _ (HF.out j hj hje))
          have HPj := Lib.hid fun (hd : (dimenB height && dimenB depth) = true) => HPr.out j hj hd wr HBW.out
          obtain rfl := (ZU.out j hj).1
          have cU := (ZU.out j hj).2
          have hj1 : (0 : Int) ≤ (j : Int) := by omega
          have hj2 : (j : Int) < (P.length : Int) := by omega
          have hj3 : (j : Int) < (cu : Int) := by omega
          clear HF HPr
          generalize P[j] = x at cU HPj hfo hje
          obtain ⟨t, q⟩ := x
          simp only at hje
          subst hje
          have Hfo := Lib.hid hfo
          have HD := Lib.hid (qdimen11 height wr)
          have HE := Lib.hid (qdimen11 depth wr)
          clear hfo hin
          cases hd1 : dimenB height
          · have HRz := Lib.hid (show costR L s t height depth = (0, 11) by rw [Hfo.out]; simp [costF, hd1])
            rw [hd1] at HD
            clear hd1
            go_wp2_with (go_at_call 71; refine HD.out.mono ?_; rintro e w5 ⟨rfl, rfl⟩)
            go_ret2
            exact ⟨by rw [HRz.out]; rfl, HBW.out⟩
          · rw [hd1] at HD
            cases hd2 : dimenB depth
            · have HRz := Lib.hid (show costR L s t height depth = (0, 11) by rw [Hfo.out]; simp [costF, hd2])
              rw [hd2] at HE
              clear hd1 hd2
              go_wp2_with (first | (go_at_call_has 71 (Value.int IntKind.i64 height); refine HD.out.mono ?_; rintro e w5 ⟨rfl, rfl⟩) | (go_at_call_has 71 (Value.int IntKind.i64 depth); refine HE.out.mono ?_; rintro e w5 ⟨rfl, rfl⟩))
              go_ret2
              exact ⟨by rw [HRz.out]; rfl, HBW.out⟩
            · have HRz := Lib.hid (show costR L s t height depth = (costP (measP L s t depth).1 height q, 0) by rw [Hfo.out]; simp [costF, hd1, hd2])
              have HPk := Lib.hid (HPj.out (by rw [hd1, hd2]; rfl))
              rw [hd2] at HE
              clear hd1 hd2 HPj Hfo
              go_wp2_with (first | (go_at_call 74; refine HPk.out.mono ?_; rintro e w6 ⟨rfl, hb6⟩) | (go_at_call_has 71 (Value.int IntKind.i64 height); refine HD.out.mono ?_; rintro e w5 ⟨rfl, rfl⟩) | (go_at_call_has 71 (Value.int IntKind.i64 depth); refine HE.out.mono ?_; rintro e w5 ⟨rfl, rfl⟩))
              go_ret2
              exact ⟨by rw [HRz.out]; rfl, HBW.out.trans (hb6.mono HBW.out.size)⟩
  · have hck' : ((colP L s : Int) != 0) = true := by simpa using hck
    have HR := Lib.hid (show costR L s tk height depth = (0, colP L s) by unfold costR; rw [if_neg hck])
    clear hck
    go_wp2_with fail
    go_ret2
    exact ⟨by rw [HR.out]; rfl, hb1⟩
end Go.Proofs.Ytkkdopfdoommnaa
