/-
  Of legal breaks those that a list of choices takes: the law's some.
  Layer 9: what is chosen and what any way costs (plain).
-/
import Derived.Test.YtiijpbfkchokaaaG4
import Derived.Test.YtiijpbfkchokaaaOpen3
namespace Go.Proofs.Ytiijpbfkchokaaa
open Go.ChangeShapes Go.WideShapes Go.ChangeAt Go.RowKit
attribute [local go_sem ↓] Go.wp_at_zero Go.wp_at_succ
/-- the breaks that are taken -/
def someW : List (Nat × Int) → List Bool → List Int
  | [], _ => []
  | x :: r, [] => if x.2 ≤ -10000 then (x.1 : Int) :: someW r [] else someW r []
  | x :: r, b :: t => if x.2 ≤ -10000 ∨ b = true then (x.1 : Int) :: someW r t else someW r t
theorem someW_mem : ∀ {B : List (Nat × Int)} {t : List Bool} {y : Int}, y ∈ someW B t → ∃ x ∈ B, y = (x.1 : Int)
  | [], _, _, h => by cases h
  | x :: r, [], y, h => by
    unfold someW at h
    split at h
    · rcases List.mem_cons.1 h with h1 | h1
      · exact ⟨x, List.mem_cons_self, h1⟩
      · obtain ⟨z, h2, h3⟩ := someW_mem h1
        exact ⟨z, List.mem_cons_of_mem _ h2, h3⟩
    · obtain ⟨z, h2, h3⟩ := someW_mem h
      exact ⟨z, List.mem_cons_of_mem _ h2, h3⟩
  | x :: r, b :: t, y, h => by
    unfold someW at h
    split at h
    · rcases List.mem_cons.1 h with h1 | h1
      · exact ⟨x, List.mem_cons_self, h1⟩
      · obtain ⟨z, h2, h3⟩ := someW_mem h1
        exact ⟨z, List.mem_cons_of_mem _ h2, h3⟩
    · obtain ⟨z, h2, h3⟩ := someW_mem h
      exact ⟨z, List.mem_cons_of_mem _ h2, h3⟩
theorem someW_len : ∀ (B : List (Nat × Int)) (t : List Bool), (someW B t).length ≤ B.length
  | [], _ => Nat.le_refl _
  | x :: r, [] => by
    have := someW_len r []
    unfold someW
    split <;> simp only [List.length_cons] <;> omega
  | x :: r, b :: t => by
    have := someW_len r t
    unfold someW
    split <;> simp only [List.length_cons] <;> omega
theorem takesW_skip {x : Nat × Int} {r : List (Nat × Int)} {c : List Int} (hf : ¬ x.2 ≤ -10000) (hc : (x.1 : Int) ∉ c) (h : takesW r c = true) : takesW (x :: r) c = true := by
  cases c with
  | nil => rw [takesW, if_neg hf]; exact h
  | cons y t =>
    rw [takesW, if_neg (fun e => hc (by rw [e]; exact List.mem_cons_self)), if_neg hf]
    exact h
theorem takesW_some : ∀ {B : List (Nat × Int)} (t : List Bool), Rises B → takesW B (someW B t) = true
  | [], _, _ => rfl
  | x :: r, [], h => by
    obtain ⟨h1, h2⟩ := List.pairwise_cons.1 h
    unfold someW
    split
    · rw [takesW, if_pos rfl]
      exact takesW_some [] h2
    · rename_i hf
      refine takesW_skip hf (fun hm => ?_) (takesW_some [] h2)
      obtain ⟨z, hz, e⟩ := someW_mem hm
      have := h1 z hz
      omega
  | x :: r, b :: t, h => by
    obtain ⟨h1, h2⟩ := List.pairwise_cons.1 h
    unfold someW
    split
    · rw [takesW, if_pos rfl]
      exact takesW_some t h2
    · rename_i hf
      refine takesW_skip (fun e => hf (.inl e)) (fun hm => ?_) (takesW_some t h2)
      obtain ⟨z, hz, e⟩ := someW_mem hm
      have := h1 z hz
      omega
theorem someW_at {B : List (Nat × Int)} {t : List Bool} {i : Nat} {x : Nat × Int} (h : B[i]? = some x) : someW (B.drop i) (t.drop i) = if x.2 ≤ -10000 ∨ t[i]? = some true then (x.1 : Int) :: someW (B.drop (i + 1)) (t.drop (i + 1)) else someW (B.drop (i + 1)) (t.drop (i + 1)) := by
  obtain ⟨hi, hx⟩ := List.getElem?_eq_some_iff.1 h
  rw [List.drop_eq_getElem_cons hi, hx]
  rcases Nat.lt_or_ge i t.length with h1 | h1
  · rw [List.drop_eq_getElem_cons h1, List.getElem?_eq_getElem h1]
    rw [someW]
    simp only [Option.some.injEq]
  · have e1 : t.drop i = [] := List.drop_eq_nil_of_le h1
    have e2 : t.drop (i + 1) = [] := List.drop_eq_nil_of_le (Nat.le_succ_of_le h1)
    rw [e1, e2, List.getElem?_eq_none h1, someW]
    simp
set_option maxRecDepth 100000 in
set_option maxHeartbeats 8000000 in
theorem vsome (B : List (Nat × Int)) (hB : B.length ≤ 3000) (pa : Option Addr) (ga ca : Nat) (pq : Option Addr) (gq cq : Nat) (pt : Option Addr) (bt ot ct : Nat) (t : List Bool) (w : World) (ha : ZIn w pa ga ca (atsI B)) (hq : ZIn w pq gq cq (pensI B)) (ht : BIn w pt bt ot ct t) :
    Calls Try.prog 11 #[.slice pa B.length ca, .slice pq B.length cq, .slice pt t.length ct] w fun e w' => ∃ v, e = .returned v ∧ w'.ownsRow w.heap.size 3 1 v (someW B t).length (ints (someW B t)) ∧ Below w.heap.size w w' := by
  have HA : Hid (∀ W, Below w.heap.size w W → ∀ i x, B[i]? = some x → (pa = some ⟨ga, 0, none⟩ ∧ B.length ≤ ca ∧ W.cell? ⟨ga, i, none⟩ = some (.int .i64 x.1)) ∧ (pq = some ⟨gq, 0, none⟩ ∧ B.length ≤ cq ∧ W.cell? ⟨gq, i, none⟩ = some (.int .i64 x.2))) := Lib.hid fun W hb i x hx => by
    obtain ⟨hi, hxx⟩ := List.getElem?_eq_some_iff.1 hx
    have hne : B ≠ [] := by intro e; rw [e] at hi; simp at hi
    have hla : (atsI B).length = B.length := by simp [atsI]
    have hlq : (pensI B).length = B.length := by simp [pensI]
    have nea : atsI B ≠ [] := by intro e; rw [e] at hla; exact hne (List.length_eq_zero_iff.1 hla.symm)
    have neq : pensI B ≠ [] := by intro e; rw [e] at hlq; exact hne (List.length_eq_zero_iff.1 hlq.symm)
    refine ⟨⟨ha.hp nea, by have := ha.cap; omega, ?_⟩, ⟨hq.hp neq, by have := hq.cap; omega, ?_⟩⟩
    · rw [cell_below9 (ha.at_ i (by omega)) hb]
      simp [atsI, hxx]
    · rw [cell_below9 (hq.at_ i (by omega)) hb]
      simp [pensI, hxx]
  have HT : Hid (∀ W, Below w.heap.size w W → ∀ i (hi : i < t.length), pt = some ⟨bt, ot, none⟩ ∧ W.cell? ⟨bt, ot + i, none⟩ = some (.bool t[i])) := Lib.hid fun W hb i hi => by
    refine ⟨ht.hp (by intro e; rw [e] at hi; simp at hi), cell_below9 (ht.at_ i hi) hb⟩
  have hct := ht.cap
  obtain ⟨n, hn⟩ : ∃ n, B.length = n := ⟨_, rfl⟩
  obtain ⟨m, hm⟩ : ∃ m, t.length = m := ⟨_, rfl⟩
  rw [hn] at hB HA ⊢
  rw [hm] at hct ⊢
  have Hn := Lib.hid hn
  have Hm := Lib.hid hm
  obtain ⟨i0, hi0', hz0, hz1, hz2'⟩ := info_parts info_intb
  clear ha hq ht hn hm
  go_enter Try.func11, Try.ntmps11
  go_wp2_with fail
  go_loopg [7, 8] (n + 1) (fun gg t7 t8 wr => ∃ (k : Nat) (acc : List Int), gg = n + 1 - k ∧ k ≤ n ∧ acc.length ≤ k ∧ t8 = .int .i64 k ∧ acc ++ someW (B.drop k) (t.drop k) = someW B t ∧ wr.ownsRow w.heap.size 3 1 t7 acc.length (ints acc) ∧ Below w.heap.size w wr)
  case atStart => exact ⟨0, [], rfl, Nat.zero_le _, Nat.le_refl _, rfl, by simp, World.ownsRow_nil _ _ _ _, Below.refl _ _⟩
  case round =>
    obtain ⟨k, acc, rfl, hk, hak, rfl, hs, hrow, hb⟩ := hrel
    have hk0 : (0 : Int) ≤ (k : Int) := by omega
    by_cases hlt : k < n
    · have hk1 : (k : Int) < (n : Int) := by omega
      have hlt2 : decide (k < n) = true := decide_eq_true hlt
      obtain ⟨x, hx⟩ : ∃ x, B[k]? = some x := ⟨_, List.getElem?_eq_getElem (by rw [Hn.out]; exact hlt)⟩
      obtain ⟨⟨rfl, hca, cA⟩, ⟨rfl, hcq, cQ⟩⟩ := HA.out wr hb k x hx
      rw [someW_at hx] at hs
      obtain ⟨to_, q⟩ := x
      simp only at cA cQ hs
      obtain ⟨c, hc⟩ : ∃ c, (decide (q ≤ -10000) || (decide (k < m) && t.getD k false)) = c := ⟨_, rfl⟩
      have hcc : (q ≤ -10000 ∨ t[k]? = some true) ↔ c = true := by
        rw [← hc]
        simp only [Bool.or_eq_true, decide_eq_true_eq, Bool.and_eq_true]
        rw [List.getD_eq_getElem?_getD]
        constructor
        · rintro (h | h)
          · exact .inl h
          · have := (List.getElem?_eq_some_iff.1 h).1
            exact .inr ⟨by rw [← Hm.out]; exact this, by rw [h]; rfl⟩
        · rintro (h | ⟨h1, h2⟩)
          · exact .inl h
          · right
            rw [List.getElem?_eq_getElem (by rw [Hm.out]; exact h1)] at h2 ⊢
            simpa using h2
      have Hs : Hid ((if c = true then acc ++ [(to_ : Int)] else acc) ++ someW (B.drop (k + 1)) (t.drop (k + 1)) = someW B t) := Lib.hid (by
        rw [← hs]
        by_cases h : c = true
        · rw [if_pos h, if_pos (hcc.2 h)]; simp
        · rw [if_neg h, if_neg (fun e => h (hcc.1 e))])
      have H := Lib.hid (And.intro hrow (And.intro hb hc))
      obtain ⟨po, co, rfl⟩ := owns_form hrow
      clear hx hs hcc hrow hb hc hlt
      go_upto_region 5 with (fail)
      go_cut [31] from 15 to 31 (fun s31 wx => s31 = .bool c ∧ wx = wr)
      case first =>
        have hc := H.out.2.2
        cases hq : decide (q ≤ -10000)
        · rw [hq, Bool.false_or] at hc
          by_cases hkm : k < m
          · have hkm2 : decide (k < m) = true := decide_eq_true hkm
            have hkm3 : (k : Int) < (m : Int) := by omega
            rw [hkm2, Bool.true_and] at hc
            have hkt : k < t.length := by rw [Hm.out]; exact hkm
            obtain ⟨rfl, cT⟩ := HT.out wr H.out.2.1 k hkt
            have e1 : t[k] = c := by rw [← hc, List.getD_eq_getElem?_getD, List.getElem?_eq_getElem hkt]; rfl
            rw [e1] at cT
            clear hc hkt e1 hkm
            go_wp2_with fail
            go_meet
            exact ⟨rfl, rfl⟩
          · have hkm2 : decide (k < m) = false := decide_eq_false hkm
            rw [hkm2, Bool.false_and] at hc
            subst hc
            clear hkm
            go_wp2_with fail
            go_meet
            exact ⟨rfl, rfl⟩
        · rw [hq, Bool.true_or] at hc
          subst hc
          go_wp2_with fail
          go_meet
          exact ⟨rfl, rfl⟩
      case rest =>
        obtain ⟨rfl, rfl⟩ := hcut
        cases hcb : c
        · subst hcb
          have Hs2 : Hid (acc ++ someW (B.drop (k + 1)) (t.drop (k + 1)) = someW B t) := Lib.hid (by have := Hs.out; rwa [if_neg (by decide)] at this)
          clear Hs cA cQ
          go_wp2_with fail
          go_roundg (n + 1 - (k + 1))
          case measure => omega
          case rel => exact ⟨k + 1, acc, rfl, by omega, by omega, by go_num, Hs2.out, H.out.1, H.out.2.1⟩
        · subst hcb
          have Hs2 : Hid ((acc ++ [(to_ : Int)]) ++ someW (B.drop (k + 1)) (t.drop (k + 1)) = someW B t) := Lib.hid (by have := Hs.out; rwa [if_pos rfl] at this)
          have Hrow := Lib.hid (H.out.1.alloc (.cells #[.int .i64 (to_ : Int)] 3))
          have hbase : w.heap.size ≤ (wc.alloc (.cells #[.int .i64 (to_ : Int)] 3)).heap.size := by rw [World.size_alloc]; have := H.out.2.1.size; omega
          have H1 : Hid (∀ u ∈ [Value.int .i64 (to_ : Int)], u.oneCell' = true) := Lib.hid (by simp [Value.oneCell'])
          have hqq : Hid (∀ q, (Value.slice po acc.length co).ownBlock = some q → w.heap.size ≤ q) := Lib.hid fun q hq => (H.out.1.lt q hq).1
          have Hbb := Lib.hid (H.out.2.1.trans (((Below.refl wc.heap.size wc).alloc (Nat.le_refl _) (.cells #[.int .i64 (to_ : Int)] 3)).mono H.out.2.1.size))
          clear Hs cQ
          go_upto_region 4 with (at_builtin; refine wpList_append_lies _ rfl (.tmp 32) (.tmp 37) 40 rfl w.heap.size 3 i0 (.int .i64 0) 1 8 Try.underlying40 hi0' hz0 hz1 hz2' rfl (by decide) (.slice po acc.length co) acc.length (ints acc) rfl Hrow.out ⟨wc.heap.size, 0, none⟩ 1 1 [.int .i64 (to_ : Int)] rfl rfl (World.news_of_block (cs := #[.int .i64 (to_ : Int)]) (heap_alloc_new _ _)) H1.out (by decide) (by unfold maxLen; omega) (by omega) hbase _ rfl ?_; intro g7 cap7 w7 hown7 hgrow7 hat7 hlt7)
          have HF : Hid (w7.ownsRow w.heap.size 3 1 (.slice (some ⟨g7, 0, none⟩) (acc.length + 1) cap7) (acc ++ [(to_ : Int)]).length (ints (acc ++ [(to_ : Int)])) ∧ Below w.heap.size w w7) := Lib.hid ⟨by
            rw [List.length_append, List.length_singleton]
            have e1 : ints (acc ++ [(to_ : Int)]) = ints acc ++ [.int .i64 (to_ : Int)] := by unfold ints; rw [List.map_append]; rfl
            rw [e1]
            exact hown7, Hbb.out.trans (grown_below hgrow7 hbase hqq.out)⟩
          clear hown7 hgrow7 hat7 hlt7 Hrow H1 hqq Hbb hbase cA
          go_wp2_with fail
          go_roundg (n + 1 - (k + 1))
          case measure => omega
          case rel => exact ⟨k + 1, acc ++ [(to_ : Int)], rfl, by omega, by rw [List.length_append, List.length_singleton]; omega, by go_num, Hs2.out, HF.out.1, HF.out.2⟩
    · have hkn : k = n := by omega
      subst hkn
      have hlt2 : decide (k < k) = false := decide_eq_false (by omega)
      have he : acc = someW B t := by
        rw [← hs, List.drop_eq_nil_of_le (by rw [Hn.out]; exact Nat.le_refl _), someW, List.append_nil]
      subst he
      have H := Lib.hid (And.intro hrow hb)
      clear hs hrow hb hlt
      go_wp2_with fail
      go_ret
      exact ⟨_, rfl, H.out.1, H.out.2⟩
end Go.Proofs.Ytiijpbfkchokaaa
namespace Go.Proofs.Ytiijpbfkchokaaa
open Go.ChangeShapes Go.WideShapes Go.ChangeAt Go.RowKit
theorem checkC_90 (L : List Nd) : checkC L ≠ 90 := by
  unfold checkC codeC
  repeat' split
  all_goals simp
theorem pmC_90 (P : Pm) (S : List Sh2) : pmC P S ≠ 90 := by
  unfold pmC
  repeat' split
  all_goals simp
theorem tryE_90 (P : Pm) (S : List Sh2) (L : List Nd) (s : List Nat) (tol ext : Int) : tryE P S L s tol ext ≠ 90 ∧ opE P S L s ≠ 90 := by
  have h1 : opE P S L s ≠ 90 := by
    unfold opE
    split
    · unfold paC
      split
      · split <;> simp
      · exact checkC_90 L
    · exact pmC_90 P S
  refine ⟨?_, h1⟩
  unfold tryE
  split
  · split <;> simp
  · exact h1
theorem tryE_op {P : Pm} {S : List Sh2} {L : List Nd} {s : List Nat} {tol ext : Int} (h : opE P S L s ≠ 0) : tryE P S L s tol ext = opE P S L s := by
  unfold tryE
  rw [if_neg h]
section
variable {one : Option Nat → Nat × Int → Int → Int → Bk} {all : Bool} {B : List (Nat × Int)}
theorem PathW.ats (h1 : OneOk one) {o : Option Nat} {a : Wy} {ls : List Bk} (h : PathW one all B o a ls) : ls.map Bk.at_ = natsI a.ats := by
  induction h with
  | nil => rfl
  | @cons o a ls i hi h ho hg ih =>
    rw [List.map_append, ih]
    show _ = natsI (a.ats ++ [(B.getD i (0, 0)).1])
    unfold natsI
    rw [List.map_append]
    congr 1
    simp only [List.map_cons, List.map_nil, List.cons.injEq, and_true]
    exact h1.at_ _ _ _ _
theorem PathW.bounds (hk : ∀ o i a, i < B.length → o ∈ preds (penA B) i → BkB (lineW one B o i a)) {o : Option Nat} {a : Wy} {ls : List Bk} (h : PathW one all B o a ls) : ∀ x ∈ ls, BkB x := by
  induction h with
  | nil => intro x hx; cases hx
  | @cons o a ls i hi h ho hg ih =>
    intro x hx
    rcases List.mem_append.1 hx with h1 | h1
    · exact ih x h1
    · rw [List.mem_singleton.1 h1]
      exact hk o i a hi ho
end
section
variable {P : Pm} {S : List Sh2} {L : List Nd} {s : List Nat} {tol ext : Int}
theorem one_bounds (hok : TryOk P S L s tol ext) (o : Option Nat) (i : Nat) (a : Wy) (hi : i < (brkP L P s).length) (ho : o ∈ preds (penA (brkP L P s)) i) : BkB (lineW (oneP L P S s tol ext) (brkP L P s) o i a) := by
  have hx : (brkP L P s)[i]? = some ((brkP L P s).getD i (0, 0)) := by rw [List.getD_eq_getElem?_getD, List.getElem?_eq_getElem hi]; rfl
  refine one_bound hok (fun y hy => ?_) (List.mem_of_getElem? hx) _ _
  cases o with
  | none => cases hy
  | some j =>
    have hj := preds_lt ho
    have hxj : (brkP L P s)[j]? = some ((brkP L P s).getD j (0, 0)) := by rw [List.getD_eq_getElem?_getD, List.getElem?_eq_getElem (by omega)]; rfl
    cases hy
    exact (brk_before hok.items hxj hx hj).1
/-- a way's lines, and their numbers -/
structure WayD (P : Pm) (S : List Sh2) (L : List Nd) (s : List Nat) (tol ext : Int) (a : Wy) (ls : List Bk) : Prop where
  path : PathW (oneP L P S s tol ext) true (brkP L P s) (some ((brkP L P s).length - 1)) a ls
  lines : lnsW (oneP L P S s tol ext) (brkP L P s) (natsI a.ats) none 1 2 = some ls
  ats : ls.map Bk.at_ = natsI a.ats
  bk : ∀ x ∈ ls, BkB x
  len : ls.length ≤ 2001
  alen : a.ats.length = ls.length
theorem way_of (hok : TryOk P S L s tol ext) {a : Wy} {ls : List Bk} (h : PathW (oneP L P S s tol ext) true (brkP L P s) (some ((brkP L P s).length - 1)) a ls) : WayD P S L s tol ext a ls := by
  have hB := brk_ok (P := P) hok.items
  have h1 := h.len_le
  have h2 : nextA (some ((brkP L P s).length - 1)) = (brkP L P s).length - 1 + 1 := rfl
  have h3 := brkP_len (L := L) (P := P) (s := s)
  have h4 := hok.items.len
  have h5 := (checkC_zero hok.chk).1
  have h6 := h.sums.2.2.2
  exact ⟨h, h.lines_end hB.rises hB.ne, h.ats (one_ok L P S s tol ext), h.bounds (one_bounds hok), by omega, h6⟩
/-- what any choice of breaks costs -/
theorem way_some (hok : TryOk P S L s tol ext) (t : List Bool) : ∃ a ms, WayD P S L s tol ext a ms ∧ natsI a.ats = someW (brkP L P s) t := by
  have hB := brk_ok (P := P) hok.items
  obtain ⟨a, ms, h1, h2⟩ := path_of_takes_end (one := oneP L P S s tol ext) hB.ne hB.last (takesW_some t hB.rises)
  exact ⟨a, ms, way_of hok h1, h2⟩
/-- what is chosen without looseness -/
theorem choose_zero (hok : TryOk P S L s tol ext) (hE : tryE P S L s tol ext = 0) (hl : P.loose = 0) : ∃ y ls, chR P S L s tol ext true = (ls, 0, 0) ∧ WayD P S L s tol ext y ls ∧ Bests (oneP L P S s tol ext) (brkP L P s) y ls := by
  obtain ⟨y, ls, h1, h2, h3⟩ := chooseW_zero (one_ok L P S s tol ext) (brk_ok (P := P) hok.items)
  refine ⟨y, ls, ?_, way_of hok h2.path, h2⟩
  unfold chR
  rw [if_pos hE, hl, h1]
  show ((lnsW _ _ (natsI y.ats) none 1 2).getD [], (0 : Int), (0 : Int)) = _
  rw [show lnsW (oneP L P S s tol ext) (brkP L P s) (natsI y.ats) none 1 2 = some ls from h3]
  rfl
theorem cost_of (hE : tryE P S L s tol ext = 0) {a : Wy} {ls : List Bk} (h : WayD P S L s tol ext a ls) : cstR P S L s tol ext (natsI a.ats) = (ls, 0) := by
  unfold cstR
  rw [if_pos hE, h.lines]
  rfl
end
end Go.Proofs.Ytiijpbfkchokaaa
