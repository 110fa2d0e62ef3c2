/-
  The law PageBest: its loop over the legal breaks, and the items (plain). No statement of the seat stands here.
-/
import Derived.Test.YtomehdepjenilaaGreatS7
import Derived.Test.YtomehdepjenilaaGreatS10
import Derived.Test.YtomehdepjenilaaGreatL6
import Derived.Test.YtomehdepjenilaaGreatQ13
import Derived.Test.YtomehdepjenilaaGreatV10
import Derived.Test.YtomehdepjenilaaGreatH32
import Derived.Test.YtomehdepjenilaaGreatH35
import Derived.Test.YtomehdepjenilaaGreatH28
set_option maxRecDepth 100000
set_option maxHeartbeats 4000000
namespace Go.Proofs.YtomehdepjenilaaGreat
open Go.ChangeShapes Go.WideShapes Go.ChangeAt Go.RowKit
def aheadL (L : List Nd) (a : Nat) : List Nd := prunF (L.take a) .zero (itsP (L.take a)) []
def firmL (ah : List Nd) : Bool := (itsP ah).any fun i => solidK (nth ah i).kind
def costL (g : Gr) (ah : List Nd) (q : Int) : Int := pricedP (badT (measP ah (itsP ah) ah.length g.depth).1 g.height) q
def lawB (L : List Nd) (g : Gr) (own : List Nd) (cost : Int) : List (Nat × Int) → Bool → Bool
  | [], _ => false
  | x :: r, met =>
    if aheadL L x.1 = [] ∨ firmL (aheadL L x.1) = false then lawB L g own cost r met
    else if x.1 = L.length then false
    else if aheadL L x.1 = own then (if costL g (aheadL L x.1) x.2 = cost then (if costL g (aheadL L x.1) x.2 = 1073741823 ∨ x.2 ≤ -10000 then true else lawB L g own cost r true) else false)
    else if costL g (aheadL L x.1) x.2 < cost ∨ (met = true ∧ costL g (aheadL L x.1) x.2 ≤ cost ∧ costL g (aheadL L x.1) x.2 < 1073741823) then false
    else if costL g (aheadL L x.1) x.2 = 1073741823 ∨ x.2 ≤ -10000 then met else lawB L g own cost r met
theorem firm_I {l : List It} (h : ∀ x ∈ l, Item0 x) : firmL (flatI l) = hasS l := by
  unfold firmL hasS
  rw [its_starts h]
  have h1 := starts_hd l [] h
  simp only [List.length_nil, List.nil_append] at h1
  have e1 : ((startsOf 0 l).any fun i => solidK (nth (flatI l) i).kind) = ((startsOf 0 l).map (nth (flatI l))).any fun n => solidK n.kind := by rw [List.any_map]; rfl
  have e2 : (l.any fun x => solidK (hd x).kind) = (l.map hd).any fun n => solidK n.kind := by rw [List.any_map]; rfl
  rw [e1, e2, h1]
theorem ahead_I {dn rest : List It} (h : ∀ x ∈ dn, Item0 x) : aheadL (flatI (dn ++ rest)) (flatI dn).length = flatI (prunI .zero dn) := by
  unfold aheadL
  rw [flatI_app, List.take_left, its_starts h]
  have := prunF_I .zero dn [] [] h
  simpa using this
theorem item_one {x : It} (h : Item0 x) (hk : (hd x).kind = 8) : x.length = 1 := by
  cases x with
  | nil => exact absurd rfl h.ne
  | cons a s =>
    have := h.beh
    unfold behC at this
    rw [if_pos (by rw [show a.kind = 8 from hk]; rfl)] at this
    simpa using this.symm
theorem q_I {dn r : List It} {x : It} {prev : Option Nat} (hx : Item0 x) (hr : ∀ y ∈ r, Item0 y) (hp : prev.map (nth (flatI (dn ++ x :: r))) = dn.getLast?.map hd) : qOf (flatI (dn ++ x :: r)) prev (flatI dn).length = qI dn.getLast? x r := by
  have hn : nth (flatI (dn ++ x :: r)) (flatI dn).length = hd x := by rw [flatI_app, flatI_cons9, nth_mid _ _ _ hx.ne]
  have hpa : (prev.any fun j => !fallsK (nth (flatI (dn ++ x :: r)) j).kind) = (dn.getLast?.any fun p => !fallsK (hd p).kind) := by
    cases prev with
    | none =>
      cases e : dn.getLast? with
      | none => rfl
      | some y => rw [e] at hp; cases hp
    | some j =>
      cases e : dn.getLast? with
      | none => rw [e] at hp; cases hp
      | some y =>
        rw [e] at hp
        simp only [Option.map_some, Option.some.injEq] at hp
        rw [Option.any_some, Option.any_some, hp]
  unfold qOf qI
  rw [hn, hpa]
  by_cases c1 : (hd x).kind = 7 ∧ (dn.getLast?.any fun p => !fallsK (hd p).kind) = true
  · rw [if_pos c1, if_pos (by rw [c1.1, c1.2]; rfl)]
  · rw [if_neg c1, if_neg (by intro hc; rw [Bool.and_eq_true] at hc; exact c1 ⟨by simpa using hc.1, hc.2⟩)]
    by_cases c2 : (hd x).kind = 8
    · have h1 := item_one hx c2
      have hnext : (decide ((flatI dn).length + 1 < (flatI (dn ++ x :: r)).length) && (nth (flatI (dn ++ x :: r)) ((flatI dn).length + 1)).kind == 7) = true ↔ (r ≠ [] ∧ (hd (r.headD [])).kind = 7) := by
        rw [flatI_app, flatI_cons9]
        cases r with
        | nil =>
          have : ¬ (flatI dn).length + 1 < (flatI dn ++ (x ++ flatI [])).length := by simp [flatI]; omega
          rw [decide_eq_false this]
          simp
        | cons y t =>
          have hy := hr y (by simp)
          have hlt : (flatI dn).length + 1 < (flatI dn ++ (x ++ flatI (y :: t))).length := by
            rw [flatI_cons9]
            have := hy.pos
            simp
            omega
          have hny : nth (flatI dn ++ (x ++ flatI (y :: t))) ((flatI dn).length + 1) = hd y := by
            rw [← List.append_assoc, flatI_cons9, show (flatI dn).length + 1 = (flatI dn ++ x).length by rw [List.length_append, h1]]
            exact nth_mid _ _ _ hy.ne
          rw [hny, decide_eq_true hlt]
          simp
      by_cases c3 : r ≠ [] ∧ (hd (r.headD [])).kind = 7
      · exact (if_pos (by rw [c2, Bool.and_assoc, hnext.2 c3]; rfl)).trans (if_pos ⟨c2, c3⟩).symm
      · refine (if_neg ?_).trans (Eq.trans ?_ (if_neg fun hc => c3 hc.2).symm)
        · rw [c2, Bool.and_assoc]
          intro hc
          rw [Bool.and_eq_true] at hc
          exact c3 (hnext.1 hc.2)
        · exact (if_neg (by rw [c2]; decide)).trans (if_neg (by rw [c2]; decide)).symm
    · refine (if_neg ?_).trans (Eq.trans ?_ (if_neg fun hc => c2 hc.1).symm)
      · intro hc
        rw [Bool.and_eq_true, Bool.and_eq_true] at hc
        exact c2 (by simpa using hc.1.1)
      · by_cases c4 : (hd x).kind = 9
        · exact (if_pos (by rw [c4]; rfl)).trans (if_pos c4).symm
        · exact (if_neg (by simpa using c4)).trans (if_neg c4).symm
theorem law_I {g : Gr} (hz : g.top = .zero) (own : List Nd) (cost : Int) : ∀ (rest dn : List It) (prev : Option Nat) (met : Bool), (∀ x ∈ dn, Good0 x) → (∀ x ∈ rest, Good0 x) → prev.map (nth (flatI (dn ++ rest))) = dn.getLast?.map hd →
    lawB (flatI (dn ++ rest)) g own cost (breaksF (flatI (dn ++ rest)) prev (startsOf (flatI dn).length rest) ++ [((flatI (dn ++ rest)).length, -10000)]) met = lawI g own cost dn rest met
  | [], dn, prev, met, _, _, _ => by
    rw [startsOf, breaksF, List.nil_append, lawB, lawB, lawI]
    split
    · rfl
    · rw [if_pos rfl]
  | x :: r, dn, prev, met, hd0, hr, hp => by
    have hx := hr x (by simp)
    have hr2 : ∀ y ∈ r, Good0 y := fun y hy => hr y (by simp [hy])
    have hdi : ∀ y ∈ dn, Item0 y := fun y hy => (hd0 y hy).it
    have hq := q_I (dn := dn) hx.it (fun y hy => (hr2 y hy).it) hp
    have hn : nth (flatI (dn ++ x :: r)) (flatI dn).length = hd x := by rw [flatI_app, flatI_cons9, nth_mid _ _ _ hx.it.ne]
    have ih := fun m => law_I hz own cost r (dn ++ [x]) (some (flatI dn).length) m (fun y hy => by
      rcases List.mem_append.1 hy with hy | hy
      · exact hd0 y hy
      · simp only [List.mem_singleton] at hy
        subst hy
        exact hx) hr2 (by rw [List.append_assoc]; show some (nth (flatI (dn ++ x :: r)) (flatI dn).length) = _; rw [hn]; simp)
    rw [List.append_assoc, show [x] ++ r = x :: r from rfl, show (flatI (dn ++ [x])).length = (flatI dn).length + x.length by rw [flatI_app, List.length_append]; simp [flatI]] at ih
    rw [startsOf, breaksF, hq, List.append_assoc]
    have hg2 := prunI_good hd0
    have hgi : ∀ y ∈ prunI .zero dn, Item0 y := fun y hy => (hg2.1 y hy).it
    have hah := ahead_I (dn := dn) (rest := x :: r) hdi
    unfold brk
    by_cases hq2 : qI dn.getLast? x r < 10000
    · rw [if_pos hq2, List.cons_append, List.nil_append, lawB]
      simp only [hah, firm_I hgi]
      cases hs : hasS dn
      · have hf : hasS (prunI .zero dn) = false := by
          cases e : hasS (prunI .zero dn)
          · rfl
          · unfold hasS at e
            obtain ⟨y, hy, hy2⟩ := List.any_eq_true.1 e
            rw [prunI_none hs y hy] at hy2
            cases hy2
        rw [if_pos (.inr hf), ih, law_skip (fun hc => by rw [hs] at hc; cases hc.2)]
      · have hf := prunI_some (g := .zero) hs
        have hne : flatI (prunI .zero dn) ≠ [] := by
          intro e
          cases ep : prunI .zero dn with
          | nil => rw [ep] at hf; cases hf
          | cons y t =>
            have hy := (hgi y (by rw [ep]; simp)).pos
            have := congrArg List.length e
            rw [ep, flatI_cons9] at this
            simp at this
            rw [this.1] at hy
            cases hy
        have hpl : ¬ (flatI dn).length = (flatI (dn ++ x :: r)).length := by
          have := hx.it.pos
          rw [flatI_app, flatI_cons9]
          simp
          intro e
          rw [e] at this
          cases this
        have hc : costL g (flatI (prunI .zero dn)) (qI dn.getLast? x r) = cI g dn (qI dn.getLast? x r) := by
          unfold costL cI
          rw [meas_I hgi, hz]
        rw [if_neg (by rintro (e | e); exact hne e; rw [hf] at e; cases e), if_neg hpl, hc, law_try rfl hq2 hs rfl, hz, ih, ih]
    · rw [if_neg hq2, List.nil_append, ih, law_skip fun hc => hq2 hc.1]
theorem items_beh {L : List Nd} {i : Nat} {s : List Nat} (h : Items L i s) : ∀ x ∈ s, x < L.length ∧ ∃ m, behC (L.drop x) 0 = some m := by
  induction h with
  | done => intro x hx; cases hx
  | step hi hm hs ih =>
    intro x hx
    rcases List.mem_cons.1 hx with rfl | hx
    · exact ⟨hi, _, hm⟩
    · exact ih x hx
theorem items_good {L : List Nd} (h : colP L (itsP L) = 0) (h13 : ∀ n ∈ L, n.kind ≠ 13) : ∀ x ∈ itemsOf L, Good0 x := by
  intro x hx
  obtain ⟨i, hi, rfl⟩ := List.mem_map.1 hx
  have hck := colP_check h
  have hit := its_ok L hck
  obtain ⟨hlt, m, hm⟩ := items_beh hit i hi
  have hmem : nth L i ∈ L := by rw [nth_get hlt]; exact List.getElem_mem _
  have hr := check_right hck _ hmem
  have hpos := behC_pos _ _ _ hm
  have hitem : itemN L i = (L.drop i).take m := by unfold itemN; rw [hm]; rfl
  have hlen : ((L.drop i).take m).length = m := by rw [List.length_take]; omega
  have hhd : hd (itemN L i) = nth L i := by
    rw [hitem]
    unfold hd nth
    obtain ⟨k, rfl⟩ : ∃ k, m = k + 1 := ⟨m - 1, by omega⟩
    rw [List.drop_eq_getElem_cons hlt, List.take_succ_cons, List.getElem?_eq_getElem hlt]
    rfl
  obtain ⟨k6, k11⟩ := items_kind0 hit hck i hi
  have k13 := h13 _ hmem
  have hbad : badN (nth L i) = false := by
    unfold colP at h
    rw [if_pos hck] at h
    split at h
    · cases h
    · rename_i hn
      cases e : badN (nth L i)
      · rfl
      · exact absurd (List.any_eq_true.2 ⟨i, hi, e⟩) hn
  have hk17 : 1 ≤ (nth L i).kind ∧ (nth L i).kind ≤ 17 := by
    have := hr
    unfold rightB at this
    simp only [Bool.and_eq_true] at this
    have := this.1.1
    unfold withinB at this
    exact of_decide_eq_true this
  have hkind : (nth L i).kind = 3 ∨ (nth L i).kind = 4 ∨ (nth L i).kind = 5 ∨ (nth L i).kind = 7 ∨ (nth L i).kind = 8 ∨ (nth L i).kind = 9 ∨ (nth L i).kind = 12 ∨ (nth L i).kind = 14 := by
    unfold badN at hbad
    simp at hbad
    omega
  have hglue : (0 ≤ (nth L i).glue.so ∧ (nth L i).glue.so ≤ 3) ∧ 0 ≤ (nth L i).glue.ho ∧ (nth L i).glue.ho ≤ 3 := by
    by_cases k7 : (nth L i).kind = 7
    · have := (right_skip hr k7).1
      simp [Gl.good, dimenB, withinB] at this
      omega
    · have h0 : (nth L i).glue = Nd.zero.glue := by
        have := hr
        unfold rightB at this
        simp only [Bool.and_eq_true] at this
        have h2 := (eqNd_iff _ _).1 this.2
        have hg : (restN (nth L i).kind.toNat (nth L i)).glue = Nd.zero.glue := by rw [h2]
        rcases hkind with e | e | e | e | e | e | e | e
        · rw [e] at hg; exact hg
        · rw [e] at hg; exact hg
        · rw [e] at hg; exact hg
        · exact absurd e k7
        · rw [e] at hg; exact hg
        · rw [e] at hg; exact hg
        · rw [e] at hg; exact hg
        · rw [e] at hg; exact hg
      rw [h0]
      decide
  refine ⟨⟨?_, by rw [hhd]; exact hkind, by rw [hhd]; exact hglue.1, by rw [hhd]; exact hglue.2⟩, by rw [hhd]; exact nb_of hr⟩
  rw [hitem, hlen]
  exact behC_take _ _ _ _ hm (Nat.le_refl _)
theorem law_best {g : Gr} (hz : g.top = .zero) (hgh : -1073741823 ≤ g.height ∧ g.height ≤ 1073741823) (hgd : 0 ≤ g.depth ∧ g.depth ≤ 1073741823) {L : List Nd} (h : colP L (itsP L) = 0) (h13 : ∀ n ∈ L, n.kind ≠ 13) {bot : ByteArray} {σ' : St} {p : PgP} {ps : List PgP} (hc : ComeTo g false ⟨freshS g, itemsOf L, bot⟩ [] σ' (p :: ps)) :
    lawB L g p.box p.cost (legalP L (itsP L)) false = true := by
  have hg := items_good h h13
  have hfl := itemsOf_flat h
  have hlen : (itemsOf L).length ≤ 2000 := by
    have h1 := flatI_le fun y hy => (hg y hy).it
    rw [hfl] at h1
    have := (checkC_zero (colP_check h)).1
    omega
  have h1 := best_first hz hgh hgd hg hlen hc
  have h2 := law_I hz p.box p.cost (itemsOf L) [] none false (fun x hx => by cases hx) hg rfl
  rw [List.nil_append, hfl] at h2
  have h3 : startsOf (flatI []).length (itemsOf L) = itsP L := by
    have := its_starts (l := itemsOf L) fun y hy => (hg y hy).it
    rw [hfl] at this
    exact this.symm
  rw [h3] at h2
  unfold legalP
  rw [h2]
  exact h1
theorem inv_first {g : Gr} {L : List Nd} (h : colP L (itsP L) = 0) (h13 : ∀ n ∈ L, n.kind ≠ 13) (bot : ByteArray) : Inv0 600000000000 0 ⟨freshS g, [] ++ itemsOf L, bot⟩ := by
  have hg := items_good h h13
  have hfl := itemsOf_flat h
  have := (checkC_zero (colP_check h)).1
  rw [List.nil_append]
  refine ⟨fun x hx => (hg x hx).it, fun x hx => (by cases hx), Nat.le_refl _, fun e => (by cases e), fun _ => rfl, fun e => (by cases e), rfl, rfl, ?_⟩
  show 0 + (flatI (itemsOf L)).length ≤ 600000000000 + 0 + 0
  rw [hfl]
  omega
theorem starts_mem : ∀ (l : List It) (p i : Nat), i ∈ startsOf p l → ∃ dn y r, l = dn ++ y :: r ∧ i = p + (flatI dn).length
  | [], _, _, h => by cases h
  | x :: r, p, i, h => by
    rcases List.mem_cons.1 h with rfl | h
    · exact ⟨[], x, r, rfl, by simp [flatI]⟩
    · obtain ⟨dn, y, t, rfl, e⟩ := starts_mem r _ i h
      exact ⟨x :: dn, y, t, rfl, by rw [e, flatI_cons9, List.length_append]; omega⟩
theorem prunI_len (g : Gl) : ∀ dn : List It, (flatI (prunI g dn)).length ≤ (flatI dn).length + 1
  | [] => by simp [prunI, flatI]
  | x :: r => by
    have ih := prunI_len g r
    rw [prunI, flatI_cons9]
    split
    · simp [flatI]
    · split
      · simp; omega
      · rw [flatI_cons9]; simp; omega
theorem brk_mem (L : List Nd) : ∀ (s : List Nat) (prev : Option Nat), ∀ x ∈ breaksF L prev s, x.1 ∈ s ∧ x.2 < 10000
  | [], _, x, hx => by cases hx
  | i :: s, prev, x, hx => by
    rw [breaksF] at hx
    rcases List.mem_append.1 hx with hx | hx
    · unfold brk at hx
      split at hx
      · rename_i hq
        simp only [List.mem_singleton] at hx
        subst hx
        exact ⟨by simp, hq⟩
      · cases hx
    · obtain ⟨h1, h2⟩ := brk_mem L s _ x hx
      exact ⟨List.mem_cons_of_mem _ h1, h2⟩
structure AskAt (L : List Nd) (a : Nat) (q : Int) : Prop where
  lt : a < L.length
  q : q ≤ 10000
  its : Items (L.take a) 0 (itsP (L.take a))
  k6 : ∀ i ∈ itsP (L.take a), (nth (L.take a) i).kind ≠ 6
  ait : Items (aheadL L a) 0 (itsP (aheadL L a))
  ak6 : ∀ i ∈ itsP (aheadL L a), (nth (aheadL L a) i).kind ≠ 6
  anb : ∀ i ∈ itsP (aheadL L a), NdB (nth (aheadL L a) i)
  alen : (aheadL L a).length ≤ 2000
theorem good_its {l : List It} (h : ∀ x ∈ l, Good0 x) : Items (flatI l) 0 (itsP (flatI l)) ∧ (∀ i ∈ itsP (flatI l), (nth (flatI l) i).kind ≠ 6) ∧ ∀ i ∈ itsP (flatI l), NdB (nth (flatI l) i) := by
  have hi : ∀ x ∈ l, Item0 x := fun x hx => (h x hx).it
  have h1 := starts_hd l [] hi
  simp only [List.length_nil, List.nil_append] at h1
  rw [its_starts hi]
  have key : ∀ i ∈ startsOf 0 l, ∃ x ∈ l, hd x = nth (flatI l) i := fun i hi9 => by
    have : nth (flatI l) i ∈ (startsOf 0 l).map (nth (flatI l)) := List.mem_map.2 ⟨i, hi9, rfl⟩
    rw [h1] at this
    exact List.mem_map.1 this
  refine ⟨items_starts l [] hi, fun i hi9 => ?_, fun i hi9 => ?_⟩
  · obtain ⟨x, hx, e⟩ := key i hi9
    rw [← e]
    rcases (hi x hx).kind with e | e | e | e | e | e | e | e <;> rw [e] <;> decide
  · obtain ⟨x, hx, e⟩ := key i hi9
    rw [← e]
    exact (h x hx).nb
theorem ask_at {g : Gr} {L : List Nd} (h : colP L (itsP L) = 0) (h13 : ∀ n ∈ L, n.kind ≠ 13) {own : List Nd} {cost : Int} {met : Bool} {pre r : List (Nat × Int)} {x : Nat × Int} (hp : legalP L (itsP L) = pre ++ x :: r) (hl : lawB L g own cost (x :: r) met = true) : AskAt L x.1 x.2 := by
  have hg := items_good h h13
  have hfl := itemsOf_flat h
  have hst : itsP L = startsOf 0 (itemsOf L) := by
    have := its_starts (l := itemsOf L) fun y hy => (hg y hy).it
    rwa [hfl] at this
  have hL := (checkC_zero (colP_check h)).1
  have hx : x ∈ breaksF L none (itsP L) := by
    cases r with
    | nil =>
      exfalso
      have hlast : x = (L.length, -10000) := by
        unfold legalP at hp
        have := List.append_inj_right' hp rfl
        simpa using this.symm
      rw [lawB] at hl
      split at hl
      · cases hl
      · rw [if_pos (by rw [hlast])] at hl
        cases hl
    | cons y t =>
      unfold legalP at hp
      have hd : (breaksF L none (itsP L) ++ [(L.length, (-10000 : Int))]).dropLast = (pre ++ x :: y :: t).dropLast := by rw [hp]
      rw [List.dropLast_concat, List.dropLast_append_of_ne_nil (by simp)] at hd
      rw [hd]
      simp [List.dropLast]
  obtain ⟨h1, h2⟩ := brk_mem L _ _ x hx
  rw [hst] at h1
  obtain ⟨dn, y, t, e1, e2⟩ := starts_mem _ _ _ h1
  rw [Nat.zero_add] at e2
  have hdn : ∀ z ∈ dn, Good0 z := fun z hz => hg z (by rw [e1]; simp [hz])
  have hy := hg y (by rw [e1]; simp)
  have hLe : L = flatI (dn ++ y :: t) := by rw [← e1, hfl]
  have htk : L.take x.1 = flatI dn := by rw [e2, hLe, flatI_app, List.take_left]
  have hah : aheadL L x.1 = flatI (prunI .zero dn) := by rw [e2, hLe]; exact ahead_I fun z hz => (hdn z hz).it
  have hlt : x.1 < L.length := by
    have := hy.it.pos
    rw [e2, hLe, flatI_app, flatI_cons9, List.length_append, List.length_append]
    omega
  obtain ⟨g1, g2, _⟩ := good_its hdn
  obtain ⟨a1, a2, a3⟩ := good_its (prunI_good hdn).1
  have hpl := prunI_len .zero dn
  refine ⟨hlt, by omega, by rw [htk]; exact g1, by rw [htk]; exact g2, by rw [hah]; exact a1, by rw [hah]; exact a2, by rw [hah]; exact a3, by rw [hah]; omega⟩
def bdGq (parts : Array (Nat × Value)) : Sem Value := Instr.build 26 parts
@[go_sem ↓] theorem execOp_buildGq (ρ : Operand → Value) (dst : Option Tmp) (x : Array (Nat × Operand)) (ty : TypeId) (pos : String) (after : Array Edge) (guard : Option (Nat × Bool)) :
    execOp ρ { dst, op := .build 26 x, type := ty, pos, after, guard } = (do pure (.value (← bdGq (x.map fun (i, y) => (i, ρ y))))) := rfl
theorem u_gq : Tryz.prog.underlying 26 = some (.struct (Tryz.prog.fieldsOf 26)) := by kernel_rfl
theorem i_gq : (Tryz.prog.info? 26).map (·.size) = some 8 := by kernel_rfl
@[go_sem ↓] theorem execOp_loadgq (ρ : Operand → Value) (dst : Option Tmp) (x : Operand) (ty : TypeId) (pos : String) (after : Array Edge) (guard : Option (Nat × Bool)) :
    execOp ρ { dst, op := .load 26 x, type := ty, pos, after, guard } = (do pure (.value (← ldOp 26 (ρ x)))) := rfl
@[go_sem ↓] theorem execOp_storegq (ρ : Operand → Value) (dst : Option Tmp) (x y : Operand) (ty : TypeId) (pos : String) (after : Array Edge) (guard : Option (Nat × Bool)) :
    execOp ρ { dst, op := .store 26 x y, type := ty, pos, after, guard } = (do stOp 26 (ρ x) (ρ y); pure .skip) := rfl
@[go_sem] theorem run_loadgq (b o : Nat) (w : World) : (ldOp 26 (.pointer (some ⟨b, o, none⟩))).run Tryz.prog w = ldRow Tryz.prog 26 b o w (agg? w b o 8) := run_loadAt_row _ _ _ u_gq rfl i_gq b o w
@[go_sem] theorem run_storegq (b o : Nat) (n : Gp) (w : World) : (stOp 26 (.pointer (some ⟨b, o, none⟩)) (.agg n.arr)).run Tryz.prog w = stRow Tryz.prog 26 b o n.arr w (there? w b o 8) := run_storeAt_row _ _ i_gq b o _ (Gp.size_arr n) (Gp.one n) w

@[go_sem] theorem run_bdGq (h d : Int) (w : World) : (bdGq #[(0, .int .i64 h), (1, .int .i64 d)]).run Tryz.prog w = .ok (.agg (Gp.mk h d ⟨0, 0, 0, 0, 0⟩ none 0 0).arr) w := by kernel_rfl
@[go_sem] theorem run_bdGpK3 (a b : Int) (t : Gl) (w : World) : (bdGpK #[(0, .int .i64 a), (1, .int .i64 b), (2, .agg t.arr)]).run Tryz.prog w = .ok (.agg (Gp.mk a b t none 0 0).arr) w := by kernel_rfl
theorem goals13 (h d : Int) (w : World) : Calls Tryz.prog 10 #[.agg (Gp.mk h d ⟨0, 0, 0, 0, 0⟩ none 0 0).arr] w fun e w' => e = .returned (.agg (Gp.mk h d ⟨0, 0, 0, 0, 0⟩ none 0 0).arr) ∧ Below w.heap.size w w' := by
  go_enter Tryz.func10, Tryz.ntmps10
  go_upto_region 2 with (fail)
  have hA : Cb (((w.alloc (.cells (Gp.mk h d ⟨0, 0, 0, 0, 0⟩ none 0 0).arr 26)).alloc (.cells (Gp.mk 0 0 ⟨0, 0, 0, 0, 0⟩ none 0 0).arr 34)).alloc (.cells (Gp.mk h d ⟨0, 0, 0, 0, 0⟩ none 0 0).arr 34)) w.heap.size (Gp.mk h d ⟨0, 0, 0, 0, 0⟩ none 0 0).arr 26 := ((Cb.new w _ _).alloc _).alloc _
  have hR : Cb (((w.alloc (.cells (Gp.mk h d ⟨0, 0, 0, 0, 0⟩ none 0 0).arr 26)).alloc (.cells (Gp.mk 0 0 ⟨0, 0, 0, 0, 0⟩ none 0 0).arr 34)).alloc (.cells (Gp.mk h d ⟨0, 0, 0, 0, 0⟩ none 0 0).arr 34)) (w.heap.size + 1) (Gp.mk 0 0 ⟨0, 0, 0, 0, 0⟩ none 0 0).arr 34 := by
    have := Cb.new (w.alloc (.cells (Gp.mk h d ⟨0, 0, 0, 0, 0⟩ none 0 0).arr 26)) (Gp.mk 0 0 ⟨0, 0, 0, 0, 0⟩ none 0 0).arr 34
    rw [World.size_alloc] at this
    exact this.alloc _
  have hG : Cb (((w.alloc (.cells (Gp.mk h d ⟨0, 0, 0, 0, 0⟩ none 0 0).arr 26)).alloc (.cells (Gp.mk 0 0 ⟨0, 0, 0, 0, 0⟩ none 0 0).arr 34)).alloc (.cells (Gp.mk h d ⟨0, 0, 0, 0, 0⟩ none 0 0).arr 34)) (w.heap.size + 1 + 1) (Gp.mk h d ⟨0, 0, 0, 0, 0⟩ none 0 0).arr 34 := by
    have := Cb.new ((w.alloc (.cells (Gp.mk h d ⟨0, 0, 0, 0, 0⟩ none 0 0).arr 26)).alloc (.cells (Gp.mk 0 0 ⟨0, 0, 0, 0, 0⟩ none 0 0).arr 34)) (Gp.mk h d ⟨0, 0, 0, 0, 0⟩ none 0 0).arr 34
    rw [World.size_alloc, World.size_alloc] at this
    exact this
  have hb : Below w.heap.size w (((w.alloc (.cells (Gp.mk h d ⟨0, 0, 0, 0, 0⟩ none 0 0).arr 26)).alloc (.cells (Gp.mk 0 0 ⟨0, 0, 0, 0, 0⟩ none 0 0).arr 34)).alloc (.cells (Gp.mk h d ⟨0, 0, 0, 0, 0⟩ none 0 0).arr 34)) := (((Below.refl _ _).alloc (Nat.le_refl _) _).alloc (by simp) _).alloc (by simp; omega) _
  generalize (((w.alloc (.cells (Gp.mk h d ⟨0, 0, 0, 0, 0⟩ none 0 0).arr 26)).alloc (.cells (Gp.mk 0 0 ⟨0, 0, 0, 0, 0⟩ none 0 0).arr 34)).alloc (.cells (Gp.mk h d ⟨0, 0, 0, 0, 0⟩ none 0 0).arr 34)) = w3 at hA hR hG hb ⊢
  have hle : w.heap.size ≤ w.heap.size + 1 := by omega
  obtain ⟨Rz, hRz⟩ : ∃ R, w.heap.size + 1 = R := ⟨_, rfl⟩
  rw [hRz] at hR hG hle
  simp only [hRz]
  obtain ⟨Gz, hGz⟩ : ∃ G, Rz + 1 = G := ⟨_, rfl⟩
  rw [hGz] at hG
  simp only [hGz]
  obtain ⟨Az, hAz⟩ : ∃ A, w.heap.size = A := ⟨_, rfl⟩
  rw [hAz] at hA
  simp only [hAz]
  have Hle := Lib.hid (And.intro hle hb)
  clear hRz hGz hAz hle hb
  have y7 := hA.cell 7 _ (Gp.get7 _)
  have ag : agg? w3 Gz 0 8 = some (Gp.mk h d ⟨0, 0, 0, 0, 0⟩ none 0 0).arr := hG.agg 0 8 (by rw [Gp.size_arr]; decide)
  have th := hR.there 0 8 (by rw [Gp.size_arr]; decide)
  have HR := Lib.hid hR
  clear hA hG hR
  go_wp2_with fail
  go_loopg [4] 1 (fun gg t4 wr => gg = 1 ∧ t4 = .int .i64 0 ∧ wr = w3)
  case atStart => exact ⟨rfl, rfl, rfl⟩
  case round =>
    obtain ⟨rfl, rfl, rfl⟩ := hrel
    go_wp2_with fail
    have ha : Cb (setAgg wr Rz 0 (Gp.mk h d ⟨0, 0, 0, 0, 0⟩ none 0 0).arr) Rz (Gp.mk h d ⟨0, 0, 0, 0, 0⟩ none 0 0).arr 34 := HR.out.setAgg 0 _ (setMany_Gp _ _)
    exact ret_gp rfl Rz 0 _ rfl (ha.agg 0 8 (by rw [Gp.size_arr]; decide)) rfl ⟨rfl, Below.setAgg Hle.out.2 Hle.out.1 0 _⟩
theorem firm13 (p0 : Option Addr) (b off cap : Nat) (L : List Nd) (w : World) (hN : NIn w p0 b off cap L) (hs : Items L 0 (itsP L)) (hk : ∀ i ∈ itsP L, (nth L i).kind ≠ 6) : Calls Tryz.prog 19 #[.slice p0 L.length cap] w fun e w' => e = .returned (.bool (firmL L)) ∧ Below w.heap.size w w' := by
  have H := Lib.hid hN
  have HK := Lib.hid hk
  obtain ⟨F, hF⟩ : ∃ F, firmL L = F := ⟨_, rfl⟩
  have HF : Hid (((itsP L).any fun i => solidK (nth L i).kind) = F) := Lib.hid hF
  rw [hF]
  have hlen := hN.len
  clear hN hk hF
  obtain ⟨s, hse⟩ : ∃ s, itsP L = s := ⟨_, rfl⟩
  rw [hse] at hs HK HF
  clear hse
  go_enter Tryz.func19, Tryz.ntmps19
  go_wp2_with fail
  go_loopg [3] (s.length + 1) (fun gg t3 wr => ∃ (pos : Nat) (d r : List Nat), gg = r.length + 1 ∧ t3 = .int .i64 pos ∧ s = d ++ r ∧ Items L pos r ∧ (r.any fun i => solidK (nth L i).kind) = F ∧ Below w.heap.size w wr)
  case atStart => exact ⟨0, [], s, rfl, rfl, rfl, hs, HF.out, Below.refl _ _⟩
  case round =>
    obtain ⟨pos, d, r, rfl, rfl, hsd, hit, hFr, hbr⟩ := hrel
    have hp0 : (0 : Int) ≤ (pos : Int) := by omega
    have HSD := Lib.hid hsd
    have HFr := Lib.hid hFr
    have Hbr := Lib.hid hbr
    clear hsd hFr
    cases hit with
    | done =>
      have hv : Hid (F = false) := Lib.hid (by rw [← HFr.out]; rfl)
      clear hbr
      go_wp2_with fail
      go_ret
      exact ⟨by rw [hv.out]; rfl, Hbr.out⟩
    | @step _ m r2 hlt hm hs2 =>
      have hlt9 : (pos : Int) < (L.length : Int) := by omega
      have hN2 := H.out.below hbr
      have xk := agg_cell (hN2.nth hlt) 0 _ (Nd.get0 _)
      rw [Nat.add_zero] at xk
      have hne : L ≠ [] := fun e => by rw [e] at hlt; simp at hlt
      obtain rfl := hN2.hp hne
      have hk6 : (nth L pos).kind ≠ 6 := HK.out pos (by rw [HSD.out]; simp)
      have HE := Lib.hid (qends (some ⟨b, off, none⟩) b off cap L pos m wr hN2 hm hk6)
      have Hs2 := Lib.hid hs2
      obtain ⟨kd, hkd⟩ : ∃ kd, (nth L pos).kind = kd := ⟨_, rfl⟩
      rw [hkd] at xk
      have HFc : Hid ((solidK kd || r2.any fun i => solidK (nth L i).kind) = F) := Lib.hid (by rw [← HFr.out, List.any_cons, hkd])
      clear hkd hk6 hm hs2 hN2 hbr hne
      cases hso : solidK kd
      · have e4 : (kd == 4) = false := by
          cases e : (kd == 4)
          · rfl
          · have : kd = 4 := by simpa using e
            rw [this] at hso; cases hso
        have e5 : (kd == 5) = false := by
          cases e : (kd == 5)
          · rfl
          · have : kd = 5 := by simpa using e
            rw [this] at hso; cases hso
        have e3 : (kd == 3) = false := by
          cases e : (kd == 3)
          · rfl
          · have : kd = 3 := by simpa using e
            rw [this] at hso; cases hso
        have hrest : Hid ((r2.any fun i => solidK (nth L i).kind) = F) := Lib.hid (by rw [← HFc.out, hso, Bool.false_or])
        clear hso
        go_wp2_with (go_at_call 15; refine HE.out.mono ?_; clear HE; rintro e w2 ⟨rfl, hb2⟩)
        go_roundg (r2.length + 1)
        case measure => simp
        case rel => exact ⟨pos + m, d ++ [pos], r2, rfl, rfl, by rw [HSD.out]; simp, Hs2.out, hrest.out, Hbr.out.trans (hb2.mono Hbr.out.size)⟩
      · have hv : Hid (F = true) := Lib.hid (by rw [← HFc.out, hso]; rfl)
        cases e4 : (kd == 4)
        · cases e5 : (kd == 5)
          · have e3 : (kd == 3) = true := by
              have : solidK kd = true := hso
              unfold solidK at this
              rw [e4, e5] at this
              simpa using this
            clear hso
            go_wp2_with fail
            go_ret
            exact ⟨by rw [hv.out]; rfl, Hbr.out⟩
          · clear hso
            go_wp2_with fail
            go_ret
            exact ⟨by rw [hv.out]; rfl, Hbr.out⟩
        · clear hso
          go_wp2_with fail
          go_ret
          exact ⟨by rw [hv.out]; rfl, Hbr.out⟩
end Go.Proofs.YtomehdepjenilaaGreat
