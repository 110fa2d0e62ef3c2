/-
  Inserts: what goes where, when a page is broken: the program's Deal, of a list that is not empty, where nothing that is left over is wrong.
-/
import Derived.Test.YtaehkbbdmamfpaaGreatDoorVBs
import Derived.Test.YtaehkbbdmamfpaaGreatDoorQ13
import Derived.Test.YtaehkbbdmamfpaaGreatDoorB6
import Derived.Test.YtaehkbbdmamfpaaGreatDoorI26
import Derived.Deep.QuietTactic
import Derived.Stop.Asserts
import Derived.RowKitTokens
set_option maxHeartbeats 4000000
namespace Go.Proofs.YtaehkbbdmamfpaaGreatDoor
open Go.ChangeShapes Go.WideShapes Go.ChangeAt Go.RowKit
section
attribute [local go_sem ↓] Go.wp_at_zero Go.wp_at_succ
theorem as_nil (t : Value) (w : World) : Calls Tryz.prog 32 #[.nilIface, t] w fun e w' => e = .returned (.bool false) /\ w = w' := by
 go_enter Tryz.func32, Tryz.ntmps32
 go_wp2
 go_ret
 exact ⟨rfl, rfl⟩
structure zcw (w : World) (r : Dealt) (e : Ending) (w' : World) : Prop where
 out : ∃ vs bv, e = .returned (.tuple #[vs 0, bv, vs 1, .int .i64 r.e]) /\ DlIn w' w.heap.size vs bv r.page ⟨r.boxes, r.rest⟩
 below : Below w.heap.size w w'
theorem dlIn_nil (W : World) (base : Nat) : DlIn W base (fun _ => .slice none 0 0) (.slice none 0 0) [] ⟨[], []⟩ :=
 ⟨⟨fun i hi => by
  have : rowX [] ⟨[], []⟩ i = [] := by match i with | 0 => rfl | 1 => rfl | k + 2 => rfl
  rw [this]; exact World.ownsRow_nil _ _ _ _, fun i j _ _ _ q hq => by cases hq⟩, World.ownsRow_nil _ _ _ _⟩
theorem place_neg {L : List Nd} {tk : Int} (h : tk < 0) : zbm L tk = false := by
 cases hp : zbm L tk
 · rfl
 ·
  obtain ⟨t, e, _⟩ := zcV hp
  omega
theorem pageP_snoc (L : List Nd) (d : List Nat) (x : Nat) : zaU L (d ++ [x]) = zaU L d ++ (if (nth L x).kind = 13 then [] else zby L x) := by simp [zaU]
theorem item_sl {L : List Nd} {x m : Nat} (hm : behC (L.drop x) 0 = some m) : zby L x = sl L x m := by unfold zby sl; rw [hm]; rfl
theorem wh_below {L : List Nd} {t : Nat} {d r : List Nat} (hs : itsP L = d ++ r) (hd : ∀ x ∈ d, (x : Int) < (t : Int)) (hr : ∀ x, r.head? = some x -> t <= x) : (itsP L).takeWhile (fun x : Nat => decide ((x : Int) < (t : Int))) = d := by
 rw [hs, List.takeWhile_append_of_pos (by simpa using hd)]
 cases r with
 | nil => simp
 | cons y r =>
  rw [List.takeWhile_cons_of_neg (by have := hr y rfl; simp; omega)]
  simp
theorem items_count {L : List Nd} {i : Nat} {s : List Nat} (h : Items L i s) : s.length + i <= L.length := by
 induction h with
 | done => simp
 | step _ hm _ ih =>
  have := zaw _ _ _ hm
  simp only [List.length_cons]
  omega
theorem its_few {L : List Nd} {s : List Nat} (hs : Items L 0 s) (hl : L.length <= 2000) : (itsP L).length <= 2000 := by
 have := items_count hs
 rw [itsP_eq hs]
 omega
theorem Rws.base {W : World} {B B' N : Nat} {vs : Nat -> Value} {xs : Nat -> List Nd} (h : Rws W B N vs xs) (hb : B' <= B) : Rws W B' N vs xs := ⟨fun i hi => zas (h.row i hi) hb, h.ne⟩
theorem DlIn.base {W : World} {B B' : Nat} {vs : Nat -> Value} {bv : Value} {page : List Nd} {d : Dl} (h : DlIn W B vs bv page d) (hb : B' <= B) : DlIn W B' vs bv page d := ⟨h.rws.base hb, zas h.out hb⟩
end
section
attribute [local go_sem ↓] Go.wp_at_zero Go.wp_at_succ
def hN (k h : Int) : Nd := { Nd.zero with kind := k, h := h }
def kN (k : Int) : Nd := { Nd.zero with kind := k }
@[go_sem] theorem run_bdNd_kh9 (k h : Int) (w : World) : (bdNd #[(0, .int .i64 k), (4, .int .i64 h)]).run Tryz.prog w = .ok (.agg (hN k h).arr) w := by kernel_rfl
theorem num12_any (n : Int) (w : World) : Calls Tryz.prog 13 #[.int .i64 n] w fun e w' => e = .returned (.int .i64 n) /\ w = w' := by
 go_enter Tryz.func13, Tryz.ntmps13
 go_wp2
 go_ret
 exact ⟨rfl, rfl⟩
theorem own2_lit (w : World) (n m : Nd) : (w.alloc (.cells (n.cells ++ m.cells).toArray 53)).ownsRow w.heap.size 53 19 (.slice (some ⟨w.heap.size, 0, none⟩) 2 2) 2 ([n, m].flatMap Nd.cells) :=
 ⟨by simp [Nd.cells], .inr ⟨w.heap.size, 2, _, rfl, Nat.le_refl _, heap_alloc_new _ _, Nat.le_refl _, by decide, by simp [Nd.cells], by simp [Nd.cells]⟩⟩
theorem box_any (h : Int) (w : World) : Calls Tryz.prog 70 #[.int .i64 h] w fun e w' => ∃ g, e = .returned (.slice (some ⟨g, 0, none⟩) 2 2) /\ w'.heap[g]? = some (.cells ((hN 4 h).cells ++ (kN 6).cells).toArray 53 (0, 0)) /\ Below w.heap.size w w' /\ w'.ownsRow w.heap.size 53 19 (.slice (some ⟨g, 0, none⟩) 2 2) 2 ((boxN h).flatMap Nd.cells) := by
 go_enter Tryz.func70, Tryz.ntmps70
 go_wp2
 go_ret
 exact ⟨_, rfl, heap_alloc_new _ _, (Below.refl _ _).alloc (Nat.le_refl _) _, own2_lit w (hN 4 h) (kN 6)⟩
def f1 : List Nd := boxN 1966080 ++ [hN 13 1310720]
def f2 : List Nd := f1 ++ boxN 655360
def f3 : List Nd := f2 ++ [kN 7]
def f4 : List Nd := f3 ++ boxN 655360
set_option maxRecDepth 100000 in
theorem foot_any (w : World) : Calls Tryz.prog 39 #[] w fun e w' => (∃ v, e = .returned v /\ NRow w v footN w') /\ Below w.heap.size w w' := by
 obtain ⟨i0, hi0', hz0, hz1, hz2⟩ := info_parts zbq
 go_enter Tryz.func39, Tryz.ntmps39
 have H1 : ∀ n : Nd, Hid (∀ u ∈ n.cells, u.oneCell' = true) := fun n => zzh (by have := zax [n]; simpa using this)
 have H2 : ∀ n m : Nd, Hid (∀ u ∈ n.cells ++ m.cells, u.oneCell' = true) := fun n m => zzh (by have := zax [n, m]; simpa using this)
 have hB : Hid (∀ (W : World) (o : Obj), Below w.heap.size w W -> Below w.heap.size w (W.alloc o)) := zzh fun W o h => h.trans (((Below.refl W.heap.size W).alloc (Nat.le_refl _) _).mono h.size)
 go_upto_region 2 with (first | (go_at_call 70; refine (box_any _ _).mono ?_; rintro e w2 ⟨g2, rfl, hk2, hb2, ho2⟩) | (at_builtin; refine zah _ rfl _ _ _ rfl w.heap.size 53 i0 (.agg Nd.zero.arr) 19 160 Tryz.underlying22 hi0' hz0 hz1 hz2 rfl (by decide) (.slice (some ⟨g2, 0, none⟩) 2 2) 2 ((boxN 1966080).flatMap Nd.cells) rfl (zad ho2 ((Below.refl _ _).alloc (Nat.le_refl _) _)) ⟨w2.heap.size, 0, none⟩ 1 1 (hN 13 1310720).cells rfl rfl (World.news_of_block (cs := (hN 13 1310720).arr) (heap_alloc_new _ _)) (H1 _).out (by decide) (by decide) (hB.out w2 (.cells (hN 13 1310720).arr 53) hb2).size ?_; intro v7 w7 hown7 hgrow7 hat7; have hb7 : Below w.heap.size w w7 := (hB.out w2 (.cells (hN 13 1310720).arr 53) hb2).grown hgrow7 (hB.out w2 (.cells (hN 13 1310720).arr 53) hb2).size (fun g hg => (ho2.lt g hg).1); have hr7 : w7.ownsRow w.heap.size 53 19 v7 3 (f1.flatMap Nd.cells) := hown7; clear hown7 hgrow7 hat7; obtain ⟨p7, c7, rfl⟩ := zaf hr7))
 clear hk2 hb2 ho2
 go_upto_region 3 with (first | (go_at_call 70; refine (box_any _ _).mono ?_; rintro e w2 ⟨g2, rfl, hk2, hb2, ho2⟩) | (at_builtin; refine zah _ rfl _ _ _ rfl w.heap.size 53 i0 (.agg Nd.zero.arr) 19 160 Tryz.underlying22 hi0' hz0 hz1 hz2 rfl (by decide) (.slice p7 3 c7) 3 (f1.flatMap Nd.cells) rfl (zad hr7 hb2) ⟨g2, 0, none⟩ 2 2 ((hN 4 655360).cells ++ (kN 6).cells) rfl rfl (World.news_of_block (cs := ((hN 4 655360).cells ++ (kN 6).cells).toArray) hk2) (H2 _ _).out (by decide) (by decide) (hb7.trans (hb2.mono hb7.size)).size ?_; intro v8 w8 hown8 hgrow8 hat8; have hb8 : Below w.heap.size w w8 := (hb7.trans (hb2.mono hb7.size)).grown hgrow8 (hb7.trans (hb2.mono hb7.size)).size (fun g hg => (hr7.lt g hg).1); have hr8 : w8.ownsRow w.heap.size 53 19 v8 5 (f2.flatMap Nd.cells) := hown8; clear hown8 hgrow8 hat8; obtain ⟨p8, c8, rfl⟩ := zaf hr8) | (at_builtin; refine zah _ rfl _ _ _ rfl w.heap.size 53 i0 (.agg Nd.zero.arr) 19 160 Tryz.underlying22 hi0' hz0 hz1 hz2 rfl (by decide) (.slice p8 5 c8) 5 (f2.flatMap Nd.cells) rfl (zad hr8 ((Below.refl _ _).alloc (Nat.le_refl _) _)) ⟨w8.heap.size, 0, none⟩ 1 1 (kN 7).cells rfl rfl (World.news_of_block (cs := (kN 7).arr) (heap_alloc_new _ _)) (H1 _).out (by decide) (by decide) (hB.out w8 (.cells (kN 7).arr 53) hb8).size ?_; intro v9 w9 hown9 hgrow9 hat9; have hb9 : Below w.heap.size w w9 := (hB.out w8 (.cells (kN 7).arr 53) hb8).grown hgrow9 (hB.out w8 (.cells (kN 7).arr 53) hb8).size (fun g hg => (hr8.lt g hg).1); have hr9 : w9.ownsRow w.heap.size 53 19 v9 6 (f3.flatMap Nd.cells) := hown9; clear hown9 hgrow9 hat9; obtain ⟨p9, c9, rfl⟩ := zaf hr9))
 clear hk2 hb2 ho2
 go_wp2_with (first | (go_at_call 70; refine (box_any _ _).mono ?_; rintro e w2 ⟨g2, rfl, hk2, hb2, ho2⟩) | (at_builtin; refine zah _ rfl _ _ _ rfl w.heap.size 53 i0 (.agg Nd.zero.arr) 19 160 Tryz.underlying22 hi0' hz0 hz1 hz2 rfl (by decide) (.slice p9 6 c9) 6 (f3.flatMap Nd.cells) rfl (zad hr9 hb2) ⟨g2, 0, none⟩ 2 2 ((hN 4 655360).cells ++ (kN 6).cells) rfl rfl (World.news_of_block (cs := ((hN 4 655360).cells ++ (kN 6).cells).toArray) hk2) (H2 _ _).out (by decide) (by decide) (hb9.trans (hb2.mono hb9.size)).size ?_; intro v10 w10 hown10 hgrow10 hat10; have hb10 : Below w.heap.size w w10 := (hb9.trans (hb2.mono hb9.size)).grown hgrow10 (hb9.trans (hb2.mono hb9.size)).size (fun g hg => (hr9.lt g hg).1); have hr10 : w10.ownsRow w.heap.size 53 19 v10 8 (f4.flatMap Nd.cells) := hown10; clear hown10 hgrow10 hat10; obtain ⟨p10, c10, rfl⟩ := zaf hr10) | (at_builtin; refine zah _ rfl _ _ _ rfl w.heap.size 53 i0 (.agg Nd.zero.arr) 19 160 Tryz.underlying22 hi0' hz0 hz1 hz2 rfl (by decide) (.slice p10 8 c10) 8 (f4.flatMap Nd.cells) rfl (zad hr10 ((Below.refl _ _).alloc (Nat.le_refl _) _)) ⟨w10.heap.size, 0, none⟩ 1 1 (kN 6).cells rfl rfl (World.news_of_block (cs := (kN 6).arr) (heap_alloc_new _ _)) (H1 _).out (by decide) (by decide) (hB.out w10 (.cells (kN 6).arr 53) hb10).size ?_; intro v11 w11 hown11 hgrow11 hat11; have hb11 : Below w.heap.size w w11 := (hB.out w10 (.cells (kN 6).arr 53) hb10).grown hgrow11 (hB.out w10 (.cells (kN 6).arr 53) hb10).size (fun g hg => (hr10.lt g hg).1); have hr11 : w11.ownsRow w.heap.size 53 19 v11 9 (footN.flatMap Nd.cells) := hown11; clear hown11 hgrow11 hat11; obtain ⟨p11, c11, rfl⟩ := zaf hr11))
 go_ret
 exact ⟨⟨_, rfl, hr11⟩, hb11⟩
theorem cin_nil (w : World) : CIn w none 0 0 0 [] := ⟨fun h => absurd rfl h, fun h => absurd rfl h, fun j h => by simp at h, Nat.le_refl _, by simp⟩
def footD : Dealt := zbt footN (footN.length : Nat) [] 2949120 131072
theorem footD_is : (footD.page.length == 2 && (footD.boxes.map List.length == [2]) && decide (2 < footD.rest.length) && footD.e == 0) = true := by decide +kernel
theorem deal_foot {w w' : World} {e : Ending} (h : zcw w footD e w') : ∃ pa ca gB cb pr cr nr pz cz, e = .returned (.tuple #[.slice pa 2 ca, .slice (some ⟨gB, 0, none⟩) 1 cb, .slice pr nr cr, .int .i64 0]) /\ 2 < nr /\ w'.cell? ⟨gB, 0, none⟩ = some (.slice pz 2 cz) /\ Below w.heap.size w w' := by
 have hf := footD_is
 simp only [Bool.and_eq_true, beq_iff_eq, decide_eq_true_eq] at hf
 obtain ⟨⟨⟨h1, h2⟩, h3⟩, h4⟩ := hf
 obtain ⟨⟨vs, bv, rfl, hd⟩, hb⟩ := h
 have hl : footD.boxes.length = 1 := by have := congrArg List.length h2; simpa using this
 have r0 := hd.rws.row 0 (by show 0 < footD.boxes.length + 2; omega)
 have r1 := hd.rws.row 1 (by show 1 < footD.boxes.length + 2; omega)
 have r2 := hd.rws.row 2 (by show 2 < footD.boxes.length + 2; omega)
 have ho : w'.ownsRow w.heap.size 22 1 bv footD.boxes.length (boxV (footD.boxes.length + 2) vs) := hd.out
 obtain ⟨gB, cb, e3, _, _, _, hcell, _⟩ := zbv ho (k := 0) (by omega)
 obtain ⟨pa, ca, e0⟩ := zaf r0
 obtain ⟨pr, cr, e1⟩ := zaf r1
 obtain ⟨pz, cz, e2⟩ := zaf r2
 have hz : (rowX footD.page ⟨footD.boxes, footD.rest⟩ 2).length = 2 := by
  show ((footD.boxes[0]?).getD []).length = 2
  cases hbx : footD.boxes with
  | nil => rw [hbx] at hl; cases hl
  | cons y r => rw [hbx] at h2; simp at h2; simpa using h2.1
 rw [hz] at e2
 refine ⟨pa, ca, gB, cb, pr, cr, footD.rest.length, pz, cz, ?_, h3, by rw [hcell, e2], hb⟩
 rw [e0, e1, e3, h4, hl]
 show Ending.returned (.tuple #[.slice pa footD.page.length ca, _, _, _]) = _
 rw [h1]
 rfl
end
section
theorem run_items {X : List Nd} {i : Nat} {s : List Nat} (h : Items X i s) : ∀ {d d2 : Int} {st2 : List Int}, runC (X.drop i) [] d = some (st2, d2) -> st2 = [] := by
 induction h with
 | done =>
  intro d d2 st2 h
  rw [List.drop_length] at h
  unfold runC at h
  cases h
  rfl
 | step hi hm hs ih =>
  rename_i i m r
  intro d d2 st2 h
  have hp := zaw _ _ _ hm
  have e : X.drop i = (X.drop i).take m ++ X.drop (i + m) := by rw [<- List.drop_drop, List.take_append_drop]
  rw [e, runC_app] at h
  obtain ⟨⟨st3, d3⟩, h1, h2⟩ := Option.bind_eq_some_iff.1 h
  have h3 : st3 = [] := runC_len _ (X.drop (i + m)) [] st3 d d3 h1 (by rw [<- e, List.length_take, Nat.min_eq_left hp.2]; exact hm)
  subst h3
  exact ih h2
theorem check_take {L : List Nd} {t : Nat} (hc : zao L = 0) (ht : t ∈ itsP L \/ t = L.length) : zao (L.take t) = 0 := by
 obtain ⟨hl, d, hd, hr⟩ := zaj hc
 have hi := zbL (zaO hc) ht
 rw [<- List.take_append_drop t L, runC_app] at hr
 obtain ⟨⟨st2, d2⟩, h1, h2⟩ := Option.bind_eq_some_iff.1 hr
 have h3 : st2 = [] := run_items (X := L.take t) hi (by rw [List.drop_zero]; exact h1)
 subst h3
 obtain ⟨h4, _⟩ := runC_dd _ _ _ _ _ 0 h2
 unfold zao
 rw [if_neg (by rw [List.length_take]; omega), h1]
 unfold codeC
 simp only [List.length_nil, Nat.lt_irrefl, if_false]
 rw [if_neg (by simp only at h4; omega)]
theorem colP_zero {L : List Nd} {s : List Nat} : colP L s = 0 ↔ zao L = 0 /\ s.any (fun i => badN (nth L i)) = false /\ s.all (fun i => zbV (nth L i)) = true := by
 unfold colP
 constructor
 ·
  intro h
  split at h
  ·
   rename_i hc
   split at h
   · cases h
   ·
    rename_i hb
    split at h
    · rename_i hf; exact ⟨hc, by simpa using hb, hf⟩
    · cases h
  · rename_i hc; exact absurd h hc
 ·
  rintro ⟨h1, h2, h3⟩
  rw [if_pos h1, h2, h3]
  simp
theorem insE_zero {L : List Nd} : ∀ (s : List Nat), (∀ x ∈ s, (nth L x).kind = 13 -> colQ (insP L x) = 0) -> insE L s = 0
 | [], _ => rfl
 | x :: r, h => by
  unfold insE
  have hr := insE_zero r fun y hy => h y (List.mem_cons_of_mem _ hy)
  split
  ·
   rename_i hk
   rw [if_pos (h x List.mem_cons_self hk)]
   exact hr
  · exact hr
theorem ahead_ahead {s : List Nat} {t x : Nat} (hx : x ∈ zaF s t) : zaF (zaF s t) x = zaF s x := by
 unfold zaF at hx ⊢
 induction s with
 | nil => cases hx
 | cons a r ih =>
  rw [List.takeWhile_cons] at hx
  by_cases ha : a = t
  · subst ha; simp at hx
  ·
   rw [if_pos (by simpa using ha)] at hx
   rw [List.takeWhile_cons, if_pos (by simpa using ha)]
   by_cases hax : a = x
   · subst hax; simp
   ·
    rw [List.takeWhile_cons, if_pos (by simpa using hax), List.takeWhile_cons, if_pos (by simpa using hax)]
    rcases List.mem_cons.1 hx with h | h
    · exact absurd h.symm hax
    · rw [ih h]
theorem foldM_same {L L' : List Nd} {depth : Int} {s : List Nat} (h : ∀ x ∈ s, nth L' x = nth L x) : zbn L' depth s = zbn L depth s := by
 unfold zbn
 generalize (⟨.zero, 0, depth⟩ : Mt) = m
 induction s generalizing m with
 | nil => rfl
 | cons a r ih =>
  rw [List.foldl_cons, List.foldl_cons, h a List.mem_cons_self]
  exact ih (fun x hx => h x (List.mem_cons_of_mem _ hx)) _
theorem step_same {L L' : List Nd} {C : List Cl} {depth : Int} {st : As} {x : Nat} (h1 : nth L' x = nth L x) (h2 : insP L' x = insP L x) (h3 : zap L' (itsP L') x depth = zap L (itsP L) x depth) : zbp L' C depth st x = zbp L C depth st x := by
 unfold zbp fitI zbE
 rw [h1, h2, h3]
theorem fold_same {L L' : List Nd} {C : List Cl} {depth : Int} : ∀ (s : List Nat) (p : As × List Sp), (∀ x ∈ s, nth L' x = nth L x) -> (∀ x ∈ s, (nth L x).kind = 13 -> ∀ st, zbp L' C depth st x = zbp L C depth st x) -> s.foldl (addI L' C depth) p = s.foldl (addI L C depth) p
 | [], p, _, _ => rfl
 | x :: s, p, h1, h2 => by
  rw [List.foldl_cons, List.foldl_cons]
  have e : addI L' C depth p x = addI L C depth p x := by
   unfold addI
   rw [h1 x List.mem_cons_self]
   split
   · rename_i hk; rw [h2 x List.mem_cons_self hk]
   · rfl
  rw [e]
  exact fold_same s _ (fun y hy => h1 y (List.mem_cons_of_mem _ hy)) (fun y hy => h2 y (List.mem_cons_of_mem _ hy))
theorem fold_pref {L : List Nd} {C : List Cl} {depth : Int} : ∀ (s : List Nat) (p : As × List Sp), p.2 <+: (s.foldl (addI L C depth) p).2
 | [], p => List.prefix_refl _
 | x :: s, p => by
  rw [List.foldl_cons]
  refine List.IsPrefix.trans ?_ (fold_pref s _)
  unfold addI
  split
  · exact List.prefix_append _ _
  · exact List.prefix_refl _
theorem begin_acc {L : List Nd} {C : List Cl} {t : Nat} (h : AccOk L C) (ht : t ∈ itsP L \/ t = L.length) : accE (L.take t) C = 0 /\ ∀ goal depth : Int, (accF (L.take t) C goal depth (itsP (L.take t))).2 <+: (accF L C goal depth (itsP L)).2 := by
 obtain ⟨hc, hb, hf⟩ := colP_zero.1 h.col
 have hs := zaO hc
 have hct := check_take hc ht
 have hit : itsP (L.take t) = zaF (itsP L) t := itsP_eq (zbL hs ht)
 have hlen : (L.take t).length <= t := by rw [List.length_take]; omega
 have hst := zaO hct
 have hlt : ∀ x ∈ itsP (L.take t), x < t := fun x hx => by have := (hst.lt x hx).2; omega
 have hn : ∀ x ∈ itsP (L.take t), nth (L.take t) x = nth L x := fun x hx => nth_take (hlt x hx)
 have hmem : ∀ x ∈ itsP (L.take t), x ∈ itsP L := fun x hx => by rw [hit] at hx; exact zcq x hx
 have hins : ∀ x ∈ itsP (L.take t), insP (L.take t) x = insP L x := fun x hx => by
  obtain ⟨m, hm⟩ := hst.at_ x hx
  exact take_ins (hst.lt x hx).2 hm
 have hcol : colQ (L.take t) = 0 := colP_zero.2 ⟨hct, by
  rw [List.any_eq_false] at hb ⊢
  intro x hx
  rw [hn x hx]
  exact hb x (hmem x hx), by
  rw [List.all_eq_true] at hf ⊢
  intro x hx
  rw [hn x hx]
  exact hf x (hmem x hx)⟩
 refine ⟨?_, fun goal depth => ?_⟩
 ·
  unfold accE
  rw [if_pos h.cls, if_pos hcol]
  refine insE_zero _ fun x hx hk => ?_
  rw [hins x hx]
  exact h.ins x (hmem x hx) (by rw [<- hn x hx]; exact hk)
 ·
  unfold accF
  rw [fold_same (L := L) (L' := L.take t) (itsP (L.take t)) _ hn (fun x hx _ st => step_same (hn x hx) (hins x hx) (by
   unfold zap
   rw [hit] at hx ⊢
   rw [ahead_ahead hx]
   rw [foldM_same fun y hy => ?_]
   refine nth_take ?_
   rw [<- ahead_ahead hx, <- hit] at hy
   exact hlt y (zcq y hy)))]
  obtain ⟨r, hr⟩ : zaF (itsP L) t <+: itsP L := List.takeWhile_prefix _
  rw [hit]
  conv => rhs; rw [<- hr, List.foldl_append]
  exact fold_pref r _
attribute [local go_sem ↓] Go.wp_at_zero Go.wp_at_succ
theorem accR_fine {L : List Nd} {C : List Cl} {goal depth : Int} (h : accE L C = 0) (hd : (zac goal && zac depth) = true) : accR L C goal depth = ((accF L C goal depth (itsP L)).2, (accF L C goal depth (itsP L)).1.t, 0) := by
 unfold accR
 rw [if_pos h, if_pos hd]
end
section
theorem held_put {st : As} {met : List (Int × Ho)} {g p : Int} {t : Tt} {k : Nat} {h : Ho} (hm : met = putI st.met (k : Int) h) (a : Nat) : zcW ⟨g, p, met, t⟩ (a : Int) = if a = k then h else zcW st (a : Int) := by
 unfold zcW
 simp only [hm, getI_put]
 by_cases e : a = k
 · subst e; simp
 · rw [if_neg (by omega), if_neg e]
end
section
open Go.Extern.Stop Go.Stop Go.Extern
theorem as_valueOf2 (t : Addr) (w : World) : (ReflectliteValue.unpack (.iface 77 (.pointer (some t)))).run Tryz.prog w
 = .ok (.agg #[.pointer (some ⟨1, 77, none⟩), .pointer (some ⟨w.heap.size, 0, none⟩), .int .u64 150]) (w.alloc (.cells #[.pointer (some t)] 77)) := by kernel_rfl
theorem as_type2 (a : Addr) (w : World) : (ReflectliteValue.methodAny (ReflectliteValue.valueError "reflectlite.Value.Type" 0) (fun t _ _ _ => ReflectliteType.toType t) #[.agg #[.pointer (some ⟨1, 77, none⟩), .pointer (some a), .int .u64 150]]).run Tryz.prog w
 = .ok (.iface 159 (.agg #[.pointer (some ⟨1, 77, none⟩)])) w := by kernel_rfl
theorem as_methodKind (h : Value) (w : World) : (Go.method 329 159 (.agg #[h]) "Kind").run Tryz.prog w = .ok (173, h) w := by kernel_rfl
theorem as_kind2 (w : World) : ((ReflectliteType.abiMethod fun t => (fun a : Nat => Value.int IntKind.u8 (a : Int)) <$> Rtype.kind t) #[.pointer (some ⟨1, 77, none⟩)]).run Tryz.prog w = .ok (.int .u8 22) w := by kernel_rfl
theorem as_kind1 (w : World) : ((ReflectliteType.abiMethod fun t => (fun a : Nat => Value.int IntKind.u8 (a : Int)) <$> Rtype.kind t) #[.pointer (some ⟨1, 75, none⟩)]).run Tryz.prog w = .ok (.int .u8 22) w := by kernel_rfl
theorem rlm (z : Sem Value) (f : TypeId -> Addr -> Nat -> Nat -> Sem Value) (v : Value) :
 ReflectliteValue.method z f #[v] = (do match <- ReflectliteValue.parts v with | none => z | some (t, a, fl) => f t a fl (fl % 32)) := rfl
theorem as_parts2 (a : Addr) (w : World) : (ReflectliteValue.parts (.agg #[.pointer (some ⟨1, 77, none⟩), .pointer (some a), .int .u64 150])).run Tryz.prog w = .ok (some (77, a, 150)) w := by kernel_rfl
theorem as_isNil2 (a p : Addr) (W : World) (ha : W.cell? a = some (.pointer (some p))) :
 (ReflectliteValue.method (ReflectliteValue.valueError "reflectlite.Value.IsNil" 0) ReflectliteValue.isNil #[.agg #[.pointer (some ⟨1, 77, none⟩), .pointer (some a), .int .u64 150]]).run Tryz.prog W = .ok (.bool false) W := by
 rw [rlm]
 simp only [Sem.run_bind, as_parts2, Result.andThen]
 simp [ReflectliteValue.isNil, loadVar, isAgg, underlying, Tryz.underlying77, ha, Result.andThen]
theorem as_methodElem (h : Value) (w : World) : (Go.method 329 159 (.agg #[h]) "Elem").run Tryz.prog w = .ok (183, .agg #[h]) w := by kernel_rfl
theorem as_methodImplements (h : Value) (w : World) : (Go.method 329 159 (.agg #[h]) "Implements").run Tryz.prog w = .ok (184, .agg #[h]) w := by kernel_rfl
theorem as_methodAssignableTo (h : Value) (w : World) : (Go.method 329 159 (.agg #[h]) "AssignableTo").run Tryz.prog w = .ok (181, .agg #[h]) w := by kernel_rfl
theorem as_elem2 (w : World) : (ReflectliteType.method ReflectliteType.elem #[.agg #[.pointer (some ⟨1, 77, none⟩)]]).run Tryz.prog w = .ok (.iface 159 (.agg #[.pointer (some ⟨1, 75, none⟩)])) w := by kernel_rfl
theorem as_implements1 (w : World) : (ReflectliteType.relation "Implements" ReflectliteType.implements_ #[.agg #[.pointer (some ⟨1, 75, none⟩)], .iface 159 (.agg #[.pointer (some ⟨1, 72, none⟩)])]).run Tryz.prog w = .ok (.bool true) w := by kernel_rfl
theorem as_typeOf1 (v : Value) (w : World) : (ReflectliteType.typeOf #[.iface 75 v]).run Tryz.prog w = .ok (.iface 159 (.agg #[.pointer (some ⟨1, 75, none⟩)])) w := by kernel_rfl
theorem as_assignable1 (w : World) : (ReflectliteType.relation "AssignableTo" ReflectliteType.assignableTo #[.agg #[.pointer (some ⟨1, 75, none⟩)], .iface 159 (.agg #[.pointer (some ⟨1, 75, none⟩)])]).run Tryz.prog w = .ok (.bool true) w := by kernel_rfl
theorem as_valueOf1 (e : Addr) (w : World) : (ReflectliteValue.unpack (.iface 75 (.pointer (some e)))).run Tryz.prog w
 = .ok (.agg #[.pointer (some ⟨1, 75, none⟩), .pointer (some ⟨w.heap.size, 0, none⟩), .int .u64 150]) (w.alloc (.cells #[.pointer (some e)] 75)) := by kernel_rfl
theorem as_elemOf2 (w : World) : (Rtype.elem? 77).run Tryz.prog w = .ok (some 75) w := by kernel_rfl
theorem as_mk1 (p : Addr) (w : World) : (ReflectliteValue.mk 75 p ReflectliteValue.flagAddr).run Tryz.prog w = .ok (.agg #[.pointer (some ⟨1, 75, none⟩), .pointer (some p), .int .u64 406]) w := by kernel_rfl
theorem as_elemV2 (a p : Addr) (W : World) (ha : W.cell? a = some (.pointer (some p))) :
 (ReflectliteValue.method (ReflectliteValue.valueError "reflectlite.Value.Elem" 0) ReflectliteValue.elem #[.agg #[.pointer (some ⟨1, 77, none⟩), .pointer (some a), .int .u64 150]]).run Tryz.prog W
  = .ok (.agg #[.pointer (some ⟨1, 75, none⟩), .pointer (some p), .int .u64 406]) W := by
 rw [rlm]
 simp only [Sem.run_bind, as_parts2, Result.andThen]
 simp [ReflectliteValue.elem, loadVar, isAgg, underlying, Tryz.underlying77, ha, Result.andThen, as_elemOf2, as_mk1]
theorem rls (v x : Value) : ReflectliteValue.set #[v, x] = (do
 let (some (dst, a, fl), some (src, b, _)) := (<- ReflectliteValue.parts v, <- ReflectliteValue.parts x)
  | unsupported (.noEntry "extern/(internal/reflectlite.Value).Set.zeroValue")
 if fl / ReflectliteValue.flagAddr % 2 == 0 then unsupported (.noEntry "extern/(internal/reflectlite.Value).Set.unaddressable")
 let val <- loadVar src b
 if <- Rtype.directlyAssignable dst src then storeVar dst a val
 else if <- Rtype.implements dst src then
  if (<- Rtype.kind src) == 20 then
   match val with
   | .nilIface => unsupported (.noEntry "extern/reflectlite: a nil value of one interface type handed on as a value of another")
   | _ => storeVar dst a val
  else storeVar dst a (.iface src val)
 else panicString ("reflectlite.Set: value of type " ++ (<- Rtype.spelt src) ++ " is not assignable to type " ++ (<- Rtype.spelt dst))
 pure (.tuple #[])) := rfl
theorem as_parts1a (a : Addr) (w : World) : (ReflectliteValue.parts (.agg #[.pointer (some ⟨1, 75, none⟩), .pointer (some a), .int .u64 406])).run Tryz.prog w = .ok (some (75, a, 406)) w := by kernel_rfl
theorem as_parts1 (a : Addr) (w : World) : (ReflectliteValue.parts (.agg #[.pointer (some ⟨1, 75, none⟩), .pointer (some a), .int .u64 150])).run Tryz.prog w = .ok (some (75, a, 150)) w := by kernel_rfl
theorem as_direct1 (w : World) : (Rtype.directlyAssignable 75 75).run Tryz.prog w = .ok true w := by kernel_rfl
theorem as_set1 (ta b e : Addr) (old : Value) (W : World) (hb : W.cell? b = some (.pointer (some e))) (ht : W.cell? ta = some old) (hf : W.frozen? ta = false) :
 (ReflectliteValue.set #[.agg #[.pointer (some ⟨1, 75, none⟩), .pointer (some ta), .int .u64 406], .agg #[.pointer (some ⟨1, 75, none⟩), .pointer (some b), .int .u64 150]]).run Tryz.prog W
  = .ok (.tuple #[]) (W.setCell ta (.pointer (some e))) := by
 rw [rls]
 simp only [Sem.run_bind, as_parts1a, as_parts1, Result.andThen]
 simp [ReflectliteValue.flagAddr, loadVar, isAgg, underlying, Tryz.underlying75, hb, Result.andThen, as_direct1, storeVar, Value.cells, storeCells, Addr.add]
 rw [run_store Tryz.prog W ta _ _ (by rfl)]
 simp [ht, hf]
theorem as_hit (e t : Addr) (old : Value) (w : World) (hg : w.cell? ⟨0, 0, none⟩ = some (.iface 159 (.agg #[.pointer (some ⟨1, 72, none⟩)]))) (ht0 : w.cell? t = some old) (hf0 : w.frozen? t = false) :
 Calls Tryz.prog 32 #[.iface 75 (.pointer (some e)), .iface 77 (.pointer (some t))] w fun ev w' => ev = .returned (.bool true) /\ w' = ((((w.alloc (.cells #[.pointer (some t)] 77)).alloc (.cells #[.pointer (some ⟨1, 77, none⟩), .pointer (some ⟨w.heap.size, 0, none⟩), .int .u64 150] 119)).alloc (.cells #[.pointer (some ⟨1, 77, none⟩), .pointer (some ⟨w.heap.size, 0, none⟩), .int .u64 150] 119)).alloc (.cells #[.pointer (some e)] 75)).setCell t (.pointer (some e)) := by
 have h6 := @run_callFunc_extern Tryz.prog 61 _ (fun args => ReflectliteValue.unpack (args.getD 0 (.tuple #[]))) Tryz.func61 (by kernel_rfl) (by kernel_rfl) (by kernel_rfl) (by kernel_rfl)
 have h7 := @run_callFunc_extern Tryz.prog 62 _ (ReflectliteValue.methodAny (ReflectliteValue.valueError "reflectlite.Value.Type" 0) (fun t _ _ _ => ReflectliteType.toType t)) Tryz.func62 (by kernel_rfl) (by kernel_rfl) (by kernel_rfl) (by kernel_rfl)
 have h8 := @run_callFunc_extern Tryz.prog 63 _ (ReflectliteValue.method (ReflectliteValue.valueError "reflectlite.Value.IsNil" 0) ReflectliteValue.isNil) Tryz.func63 (by kernel_rfl) (by kernel_rfl) (by kernel_rfl) (by kernel_rfl)
 have h27 := @run_callFunc_extern Tryz.prog 173 _ (ReflectliteType.abiMethod fun t => do pure (.int .u8 (<- Rtype.kind t))) Tryz.func173 (by kernel_rfl) (by kernel_rfl) (by kernel_rfl) (by kernel_rfl)
 have h37 := @run_callFunc_extern Tryz.prog 183 _ (ReflectliteType.method ReflectliteType.elem) Tryz.func183 (by kernel_rfl) (by kernel_rfl) (by kernel_rfl) (by kernel_rfl)
 have h38 := @run_callFunc_extern Tryz.prog 184 _ (ReflectliteType.relation "Implements" ReflectliteType.implements_) Tryz.func184 (by kernel_rfl) (by kernel_rfl) (by kernel_rfl) (by kernel_rfl)
 have h10 := @run_callFunc_extern Tryz.prog 111 _ ReflectliteType.typeOf Tryz.func111 (by kernel_rfl) (by kernel_rfl) (by kernel_rfl) (by kernel_rfl)
 have h35 := @run_callFunc_extern Tryz.prog 181 _ (ReflectliteType.relation "AssignableTo" ReflectliteType.assignableTo) Tryz.func181 (by kernel_rfl) (by kernel_rfl) (by kernel_rfl) (by kernel_rfl)
 have h11 := @run_callFunc_extern Tryz.prog 112 _ (ReflectliteValue.method (ReflectliteValue.valueError "reflectlite.Value.Elem" 0) ReflectliteValue.elem) Tryz.func112 (by kernel_rfl) (by kernel_rfl) (by kernel_rfl) (by kernel_rfl)
 have h12 := @run_callFunc_extern Tryz.prog 113 _ ReflectliteValue.set Tryz.func113 (by kernel_rfl) (by kernel_rfl) (by kernel_rfl) (by kernel_rfl)
 have tO := as_typeOf1
 have mA := as_methodAssignableTo
 have a25 := as_assignable1
 have v25 := as_valueOf1
 have f6 := as_valueOf2
 have f7 := as_type2
 have mK := as_methodKind
 have mE := as_methodElem
 have mI := as_methodImplements
 have k27 := as_kind2
 have k25 := as_kind1
 have e27 := as_elem2
 have i25 := as_implements1
 have n8 := as_isNil2 ⟨w.heap.size, 0, none⟩ t ((w.alloc (.cells #[.pointer (some t)] 77)).alloc (.cells #[.pointer (some ⟨1, 77, none⟩), .pointer (some ⟨w.heap.size, 0, none⟩), .int .u64 150] 119)) (by simp)
 have hlt : 0 < w.heap.size := by
  rcases Nat.eq_zero_or_pos w.heap.size with h0 | h
  · simp [World.cell?, h0] at hg
  · exact h
 have hg2 : ((w.alloc (.cells #[.pointer (some t)] 77)).alloc (.cells #[.pointer (some ⟨1, 77, none⟩), .pointer (some ⟨w.heap.size, 0, none⟩), .int .u64 150] 119)).cell? ⟨0, 0, none⟩ = some (.iface 159 (.agg #[.pointer (some ⟨1, 72, none⟩)])) := by
  rw [World.cell?_alloc_lt _ _ ⟨0, 0, none⟩ (by simp), World.cell?_alloc_lt _ _ ⟨0, 0, none⟩ hlt]; exact hg
 have htl : t.block < w.heap.size := by
  rcases Nat.lt_or_ge t.block w.heap.size with h | h
  · exact h
  · simp [World.cell?, Array.getElem?_eq_none h] at ht0
 have el := as_elemV2 ⟨w.heap.size, 0, none⟩ t (((w.alloc (.cells #[.pointer (some t)] 77)).alloc (.cells #[.pointer (some ⟨1, 77, none⟩), .pointer (some ⟨w.heap.size, 0, none⟩), .int .u64 150] 119)).alloc (.cells #[.pointer (some ⟨1, 77, none⟩), .pointer (some ⟨w.heap.size, 0, none⟩), .int .u64 150] 119)) (by rw [World.cell?_alloc_lt _ _ ⟨w.heap.size, 0, none⟩ (by simp; omega)]; simp)
 have st := as_set1 t ⟨w.heap.size + 1 + 1 + 1, 0, none⟩ e old ((((w.alloc (.cells #[.pointer (some t)] 77)).alloc (.cells #[.pointer (some ⟨1, 77, none⟩), .pointer (some ⟨w.heap.size, 0, none⟩), .int .u64 150] 119)).alloc (.cells #[.pointer (some ⟨1, 77, none⟩), .pointer (some ⟨w.heap.size, 0, none⟩), .int .u64 150] 119)).alloc (.cells #[.pointer (some e)] 75))
  (by rw [World.cell?_alloc_at _ _ _ _ (by simp)]; rfl)
  (by rw [World.cell?_alloc_lt _ _ t (by simp; omega), World.cell?_alloc_lt _ _ t (by simp; omega), World.cell?_alloc_lt _ _ t (by simp; omega), World.cell?_alloc_lt _ _ t htl]; exact ht0)
  (by rw [World.frozen?_alloc_old _ _ t (by simp; omega), World.frozen?_alloc_old _ _ t (by simp; omega), World.frozen?_alloc_old _ _ t (by simp; omega), World.frozen?_alloc_old _ _ t (Nat.ne_of_lt htl)]; exact hf0)
 go_enter Tryz.func32, Tryz.ntmps32
 go_wp2
 refine wp_loop_rounds 1 ?_
 rw [rounds_succ]
 go_wp2
 go_ret
 exact ⟨rfl, rfl⟩
end
end Go.Proofs.YtaehkbbdmamfpaaGreatDoor
