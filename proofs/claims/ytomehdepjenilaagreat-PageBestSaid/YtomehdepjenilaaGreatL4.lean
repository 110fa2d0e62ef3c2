/-
  vlist.Legal: where a column may be broken, and at what penalty.
-/
import Derived.Test.YtomehdepjenilaaGreatH0
import Derived.Test.YtomehdepjenilaaGreatV11b
import Derived.Test.YtomehdepjenilaaGreatL3
namespace Go.Proofs.YtomehdepjenilaaGreat
open Go.ChangeShapes Go.WideShapes Go.ChangeAt Go.RowKit Go.Shelf
attribute [local go_sem] Oper.semAt_some
structure Two (W : World) (R Z n m : Nat) (a b : List Int) (v u : Value) : Prop where
  bv : Boxed W Z 50 v
  bu : Boxed W (Z + 1) 50 u
  rv : W.ownsRow R 3 1 v n (ints a)
  ru : W.ownsRow R 3 1 u m (ints b)
  ne : ∀ g, v.ownBlock = some g → u.ownBlock ≠ some g
theorem abides_box {β : Type} {B m X : Nat} {t : TypeId} {f : β → Value} (hX : X < B) : Abides B m (fun s W => Boxed W X t (f s)) := fun s A C row hs hg hr =>
  (hg.block X hs.lt (fun e => by have := (hr X e.symm).1; omega)).trans hs
theorem abides_below {β : Type} {n₀ B m : Nat} {w₀ : World} (hn : n₀ ≤ w₀.heap.size) (hB : n₀ ≤ B) : Abides B m (fun (_ : β) W => Below n₀ w₀ W) :=
  fun _ _ _ _ hs hg hr => hs.grown hg (Nat.le_trans hn hs.size) (fun k e => Nat.le_trans hB (hr k e).1)
theorem owns_turn {A C : World} {B m R n size : Nat} {E : TypeId} {v : Value} {xs : List Value} {row : Option Nat} (hR : B + m ≤ R) (hg : A.grownBy C row) (hr : Turns B m A row) (h : A.ownsRow R E size v n xs) : C.ownsRow R E size v n xs := by
  refine h.kept hg ?_
  cases hv : v.ownBlock with
  | none => exact .inl rfl
  | some g =>
    refine .inr fun e => ?_
    have h1 := h.lt g hv
    rcases (hr g e.symm).2 with h2 | ⟨o, ho, hc⟩
    · omega
    · rw [owns_cells h g o hv ho] at hc; cases hc
theorem abides_two {β : Type} {B m R Z : Nat} {n k : β → Nat} {a b : β → List Int} (hZ : Z + 1 < B) (hR : B + m ≤ R) : Abides B m (fun s W => ∃ v u, Two W R Z (n s) (k s) (a s) (b s) v u) := fun s A C row hs hg hr => by
  obtain ⟨v, u, h⟩ := hs
  exact ⟨v, u, ⟨(hg.block Z h.bv.lt (fun e => by have := (hr Z e.symm).1; omega)).trans h.bv, (hg.block (Z + 1) h.bu.lt (fun e => by have := (hr (Z + 1) e.symm).1; omega)).trans h.bu, owns_turn hR hg hr h.rv, owns_turn hR hg hr h.ru, h.ne⟩⟩
section
variable {W w1 : World} {R Z n m g cap : Nat} {a b : List Int} {v u : Value} {x : Int}
structure Stepped (W C : World) (R Z : Nat) : Prop where
  others : KeepsOthers W C
  frame : ∀ k, k < R → k ≠ Z → C.heap[k]? = W.heap[k]?
  below : ∀ n₀, n₀ ≤ Z → n₀ ≤ R → n₀ ≤ W.heap.size → Below n₀ W C
theorem box_far {X : Nat} {t : TypeId} (ht : t ≠ 3) {y : Value} (hb : Boxed W X t y) {v : Value} {k : Nat} {xs : List Value} (hr : W.ownsRow R 3 1 v k xs) : v.ownBlock ≠ some X := fun e => hb.not_row ht hr e.symm
theorem push_box {X : Nat} {t : TypeId} {y : Value} {tmp : Obj} (ht : t ≠ 3) (hb : Boxed W X t y) {k : Nat} {xs : List Value} (hr : W.ownsRow R 3 1 v k xs) (hg : (W.alloc tmp).grownBy w1 v.ownBlock) : Boxed w1 X t y :=
  (hb.alloc tmp).kept hg (fun e => box_far ht hb hr e.symm)
theorem pushed {Y : Nat} {tmp : Obj} {k : Nat} {xs : List Value} (hR : R ≤ W.heap.size) (hr : W.ownsRow R 3 1 v k xs) (hg : (W.alloc tmp).grownBy w1 v.ownBlock) (v' : Value) : Stepped W (w1.setCell ⟨Y, 0, none⟩ v') R Y := by
  refine ⟨((KeepsOthers.alloc W tmp).trans (KeepsOthers.of_grownBy hg (owns_cells (hr.alloc tmp)))).trans (KeepsOthers.setCell _ _ _), fun i hi hne => ?_, fun n₀ h1 h2 h3 => ?_⟩
  · exact ((Below.heap_setCell _ _ _ i hne).trans (hg.block i (by simp; omega) (fun e => by have := (hr.lt i e.symm).1; omega))).trans (Below.heap_alloc _ _ _ (by omega))
  · exact (((Below.refl n₀ W).alloc h3 tmp).grown hg (by simp; omega) (fun i e => by have := (hr.lt i e).1; omega)).setCell (p := ⟨Y, 0, none⟩) h1 _
theorem Two.first (h : Two W R Z n m a b v u) (hg : (W.alloc (.cells #[.int .i64 x] 3)).grownBy w1 v.ownBlock) (hown : w1.ownsRow R 3 1 (.slice (some ⟨g, 0, none⟩) (n + 1) cap) (n + 1) (ints a ++ [.int .i64 x])) (hat : v.ownBlock = some g ∨ g = (W.alloc (.cells #[.int .i64 x] 3)).heap.size) :
    Two (w1.setCell ⟨Z, 0, none⟩ (.slice (some ⟨g, 0, none⟩) (n + 1) cap)) R Z (n + 1) m (a ++ [x]) b (.slice (some ⟨g, 0, none⟩) (n + 1) cap) u := by
  have kv := push_box (by decide) h.bv h.rv hg
  have ku := push_box (by decide) h.bu h.rv hg
  have ru : w1.ownsRow R 3 1 u m (ints b) := (h.ru.alloc _).kept hg (by
    cases hu : u.ownBlock with
    | none => exact .inl rfl
    | some q => exact .inr fun e => h.ne q e.symm hu)
  refine ⟨Boxed.set _ kv, ku.other (by omega) _, (by rw [ints_append]; exact hown.kept (grownBy_setCell' w1 Z _) (.inr (box_far (by decide) kv hown))), ru.kept (grownBy_setCell' w1 Z _) (.inr (box_far (by decide) kv ru)), fun q hq hu => ?_⟩
  obtain rfl : g = q := by simpa [Value.ownBlock] using hq
  rcases hat with e | e
  · exact h.ne g e hu
  · have h5 := (h.ru.lt g hu).2
    rw [World.size_alloc] at e; omega
theorem Two.swap (h : Two W R Z n m a b v u) (hg : (W.alloc (.cells #[.int .i64 x] 3)).grownBy w1 u.ownBlock) (hown : w1.ownsRow R 3 1 (.slice (some ⟨g, 0, none⟩) (m + 1) cap) (m + 1) (ints b ++ [.int .i64 x])) (hat : u.ownBlock = some g ∨ g = (W.alloc (.cells #[.int .i64 x] 3)).heap.size) :
    Two (w1.setCell ⟨Z + 1, 0, none⟩ (.slice (some ⟨g, 0, none⟩) (m + 1) cap)) R Z n (m + 1) a (b ++ [x]) v (.slice (some ⟨g, 0, none⟩) (m + 1) cap) := by
  have kv := push_box (by decide) h.bv h.ru hg
  have ku := push_box (by decide) h.bu h.ru hg
  have rv : w1.ownsRow R 3 1 v n (ints a) := (h.rv.alloc _).kept hg (by
    cases hu : v.ownBlock with
    | none => exact .inl rfl
    | some q => exact .inr fun e => h.ne q hu e.symm)
  refine ⟨kv.other (by omega) _, Boxed.set _ ku, rv.kept (grownBy_setCell' w1 (Z + 1) _) (.inr (box_far (by decide) ku rv)), (by rw [ints_append]; exact hown.kept (grownBy_setCell' w1 (Z + 1) _) (.inr (box_far (by decide) ku hown))), fun q hq hu => ?_⟩
  obtain rfl : g = q := by simpa [Value.ownBlock] using hu
  rcases hat with e | e
  · exact h.ne g hq e
  · have h5 := (h.rv.lt g hq).2
    rw [World.size_alloc] at e; omega
end
theorem Two.back {W : World} {R Z n m : Nat} {a b : List Int} {v u : Value} (h : Two W R Z n m a b v u) : Two ((W.setCell ⟨Z, 0, none⟩ v).setCell ⟨Z + 1, 0, none⟩ u).drew R Z n m a b v u := by
  have k1 : Boxed (W.setCell ⟨Z, 0, none⟩ v) Z 50 v := Boxed.set _ h.bv
  have k2 : Boxed (W.setCell ⟨Z, 0, none⟩ v) (Z + 1) 50 u := h.bu.other (by omega) _
  have r1 : (W.setCell ⟨Z, 0, none⟩ v).ownsRow R 3 1 v n (ints a) := h.rv.kept (grownBy_setCell' W Z _) (.inr (box_far (by decide) h.bv h.rv))
  have r2 : (W.setCell ⟨Z, 0, none⟩ v).ownsRow R 3 1 u m (ints b) := h.ru.kept (grownBy_setCell' W Z _) (.inr (box_far (by decide) h.bv h.ru))
  have q1 := r1.kept (grownBy_setCell' _ (Z + 1) u) (.inr (box_far (by decide) k2 r1))
  have q2 := r2.kept (grownBy_setCell' _ (Z + 1) u) (.inr (box_far (by decide) k2 r2))
  exact ⟨k1.other (by omega) _, Boxed.set _ k2, ownsRow_same q1 fun _ _ _ => rfl, ownsRow_same q2 fun _ _ _ => rfl, h.ne⟩
def legR (L : List Nd) (s : List Nat) : List (Nat × Int) := if colP L s = 0 then legalP L s else []
def atsP (l : List (Nat × Int)) : List Int := l.map fun x => (x.1 : Int)
def pensP (l : List (Nat × Int)) : List Int := l.map (·.2)
structure LegPost (w : World) (L : List Nd) (s : List Nat) (e : Ending) (w' : World) : Prop where
  ex : ∃ v u, e = .returned (.tuple #[v, u, .int .i64 (colP L s)]) ∧ w'.ownsRow w.heap.size 3 1 v (legR L s).length (ints (atsP (legR L s))) ∧ w'.ownsRow w.heap.size 3 1 u (legR L s).length (ints (pensP (legR L s))) ∧ ∀ g, v.ownBlock = some g → u.ownBlock ≠ some g
  below : Below w.heap.size w w'
def LeI (w : World) (Z R Bs : Nat) (p0 : Option Addr) (cap : Nat) (L : List Nd) (s : List Nat) (pre : List (Br L s)) (W : World) : Prop :=
  (∃ v u, Two W R Z pre.length pre.length (atsP (pre.map (·.1))) (pensP (pre.map (·.1))) v u) ∧ Boxed W Bs 27 (.slice p0 L.length cap) ∧ Below w.heap.size w W
set_option maxRecDepth 100000 in
set_option maxHeartbeats 8000000 in
theorem vlegal (p0 : Option Addr) (b off cap : Nat) (L : List Nd) (s : List Nat) (hs : checkC L = 0 → Items L 0 s) (w : World) (hN : NIn w p0 b off cap L) :
    Calls Tryz.prog 40 #[.slice p0 L.length cap] w (LegPost w L s) := by
  have hlen := hN.len
  have HN := Lib.hid hN
  have Hs := Lib.hid hs
  have HC : Hid (∀ W, Below w.heap.size w W → Calls Tryz.prog 63 #[.slice p0 L.length cap] W fun e w' => e = .returned (.int .i64 (colP L s)) ∧ Below W.heap.size W w') := Lib.hid fun W hb => column_any p0 b off cap L s Hs.out W (HN.out.below hb)
  have b0 : Boxed ((w.alloc (.cells #[.slice none 0 0] 50)).alloc (.cells #[.slice none 0 0] 50)) w.heap.size 50 (.slice none 0 0) := (Boxed.new w _ _).alloc _
  have b1 : Boxed ((w.alloc (.cells #[.slice none 0 0] 50)).alloc (.cells #[.slice none 0 0] 50)) (w.heap.size + 1) 50 (.slice none 0 0) := by have := Boxed.new (w.alloc (.cells #[.slice none 0 0] 50)) 50 (.slice none 0 0); rwa [World.size_alloc] at this
  have hb1 : Below w.heap.size w ((w.alloc (.cells #[.slice none 0 0] 50)).alloc (.cells #[.slice none 0 0] 50)) := ((Below.refl _ _).alloc (Nat.le_refl _) _).alloc (by simp) _
  clear hN hs
  refine (callsIn_wide (n := 8)).1 ?_
  refine callsIn_of_wp_marks Tryz.func40 rfl trivial ?_ rfl
  simp only [Tryz.ntmps40, List.size_toArray, List.length_cons, List.length_nil, Nat.reduceAdd, Nat.reduceSub, Array.replicate_succ, Array.replicate_zero, List.push_toArray, List.append_toArray, List.nil_append, List.cons_append]
  gi_wp2
  refine ⟨trivial, (callsIn_wide.2 (HC.out _ hb1)).mono ?_⟩
  rintro e w2 ⟨rfl, hb2⟩
  have d0 : Boxed w2 w.heap.size 50 (.slice none 0 0) := (hb2.block _ b0.lt).trans b0
  have d1 : Boxed w2 (w.heap.size + 1) 50 (.slice none 0 0) := (hb2.block _ b1.lt).trans b1
  have hbw := hb1.trans (hb2.mono hb1.size)
  clear b0 b1 hb1 hb2 HC
  by_cases hck : colP L s = 0
  · have hs := Hs.out (colP_check hck)
    have hl := (checkC_zero (colP_check hck)).1
    have Hck := Lib.hid hck
    rw [hck]
    have HI := Lib.hid (legal_any p0 L.length cap w2)
    clear hck Hs
    gi_wp2
    refine ⟨trivial, (callsIn_wide.2 HI.out).mono ?_⟩
    clear HI
    rintro e w4 ⟨rfl, rfl⟩
    have e0 := d0.alloc (.cells #[.slice p0 L.length cap] 27)
    have e1 := d1.alloc (.cells #[.slice p0 L.length cap] 27)
    have eB := hbw.alloc hbw.size (.cells #[.slice p0 L.length cap] 27)
    have eS := Boxed.new w2 27 (.slice p0 L.length cap)
    have hlt1 := d1.lt
    clear d0 d1 hbw
    gi_wp2
    generalize w2.alloc (.cells #[.slice p0 L.length cap] 27) = w5 at e0 e1 eB eS ⊢
    generalize w2.heap.size = Bs at eS hlt1 ⊢
    have hBs := eS.lt
    refine wpIn_range_cells rfl (by decide) (gf := 86) (lb := #[.pointer (some ⟨Bs, 0, none⟩)]) rfl trivial (enters_of Tryz.func86 (by kernel_rfl) rfl)
      (legal_seq 7 rfl Bs w.heap.size b off cap p0 L s hs hl w5 eS (HN.out.below eB) (fun e => HN.out.hb e) eB.size) kpL_t ?hKb (Below.refl _ _) (fun _ => rfl)
      (LeI w w.heap.size (w5.heap.size + 5) Bs p0 cap L s) (fun _ _ _ => False) ((abides_two (by omega) (by omega)).and ((abides_box hBs).and (abides_below (Nat.le_refl _) eB.size))) (fun _ => Abides.pure _ _ _)
      ⟨⟨_, _, e0, e1, World.ownsRow_nil _ _ _ _, World.ownsRow_nil _ _ _ _, fun g h => by cases h⟩, eS, eB⟩ ?a₁ ?assign ?body ?done ?stop
    case assign =>
      intro l x W K hK
      gi_wp2
      exact hK
    case body =>
      rintro l pre x W ⟨⟨v, u, hT⟩, hS, hb⟩ hsz hlt
      obtain ⟨i0, hi0', hz0, hz1, hz2⟩ := info_parts info_int
      have c0 := hT.bv.cell
      have f0 := hT.bv.frozen
      have hpl : pre.length ≤ 2001 := by have := hs.len; omega
      have rvA := hT.rv.alloc (.cells #[.int .i64 (x.1.1 : Nat)] 3)
      have hpo : ∀ q : Int, Hid (∀ u ∈ [Value.int .i64 q], u.oneCell' = true) := fun q => Lib.hid (by simp [Value.oneCell'])
      have H1 := hpo (x.1.1 : Nat)
      have H2 := hpo x.1.2
      have HT := Lib.hid hT
      clear hpo hT
      gi_upto_region 8 with (gi_at_builtin; refine wpListIn_append_lies _ rfl (.tmp 17) (.tmp 19) 50 rfl (w5.heap.size + 5) 3 i0 (.int .i64 0) 1 8 Tryz.underlying50 hi0' hz0 hz1 hz2 rfl (by decide) v pre.length (ints (atsP (pre.map (·.1)))) rfl rvA ⟨W.heap.size, 0, none⟩ 1 1 [.int .i64 (x.1.1 : Nat)] rfl rfl (World.news_of_block (cs := #[.int .i64 (x.1.1 : Nat)]) (heap_alloc_new _ _)) H1.out (by decide) (by unfold maxLen; omega) (by omega) (by simp; omega) _ rfl ?_; intro g8 cap8 w8 hown8 hgrow8 hat8 hlt8; (have kv := push_box (by decide) HT.out.bv HT.out.rv hgrow8); (have c8 := kv.cell); (have f8 := kv.frozen))
      have hT9 := HT.out.first hgrow8 hown8 hat8
      have hP9 := pushed (Y := w.heap.size) hsz HT.out.rv hgrow8 (.slice (some ⟨g8, 0, none⟩) (pre.length + 1) cap8)
      clear kv c8 f8 c0 f0 rvA hown8 hgrow8 hat8 hlt8 HT
      generalize w8.setCell ⟨w.heap.size, 0, none⟩ (.slice (some ⟨g8, 0, none⟩) (pre.length + 1) cap8) = w9 at hT9 hP9 ⊢
      have c1 := hT9.bu.cell
      have f1 := hT9.bu.frozen
      have ruA := hT9.ru.alloc (.cells #[.int .i64 x.1.2] 3)
      have hsz9 : w5.heap.size + 5 ≤ w9.heap.size := Nat.le_trans hsz hP9.others.size
      have HT9 := Lib.hid hT9
      have HP9 := Lib.hid hP9
      clear hT9 hP9
      gi_wp2_with (gi_at_builtin; refine wpListIn_append_lies _ rfl (.tmp 21) (.tmp 23) 50 rfl (w5.heap.size + 5) 3 i0 (.int .i64 0) 1 8 Tryz.underlying50 hi0' hz0 hz1 hz2 rfl (by decide) u pre.length (ints (pensP (pre.map (·.1)))) rfl ruA ⟨w9.heap.size, 0, none⟩ 1 1 [.int .i64 x.1.2] rfl rfl (World.news_of_block (cs := #[.int .i64 x.1.2]) (heap_alloc_new _ _)) H2.out (by decide) (by unfold maxLen; omega) (by omega) (by simp; omega) _ rfl ?_; intro g10 cap10 w10 hown10 hgrow10 hat10 hlt10; (have ku := push_box (by decide) HT9.out.bu HT9.out.ru hgrow10); (have c10 := ku.cell); (have f10 := ku.frozen))
      have hT11 := HT9.out.swap hgrow10 hown10 hat10
      have hP11 := pushed (Y := w.heap.size + 1) hsz9 HT9.out.ru hgrow10 (.slice (some ⟨g10, 0, none⟩) (pre.length + 1) cap10)
      generalize w10.setCell ⟨w.heap.size + 1, 0, none⟩ (.slice (some ⟨g10, 0, none⟩) (pre.length + 1) cap10) = w11 at hT11 hP11 ⊢
      have hbn : Below w.heap.size W w11 := (HP9.out.below _ (Nat.le_refl _) (by omega) (by omega)).trans (hP11.below _ (by omega) (by omega) (by omega))
      have hko := HP9.out.others.trans hP11.others
      have hfr : ∀ k, k < w5.heap.size + 5 → k ≠ w.heap.size → k ≠ w.heap.size + 1 → w11.heap[k]? = W.heap[k]? := fun k h1 h2 h3 => (hP11.frame k h1 h3).trans (HP9.out.frame k h1 h2)
      have e1 : atsP ((pre ++ [x]).map (·.1)) = atsP (pre.map (·.1)) ++ [((x.1.1 : Nat) : Int)] := by simp [atsP]
      have e2 : pensP ((pre ++ [x]).map (·.1)) = pensP (pre.map (·.1)) ++ [x.1.2] := by simp [pensP]
      have e3 : (pre ++ [x]).length = pre.length + 1 := by simp
      have hbz := eB.size
      have hT12 : ∃ v u, Two w11 (w5.heap.size + 5) w.heap.size (pre ++ [x]).length (pre ++ [x]).length (atsP ((pre ++ [x]).map (·.1))) (pensP ((pre ++ [x]).map (·.1))) v u := by rw [e1, e2, e3]; exact ⟨_, _, hT11⟩
      refine ⟨hko, ⟨hbn, hfr _ (by omega) (by omega) (by omega), fun r h1 h2 => hfr r (by omega) (by omega) (by omega), hko.from _⟩, hT12, (hfr _ (by omega) (by omega) (by omega)).trans hS, hb.trans hbn⟩
    case hKb =>
      intro A o hlt
      refine ⟨(Below.refl _ A).grown (grownBy_putObj' A _ o) (by have := eB.size; omega) (fun k e => by cases e; have := eB.size; omega), World.putObj_heap_other (by omega), fun r h1 h2 => World.putObj_heap_other (by omega), KeepsFrom.of_grownBy (grownBy_putObj' A _ o) (fun j e => by cases e; omega)⟩
    case done =>
      rintro ys W hys ⟨⟨v, u, hT⟩, hS, hb⟩ hK
      have Hys := Lib.hid hys
      have c0 := hT.bv.cell
      have f0 := hT.bv.frozen
      have c1 := hT.bu.cell
      have f1 := hT.bu.frozen
      clear hys
      obtain ⟨pv, cv, rfl⟩ := owns_form hT.rv
      obtain ⟨pu, cu, rfl⟩ := owns_form hT.ru
      gi_wp2
      refine wpIn_wide.2 ?_
      go_region
      have hT2 := hT.back
      have hKo : KeepsOthers W ((W.setCell ⟨w.heap.size, 0, none⟩ (.slice pv ys.length cv)).setCell ⟨w.heap.size + 1, 0, none⟩ (.slice pu ys.length cu)).drew := ((KeepsOthers.setCell _ _ _).trans (KeepsOthers.setCell _ _ _)).trans (KeepsOthers.drew _)
      have hK' := hKo.same w5.heap.size _ hK rfl
      have hbE : Below w.heap.size w ((W.setCell ⟨w.heap.size, 0, none⟩ (.slice pv ys.length cv)).setCell ⟨w.heap.size + 1, 0, none⟩ (.slice pu ys.length cu)).drew := ((hb.setCell (p := ⟨w.heap.size, 0, none⟩) (by simp only; omega) _).setCell (p := ⟨w.heap.size + 1, 0, none⟩) (by simp only; omega) _).drew
      generalize (W.setCell ⟨w.heap.size, 0, none⟩ (.slice pv ys.length cv)).setCell ⟨w.heap.size + 1, 0, none⟩ (.slice pu ys.length cu) = W9 at hT2 hK' hbE ⊢
      clear c0 f0 c1 f1 hKo hT hb
      gi_wp2
      refine ⟨by simp, .inl ⟨_, _, rfl, run_takeDeferred hK', ?_⟩⟩
      have q1 := cell_kept (W := W9.drew) hT2.bv.cell (grownBy_putObj' _ w5.heap.size (.deferred none)) (fun r e => by cases e; exact ⟨_, hK', rfl⟩)
      have q2 := cell_kept (W := W9.drew) hT2.bu.cell (grownBy_putObj' _ w5.heap.size (.deferred none)) (fun r e => by cases e; exact ⟨_, hK', rfl⟩)
      have hr : legR L s = ys.map (·.1) := by unfold legR; rw [if_pos Hck.out, Hys.out]
      have hrl : (legR L s).length = ys.length := by rw [hr, List.length_map]
      refine ⟨.tuple #[.slice pv ys.length cv, .slice pu ys.length cu, .int .i64 0], ?_, ⟨⟨_, _, by rw [Hck.out], ?_, ?_, hT2.ne⟩, hbE.trans (belowK_b (w := w) (Nat.le_refl _) _ w5.heap.size _ _ eB.size hK' rfl rfl)⟩⟩
      · simp [results, Tryz.f40, go_sem, q1, q2]
      · rw [hrl, hr]
        exact ownsRow_base (ownsRow_putObj hT2.rv _ hK' rfl) (by have := eB.size; omega)
      · rw [hrl, hr]
        exact ownsRow_base (ownsRow_putObj hT2.ru _ hK' rfl) (by have := eB.size; omega)
    case stop =>
      rintro c pre W _ h
      exact h.elim
  · have hck' : ((colP L s : Int) != 0) = true := by simpa using hck
    have HR := Lib.hid (show legR L s = [] by unfold legR; rw [if_neg hck])
    have c0 := d0.cell
    have c1 := d1.cell
    have f0 := d0.frozen
    have f1 := d1.frozen
    clear hck
    gi_wp2
    have g0 := (Boxed.set (.slice none 0 0) d0).other (B' := w.heap.size + 1) (by omega) (.slice none 0 0)
    have g1 := Boxed.set (.slice none 0 0) (d1.other (B' := w.heap.size) (by omega) (.slice none 0 0))
    have q1 := g0.cell
    have q2 := g1.cell
    refine ⟨.tuple #[.slice none 0 0, .slice none 0 0, .int .i64 (colP L s)], ?_, ⟨⟨_, _, rfl, by rw [HR.out]; exact World.ownsRow_nil _ _ _ _, by rw [HR.out]; exact World.ownsRow_nil _ _ _ _, fun g h => by cases h⟩, (hbw.setCell (p := ⟨w.heap.size, 0, none⟩) (by simp only; omega) _).setCell (p := ⟨w.heap.size + 1, 0, none⟩) (by simp only; omega) _⟩⟩
    simp [results, Tryz.f40, go_sem, q1, q2]
end Go.Proofs.YtomehdepjenilaaGreat
