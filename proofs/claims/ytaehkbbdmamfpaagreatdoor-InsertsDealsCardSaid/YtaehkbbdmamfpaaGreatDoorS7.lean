/-
  vlist.measured: what stands ahead of a place of a good column.
-/
import Derived.Test.YtaehkbbdmamfpaaGreatDoorS4
import Derived.Test.YtaehkbbdmamfpaaGreatDoorV11b
import Derived.Test.YtaehkbbdmamfpaaGreatDoorVBs
set_option maxRecDepth 100000
set_option maxHeartbeats 8000000
namespace Go.Proofs.YtaehkbbdmamfpaaGreatDoor
open Go.ChangeShapes Go.WideShapes Go.ChangeAt Go.RowKit Go.Shelf
section
attribute [local go_sem] Oper.semAt_some
def zbn (L : List Nd) (depth : Int) (pre : List Nat) : Mt := pre.foldl (fun m i => zbs (nth L i) m) ⟨.zero, 0, depth⟩
theorem foldM_snoc (L : List Nd) (depth : Int) (pre : List Nat) (x : Nat) : zbn L depth (pre ++ [x]) = zbs (nth L x) (zbn L depth pre) := by simp [zbn]
theorem passM_depth (n : Nd) (m : Mt) : (zbs n m).depth = m.depth := by
 unfold zbs
 split <;> try rfl
 split <;> try rfl
 split <;> try rfl
 split <;> rfl
theorem zcH (L : List Nd) (depth : Int) (pre : List Nat) : (zbn L depth pre).depth = depth := by
 unfold zbn
 suffices h : ∀ m : Mt, (pre.foldl (fun m i => zbs (nth L i) m) m).depth = m.depth by exact h _
 induction pre with
 | nil => intro m; rfl
 | cons a r ih => intro m; rw [List.foldl_cons, ih, passM_depth]
theorem foldM_bound (L : List Nd) (depth : Int) : ∀ (pre : List Nat) (m : Mt) (K : Int), MtB K m -> (∀ i ∈ pre, NdB (nth L i)) -> MtB (K + pre.length * 4294967296) (pre.foldl (fun m i => zbs (nth L i) m) m)
 | [], m, K, h, _ => by simpa using h
 | a :: r, m, K, h, hn => by
  have := foldM_bound L depth r (zbs (nth L a) m) (K + 4294967296) (h.pass (hn a List.mem_cons_self)) (fun i hi => hn i (List.mem_cons_of_mem _ hi))
  rw [List.foldl_cons]
  have e : K + 4294967296 + (r.length : Int) * 4294967296 = K + ((a :: r).length : Int) * 4294967296 := by simp; omega
  rw [e] at this
  exact this
theorem mtB_zero (depth : Int) : MtB 0 ⟨.zero, 0, depth⟩ := ⟨by simp [Tt.zero], fun j => by match j with | 0 | 1 | 2 | _ + 3 => simp [Tt.st, Tt.zero], fun j => by match j with | 0 | 1 | 2 | _ + 3 => simp [Tt.sh, Tt.zero], by simp⟩
theorem foldM_ok {L : List Nd} {depth : Int} {pre : List Nat} (hn : ∀ i ∈ pre, NdB (nth L i)) (hl : pre.length <= 2001) : MtB 8800000000000 (zbn L depth pre) := by
 have this : MtB (0 + pre.length * 4294967296) (zbn L depth pre) := foldM_bound L depth pre _ 0 (mtB_zero depth) hn
 have hb : (0 : Int) + (pre.length : Int) * 4294967296 <= 8800000000000 := by omega
 exact ⟨⟨by have := this.nat; omega, by have := this.nat; omega⟩, fun j => ⟨by have := this.st j; omega, by have := this.st j; omega⟩, fun j => ⟨by have := this.sh j; omega, by have := this.sh j; omega⟩, this.d⟩
def zaF (s : List Nat) (t : Nat) : List Nat := s.takeWhile (· != t)
def zap (L : List Nd) (s : List Nat) (t : Nat) (depth : Int) : Tt × Int := sizeM (zbn L depth (zaF s t))
theorem ahead_none {s : List Nat} {t : Nat} (h : ∀ x ∈ s, x ≠ t) : zaF s t = s := by
 unfold zaF
 induction s with
 | nil => rfl
 | cons a r ih => rw [List.takeWhile_cons, if_pos (by simpa using h a List.mem_cons_self), ih (fun x hx => h x (List.mem_cons_of_mem _ hx))]
theorem ahead_at {s pre : List Nat} {t : Nat} (h : ∀ x ∈ pre, x ≠ t) (hp : pre ++ [t] <+: s) : zaF s t = pre := by
 obtain ⟨r, rfl⟩ := hp
 unfold zaF
 rw [List.append_assoc]
 induction pre with
 | nil => simp
 | cons a q ih => rw [List.cons_append, List.takeWhile_cons, if_pos (by simpa using h a List.mem_cons_self), ih (fun x hx => h x (List.mem_cons_of_mem _ hx))]
def MeI (w : World) (Bs S T Z M Q : Nat) (p0 : Option Addr) (cap : Nat) (L : List Nd) (s : List Nat) (t : Nat) (depth : Int) (pre : List {i : Nat // i ∈ s}) (W : World) : Prop :=
 (Boxed W S 22 (.slice p0 L.length cap) /\ Boxed W T 3 (.int .i64 (t : Nat)) /\ Boxed W Q 149 (.pointer (some ⟨M, 0, none⟩)) /\ Boxed W Bs 22 (.slice p0 L.length cap)) /\
  (TAt W Z ⟨0, 0, 0, 0, 0, 0, 0, 0, 0⟩ /\ MAt W M (zbn L depth (pre.map (·.1)))) /\ (∀ x ∈ pre, x.1 ≠ t) /\ Below w.heap.size w W
def MeX (w : World) (Z M Q : Nat) (L : List Nd) (s : List Nat) (t : Nat) (depth : Int) (id : Nat) (c : Code) (prex : List {i : Nat // i ∈ s}) (W : World) : Prop :=
 (c = .exit id /\ ∃ (pre : List {i : Nat // i ∈ s}) (x : {i : Nat // i ∈ s}), prex = pre ++ [x] /\ x.1 = t /\ (∀ x ∈ pre, x.1 ≠ t) /\ MAt W M (zbn L depth (pre.map (·.1)))) /\ Boxed W Q 149 (.pointer (some ⟨M, 0, none⟩)) /\ TAt W Z ⟨0, 0, 0, 0, 0, 0, 0, 0, 0⟩ /\ Below w.heap.size w W
theorem cells_own {β : Type} (B : Nat) (f : β -> Array Value) (t : TypeId) : Own (fun s W => W.heap[B]? = some (.cells (f s) t (0, 0))) := fun s X Y row hs hg hrow =>
 (hg.block B (Array.getElem?_eq_some_iff.1 hs).1 (fun e' => by obtain ⟨o, ho, hc⟩ := hrow B e'.symm; rw [hs] at ho; cases ho; cases hc)).trans hs
theorem mat_own {β : Type} (B : Nat) (f : β -> Mt) : Own (fun s W => MAt W B (f s)) := cells_own B (fun s => (f s).arr) _
theorem tat_own {β : Type} (B : Nat) (f : β -> Tt) : Own (fun s W => TAt W B (f s)) := cells_own B (fun s => (f s).arr) _
theorem meI_own {w : World} {Bs S T Z M Q B : Nat} {p0 : Option Addr} {cap : Nat} {L : List Nd} {s : List Nat} {t : Nat} {depth : Int} (hB : w.heap.size <= B) : OwnFrom B (MeI w Bs S T Z M Q p0 cap L s t depth) :=
 OwnFrom.and (OwnFrom.and (Own.from (boxed_own _ _ _) _) (OwnFrom.and (Own.from (boxed_own _ _ _) _) (OwnFrom.and (Own.from (boxed_own _ _ _) _) (Own.from (boxed_own _ _ _) _))))
  (OwnFrom.and (OwnFrom.and (Own.from (tat_own _ _) _) (Own.from (mat_own _ _) _)) (OwnFrom.and (ownFrom_pure _ _) (ownFrom_below (Nat.le_refl _) hB)))
theorem meX_own {w : World} {Z M Q B : Nat} {L : List Nd} {s : List Nat} {t : Nat} {depth : Int} {id : Nat} (hB : w.heap.size <= B) (c : Code) : OwnFrom B (MeX w Z M Q L s t depth id c) :=
 OwnFrom.and (OwnFrom.and (ownFrom_pure _ _) (Own.from (fun prex X Y row hs hg hrow => by
  obtain ⟨pre, x, h1, h2, h3, h4⟩ := hs
  exact ⟨pre, x, h1, h2, h3, mat_own (β := Unit) M (fun _ => zbn L depth (pre.map (·.1))) () X Y row h4 hg hrow⟩) _))
  (OwnFrom.and (Own.from (boxed_own _ _ _) _) (OwnFrom.and (Own.from (tat_own _ _) _) (ownFrom_below (Nat.le_refl _) hB)))
theorem met_box {W W' : World} {b X : Nat} {t : TypeId} {v : Value} (h : Met1 W W' b) (hb : Boxed W X t v) (hne : X ≠ b) : Boxed W' X t v := (h.by_.block X hb.lt (fun e => hne (by cases e; rfl))).trans hb
theorem met_below {W W' : World} {b n : Nat} (h : Met1 W W' b) (hn : n <= b) (hW : n <= W.heap.size) : Below n W W' := (Below.refl n W).grown h.by_ hW (fun k e => by cases e; exact hn)
theorem vmeasured (p0 : Option Addr) (b off cap : Nat) (L : List Nd) (s : List Nat) (hs : Items L 0 s) (hl : L.length <= 2000) (hr : ∀ n ∈ L, zaX n = true) (t : Nat) (depth : Int) (hd : -1073741823 <= depth /\ depth <= 1073741823) (w : World) (hN : NIn w p0 b off cap L) :
 Calls Tryz.prog 53 #[.slice p0 L.length cap, .int .i64 (t : Nat), .int .i64 depth] w fun e w' => e = .returned (.tuple #[.agg (zap L s t depth).1.arr, .int .i64 (zap L s t depth).2]) /\ Below w.heap.size w w' := by
 have HN := zzh hN
 have HR := zzh hr
 have Hd := zzh hd
 clear hN hr hd
 refine (callsIn_wide (n := 8)).1 ?_
 refine callsIn_of_wp_marks Tryz.func53 rfl trivial ?_ rfl
 simp only [Tryz.ntmps53, List.size_toArray, List.length_cons, List.length_nil, Nat.reduceAdd, Nat.reduceSub, Array.replicate_succ, Array.replicate_zero, List.push_toArray, List.append_toArray, List.nil_append, List.cons_append]
 gi_upto_region 2 with (fail)
 have hb1 : Below w.heap.size w (((((w.alloc (.cells #[.slice p0 L.length cap] 22)).alloc (.cells #[.int .i64 (t : Nat)] 3)).alloc (.cells (Tt.mk 0 0 0 0 0 0 0 0 0).arr 43)).alloc (.cells (Mt.mk .zero 0 depth).arr 151)).alloc (.cells #[.pointer (some ⟨w.heap.size + 1 + 1 + 1, 0, none⟩)] 149)) := by
  refine (((((Below.refl _ w).alloc (Nat.le_refl _) _).alloc ?_ _).alloc ?_ _).alloc ?_ _).alloc ?_ _
  all_goals simp only [World.size_alloc]; omega
 have b0 := ((((Boxed.new w 22 (.slice p0 L.length cap)).alloc (.cells #[.int .i64 (t : Nat)] 3)).alloc (.cells (Tt.mk 0 0 0 0 0 0 0 0 0).arr 43)).alloc (.cells (Mt.mk .zero 0 depth).arr 151)).alloc (.cells #[.pointer (some ⟨w.heap.size + 1 + 1 + 1, 0, none⟩)] 149)
 have b1 := (((Boxed.new (w.alloc (.cells #[.slice p0 L.length cap] 22)) 3 (.int .i64 (t : Nat))).alloc (.cells (Tt.mk 0 0 0 0 0 0 0 0 0).arr 43)).alloc (.cells (Mt.mk .zero 0 depth).arr 151)).alloc (.cells #[.pointer (some ⟨w.heap.size + 1 + 1 + 1, 0, none⟩)] 149)
 have b4 := Boxed.new ((((w.alloc (.cells #[.slice p0 L.length cap] 22)).alloc (.cells #[.int .i64 (t : Nat)] 3)).alloc (.cells (Tt.mk 0 0 0 0 0 0 0 0 0).arr 43)).alloc (.cells (Mt.mk .zero 0 depth).arr 151)) 149 (.pointer (some ⟨w.heap.size + 1 + 1 + 1, 0, none⟩))
 have b2 := heap_alloc_new ((w.alloc (.cells #[.slice p0 L.length cap] 22)).alloc (.cells #[.int .i64 (t : Nat)] 3)) (.cells (Tt.mk 0 0 0 0 0 0 0 0 0).arr 43)
 have b2' := (Below.heap_alloc ((((w.alloc (.cells #[.slice p0 L.length cap] 22)).alloc (.cells #[.int .i64 (t : Nat)] 3)).alloc (.cells (Tt.mk 0 0 0 0 0 0 0 0 0).arr 43)).alloc (.cells (Mt.mk .zero 0 depth).arr 151)) (.cells #[.pointer (some ⟨w.heap.size + 1 + 1 + 1, 0, none⟩)] 149) _ (by simp)).trans ((Below.heap_alloc _ (.cells (Mt.mk .zero 0 depth).arr 151) _ (by simp)).trans b2)
 have b3 := heap_alloc_new (((w.alloc (.cells #[.slice p0 L.length cap] 22)).alloc (.cells #[.int .i64 (t : Nat)] 3)).alloc (.cells (Tt.mk 0 0 0 0 0 0 0 0 0).arr 43)) (.cells (Mt.mk .zero 0 depth).arr 151)
 have b3' := (Below.heap_alloc _ (.cells #[.pointer (some ⟨w.heap.size + 1 + 1 + 1, 0, none⟩)] 149) _ (by simp)).trans b3
 simp only [World.size_alloc] at b1 b4 b2' b3'
 clear b2 b3
 have hsz : (((((w.alloc (.cells #[.slice p0 L.length cap] 22)).alloc (.cells #[.int .i64 (t : Nat)] 3)).alloc (.cells (Tt.mk 0 0 0 0 0 0 0 0 0).arr 43)).alloc (.cells (Mt.mk .zero 0 depth).arr 151)).alloc (.cells #[.pointer (some ⟨w.heap.size + 1 + 1 + 1, 0, none⟩)] 149)).heap.size = w.heap.size + 1 + 1 + 1 + 1 + 1 := by simp
 have HSz := zzh hsz
 clear hsz
 generalize ((((w.alloc (.cells #[.slice p0 L.length cap] 22)).alloc (.cells #[.int .i64 (t : Nat)] 3)).alloc (.cells (Tt.mk 0 0 0 0 0 0 0 0 0).arr 43)).alloc (.cells (Mt.mk .zero 0 depth).arr 151)).alloc (.cells #[.pointer (some ⟨w.heap.size + 1 + 1 + 1, 0, none⟩)] 149) = w2 at hb1 b0 b1 b4 b2' b3' HSz ⊢
 have hZ0 : Hid (w.heap.size < w.heap.size + 1 /\ w.heap.size + 1 < w.heap.size + 1 + 1 /\ w.heap.size + 1 + 1 < w.heap.size + 1 + 1 + 1 /\ w.heap.size + 1 + 1 + 1 < w.heap.size + 1 + 1 + 1 + 1) := zzh (by omega)
 generalize w.heap.size + 1 + 1 + 1 + 1 = Q at b4 hZ0 HSz ⊢
 generalize w.heap.size + 1 + 1 + 1 = M at b3' b4 hZ0 ⊢
 generalize w.heap.size + 1 + 1 = Z at b2' hZ0 ⊢
 generalize w.heap.size + 1 = T at b1 hZ0 ⊢
 obtain ⟨z1, z2, z3, z4⟩ := hZ0.out
 have hQw : Q < w2.heap.size := by have := HSz.out; omega
 clear hZ0 HSz
 have c0 := b0.cell
 have HI := zzh (items_any p0 L.length cap w2)
 gi_wp2
 refine ⟨trivial, (callsIn_wide.2 HI.out).mono ?_⟩
 clear HI
 rintro e w4 ⟨rfl, rfl⟩
 have e0 := b0.alloc (.cells #[.slice p0 L.length cap] 22)
 have e1 := b1.alloc (.cells #[.slice p0 L.length cap] 22)
 have e4 := b4.alloc (.cells #[.slice p0 L.length cap] 22)
 have e2 : TAt (w2.alloc (.cells #[.slice p0 L.length cap] 22)) Z ⟨0, 0, 0, 0, 0, 0, 0, 0, 0⟩ := (Below.heap_alloc _ _ _ (by omega)).trans b2'
 have e3 : MAt (w2.alloc (.cells #[.slice p0 L.length cap] 22)) M (zbn L depth []) := (Below.heap_alloc _ _ _ (by omega)).trans b3'
 have eS := Boxed.new w2 22 (.slice p0 L.length cap)
 have eB := hb1.alloc hb1.size (.cells #[.slice p0 L.length cap] 22)
 clear b0 b1 b4 b2' b3' hb1 c0
 gi_wp2
 generalize w2.alloc (.cells #[.slice p0 L.length cap] 22) = w5 at e0 e1 e2 e3 e4 eS eB ⊢
 generalize w2.heap.size = Bs at eS hQw ⊢
 have hBs := eS.lt
 refine wpIn_rangeFunc_ownF rfl (by decide) (gf := 101) (lb := #[.pointer (some ⟨Bs, 0, none⟩)]) rfl trivial (enters_of Tryz.func101 (by kernel_rfl) rfl)
  (zcE 7 (by decide) Bs w.heap.size b off cap p0 L s hs w5 eS (HN.out.below eB) (fun e => HN.out.hb e)) kpI_t (kpI_b eB.size hBs) (Below.refl _ _) (fun _ => rfl)
  (MeI w Bs w.heap.size T Z M Q p0 cap L s t depth) (MeX w Z M Q L s t depth 0) (meI_own eB.size) (meX_own eB.size)
  ⟨⟨e0, e1, e4, eS⟩, ⟨e2, e3⟩, (fun _ h => by cases h), eB⟩ ?a₁ ?assign ?body ?done ?stop
 case assign =>
  intro l x W K hK
  gi_wp2
  exact hK
 case body =>
  rintro l pre x W ⟨⟨i0, i1, i4, iS⟩, ⟨i2, i3⟩, i6, i5⟩ hlt
  obtain ⟨hx1, hx2⟩ := hs.lt x.1 x.2
  have hN := HN.out.below i5
  have xa := hN.nth hx2
  have hnb : NdB (nth L x.1) := nb_of (HR.out _ (by rw [zaV hx2]; exact List.getElem_mem _))
  have hmb := foldM_ok (depth := depth) (pre := pre.map (·.1)) (L := L) (fun i hi => by
   obtain ⟨y, hy, rfl⟩ := List.mem_map.1 hi
   have := (hs.lt y.1 y.2).2
   exact nb_of (HR.out _ (by rw [zaV this]; exact List.getElem_mem _))) (by rw [List.length_map]; have := hs.len; omega)
  have hsn := foldM_snoc L depth (pre.map (·.1)) x.1
  obtain ⟨n, hn⟩ : ∃ n, nth L x.1 = n := ⟨_, rfl⟩
  rw [hn] at xa hnb hsn
  obtain rfl := hN.at_ hx2
  have hx3 : (0 : Int) <= (x.1 : Int) := by omega
  have hx4 : (x.1 : Int) < (L.length : Int) := by omega
  have c0 := i0.cell
  have c1 := i1.cell
  have c4 := i4.cell
  obtain ⟨m, hm⟩ : ∃ m, zbn L depth (pre.map (·.1)) = m := ⟨_, rfl⟩
  rw [hm] at i3 hmb hsn
  by_cases hxt : x.1 = t
  ·
   have HX : Hid (KeepsOthers W W /\ MeX w Z M Q L s t depth 0 (.exit 0) (pre ++ [x]) W) := zzh ⟨KeepsOthers.refl _, ⟨rfl, pre, x, rfl, hxt, i6, by rw [hm]; exact i3⟩, i4, i2, i5⟩
   have hxe : ((x.1 : Int) == (t : Int)) = true := by simp [hxt]
   clear i0 i1 i4 iS i2 i3 i6 i5 hsn hxt hn hm hlt
   gi_wp2
   exact HX.out
  ·
   have hxe : ((x.1 : Int) == (t : Int)) = false := by simp; omega
   have HP := zzh (mpass n m 8800000000000 M W.drew i3 hnb hmb (by decide))
   have HMe : Hid (∀ W3, Met1 W.drew W3 M -> MAt W3 M (zbs n m) -> KeepsOthers W W3 /\ KpI w.heap.size Bs W W3 /\ MeI w Bs w.heap.size T Z M Q (some ⟨b, off, none⟩) cap L s t depth (pre ++ [x]) W3) := zzh fun W3 h1 h2 => by
    have h1' : Met1 W W3 M := (Met1.refl W M).drew.trans h1
    have hz := i5.size
    refine ⟨h1'.others, ⟨met_below h1' (by omega) hz, h1'.by_.block Bs iS.lt (fun e => by cases e; omega)⟩, ⟨met_box h1' i0 (by omega), met_box h1' i1 (by omega), met_box h1' i4 (by omega), met_box h1' iS (by omega)⟩, ⟨(h1'.by_.block Z i2.lt (fun e => by cases e; omega)).trans i2, ?_⟩, fun y hy => ?_, i5.trans (met_below h1' (by omega) hz)⟩
    · rw [show (pre ++ [x]).map (·.1) = pre.map (·.1) ++ [x.1] by simp, hsn]; exact h2
    ·
     rcases List.mem_append.1 hy with hy | hy
     · exact i6 y hy
     · simp only [List.mem_singleton] at hy; rw [hy]; exact hxt
   clear i0 i1 i4 iS i2 i3 i6 i5 hsn hxt hn hm hlt hnb hmb
   gi_wp2
   refine zbQ 5 (by kernel_rfl) (by kernel_rfl) (by kernel_rfl) ?_
   simp only [List.take_succ_cons, List.take_zero, List.drop_succ_cons, List.drop_zero]
   repeat still_step
   refine wpStill_nil ?_
   change wpList _ _ _ _ _ W.drew
   go_wp2_with (go_at_call 103; refine HP.out.mono ?_; rintro e w3 ⟨rfl, hM3, h3⟩)
   have HF := zzh (HMe.out _ h3 hM3)
   clear HMe HP h3 hM3
   refine zcL ?_
   gi_wp2
   exact HF.out
 case done =>
  rintro D pre W hD hpre ⟨⟨i0, i1, i4, iS⟩, ⟨i2, i3⟩, i6, i5⟩ hK
  have hmb := foldM_ok (depth := depth) (pre := pre.map (·.1)) (L := L) (fun i hi => by
   obtain ⟨y, hy, rfl⟩ := List.mem_map.1 hi
   have := (hs.lt y.1 y.2).2
   exact nb_of (HR.out _ (by rw [zaV this]; exact List.getElem_mem _))) (by rw [hpre]; have := hs.len; omega)
  have hme : zap L s t depth = sizeM (zbn L depth (pre.map (·.1))) := by
   unfold zap
   rw [ahead_none (fun x hx => by rw [<- hpre] at hx; obtain ⟨y, hy, rfl⟩ := List.mem_map.1 hx; exact i6 y hy), hpre]
  have HMs := zzh (msize _ 8800000000000 M W i3 hmb (by decide) (by rw [zcH]; exact Hd.out))
  have Hme := zzh hme
  have c4 := i4.cell
  clear hmb hme i3 i0 i1 iS i6
  gi_wp2
  refine ⟨trivial, (callsIn_wide.2 HMs.out).mono ?_⟩
  clear HMs
  rintro e w7 ⟨rfl, hb7⟩
  rw [<- Hme.out]
  have hDw := (Array.getElem?_eq_some_iff.1 hK).1
  have hK7 := (hb7.block D hDw).trans hK
  have i2' : TAt w7 Z ⟨0, 0, 0, 0, 0, 0, 0, 0, 0⟩ := (hb7.block Z i2.lt).trans i2
  have hb := i5.trans (hb7.mono i5.size)
  have thZ := i2'.there
  clear i4 i2 i5 c4 hb7 hK
  gi_wp2
  have hZD : Z ≠ D := by omega
  have hK8 : (setAgg w7 Z 0 (zap L s t depth).1.arr).heap[D]? = some (.deferred (some [])) := (zay Z D (fun e => hZD e.symm) _ _ _).trans hK7
  refine ⟨by simp, .inl ⟨_, _, rfl, run_takeDeferred hK8, ?_⟩⟩
  have hT9 : TAt ((setAgg w7 Z 0 (zap L s t depth).1.arr).putObj D (.deferred none)) Z (zap L s t depth).1 := (World.putObj_heap_other hZD).trans i2'.store
  have hbE : Below w.heap.size w (setAgg w7 Z 0 (zap L s t depth).1.arr) := Below.setAgg hb (by omega) _ _
  exact ⟨_, zbf rfl _ _ Z _ rfl hT9.agg, rfl, hbE.trans (belowK_b (w := w) (Nat.le_refl _) _ D _ _ (by omega) hK8 rfl rfl)⟩
 case stop =>
  rintro D c prex W hD hp ⟨⟨rfl, pre, x, rfl, hxt, i6, i3⟩, i4, i2, i5⟩ hK
  have hpp : pre.map (·.1) ++ [t] <+: s := by rw [<- hxt]; simpa using hp
  have hmb := foldM_ok (depth := depth) (pre := pre.map (·.1)) (L := L) (fun i hi => by
   obtain ⟨y, hy, rfl⟩ := List.mem_map.1 hi
   have := (hs.lt y.1 y.2).2
   exact nb_of (HR.out _ (by rw [zaV this]; exact List.getElem_mem _))) (by have := hpp.length_le; have := hs.len; simp at *; omega)
  have hme : zap L s t depth = sizeM (zbn L depth (pre.map (·.1))) := by
   unfold zap
   rw [ahead_at (fun x hx => by obtain ⟨y, hy, rfl⟩ := List.mem_map.1 hx; exact i6 y hy) hpp]
  have HMs := zzh (msize _ 8800000000000 M W i3 hmb (by decide) (by rw [zcH]; exact Hd.out))
  have Hme := zzh hme
  have c4 := i4.cell
  clear hmb hme i3 i6 hpp hp
  gi_wp2
  refine ⟨trivial, (callsIn_wide.2 HMs.out).mono ?_⟩
  clear HMs
  rintro e w7 ⟨rfl, hb7⟩
  rw [<- Hme.out]
  have hDw := (Array.getElem?_eq_some_iff.1 hK).1
  have hK7 := (hb7.block D hDw).trans hK
  have i2' : TAt w7 Z ⟨0, 0, 0, 0, 0, 0, 0, 0, 0⟩ := (hb7.block Z i2.lt).trans i2
  have hb := i5.trans (hb7.mono i5.size)
  have thZ := i2'.there
  clear i4 i2 i5 c4 hb7 hK
  gi_wp2
  have hZD : Z ≠ D := by omega
  have hK8 : (setAgg w7 Z 0 (zap L s t depth).1.arr).heap[D]? = some (.deferred (some [])) := (zay Z D (fun e => hZD e.symm) _ _ _).trans hK7
  refine ⟨by simp, .inl ⟨_, _, rfl, run_takeDeferred hK8, ?_⟩⟩
  have hT9 : TAt ((setAgg w7 Z 0 (zap L s t depth).1.arr).putObj D (.deferred none)) Z (zap L s t depth).1 := (World.putObj_heap_other hZD).trans i2'.store
  have hbE : Below w.heap.size w (setAgg w7 Z 0 (zap L s t depth).1.arr) := Below.setAgg hb (by omega) _ _
  exact ⟨_, zbf rfl _ _ Z _ rfl hT9.agg, rfl, hbE.trans (belowK_b (w := w) (Nat.le_refl _) _ D _ _ (by omega) hK8 rfl rfl)⟩
end
section
attribute [local go_sem] Oper.semAt_some
def foundB (L : List Nd) (s : List Nat) (tk : Int) : Bool := (tk == (L.length : Int)) || s.any fun x => (x : Int) == tk
def sizeR (L : List Nd) (s : List Nat) (tk depth : Int) : Tt × Int × Int :=
 if colP L s = 0 then (if foundB L s tk then (if zac depth then ((zap L s tk.toNat depth).1, (zap L s tk.toNat depth).2, 0) else (.zero, 0, 11)) else (.zero, 0, 3)) else (.zero, 0, colP L s)
theorem found_nat {L : List Nd} {s : List Nat} {tk : Int} (h : foundB L s tk = true) : ∃ t : Nat, tk = (t : Int) := by
 unfold foundB at h
 simp only [Bool.or_eq_true, List.any_eq_true] at h
 rcases h with h | ⟨x, _, h⟩
 · exact ⟨_, by simpa using h⟩
 ·
  have hx9 : (x : Int) = tk := by simpa using h
  exact ⟨x, hx9.symm⟩
def FdI (w : World) (Bs T Z F : Nat) (p0 : Option Addr) (cap : Nat) (L : List Nd) (s : List Nat) (tk : Int) (pre : List {i : Nat // i ∈ s}) (W : World) : Prop :=
 (Boxed W T 3 (.int .i64 tk) /\ Boxed W F 4 (.bool ((tk == (L.length : Int)) || (pre.map (·.1) : List Nat).any fun x : Nat => (x : Int) == tk)) /\ Boxed W Bs 22 (.slice p0 L.length cap)) /\ TAt W Z ⟨0, 0, 0, 0, 0, 0, 0, 0, 0⟩ /\ Below w.heap.size w W
theorem fdI_own {w : World} {Bs T Z F B : Nat} {p0 : Option Addr} {cap : Nat} {L : List Nd} {s : List Nat} {tk : Int} (hB : w.heap.size <= B) : OwnFrom B (FdI w Bs T Z F p0 cap L s tk) :=
 OwnFrom.and (OwnFrom.and (Own.from (boxed_own _ _ _) _) (OwnFrom.and (Own.from (boxed_own _ _ _) _) (Own.from (boxed_own _ _ _) _))) (OwnFrom.and (Own.from (tat_own _ _) _) (ownFrom_below (Nat.le_refl _) hB))
theorem vsize (p0 : Option Addr) (b off cap : Nat) (L : List Nd) (s : List Nat) (hs : zao L = 0 -> Items L 0 s) (tk depth : Int) (w : World) (hN : NIn w p0 b off cap L) :
 Calls Tryz.prog 26 #[.slice p0 L.length cap, .int .i64 tk, .int .i64 depth] w fun e w' => e = .returned (.tuple #[.agg (sizeR L s tk depth).1.arr, .int .i64 (sizeR L s tk depth).2.1, .int .i64 (sizeR L s tk depth).2.2]) /\ Below w.heap.size w w' := by
 have hlen := hN.len
 have HN := zzh hN
 have Hs := zzh hs
 have HC : Hid (∀ W, Below w.heap.size w W -> Calls Tryz.prog 50 #[.slice p0 L.length cap] W fun e w' => e = .returned (.int .i64 (colP L s)) /\ Below W.heap.size W w') := zzh fun W hb => column_any p0 b off cap L s Hs.out W (HN.out.below hb)
 have b0 : Boxed ((w.alloc (.cells #[.int .i64 tk] 3)).alloc (.cells (Tt.mk 0 0 0 0 0 0 0 0 0).arr 43)) w.heap.size 3 (.int .i64 tk) := (Boxed.new w _ _).alloc _
 have b1 : TAt ((w.alloc (.cells #[.int .i64 tk] 3)).alloc (.cells (Tt.mk 0 0 0 0 0 0 0 0 0).arr 43)) (w.heap.size + 1) ⟨0, 0, 0, 0, 0, 0, 0, 0, 0⟩ := by have := heap_alloc_new (w.alloc (.cells #[.int .i64 tk] 3)) (.cells (Tt.mk 0 0 0 0 0 0 0 0 0).arr 43); rwa [World.size_alloc] at this
 have hb1 : Below w.heap.size w ((w.alloc (.cells #[.int .i64 tk] 3)).alloc (.cells (Tt.mk 0 0 0 0 0 0 0 0 0).arr 43)) := ((Below.refl _ _).alloc (Nat.le_refl _) _).alloc (by simp) _
 clear hN hs
 refine (callsIn_wide (n := 8)).1 ?_
 refine callsIn_of_wp_marks Tryz.func26 rfl trivial ?_ rfl
 simp only [Tryz.ntmps26, List.size_toArray, List.length_cons, List.length_nil, Nat.reduceAdd, Nat.reduceSub, Array.replicate_succ, Array.replicate_zero, List.push_toArray, List.append_toArray, List.nil_append, List.cons_append]
 gi_wp2
 refine ⟨trivial, (callsIn_wide.2 (HC.out _ hb1)).mono ?_⟩
 rintro e w2 ⟨rfl, hb2⟩
 have d0 : Boxed w2 w.heap.size 3 (.int .i64 tk) := (hb2.block _ b0.lt).trans b0
 have d1 : TAt w2 (w.heap.size + 1) ⟨0, 0, 0, 0, 0, 0, 0, 0, 0⟩ := (hb2.block _ b1.lt).trans b1
 have hbw := hb1.trans (hb2.mono hb1.size)
 clear b0 b1 hb1 hb2 HC
 obtain ⟨Z, hZ⟩ : ∃ Z, w.heap.size + 1 = Z := ⟨_, rfl⟩
 rw [hZ] at d1 ⊢
 have hZ1 : w.heap.size < Z := by omega
 clear hZ
 have c0 := d0.cell
 have th := d1.there
 by_cases hck : colP L s = 0
 ·
  have hs := Hs.out (zav hck)
  have hl := (zaj (zav hck)).1
  have hr := zaQ (zav hck)
  have Hr := zzh hr
  have Hck := zzh hck
  rw [hck]
  have HI := zzh fun A => items_any p0 L.length cap A
  clear hck Hs hr
  gi_upto_region 5 with (fail)
  have g0 := d0.alloc (.cells #[.bool (tk == (L.length : Int))] 4)
  have g1 : TAt (w2.alloc (.cells #[.bool (tk == (L.length : Int))] 4)) Z ⟨0, 0, 0, 0, 0, 0, 0, 0, 0⟩ := (Below.heap_alloc _ _ _ d1.lt).trans d1
  have gF := Boxed.new w2 4 (.bool (tk == (L.length : Int)))
  have gb := hbw.alloc hbw.size (.cells #[.bool (tk == (L.length : Int))] 4)
  have hF : Z < w2.heap.size := d1.lt
  clear d0 d1 hbw c0 th
  generalize w2.alloc (.cells #[.bool (tk == (L.length : Int))] 4) = w3 at g0 g1 gF gb ⊢
  generalize w2.heap.size = F at gF hF ⊢
  gi_wp2
  refine ⟨trivial, (callsIn_wide.2 (HI.out _)).mono ?_⟩
  clear HI
  rintro e w4 ⟨rfl, rfl⟩
  have e0 := g0.alloc (.cells #[.slice p0 L.length cap] 22)
  have e1 : TAt (w3.alloc (.cells #[.slice p0 L.length cap] 22)) Z ⟨0, 0, 0, 0, 0, 0, 0, 0, 0⟩ := (Below.heap_alloc _ _ _ g1.lt).trans g1
  have eF := gF.alloc (.cells #[.slice p0 L.length cap] 22)
  have eS := Boxed.new w3 22 (.slice p0 L.length cap)
  have eB := gb.alloc gb.size (.cells #[.slice p0 L.length cap] 22)
  have hFS := gF.lt
  clear g0 g1 gF gb
  gi_wp2
  generalize w3.alloc (.cells #[.slice p0 L.length cap] 22) = w5 at e0 e1 eF eS eB ⊢
  generalize w3.heap.size = Bs at eS hFS ⊢
  have hBs := eS.lt
  refine wpIn_rangeFunc_ownF rfl (by decide) (gf := 101) (lb := #[.pointer (some ⟨Bs, 0, none⟩)]) rfl trivial (enters_of Tryz.func101 (by kernel_rfl) rfl)
   (zcE 7 (by decide) Bs w.heap.size b off cap p0 L s hs w5 eS (HN.out.below eB) (fun e => HN.out.hb e)) kpI_t (kpI_b eB.size hBs) (Below.refl _ _) (fun _ => rfl)
   (FdI w Bs w.heap.size Z F p0 cap L s tk) (fun _ _ _ => False) (fdI_own eB.size) (fun _ => ownFrom_pure _ _)
   ⟨⟨e0, by simpa using eF, eS⟩, e1, eB⟩ ?a₁ ?assign ?body ?done ?stop
  case assign =>
   intro l x W K hK
   gi_wp2
   exact hK
  case body =>
   rintro l pre x W ⟨⟨i0, iF, iS⟩, i1, i5⟩ hlt
   have c0 := i0.cell
   have cF := iF.cell
   have fF := iF.frozen
   have e1 : ((pre ++ [x]).map (·.1) : List Nat).any (fun x : Nat => (x : Int) == tk) = ((pre.map (·.1) : List Nat).any (fun x : Nat => (x : Int) == tk) || ((x.1 : Int) == tk)) := by simp
   have HSt : Hid (∀ v : Bool, ((tk == (L.length : Int)) || (pre.map (·.1) : List Nat).any (fun x : Nat => (x : Int) == tk) || ((x.1 : Int) == tk)) = v -> KeepsOthers W (W.setCell ⟨F, 0, none⟩ (.bool v)) /\ KpI w.heap.size Bs W (W.setCell ⟨F, 0, none⟩ (.bool v)) /\ FdI w Bs w.heap.size Z F p0 cap L s tk (pre ++ [x]) (W.setCell ⟨F, 0, none⟩ (.bool v))) := zzh fun v hv => by
    have hz := i5.size
    refine ⟨KeepsOthers.setCell _ _ _, ⟨(Below.refl _ _).setCell (p := ⟨F, 0, none⟩) (by simp only; omega) _, Below.heap_setCell _ _ _ _ (by simp only; omega)⟩, ⟨i0.other (by omega) _, ?_, iS.other (by omega) _⟩, (Below.heap_setCell _ _ _ _ (by simp only; omega)).trans i1, i5.setCell (p := ⟨F, 0, none⟩) (by simp only; omega) _⟩
    rw [e1, <- Bool.or_assoc, hv]
    exact Boxed.set _ iF
   clear i0 iF iS i1 i5 hlt e1
   cases h1 : ((tk == (L.length : Int)) || (pre.map (·.1) : List Nat).any (fun x : Nat => (x : Int) == tk))
   ·
    rw [h1] at cF HSt
    cases h2 : ((x.1 : Int) == tk)
    ·
     have HF := zzh (HSt.out false (by rw [h2]; rfl))
     clear HSt h1
     gi_wp2
     exact HF.out
    ·
     have HF := zzh (HSt.out true (by rw [h2]; rfl))
     clear HSt h1
     gi_wp2
     exact HF.out
   ·
    rw [h1] at cF HSt
    have HF := zzh (HSt.out true (by simp))
    clear HSt h1
    gi_wp2
    exact HF.out
  case done =>
   rintro D pre W hD hpre ⟨⟨i0, iF, iS⟩, i1, i5⟩ hK
   rw [hpre] at iF
   have cF := iF.cell
   have c0 := i0.cell
   have th := i1.there
   have hZD : Z ≠ D := by omega
   have hfin : ∀ (A : World) (T : Tt), Below W.heap.size W A -> (setAgg A Z 0 T.arr).heap[D]? = some (.deferred (some [])) /\ TAt ((setAgg A Z 0 T.arr).putObj D (.deferred none)) Z T /\ Below w.heap.size w ((setAgg A Z 0 T.arr).putObj D (.deferred none)) := fun A T hA => by
    have hDw := (Array.getElem?_eq_some_iff.1 hK).1
    have i1' : TAt A Z ⟨0, 0, 0, 0, 0, 0, 0, 0, 0⟩ := (hA.block Z i1.lt).trans i1
    have hK8 : (setAgg A Z 0 T.arr).heap[D]? = some (.deferred (some [])) := (zay Z D (fun e => hZD e.symm) _ _ _).trans ((hA.block D hDw).trans hK)
    exact ⟨hK8, (World.putObj_heap_other hZD).trans i1'.store, (Below.setAgg (i5.trans (hA.mono i5.size)) (by omega) _ _).trans (belowK_b (w := w) (Nat.le_refl _) _ D _ _ (by omega) hK8 rfl rfl)⟩
   have HFin := zzh hfin
   have HD := zzh (vdimen_any depth W)
   have I1 := zzh i1
   have I5 := zzh i5
   have hsz : sizeR L s tk depth = if foundB L s tk then (if zac depth then ((zap L s tk.toNat depth).1, (zap L s tk.toNat depth).2, 0) else (.zero, 0, 11)) else (.zero, 0, 3) := by unfold sizeR; rw [if_pos Hck.out]
   have HSz := zzh hsz
   clear hfin i0 iF iS i1 i5 hK hpre hsz
   cases hf : ((tk == (L.length : Int)) || s.any fun x => (x : Int) == tk)
   ·
    have hR : sizeR L s tk depth = (.zero, 0, 3) := by rw [HSz.out, if_neg (by unfold foundB; rw [hf]; simp)]
    have HRz := zzh hR
    rw [hf] at cF
    clear hf hR
    gi_wp2
    obtain ⟨k1, k2, k3⟩ := HFin.out W (Tt.mk 0 0 0 0 0 0 0 0 0) (Below.refl _ _)
    refine ⟨by simp, .inl ⟨_, _, rfl, run_takeDeferred k1, ?_⟩⟩
    exact ⟨_, zda rfl _ _ Z _ rfl k2.agg, by rw [HRz.out]; rfl, k3⟩
   ·
    have hfb : foundB L s tk = true := hf
    obtain ⟨t, rfl⟩ := found_nat hfb
    rw [hf] at cF
    cases hdm : zac depth
    ·
     have hR : sizeR L s t depth = (.zero, 0, 11) := by rw [HSz.out, if_pos hfb, hdm]; rfl
     have HRz := zzh hR
     rw [hdm] at HD
     clear hf hfb hdm hR
     gi_wp2
     refine ⟨trivial, (callsIn_wide.2 HD.out).mono ?_⟩
     clear HD
     rintro e w7 ⟨rfl, rfl⟩
     gi_wp2
     obtain ⟨k1, k2, k3⟩ := HFin.out W (Tt.mk 0 0 0 0 0 0 0 0 0) (Below.refl _ _)
     refine ⟨by simp, .inl ⟨_, _, rfl, run_takeDeferred k1, ?_⟩⟩
     exact ⟨_, zda rfl _ _ Z _ rfl k2.agg, by rw [HRz.out]; rfl, k3⟩
    ·
     have hR : sizeR L s t depth = ((zap L s t depth).1, (zap L s t depth).2, 0) := by rw [HSz.out, if_pos hfb, hdm, Int.toNat_natCast]; rfl
     have HRz := zzh hR
     have HMe := zzh (vmeasured p0 b off cap L s hs hl Hr.out t depth (by simpa [zac] using hdm) W (HN.out.below I5.out))
     rw [hdm] at HD
     clear hf hfb hdm hR
     gi_wp2
     refine ⟨trivial, (callsIn_wide.2 HD.out).mono ?_⟩
     clear HD
     rintro e w7 ⟨rfl, rfl⟩
     gi_wp2
     refine ⟨trivial, (callsIn_wide.2 HMe.out).mono ?_⟩
     clear HMe
     rintro e w8 ⟨rfl, hb8⟩
     have i1' : TAt w8 Z ⟨0, 0, 0, 0, 0, 0, 0, 0, 0⟩ := (hb8.block Z I1.out.lt).trans I1.out
     have th8 := i1'.there
     have hst := i1'.store (U := (zap L s t depth).1)
     have ag8 := hst.agg
     have th9 := hst.there
     obtain ⟨k1, k2, k3⟩ := HFin.out w8 (zap L s t depth).1 hb8
     have hb9 : Below w.heap.size w (setAgg w8 Z 0 (zap L s t depth).1.arr) := Below.setAgg (I5.out.trans (hb8.mono I5.out.size)) (by omega) _ _
     clear k2 k3 I1 I5 hb8 HFin
     gi_upto_region 13 with (fail)
     generalize setAgg w8 Z 0 (zap L s t depth).1.arr = w9 at hst ag8 th9 k1 hb9 ⊢
     clear th8 i1'
     gi_wp2
     have hK10 : (setAgg w9 Z 0 (zap L s t depth).1.arr).heap[D]? = some (.deferred (some [])) := (zay Z D (fun e => hZD e.symm) _ _ _).trans k1
     refine ⟨by simp, .inl ⟨_, _, rfl, run_takeDeferred hK10, ?_⟩⟩
     have hT10 : TAt ((setAgg w9 Z 0 (zap L s t depth).1.arr).putObj D (.deferred none)) Z (zap L s t depth).1 := (World.putObj_heap_other hZD).trans hst.store
     exact ⟨_, zda rfl _ _ Z _ rfl hT10.agg, by rw [HRz.out]; rfl, (Below.setAgg hb9 (by omega) _ _).trans (belowK_b (w := w) (Nat.le_refl _) _ D _ _ (by omega) hK10 rfl rfl)⟩
  case stop =>
   rintro D c pre W hD hp h
   exact h.elim
 ·
  have hck' : ((colP L s : Int) != 0) = true := by simpa using hck
  have HR := zzh (show sizeR L s tk depth = (.zero, 0, colP L s) by unfold sizeR; rw [if_neg hck])
  clear hck
  gi_wp2
  refine ⟨_, zda rfl _ _ Z _ rfl d1.store.agg, by rw [HR.out]; rfl, Below.setAgg hbw (by omega) _ _⟩
end
section
def zaP (n : Nd) : Int := if zaq n.kind then n.h + n.d else if n.kind == 8 then n.w else if n.kind == 7 then n.glue.nat else 0
def sumN (n : Nd) (T : Tt) : Tt := let T1 : Tt := { T with nat := T.nat + zaP n }; if n.kind == 7 then T1.glue n.glue else T1
def sumP (L : List Nd) (s : List Nat) : Tt := s.foldl (fun T i => sumN (nth L i) T) .zero
theorem glue_nat (T : Tt) (g : Gl) (a : Int) : ({ T with nat := a } : Tt).glue g = { T.glue g with nat := a } := by
 simp only [Tt.glue]
 generalize g.so.toNat = i
 generalize g.ho.toNat = j
 match i with
 | 0 | 1 | 2 | _ + 3 => match j with | 0 | 1 | 2 | _ + 3 => rfl
def Mt.all (m : Mt) : Tt := { m.t with nat := m.t.nat + m.d }
theorem light_not {k : Int} (h : zaW k = true) : zaq k = false /\ (k == 8) = false /\ (k == 7) = false := by
 simp [zaW] at h
 simp [zaq]
 omega
theorem all_pass (n : Nd) (m : Mt) : (zbs n m).all = sumN n m.all := by
 unfold zbs sumN zaP
 cases hl : zaW n.kind
 ·
  cases hs : zaq n.kind
  ·
   cases h8 : (n.kind == 8)
   ·
    cases h7 : (n.kind == 7)
    · simp [Mt.all]
    · simp only [Mt.all, if_true, Bool.false_eq_true, if_false, glue_nat, Int.add_zero]
   ·
    have h7 : (n.kind == 7) = false := by
     have h9 : n.kind = 8 := by simpa using h8
     rw [h9]; rfl
    simp [Mt.all, h7]
  ·
   have h7 : (n.kind == 7) = false := by simp [zaq] at hs; simp; omega
   simp [Mt.all, h7]; omega
 ·
  obtain ⟨h1, h2, h3⟩ := light_not hl
  simp [Mt.all, h1, h2, h3]
theorem sum_all (L : List Nd) (depth : Int) (s : List Nat) : sumP L s = (zbn L depth s).all := by
 unfold sumP zbn
 suffices h : ∀ m : Mt, s.foldl (fun T i => sumN (nth L i) T) m.all = (s.foldl (fun m i => zbs (nth L i) m) m).all by
  exact h ⟨.zero, 0, depth⟩
 induction s with
 | nil => intro m; rfl
 | cons a r ih => intro m; rw [List.foldl_cons, List.foldl_cons, <- all_pass, ih]
theorem sumP_snoc (L : List Nd) (s : List Nat) (x : Nat) : sumP L (s ++ [x]) = sumN (nth L x) (sumP L s) := by simp [sumP]
def lastD (L : List Nd) : List Nat -> Int
 | [] => 0
 | x :: r => if zaW (nth L x).kind then lastD L r else if zaq (nth L x).kind then (nth L x).d else 0
theorem fold_d (L : List Nd) (depth : Int) (s : List Nat) : (zbn L depth s).d = lastD L s.reverse := by
 suffices h : ∀ r : List Nat, (zbn L depth r.reverse).d = lastD L r by simpa using h s.reverse
 intro r
 induction r with
 | nil => rfl
 | cons x r ih =>
  rw [List.reverse_cons, foldM_snoc]
  unfold lastD zbs
  split
  · exact ih
  ·
   split
   · rfl
   ·
    split
    · rfl
    · split <;> rfl
theorem behC_take : ∀ (l : List Nd) (n : Int) (m k : Nat), behC l n = some m -> m <= k -> behC (l.take k) n = some m
 | [], _, _, _, h, _ => by cases h
 | x :: l, n, m, k, h, hk => by
  have hm := zaw _ _ _ h
  obtain ⟨k', rfl⟩ : ∃ k', k = k' + 1 := ⟨k - 1, by omega⟩
  rw [List.take_succ_cons]
  unfold behC at h ⊢
  split
  · rename_i h0; rw [if_pos h0] at h; exact h
  ·
   rename_i h0
   rw [if_neg h0] at h
   obtain ⟨q, hq, rfl⟩ := Option.map_eq_some_iff.1 h
   rw [behC_take l _ q k' hq (by omega)]
   rfl
theorem zbL {L : List Nd} {i t : Nat} {s : List Nat} (h : Items L i s) (ht : t ∈ s \/ t = L.length) : Items (L.take t) i (zaF s t) := by
 induction h with
 | done =>
  obtain rfl : t = L.length := by
   rcases ht with h | h
   · cases h
   · exact h
  rw [List.take_length]
  exact .done
 | step hi hm hs ih =>
  rename_i i m r
  have hp := zaw _ _ _ hm
  rw [List.length_drop] at hp
  unfold zaF
  rw [List.takeWhile_cons]
  by_cases e : i = t
  ·
   subst e
   rw [if_neg (by simp)]
   have := Items.done (L := L.take i)
   rw [List.length_take, Nat.min_eq_left (by omega)] at this
   exact this
  ·
   rw [if_pos (by simpa using e)]
   have ht2 : t ∈ r \/ t = L.length := by
    rcases ht with h | h
    ·
     rcases List.mem_cons.1 h with h | h
     · exact absurd h.symm e
     · exact .inl h
    · exact .inr h
   have hit : i + m <= t := by
    rcases ht2 with h | h
    · exact (hs.lt t h).1
    · omega
   refine .step (by rw [List.length_take]; omega) ?_ (ih ht2)
   rw [List.drop_take]
   exact behC_take _ _ _ _ hm (by omega)
theorem nth_take {L : List Nd} {t i : Nat} (h : i < t) : nth (L.take t) i = nth L i := by unfold nth; simp [h]
theorem sumP_congr {L M : List Nd} {s : List Nat} (h : ∀ x ∈ s, nth L x = nth M x) : sumP L s = sumP M s := by
 unfold sumP
 generalize Tt.zero = T
 induction s generalizing T with
 | nil => rfl
 | cons a r ih => rw [List.foldl_cons, List.foldl_cons, h a List.mem_cons_self, ih (fun x hx => h x (List.mem_cons_of_mem _ hx))]
def capD (T : Tt) (d depth : Int) : Tt × Int := if depth < d then ({ T with nat := T.nat - d + (d - depth) }, depth) else ({ T with nat := T.nat - d }, d)
theorem meas_sized (L : List Nd) (s : List Nat) (t : Nat) (depth : Int) : zap L s t depth = capD (sumP L (zaF s t)) (lastD L (zaF s t).reverse) depth := by
 unfold zap capD sizeM
 rw [sum_all L depth, <- fold_d L depth, zcH]
 simp only [Mt.all]
 have : ∀ a b : Int, a + b - b = a := by omega
 split
 · rw [this]
 · rw [this]
end
end Go.Proofs.YtaehkbbdmamfpaaGreatDoor
