/-
  Inserts: the account of a page: the program's.
-/
import Derived.Test.YtaehkbbdmamfpaaGreatDoorI10
import Derived.Test.YtaehkbbdmamfpaaGreatDoorI5
import Derived.Great.BuildSlice
namespace Go.Proofs.YtaehkbbdmamfpaaGreatDoor
open Go.ChangeShapes Go.WideShapes Go.ChangeAt Go.RowKit
attribute [local go_sem ↓] Go.wp_at_zero Go.wp_at_succ
def bsSp1 (parts : Array (Nat × Value)) : Sem Value := Instr.buildSlice 40 1 parts
@[go_sem ↓] theorem execOp_bsSp1 (ρ : Operand -> Value) (dst : Option Tmp) (x : Array (Nat × Operand)) (ty : TypeId) (pos : String) (after : Array Edge) (guard : Option (Nat × Bool)) :
 execOp ρ { dst, op := .buildSlice 40 1 x, type := ty, pos, after, guard } = (do pure (.value (<- bsSp1 (x.map fun (i, y) => (i, ρ y))))) := rfl
def Sp.zero : Sp := ⟨0, 0, 0, 0, 0, 0, 0⟩
theorem fill_sp1 (n : Sp) : Instr.fill (fun i => some (i * 7, 7)) ((Array.range (1 * 7)).map ((Value.agg Sp.zero.arr).cells[· % (Value.agg Sp.zero.arr).cells.size]!)) [(0, .agg n.arr)] = some n.arr := by kernel_rfl
theorem info_spb : (Tryz.prog.info? 49).map (fun i => (i.zero, i.size, i.bytes)) = some (some (.agg Sp.zero.arr), 7, 56) := by kernel_rfl
theorem info_sp0 : (Tryz.prog.info? 49).map (fun i => (i.zero, i.size)) = some (some (.agg Sp.zero.arr), 7) := by kernel_rfl
@[go_sem] theorem run_bsSp1 (n : Sp) (w : World) : (bsSp1 #[(0, .agg n.arr)]).run Tryz.prog w = .ok (.slice (some ⟨w.heap.size, 0, none⟩) 1 1) (w.alloc (.cells n.arr 49)) := by
 obtain ⟨i, hi, hzz⟩ := Option.map_eq_some_iff.1 info_sp0
 simp only [Prod.mk.injEq] at hzz
 obtain ⟨hz, hs⟩ := hzz
 refine run_buildSlice w _ 49 1 _ n.arr i (.agg Sp.zero.arr) Tryz.underlying40 hi hz (by rw [hs]; decide) (by rw [hs]; decide) ?_
 rw [hs]
 exact fill_sp1 n
theorem sps_one (x : Sp) : ∀ u ∈ x.cells, u.oneCell' = true := by
 have := Sp.one x
 simp only [Sp.arr] at this
 simpa using this
/-! ### Plain -/
theorem accF_len (L : List Nd) (C : List Cl) (goal depth : Int) (s : List Nat) : (accF L C goal depth s).2.length <= s.length := by
 unfold accF
 suffices h : ∀ (s : List Nat) (p : As × List Sp), (s.foldl (addI L C depth) p).2.length <= p.2.length + s.length by simpa using h s (⟨goal, 0, [], .zero⟩, [])
 intro s
 induction s with
 | nil => intro p; simp
 | cons x r ih =>
  intro p
  rw [List.foldl_cons]
  have h1 := ih (addI L C depth p x)
  have h2 : (addI L C depth p x).2.length <= p.2.length + 1 := by unfold addI; split <;> simp
  simp only [List.length_cons]
  omega
theorem insE_all {L : List Nd} : ∀ {s : List Nat}, insE L s = 0 -> ∀ x ∈ s, (nth L x).kind = 13 -> colQ (insP L x) = 0
 | [], _, x, hx, _ => by cases hx
 | y :: r, h, x, hx, hk => by
  unfold insE at h
  split at h
  ·
   split at h
   ·
    rename_i h1 h2
    rcases List.mem_cons.1 hx with rfl | hx
    · exact h2
    · exact insE_all h x hx hk
   ·
    rename_i h1 h2
    exact absurd h h2
  ·
   rename_i h1
   rcases List.mem_cons.1 hx with rfl | hx
   · exact absurd hk h1
   · exact insE_all h x hx hk
structure AccOk (L : List Nd) (C : List Cl) : Prop where
 cls : clsC C = 0
 col : colQ L = 0
 ins : ∀ x ∈ itsP L, (nth L x).kind = 13 -> colQ (insP L x) = 0
theorem accE_ok {L : List Nd} {C : List Cl} (h : accE L C = 0) : AccOk L C := by
 unfold accE at h
 split at h
 ·
  rename_i h1
  split at h
  ·
   rename_i h2
   exact ⟨h1, h2, insE_all h⟩
  · rename_i h2; exact absurd h h2
 · rename_i h1; exact absurd h h1
theorem StB.start {goal : Int} (h : zac goal = true) : StB 1073741823 ⟨goal, 0, [], .zero⟩ := by
 have h1 : -1073741823 <= goal /\ goal <= 1073741823 := by simpa [zac] using h
 exact ⟨h1, by simp, by simp [Tt.zero], fun j => by match j with | 0 | 1 | 2 | _ + 3 => simp [Tt.st, Tt.zero], fun j => by match j with | 0 | 1 | 2 | _ + 3 => simp [Tt.sh, Tt.zero], fun k x e => by cases e⟩
theorem fold_bound {L : List Nd} {C : List Cl} {depth : Int} (hok : AccOk L C) : ∀ (s : List Nat) (p : As × List Sp) (K : Int), 0 <= K -> StB K p.1 -> (∀ x ∈ s, x ∈ itsP L) -> StB (K + 281474976710656 * s.length) (s.foldl (addI L C depth) p).1
 | [], p, K, _, h, _ => by simpa using h
 | x :: s, p, K, hK, h, hs => by
  have h1 : StB (K + 281474976710656) (addI L C depth p x).1 := by
   unfold addI
   split
   ·
    rename_i hk
    exact h.step hK (zam hok.col) hok.cls (hs x (by simp)) hk (hok.ins x (hs x (by simp)) hk)
   · exact h.mono (by omega)
  have h2 := fold_bound (depth := depth) hok s _ (K + 281474976710656) (by omega) h1 fun y hy => hs y (List.mem_cons_of_mem _ hy)
  rw [List.foldl_cons]
  refine h2.mono ?_
  rw [List.length_cons]
  omega
theorem accF_bound {L : List Nd} {C : List Cl} {goal depth : Int} (hok : AccOk L C) (hg : zac goal = true) (s : List Nat) (hs : ∀ x ∈ s, x ∈ itsP L) : StB (1073741823 + 281474976710656 * s.length) (accF L C goal depth s).1 := fold_bound hok s _ _ (by omega) (StB.start hg) hs
/-! ### The program's -/
theorem grown_low {K : Nat} {W W' : World} {r : Option Nat} (hg : W.grownBy W' r) (hK : K <= W.heap.size) (hr : ∀ q, r = some q -> K <= q) : Below K W W' :=
 ⟨hg.os, hg.tape, hg.output, hg.size, fun q h1 => hg.block q (by omega) (fun e => by have := hr q e.symm; omega)⟩
theorem tat_drew {W : World} {b : Nat} {T : Tt} (h : TAt W b T) : TAt W.drew b T := h
theorem own_drew {W : World} {B : Nat} {e : TypeId} {z : Nat} {v : Value} {n : Nat} {xs : List Value} (h : W.ownsRow B e z v n xs) : W.drew.ownsRow B e z v n xs := h
theorem zbx {fn : Func} {p t u : Tmp} (h : fn.results = #[.tmp t, .cell p 43, .tmp u]) (tmps : Array Value) (w : World) (b : Nat) (T : Tt) (hp : tmps.getD p undef = .pointer (some ⟨b, 0, none⟩)) (hc : agg? w b 0 9 = some T.arr) :
 (results fn tmps).run Tryz.prog w = .ok (.tuple #[tmps.getD t undef, .agg T.arr, tmps.getD u undef]) w := by
 have hl : (loadVar 43 ⟨b, 0, none⟩).run Tryz.prog w = .ok (.agg T.arr) w := by
  have := zat (P := Tryz.prog) 43 9 _ u_tt rfl i_tt b 0 w
  rw [hc, zcz] at this
  simpa [Instr.loadAt, Instr.sureAddr] using this
 have hp' : tmps[p]?.getD undef = .pointer (some ⟨b, 0, none⟩) := by simpa using hp
 simp [results, h, hp', asAddr, hl]
structure AccPost (w : World) (r : List Sp × Tt × Int) (e : Ending) (w' : World) : Prop where
 out : ∃ v, e = .returned (.tuple #[v, .agg r.2.1.arr, .int .i64 r.2.2]) /\ w'.ownsRow w.heap.size 49 7 v r.1.length (r.1.flatMap Sp.cells)
 below : Below w.heap.size w w'
set_option maxRecDepth 100000 in
set_option maxHeartbeats 8000000 in
theorem iaccount (p0 : Option Addr) (b off cap : Nat) (L : List Nd) (pc : Option Addr) (bc oc cc : Nat) (C : List Cl) (goal depth : Int) (w : World) (hN : NIn w p0 b off cap L) (hC : CIn w pc bc oc cc C) :
 Calls Tryz.prog 18 #[.slice p0 L.length cap, .slice pc C.length cc, .int .i64 goal, .int .i64 depth] w (AccPost w (accR L C goal depth)) := by
 have hl := hN.len
 have hb1 : Below w.heap.size w (w.alloc (.cells (Tt.mk 0 0 0 0 0 0 0 0 0).arr 43)) := (Below.refl _ _).alloc (Nat.le_refl _) _
 have dR : TAt (w.alloc (.cells (Tt.mk 0 0 0 0 0 0 0 0 0).arr 43)) w.heap.size ⟨0, 0, 0, 0, 0, 0, 0, 0, 0⟩ := heap_alloc_new _ _
 have HCk := zzh (icheck p0 b off cap L pc bc oc cc C _ (hN.below hb1) (hC.below hb1))
 have H := zzh (And.intro hN hC)
 have Hb1 := zzh hb1
 have HdR := zzh dR
 clear hN hC hb1 dR
 obtain ⟨R, hR⟩ : ∃ R, w.heap.size = R := ⟨_, rfl⟩
 have HR := zzh hR
 obtain ⟨E, hE⟩ : ∃ E, accE L C = E := ⟨_, rfl⟩
 rw [hE] at HCk
 have HE := zzh hE
 rw [hR] at HdR
 clear hE
 go_enter Tryz.func18, Tryz.ntmps18
 go_upto_region 1 with (fail)
 clear hR
 generalize w.alloc (.cells (Tt.mk 0 0 0 0 0 0 0 0 0).arr 43) = w1 at HCk Hb1 HdR ⊢
 go_upto_region 2 with (go_at_call 28; refine HCk.out.mono ?_; clear HCk; rintro e w2 ⟨rfl, hb2⟩)
 have hT2 : TAt w2 R ⟨0, 0, 0, 0, 0, 0, 0, 0, 0⟩ := (hb2.block R HdR.out.lt).trans HdR.out
 have Hb2 := zzh (Hb1.out.trans (hb2.mono Hb1.out.size))
 have th := hT2.there
 have HT2 := zzh hT2
 clear hb2 Hb1 HdR hT2
 have HBad : Hid (∀ q : Int, accR L C goal depth = ([], .zero, q) -> AccPost w (accR L C goal depth) (.returned (.tuple #[.slice none 0 0, .agg Tt.zero.arr, .int .i64 q])) (setAgg w2 R 0 Tt.zero.arr)) := zzh fun q h => by
  rw [h]
  exact ⟨⟨_, rfl, World.ownsRow_nil _ _ _ _⟩, Below.setAgg Hb2.out (by rw [HR.out]; exact Nat.le_refl _) _ _⟩
 by_cases h0 : E = 0
 case neg =>
  have h0' : (E != 0) = true := by simpa using h0
  have hv := zzh (show accR L C goal depth = ([], .zero, E) by unfold accR; rw [if_neg (by rw [HE.out]; exact h0), HE.out])
  clear h0
  go_wp2_with fail
  refine ⟨rfl, _, zbx rfl _ _ R _ rfl (HT2.out.store (U := .zero)).agg, ?_⟩
  exact HBad.out _ hv.out
 subst h0
 have HG := zzh (idimen_any goal w2)
 have HD := zzh (idimen_any depth w2)
 obtain ⟨dg, hdg⟩ : ∃ dg, zac goal = dg := ⟨_, rfl⟩
 obtain ⟨dd, hdd⟩ : ∃ dd, zac depth = dd := ⟨_, rfl⟩
 rw [hdg] at HG
 rw [hdd] at HD
 have hac : accR L C goal depth = if dg && dd then ((accF L C goal depth (itsP L)).2, (accF L C goal depth (itsP L)).1.t, 0) else ([], .zero, 11) := by unfold accR; rw [if_pos HE.out, hdg, hdd]
 have Hdg := zzh (And.intro hdg hdd)
 clear hdg hdd
 cases dg
 ·
  have hv := zzh (show accR L C goal depth = ([], .zero, 11) by rw [hac]; rfl)
  clear hac
  go_wp2_with (go_at_call 40; refine HG.out.mono ?_; rintro e w' ⟨rfl, rfl⟩)
  refine ⟨rfl, _, zbx rfl _ _ R _ rfl (HT2.out.store (U := .zero)).agg, ?_⟩
  exact HBad.out _ hv.out
 cases dd
 ·
  have hv := zzh (show accR L C goal depth = ([], .zero, 11) by rw [hac]; rfl)
  clear hac
  go_wp2_with (first | (go_at_call_has 40 goal; refine HG.out.mono ?_; rintro e w' ⟨rfl, rfl⟩) | (go_at_call_has 40 depth; refine HD.out.mono ?_; rintro e w' ⟨rfl, rfl⟩))
  refine ⟨rfl, _, zbx rfl _ _ R _ rfl (HT2.out.store (U := .zero)).agg, ?_⟩
  exact HBad.out _ hv.out
 rw [Bool.true_and, if_pos rfl] at hac
 have hok := accE_ok HE.out
 have hck := zam hok.col
 have hs := zaO hck
 have hll := (zaj hck).1
 have Hac := zzh hac
 have Hok := zzh (And.intro hok (And.intro hck hs))
 clear hac hok hck hs HBad th
 have hmm := @run_makeMap Tryz.prog
 go_upto_region 6 with (first | (go_at_call_has 40 goal; refine HG.out.mono ?_; clear HG; rintro e w' ⟨rfl, rfl⟩) | (go_at_call_has 40 depth; refine HD.out.mono ?_; clear HD; rintro e w' ⟨rfl, rfl⟩))
 obtain ⟨M, hM⟩ : ∃ M, w2.heap.size = M := ⟨_, rfl⟩
 have hRM : R < M := by rw [<- hM]; exact HT2.out.lt
 have hwM : w.heap.size <= M := by rw [<- hM]; exact Hb2.out.size
 have hbm : Below w2.heap.size w2 ((w2.alloc (.map #[] 0)).alloc (.cells (Ac.mk p0 L.length cap pc C.length cc goal depth 0 M ⟨0, 0, 0, 0, 0, 0, 0, 0, 0⟩).arr 93)) := ((Below.refl _ _).alloc (Nat.le_refl _) _).alloc (by simp) _
 have hmv : MapV ((w2.alloc (.map #[] 0)).alloc (.cells (Ac.mk p0 L.length cap pc C.length cc goal depth 0 M ⟨0, 0, 0, 0, 0, 0, 0, 0, 0⟩).arr 93)) M [] := by
  have := (MapV.new w2).same (Below.heap_alloc (w2.alloc (.map #[] 0)) (.cells (Ac.mk p0 L.length cap pc C.length cc goal depth 0 M ⟨0, 0, 0, 0, 0, 0, 0, 0, 0⟩).arr 93) w2.heap.size (by simp))
  rwa [hM] at this
 have hZa : AAt ((w2.alloc (.map #[] 0)).alloc (.cells (Ac.mk p0 L.length cap pc C.length cc goal depth 0 M ⟨0, 0, 0, 0, 0, 0, 0, 0, 0⟩).arr 93)) (M + 1) (Ac.mk p0 L.length cap pc C.length cc goal depth 0 M ⟨0, 0, 0, 0, 0, 0, 0, 0, 0⟩) := by
  have := heap_alloc_new (w2.alloc (.map #[] 0)) (.cells (Ac.mk p0 L.length cap pc C.length cc goal depth 0 M ⟨0, 0, 0, 0, 0, 0, 0, 0, 0⟩).arr 93)
  rwa [World.size_alloc, hM] at this
 have Hbm := zzh hbm
 have Hmv := zzh hmv
 have HZa := zzh hZa
 clear hbm hmv hZa
 go_upto_region 7 with (fail)
 obtain ⟨s, hss⟩ : ∃ s, itsP L = s := ⟨_, rfl⟩
 have Hss := zzh hss
 have HdG : Hid (zac goal = true /\ zac depth = true) := Hdg
 have hz0 : M + 2 <= ((w2.alloc (.map #[] 0)).alloc (.cells (Ac.mk p0 L.length cap pc C.length cc goal depth 0 M ⟨0, 0, 0, 0, 0, 0, 0, 0, 0⟩).arr 93)).heap.size := by simp; omega
 generalize (w2.alloc (.map #[] 0)).alloc (.cells (Ac.mk p0 L.length cap pc C.length cc goal depth 0 M ⟨0, 0, 0, 0, 0, 0, 0, 0, 0⟩).arr 93) = w6 at Hbm Hmv HZa hz0 ⊢
 have hb6 := Hb2.out.trans (Hbm.out.mono Hb2.out.size)
 have HAcc : Hid (AccIn w6 (M + 1) M w.heap.size L p0 b off cap C pc bc oc cc depth ⟨goal, 0, [], .zero⟩) := zzh ⟨HZa.out, Hmv.out, by simp, by omega, H.out.1.below hb6, H.out.2.below hb6, ⟨by omega, hwM⟩, fun e => H.out.1.hb e, fun e => H.out.2.hb e, by omega⟩
 have HT6 := zzh ((Hbm.out.block R HT2.out.lt).trans HT2.out)
 have HB6 := zzh hb6
 have Hz6 := zzh hz0
 clear hb6 HZa Hmv Hbm HT2 Hb2 hz0 hM hss Hdg hmm
 go_wp2_with fail
 go_loopg [13, 14] (s.length + 1) (fun gg t13 t14 wr => ∃ (pos : Nat) (d r : List Nat) (st : As) (sps : List Sp), gg = r.length + 1 /\ t14 = .int .i64 pos /\ s = d ++ r /\ Items L pos r /\ accF L C goal depth d = (st, sps) /\ AccIn wr (M + 1) M w.heap.size L p0 b off cap C pc bc oc cc depth st /\ wr.ownsRow (M + 2) 49 7 t13 sps.length (sps.flatMap Sp.cells) /\ TAt wr R ⟨0, 0, 0, 0, 0, 0, 0, 0, 0⟩ /\ Below w.heap.size w wr /\ M + 2 <= wr.heap.size)
 case atStart => exact ⟨0, [], s, _, [], rfl, rfl, rfl, by rw [<- Hss.out]; exact Hok.out.2.2, rfl, HAcc.out, World.ownsRow_nil _ _ _ _, HT6.out, HB6.out, Hz6.out⟩
 case round =>
  clear HAcc HT6 HB6 Hz6
  obtain ⟨pos, d, r, st, sps, rfl, rfl, hsd, hit, haf, hacc, hrow, hT, hb, hz⟩ := hrel
  have hp1 : (0 : Int) <= (pos : Int) := by omega
  obtain ⟨pv, cv, rfl⟩ := zaf hrow
  cases hit with
  | done =>
   have hsd' : s = d := by rw [hsd, List.append_nil]
   have HR9 := zzh (show accR L C goal depth = (sps, st.t, 0) by rw [Hac.out, Hss.out, hsd', haf])
   have aT : agg? wr (M + 1) 6 9 = some st.t.arr := by rw [agg?_blk' hacc.a 6 9 (by rw [Ac.size_arr]; decide)]; rfl
   have th := hT.there
   have HT := zzh hT
   have HB := zzh (And.intro hb hrow)
   clear hsd hsd' haf hacc hrow hT hb
   go_wp2_with fail
   go_region
   go_wp2_with fail
   refine ⟨rfl, _, zbx rfl _ _ R _ rfl (tat_drew (HT.out.store (U := st.t))).agg, ?_⟩
   rw [HR9.out]
   refine ⟨⟨.slice pv sps.length cv, rfl, ?_⟩, (Below.setAgg HB.out.1 (by rw [HR.out]; exact Nat.le_refl _) _ _).drew⟩
   refine own_drew (zas (zar HB.out.2 fun g hg _ => zay R g ?_ _ _ _) (by omega))
   have := (HB.out.2.lt g hg).1
   omega
  | @step _ m r hi hm hit2 =>
   have hmem : pos ∈ s := by rw [hsd]; simp
   have hmem2 : pos ∈ itsP L := by rw [Hss.out]; exact hmem
   have hp2 : (pos : Int) < (L.length : Int) := by omega
   have hN := hacc.nodes
   have xa : wr.cell? ⟨b, off + pos * 19, none⟩ = some (.int .i64 (nth L pos).kind) := zau (hN.nth hi) 0 _ rfl
   have HItem : Hid (∀ W, Below w.heap.size w W -> Calls Tryz.prog 30 #[.slice p0 L.length cap, .int .i64 pos] W fun e w' => e = .returned (.tuple #[.int .i64 ((pos + m : Nat) : Int), .int .i64 0]) /\ Below W.heap.size W w') := zzh fun W hw => item9 _ b off cap L _ Hok.out.2.1 Hok.out.2.2 pos m hmem2 hm W (H.out.1.below hw)
   obtain rfl := hN.at_ hi
   have Hsd := zzh hsd
   have HIt := zzh hit2
   have hsn := accF_snoc L C goal depth d pos
   rw [haf] at hsn
   have hdl := hit2.len
   have hln : sps.length <= 2000 := by
    have h1 := accF_len L C goal depth d
    rw [haf] at h1
    have h2 := Hok.out.2.2.len
    rw [Hss.out, hsd] at h2
    simp only [List.length_append] at h2
    simp only at h1
    omega
   by_cases hk : (nth L pos).kind = 13
   case neg =>
    have hk' : ((nth L pos).kind == 13) = false := by simpa using hk
    have Hsn := zzh (hsn.trans (by unfold addI; rw [if_neg hk]))
    have HI := zzh (And.intro hacc (And.intro hrow (And.intro hT (And.intro hb hz))))
    generalize (nth L pos).kind = kk at xa hk'
    clear hsd hit2 hb hmem hmem2 hm hN hk hacc hrow hT hz hsn haf
    go_wp2_with (go_at_call 30; refine (HItem.out _ HI.out.2.2.2.1).mono ?_; rintro e w4 ⟨rfl, hb4⟩)
    go_roundg (r.length + 1)
    case measure => simp only [List.length_cons]; omega
    case rel => exact ⟨pos + m, d ++ [pos], r, st, sps, rfl, by go_num, by rw [Hsd.out]; simp, HIt.out, Hsn.out, HI.out.1.still hb4, zad HI.out.2.1 hb4, (hb4.block R HI.out.2.2.1.lt).trans HI.out.2.2.1, HI.out.2.2.2.1.trans (hb4.mono HI.out.2.2.2.1.size), Nat.le_trans HI.out.2.2.2.2 hb4.size⟩
   have hsb : StB (1073741823 + 281474976710656 * d.length) st := by
    have := accF_bound Hok.out.1 HdG.out.1 d (goal := goal) (depth := depth) (fun y hy => by rw [Hss.out, hsd]; exact List.mem_append_left _ hy)
    rwa [haf] at this
   have hdl2 : d.length <= 2000 := by
    have h2 := Hok.out.2.2.len
    rw [Hss.out, hsd] at h2
    simp only [List.length_append] at h2
    omega
   have hSt := istep L (some ⟨b, off, none⟩) b off cap C pc bc oc cc depth st pos (M + 1) M w.heap.size wr hacc Hok.out.1.col Hok.out.1.cls HdG.out.2 hmem2 hk (Hok.out.1.ins pos hmem2 hk) (1073741823 + 281474976710656 * d.length) (by omega) (by omega) hsb
   have hsn2 := hsn.trans (show addI L C depth (st, sps) pos = ((zbp L C depth st pos).1, sps ++ [(zbp L C depth st pos).2]) by unfold addI; rw [if_pos hk])
   obtain ⟨st2, sp2, he2⟩ : ∃ st2 sp2, zbp L C depth st pos = (st2, sp2) := ⟨_, _, rfl⟩
   rw [he2] at hSt hsn2
   have HSt := zzh hSt
   have Hsn := zzh hsn2
   rw [hk] at xa
   have Hrow := zzh hrow
   have HT := zzh hT
   have HB := zzh (And.intro hb hz)
   clear hsd hit2 hb hmem hmem2 hm hN hk hacc hrow hT hz hsn haf hSt hsn2 he2 hsb
   obtain ⟨i0, hi0', hz0, hz1, hz2'⟩ := info_parts info_spb
   have H1 := zzh (sps_one sp2)
   go_upto_region 11 with (fail)
   go_upto_region 12 with (first | (go_at_call 41; refine HSt.out.mono ?_; clear HSt; rintro e w3 ⟨rfl, hacc3, hby3⟩; have hrow3 := zar Hrow.out (fun g hg hlt => hby3.block g hlt (by have := (Hrow.out.lt g hg).1; omega) (by have := (Hrow.out.lt g hg).1; omega)); have hz3 := Nat.le_trans HB.out.2 hby3.size; have H3 := zzh (And.intro hacc3 (And.intro hby3 hrow3)); have Hrow3 := zzh (hrow3.alloc (.cells sp2.arr 49)); have hbase : M + 2 <= (w3.alloc (.cells sp2.arr 49)).heap.size := (by rw [World.size_alloc]; omega); clear hacc3 hby3 hrow3) | (at_builtin; refine wpList_append_lies _ rfl (.tmp 48) (.tmp 52) 40 rfl (M + 2) 49 i0 (.agg Sp.zero.arr) 7 56 Tryz.underlying40 hi0' hz0 hz1 hz2' rfl (by decide) (.slice pv sps.length cv) sps.length (sps.flatMap Sp.cells) rfl Hrow3.out ⟨w3.heap.size, 0, none⟩ 1 1 sp2.cells rfl rfl (World.news_of_block (cs := sp2.cells.toArray) (heap_alloc_new _ _)) H1.out (by decide) (by unfold maxLen; omega) (by omega) hbase _ rfl ?_; intro g5 cap5 w5 hown5 hgrow5 hat5 hlt5))
   have hb35 : Below (M + 2) w3 w5 := ((Below.refl _ _).alloc hz3 _).trans (grown_low hgrow5 hbase fun q hq => (Hrow.out.lt q hq).1)
   have hacc5 := H3.out.1.low (by omega) hb35
   have hT5 := (hb35.block R (by omega)).trans ((H3.out.2.1.block R HT.out.lt (by omega) (by omega)).trans HT.out)
   have hby3 := H3.out.2.1.below (n := w.heap.size) (by omega) hwM (HB.out.1.size)
   have hb5 : Below w.heap.size w w5 := (HB.out.1.trans hby3).trans ⟨hb35.os, hb35.tape, hb35.output, hb35.size, fun q hq => hb35.block q (by omega)⟩
   have H5 : Hid (AccIn w5 (M + 1) M w.heap.size L (some ⟨b, off, none⟩) b off cap C pc bc oc cc depth st2 /\ w5.ownsRow (M + 2) 49 7 (.slice (some ⟨g5, 0, none⟩) (sps.length + 1) cap5) (sps ++ [sp2]).length ((sps ++ [sp2]).flatMap Sp.cells) /\ TAt w5 R ⟨0, 0, 0, 0, 0, 0, 0, 0, 0⟩ /\ Below w.heap.size w w5 /\ M + 2 <= w5.heap.size) := zzh ⟨hacc5, (by
    rw [List.length_append, List.length_singleton, List.flatMap_append]
    simpa using hown5), hT5, hb5, Nat.le_trans hz3 hb35.size⟩
   clear hown5 hgrow5 hat5 hlt5 hb35 hacc5 hT5 hby3 hb5 H3 Hrow3 Hrow HT HB hbase hz3 hi0' hz0 hz1 hz2'
   go_wp2_with (go_at_call 30; refine (HItem.out _ H5.out.2.2.2.1).mono ?_; rintro e w6 ⟨rfl, hb6⟩)
   go_roundg (r.length + 1)
   case measure => simp only [List.length_cons]; omega
   case rel => exact ⟨pos + m, d ++ [pos], r, st2, sps ++ [sp2], rfl, by go_num, by rw [Hsd.out]; simp, HIt.out, Hsn.out, H5.out.1.still hb6, by rw [List.length_append, List.length_singleton] at *; exact zad H5.out.2.1 hb6, (hb6.block R H5.out.2.2.1.lt).trans H5.out.2.2.1, H5.out.2.2.2.1.trans (hb6.mono H5.out.2.2.2.1.size), Nat.le_trans H5.out.2.2.2.2 hb6.size⟩
end Go.Proofs.YtaehkbbdmamfpaaGreatDoor
