/-
  Inserts, the document's side: an Ins of a good column (one). No statement of the seat stands here.
-/
import Derived.Test.YtaehkbbdmamfpaaGreatDoorS10
import Derived.Test.YtaehkbbdmamfpaaGreatDoorI10
import Derived.Test.YtaehkbbdmamfpaaGreatDoorI44
namespace Go.Proofs.YtaehkbbdmamfpaaGreatDoor
open Go.ChangeShapes Go.WideShapes Go.ChangeAt Go.RowKit
attribute [local go_sem ↓] Go.wp_at_zero Go.wp_at_succ
def bdQSp (parts : Array (Nat × Value)) : Sem Value := Instr.build 85 parts
@[go_sem ↓] theorem execOp_buildQSp (ρ : Operand -> Value) (dst : Option Tmp) (x : Array (Nat × Operand)) (ty : TypeId) (pos : String) (after : Array Edge) (guard : Option (Nat × Bool)) :
 execOp ρ { dst, op := .build 85 x, type := ty, pos, after, guard } = (do pure (.value (<- bdQSp (x.map fun (i, y) => (i, ρ y))))) := rfl
@[go_sem] theorem run_bdQSp (a k v : Int) (w : World) : (bdQSp #[(0, .int .i64 a), (1, .int .i64 k), (2, .int .i64 v)]).run Tryz.prog w = .ok (.agg (Sp.mk a k v 0 0 0 0).arr) w := by kernel_rfl
/-! ### Plain: a Book beside the program's account -/
structure BkR (s : Bks) (st : As) (mt : Nat -> Bool) : Prop where
 goal : s.goal = st.goal
 pens : s.pens = st.pens
 t : s.t = st.t
 met : ∀ a, a <= 254 -> s.met a = mt a
 spl : ∀ a : Nat, a <= 254 -> s.spl a = decide (0 < (zcW st (a : Int)).split)
 hold : ∀ a : Nat, a <= 254 -> s.hold a = (zcW st (a : Int)).size
def metF (st : As) : Nat -> Bool := fun a => (getI st.met (a : Int)).isSome
def metG (st : As) (k : Nat) : Nat -> Bool := fun a => decide (a = k) || (getI st.met (a : Int)).isSome
theorem BkR.bound {s : Bks} {st : As} {mt : Nat -> Bool} {K : Int} (h : BkR s st mt) (hb : StB K st) (hK : 0 <= K) : BkB K s :=
 ⟨by rw [h.goal]; exact hb.goal, by rw [h.pens]; exact hb.pens, by rw [h.t]; exact hb.nat, fun j => by rw [h.t]; exact hb.s j, fun j => by rw [h.t]; exact hb.h j, fun a ha => by rw [h.hold a ha]; exact hb.held hK _⟩
theorem heldI_met {st st' : As} (h : st'.met = st.met) (k : Int) : zcW st' k = zcW st k := by unfold zcW; rw [h]
theorem BkR.begun {s : Bks} {st : As} {k : Nat} (hk : k <= 254) {C : List Cl} (h : BkR s st (metF st)) : BkR (zcs s k (zcv C (k : Int))) (metI st C (k : Int)) (metG (metI st C (k : Int)) k) := by
 have hm := h.met k hk
 have hmm := metI_met st C (k : Int)
 have hg : metG (metI st C (k : Int)) k = metG st k := by funext a; unfold metG; rw [hmm]
 rw [hg]
 refine ⟨?_, ?_, ?_, fun a ha => ?_, fun a ha => ?_, fun a ha => ?_⟩
 ·
  unfold zcs metI
  rw [hm]
  unfold metF
  split
  · exact h.goal
  ·
   show s.goal - _ - _ = st.goal - (_ + _)
   rw [h.goal]; omega
 ·
  unfold zcs metI
  rw [hm]
  unfold metF
  split
  · exact h.pens
  · exact h.pens
 ·
  unfold zcs metI
  rw [hm]
  unfold metF
  split
  · exact h.t
  ·
   show ({ s.t with nat := s.t.nat + _ } : Tt).glue _ = ({ st.t with nat := st.t.nat + _ } : Tt).glue _
   rw [h.t]
 ·
  unfold zcs metG
  split
  ·
   rename_i hmt
   by_cases e : a = k
   · subst e; rw [hmt]; simp
   · rw [h.met a ha]; simp [metF, e]
  ·
   show upd s.met k true a = _
   by_cases e : a = k
   · subst e; rw [zbg]; simp
   · rw [zaN _ _ e, h.met a ha]; simp [metF, e]
 ·
  have e1 : (zcs s k (zcv C (k : Int))).spl = s.spl := by unfold zcs; split <;> rfl
  rw [e1, h.spl a ha, heldI_met hmm]
 ·
  have e1 : (zcs s k (zcv C (k : Int))).hold = s.hold := by unfold zcs; split <;> rfl
  rw [e1, h.hold a ha, heldI_met hmm]
theorem BkR.fin {s1 s' : Bks} {stm : As} {k : Nat} {g p : Int} {T : Tt} {h' : Ho} (h : BkR s1 stm (metG stm k)) (hg : s'.goal = g) (hp : s'.pens = p) (ht : s'.t = T) (hm : s'.met = s1.met)
 (hs : s'.spl k = decide (0 < h'.split)) (hs2 : ∀ a, a ≠ k -> s'.spl a = s1.spl a) (hh : s'.hold k = h'.size) (hh2 : ∀ a, a ≠ k -> s'.hold a = s1.hold a) : BkR s' ⟨g, p, putI stm.met (k : Int) h', T⟩ (metF ⟨g, p, putI stm.met (k : Int) h', T⟩) := by
 refine ⟨hg, hp, ht, fun a ha => ?_, fun a ha => ?_, fun a ha => ?_⟩
 ·
  rw [hm, h.met a ha]
  unfold metG metF
  simp only [getI_put]
  by_cases e : a = k
  · subst e; simp
  · rw [if_neg (by omega)]; simp [e]
 ·
  rw [held_put rfl a]
  by_cases e : a = k
  · subst e; rw [if_pos rfl, hs]
  · rw [if_neg e, hs2 a e, h.spl a ha]
 ·
  rw [held_put rfl a]
  by_cases e : a = k
  · subst e; rw [if_pos rfl, hh]
  · rw [if_neg e, hh2 a e, h.hold a ha]
/-! ### Memory -/
structure OneW (W0 : World) (N Z K S : Nat) (s : Bks) (n : Nd) (kc : Cl) (sp : Sp) (W : World) : Prop where
 bk : BkAt W N s
 nd : Blk W (Z + 1) n.arr 53
 cl : Blk W K kc.arr 88
 st : Blk W S sp.arr 85
 rs : Blk W Z (Sp.mk 0 0 0 0 0 0 0).arr 85
 gr : W0.grownBy W (some N)
 lt : N < Z /\ Z + 1 < K /\ K < S
 z0 : W0.heap.size = Z
section
variable {W0 W W' : World} {N Z K S : Nat} {s s' : Bks} {n : Nd} {kc : Cl} {sp sp' : Sp}
theorem OneW.below (h : OneW W0 N Z K S s n kc sp W) (hb : Below W.heap.size W W') : OneW W0 N Z K S s n kc sp W' := ⟨h.bk.below hb, h.nd.below hb, h.cl.below hb, h.st.below hb, h.rs.below hb, grown_t h.gr (zde hb _), h.lt, h.z0⟩
theorem OneW.drew (h : OneW W0 N Z K S s n kc sp W) : OneW W0 N Z K S s n kc sp W.drew := h.below (Below.refl _ _).drew
theorem OneW.drewN (h : OneW W0 N Z K S s n kc sp W) (m : Nat) : OneW W0 N Z K S s n kc sp (W.drewN m) := h.below (zbd _ _ _)
theorem OneW.setN (h : OneW W0 N Z K S s n kc sp W) {j : Nat} {v : Value} (hb : BkAt (W.setCell ⟨N, j, none⟩ v) N s') : OneW W0 N Z K S s' n kc sp (W.setCell ⟨N, j, none⟩ v) := by
 obtain ⟨a, b, c⟩ := h.lt
 exact ⟨hb, h.nd.other (by omega) _, h.cl.other (by omega) _, h.st.other (by omega) _, h.rs.other (by omega) _, zcX h.gr _ _, h.lt, h.z0⟩
theorem OneW.setS (h : OneW W0 N Z K S s n kc sp W) {j : Nat} {v : Value} (hb : sp.arr.setIfInBounds j v = sp'.arr) : OneW W0 N Z K S s n kc sp' (W.setCell ⟨S, j, none⟩ v) := by
 obtain ⟨a, b, c⟩ := h.lt
 have hk := (Below.refl S W).setCell (p := ⟨S, j, none⟩) (Nat.le_refl _) v
 refine ⟨h.bk.other (by omega) _, h.nd.other (by omega) _, h.cl.other (by omega) _, h.st.set j v _ hb, h.rs.other (by omega) _, ?_, h.lt, h.z0⟩
 have hz := h.z0
 exact ⟨hk.os.trans h.gr.os, hk.tape.trans h.gr.tape, hk.output.trans h.gr.output, Nat.le_trans h.gr.size hk.size, fun q hq hr => (Below.heap_setCell _ _ _ _ (by simp only; omega)).trans (h.gr.block q hq hr)⟩
theorem OneW.by2 (h : OneW W0 N Z K S s n kc sp W) (hy : By2 N S W W') (hb : BkAt W' N s') (hs : Blk W' S sp'.arr 85) : OneW W0 N Z K S s' n kc sp' W' := by
 obtain ⟨a, b, c⟩ := h.lt
 have hz := h.z0
 refine ⟨hb, (hy.block _ h.nd.lt (by omega) (by omega)).trans h.nd, (hy.block _ h.cl.lt (by omega) (by omega)).trans h.cl, hs, (hy.block _ h.rs.lt (by omega) (by omega)).trans h.rs, ?_, h.lt, h.z0⟩
 exact ⟨hy.os.trans h.gr.os, hy.tape.trans h.gr.tape, hy.output.trans h.gr.output, Nat.le_trans h.gr.size hy.size, fun q hq hr => (hy.block q (Nat.lt_of_lt_of_le hq h.gr.size) (by intro e; exact hr (by rw [e])) (by omega)).trans (h.gr.block q hq hr)⟩
theorem OneW.ret (h : OneW W0 N Z K S s n kc sp W) : agg? (setAgg W Z 0 sp.arr) Z 0 7 = some sp.arr /\ BkAt (setAgg W Z 0 sp.arr) N s /\ W0.grownBy (setAgg W Z 0 sp.arr) (some N) := by
 obtain ⟨a, b, c⟩ := h.lt
 have hb : Below Z W (setAgg W Z 0 sp.arr) := Below.setAgg (Below.refl Z W) (Nat.le_refl _) _ _
 refine ⟨agg?_setAgg_same (c := sp.arr) (zbR h.rs 0 7 (by decide)), ?_, ?_⟩
 ·
  obtain ⟨cc, h1, h2, h3⟩ := h.bk.out
  exact ⟨cc, (hb.block N a).trans h1, h2, h3⟩
 ·
  have hz := h.z0
  exact ⟨hb.os.trans h.gr.os, hb.tape.trans h.gr.tape, hb.output.trans h.gr.output, Nat.le_trans h.gr.size hb.size, fun q hq hr => (hb.block q (by omega)).trans (h.gr.block q hq hr)⟩
theorem agg_sp {W : World} {b : Nat} {sp : Sp} {t : TypeId} (h : Blk W b sp.arr t) : agg? W b 0 7 = some sp.arr := by
 rw [agg?_blk' h 0 7 (by rw [Sp.size_arr]; decide)]
 simp [Sp.arr, Sp.cells]
end
set_option maxRecDepth 100000 in
set_option maxHeartbeats 16000000 in
theorem qone (N : Nat) (s : Bks) (st : As) (hR : BkR s st (metF st)) (hst : StB 562951027163136000 st) (b off cap : Nat) (L : List Nd) (pc : Option Addr) (bc oc cc : Nat) (C : List Cl) (depth : Int) (hdp : s.depth = depth) (hdd : zac depth = true)
 (hok : AccOk L C) (x : Nat) (hx : x ∈ itsP L) (hk13 : (nth L x).kind = 13) (W : World) (hN : NIn W (some ⟨b, off, none⟩) b off cap L) (hC : CIn W pc bc oc cc C) (hbN : b ≠ N) (hbc : C ≠ [] -> bc ≠ N) (hB : BkAt W N s) :
 Calls Tryz.prog 67 #[.pointer (some ⟨N, 0, none⟩), .slice (some ⟨b, off, none⟩) L.length cap, .int .i64 x, .slice pc C.length cc] W fun e W' =>
  e = .returned (.agg (zbp L C depth st x).2.arr) /\ (∃ s', BkR s' (zbp L C depth st x).1 (metF (zbp L C depth st x).1) /\ s'.depth = depth /\ BkAt W' N s') /\ W.grownBy W' (some N) := by
 have hck := zam hok.col
 have hs := zaO hck
 have hlt := (hs.lt x hx).2
 have hX := hok.ins x hx hk13
 have hLl := (zaj hck).1
 obtain ⟨⟨nsb1, nsb2⟩, nh, nd, ⟨npen1, npen2⟩, _⟩ := ins_nb hck hlt hk13
 obtain ⟨k, hk⟩ : ∃ k : Nat, (nth L x).sub = (k : Int) := ⟨(nth L x).sub.toNat, by omega⟩
 have hk2 : k <= 254 := by omega
 obtain ⟨kc, hkc⟩ : ∃ kc, zcv C (k : Int) = kc := ⟨_, rfl⟩
 have hcb : ClB kc := by rw [<- hkc]; exact clsAt_ok hok.cls _
 obtain ⟨stm, hstm⟩ : ∃ stm, metI st C (k : Int) = stm := ⟨_, rfl⟩
 have hR1 := hR.begun hk2 (C := C)
 rw [hkc, hstm] at hR1
 have hsb1 := hst.met1 hok.cls (k : Int)
 rw [hstm] at hsb1
 obtain ⟨s1, hs1⟩ : ∃ s1, zcs s k kc = s1 := ⟨_, rfl⟩
 rw [hs1] at hR1
 have hbk := hR.bound (hst.mono (by decide : (562951027163136000 : Int) <= 600000000000000000)) (by decide)
 have hbk1 := hR1.bound (hsb1.mono (by decide : (562951027163136000 + 140737488355328 : Int) <= 600000000000000000)) (by decide)
 have hsd1 : s1.depth = depth := by rw [<- hs1, <- hdp]; unfold zcs; split <;> rfl
 obtain ⟨h, hh⟩ : ∃ h, zcW st (k : Int) = h := ⟨_, rfl⟩
 have hhm : zcW stm (k : Int) = h := by rw [<- hh, <- hstm]; exact heldI_met (metI_met _ _ _) _
 have hspl : s1.spl k = decide (0 < h.split) := by rw [hR1.spl k hk2, hhm]
 have hhold : s1.hold k = h.size := by rw [hR1.hold k hk2, hhm]
 obtain ⟨n, hn⟩ : ∃ n, nth L x = n := ⟨_, rfl⟩
 have hSt : zbp L C depth st x = if 0 < h.split then ((⟨stm.goal, stm.pens + n.pen, putI stm.met (k : Int) h, stm.t⟩ : As), (⟨x, (k : Int), 3, 0, 0, stm.goal, stm.pens + n.pen⟩ : Sp)) else if fitI L depth stm x kc h.size = true then
  (⟨stm.goal - zaT n.h kc.scale, stm.pens, putI stm.met (k : Int) ⟨h.size + n.h, h.split⟩, stm.t⟩, ⟨x, (k : Int), 1, n.h, 0, stm.goal - zaT n.h kc.scale, stm.pens⟩) else
  (⟨stm.goal - zaT (bS (zbX (insP L x) (zbw kc (zbE L depth stm x) h.size) n.d)) kc.scale, stm.pens + penI (insP L x) (bA (zbX (insP L x) (zbw kc (zbE L depth stm x) h.size) n.d)), putI stm.met (k : Int) ⟨h.size + bS (zbX (insP L x) (zbw kc (zbE L depth stm x) h.size) n.d), 1⟩, stm.t⟩,
   ⟨x, (k : Int), 2, bS (zbX (insP L x) (zbw kc (zbE L depth stm x) h.size) n.d), bA (zbX (insP L x) (zbw kc (zbE L depth stm x) h.size) n.d), stm.goal - zaT (bS (zbX (insP L x) (zbw kc (zbE L depth stm x) h.size) n.d)) kc.scale, stm.pens + penI (insP L x) (bA (zbX (insP L x) (zbw kc (zbE L depth stm x) h.size) n.d))⟩) := by
  have hk' : n.sub = (k : Int) := by rw [<- hn]; exact hk
  unfold zbp
  simp only [hn, hk', hkc, hh, hstm]
 rw [hn] at nh nd npen1 npen2
 have nh1 : -1073741823 <= n.h /\ n.h <= 1073741823 := by simpa [zac, zab] using nh
 have hHS : ∀ W' , W.grownBy W' (some N) -> NIn W' (some ⟨b, off, none⟩) b off cap L /\ CIn W' pc bc oc cc C := fun W' hg => ⟨grown_nin hg hN (fun _ => hbN), ⟨hC.hp, fun e => Nat.lt_of_lt_of_le (hC.hb e) hg.size, fun j hj => by
  have hne : C ≠ [] := by intro e; rw [e] at hj; simp at hj
  exact (agg?_block (hg.block bc (hC.hb hne) (by intro e; exact hbc hne (Option.some.inj e)))).trans (hC.cl j hj), hC.cap', hC.len⟩⟩
 have HHS := zzh hHS
 have HSz : Hid (∀ W', W.grownBy W' (some N) -> Calls Tryz.prog 117 #[.slice (some ⟨b, off, none⟩) L.length cap, .int .i64 (x : Nat), .int .i64 depth] W' fun e w' => e = .returned (.tuple #[.agg (zap L (itsP L) x depth).1.arr, .int .i64 (zap L (itsP L) x depth).2]) /\ Below W'.heap.size W' w') := zzh fun W' hg =>
  qsized _ b off cap L (itsP L) hs (fun y hy => zcF (check_run.1 hck).2 hy) (fun y hy => nb_of (by rw [zaV (hs.lt y hy).2]; exact zaQ hck _ (List.getElem_mem _))) hLl x (.inl hx) depth (by simpa [zac] using hdd) W' (hHS W' hg).1
 have HPa : Hid (∀ (W' : World) (S : Nat) (sp : Sp), N ≠ S -> b ≠ S -> sp.at_ = (x : Int) -> sp.cls = (k : Int) -> W.grownBy W' (some N) -> BkAt W' N s1 -> Blk W' S sp.arr 85 -> -1152921504606846976 <= zbE L depth stm x /\ zbE L depth stm x <= 1152921504606846976 -> Calls Tryz.prog 119 #[.pointer (some ⟨N, 0, none⟩), .slice (some ⟨b, off, none⟩) L.length cap, .pointer (some ⟨S, 0, none⟩), .agg kc.arr, .int .i64 (zbE L depth stm x)] W' fun e W'' =>
  e = .returned (.tuple #[]) /\
  BkAt W'' N { s1 with spl := upd s1.spl k true, goal := s1.goal - zaT (bS (zbX (insP L x) (zbw kc (zbE L depth stm x) h.size) n.d)) kc.scale, pens := s1.pens + penI (insP L x) (bA (zbX (insP L x) (zbw kc (zbE L depth stm x) h.size) n.d)) } /\
  Blk W'' S ({ sp with what := 2, split := bA (zbX (insP L x) (zbw kc (zbE L depth stm x) h.size) n.d), size := bS (zbX (insP L x) (zbw kc (zbE L depth stm x) h.size) n.d) } : Sp).arr 85 /\ By2 N S W' W'') := zzh fun W' S sp h1 h2 h3 h4 hg hb hs' hrm => by
  have := qparted N S h1 s1 sp kc hcb k hk2 (zbE L depth stm x) hrm hbk1 b off cap L hck x hx hk13 hX h3 h4 W' (hHS W' hg).1 hbN h2 hb hs'
  rw [hhold, hn] at this
  exact this
 obtain ⟨⟨mn1, mn2⟩, ⟨md1, md2⟩, ⟨mh1, mh2⟩⟩ := meas_nb hck hs x depth hdd
 have hbb : b < W.heap.size := hN.lt hlt
 have hfit : fitI L depth stm x kc h.size = ((decide (zaT n.h kc.scale <= 0) || decide (zaT n.h kc.scale <= zbE L depth stm x + ((zap L (itsP L) x depth).1.h0 + stm.t.h0))) && decide (n.h + h.size <= kc.most)) := by unfold fitI; rw [hn]
 have hroom : zbE L depth stm x = stm.goal - (zap L (itsP L) x depth).1.nat - (zap L (itsP L) x depth).2 := rfl
 have hxa := hN.nth hlt
 rw [hn] at hxa
 have hgl0 := hR1.goal
 obtain ⟨tm, htm⟩ : ∃ tm, (zap L (itsP L) x depth).1 = tm := ⟨_, rfl⟩
 obtain ⟨dm, hdm⟩ : ∃ dm, (zap L (itsP L) x depth).2 = dm := ⟨_, rfl⟩
 obtain ⟨rm, hrm⟩ : ∃ rm, zbE L depth stm x = rm := ⟨_, rfl⟩
 obtain ⟨bo, hbo⟩ : ∃ bo, zbX (insP L x) (zbw kc rm h.size) n.d = bo := ⟨_, rfl⟩
 obtain ⟨sizeb, _⟩ := best_nb (zam hX) (zaO (zam hX)) (zbw kc rm h.size) n.d nd
 have hbe : bestO (insP L x) (itsP (insP L x)) (zbw kc rm h.size) n.d = bo := hbo
 rw [hbe] at sizeb
 obtain ⟨sizeb1, sizeb2⟩ := sizeb
 rw [hrm, hbo] at hSt HPa
 rw [hrm, htm] at hfit
 rw [hrm, htm, hdm] at hroom
 rw [htm, hdm] at HSz
 rw [htm] at mn1 mn2 mh1 mh2
 rw [hdm] at md1 md2
 obtain ⟨ft, hft⟩ : ∃ ft, fitI L depth stm x kc h.size = ft := ⟨_, rfl⟩
 rw [hft] at hSt hfit
 obtain ⟨sg1, sg2⟩ := hbk1.goal
 obtain ⟨sp1, sp2⟩ := hbk1.pens
 obtain ⟨sh1, sh2⟩ := hbk1.sh 0
 obtain ⟨so1, so2⟩ := hbk1.hold k hk2
 rw [hhold] at so1 so2
 have hsh0 : s1.t.sh 0 = stm.t.h0 := by rw [hR1.t]; rfl
 rw [hsh0] at sh1 sh2
 have hroom2 : s1.goal - tm.nat - dm = rm := by rw [hroom, hR1.goal]
 have hscb := zbK n.h kc.scale
 obtain ⟨nd', hnd'⟩ : ∃ v, zaT n.h kc.scale = v := ⟨_, rfl⟩
 rw [hnd'] at hSt hfit hscb
 have hrmb : -1152921504606846976 <= rm /\ rm <= 1152921504606846976 := by omega
 have HSt := zzh hSt
 have Hfit := zzh hfit
 have HR1 := zzh hR1
 have HRoom := zzh (And.intro hroom2 (And.intro hspl hhold))
 have Hnd := zzh (And.intro hnd' (And.intro hk hn))
 have Hcb := zzh hcb
 have Hsd := zzh (And.intro hs1 hsd1)
 have Hsh := zzh hsh0
 have Hkc := zzh hkc
 have Hdp := zzh hdp
 have hx1 : (0 : Int) <= (x : Int) := by omega
 have hx2 : (x : Int) < (L.length : Int) := by omega
 have hk0 : (0 : Int) <= (k : Int) := by omega
 have hk1 : (k : Int) < 255 := by omega
 have Hbk := zzh hbk
 have Hhm := zzh hhm
 have HBo := zzh hbo
 clear hck hs hlt hX hok hkc hcb hstm hR1 hR hsb1 hs1 hbk hbk1 hsd1 hh hhm hspl hhold hSt hN hC hHS hfit hroom hgl0 htm hdm hrm hft hsh0 hroom2 hnd' hk hn hx hk13 nh nd hst hdp hbo hbe hbc
 have hdA := hB.below ((Below.refl W.heap.size W).alloc (Nat.le_refl _) (.cells (Sp.mk 0 0 0 0 0 0 0).arr 85))
 have e1 : agg? (W.alloc (.cells (Sp.mk 0 0 0 0 0 0 0).arr 85)) b (off + x * 19) 19 = some n.arr := by rw [<- hxa]; exact agg?_block (Below.heap_alloc _ _ _ hbb)
 have dZ : Blk ((W.alloc (.cells (Sp.mk 0 0 0 0 0 0 0).arr 85)).alloc (.cells n.arr 53)) W.heap.size (Sp.mk 0 0 0 0 0 0 0).arr 85 := (Below.heap_alloc _ _ _ (by simp)).trans (heap_alloc_new _ _)
 have dN : Blk ((W.alloc (.cells (Sp.mk 0 0 0 0 0 0 0).arr 85)).alloc (.cells n.arr 53)) (W.heap.size + 1) n.arr 53 := by have := heap_alloc_new (W.alloc (.cells (Sp.mk 0 0 0 0 0 0 0).arr 85)) (.cells n.arr 53); rwa [World.size_alloc] at this
 have hb1 : Below W.heap.size W ((W.alloc (.cells (Sp.mk 0 0 0 0 0 0 0).arr 85)).alloc (.cells n.arr 53)) := ((Below.refl _ _).alloc (Nat.le_refl _) _).alloc (by simp) _
 have hz1 : ((W.alloc (.cells (Sp.mk 0 0 0 0 0 0 0).arr 85)).alloc (.cells n.arr 53)).heap.size = W.heap.size + 2 := by simp
 have hNlt := hB.lt
 have hB2 := hB.below hb1
 clear hdA hB hxa
 go_enter Tryz.func67, Tryz.ntmps67
 go_upto_region 2 with (fail)
 generalize (W.alloc (.cells (Sp.mk 0 0 0 0 0 0 0).arr 85)).alloc (.cells n.arr 53) = W2 at dZ dN hb1 hz1 hB2 ⊢
 obtain ⟨Z, hZ⟩ : ∃ Z, W.heap.size = Z := ⟨_, rfl⟩
 rw [hZ] at dZ dN hz1 hNlt hbb ⊢
 have HZ := zzh hZ
 have HZ2 := zzh hz1
 have n17 : W2.cell? ⟨Z + 1, 17, none⟩ = some (.int .i64 (k : Int)) := by rw [cell?_blk' dN, Nd.get17, Hnd.out.2.2.symm, Hnd.out.2.1]
 have g2 := zde hb1 (some N)
 have HCl := zzh (qclass pc bc oc cc C k (by omega) W2 (HHS.out W2 g2).2)
 rw [Hkc.out] at HCl
 have H2 := zzh (And.intro hB2 (And.intro dN (And.intro dZ g2)))
 clear e1 hZ hz1 hb1 hB2 dN dZ g2
 go_upto_region 4 with (go_at_call 115; refine HCl.out.mono ?_; clear HCl; rintro e w3 ⟨rfl, hb3⟩)
 have hz3 := hb3.size
 rw [HZ2.out] at hz3
 have hba : Below w3.heap.size w3 (w3.alloc (.cells kc.arr 88)) := (Below.refl _ _).alloc (Nat.le_refl _) _
 have hb4 := hb3.trans (hba.mono hb3.size)
 have dK := heap_alloc_new w3 (.cells kc.arr 88)
 have hB4 := H2.out.1.below hb4
 have dN4 := H2.out.2.1.below hb4
 have dZ4 := H2.out.2.2.1.below hb4
 have g4 := grown_t H2.out.2.2.2 (zde hb4 _)
 obtain ⟨K, hK⟩ : ∃ K, w3.heap.size = K := ⟨_, rfl⟩
 have hK4 : (w3.alloc (.cells kc.arr 88)).heap.size = K + 1 := by simp [hK]
 rw [hK] at dK hz3 ⊢
 clear n17 H2 hba hb4 hb3 hK
 generalize w3.alloc (.cells kc.arr 88) = W4 at dK hB4 dN4 dZ4 g4 hK4 ⊢
 have HBg := zzh (qbegun N s k hk2 kc Hcb.out W4 hB4 Hbk.out)
 rw [Hsd.out.1] at HBg
 have a0 : agg? W4 K 0 8 = some kc.arr := by rw [agg?_blk' dK 0 8 (by rw [Cl.size_arr]; decide)]; simp [Cl.arr, Cl.cells]
 have H4 := zzh (And.intro dN4 (And.intro dZ4 (And.intro dK (And.intro g4 hK4))))
 clear dK hB4 dN4 dZ4 g4 hK4
 go_upto_region 5 with (go_at_call 116; refine HBg.out.mono ?_; clear HBg; rintro e W5 ⟨rfl, hB5, g5⟩)
 have hz5 := g5.size
 rw [H4.out.2.2.2.2] at hz5
 have dN5 := grown_blk g5 H4.out.1 (by omega)
 have dZ5 := grown_blk g5 H4.out.2.1 (by omega)
 have dK5 := grown_blk g5 H4.out.2.2.1 (by omega)
 have g6 := grown_t H4.out.2.2.2.1 g5
 have hba : Below W5.heap.size W5 (W5.alloc (.cells (Sp.mk (x : Int) (k : Int) 3 0 0 0 0).arr 85)) := (Below.refl _ _).alloc (Nat.le_refl _) _
 have dS := heap_alloc_new W5 (.cells (Sp.mk (x : Int) (k : Int) 3 0 0 0 0).arr 85)
 have hOne : OneW W N Z K W5.heap.size s1 n kc (Sp.mk (x : Int) (k : Int) 3 0 0 0 0) (W5.alloc (.cells (Sp.mk (x : Int) (k : Int) 3 0 0 0 0).arr 85)) :=
  ⟨hB5.below hba, dN5.below hba, dK5.below hba, dS, dZ5.below hba, grown_t g6 (zde hba _), ⟨hNlt, by omega, by omega⟩, HZ.out⟩
 go_upto_region 6 with (fail)
 obtain ⟨S, hS⟩ : ∃ S, W5.heap.size = S := ⟨_, rfl⟩
 have hSK : K < S := by omega
 rw [hS] at hOne ⊢
 clear a0 hB5 g5 dN5 dZ5 dK5 g6 hba dS hS hz5 H4
 generalize W5.alloc (.cells (Sp.mk (x : Int) (k : Int) 3 0 0 0 0).arr 85) = W6 at hOne ⊢
 have hNS : N ≠ S := by omega
 have hbS : b ≠ S := by omega
 have cs := hOne.bk.cspl hk2
 have H6 := zzh hOne
 clear hOne
 by_cases hlater : 0 < h.split
 ·
  have hv := HSt.out
  rw [if_pos hlater] at hv
  rw [HRoom.out.2.1, decide_eq_true hlater] at cs
  have Hv := zzh hv
  have hsl : s1.spl k = decide (0 < h.split) := HRoom.out.2.1
  have Hsl := zzh hsl
  clear hv hsl hlater
  have c1 : W6.drew.cell? ⟨N, 1, none⟩ = some (.int .i64 s1.pens) := H6.out.bk.cpens
  have f1 : W6.drew.frozen? ⟨N, 1, none⟩ = false := H6.out.bk.drew.frozen 1
  have n16 : W6.drew.cell? ⟨Z + 1, 16, none⟩ = some (.int .i64 n.pen) := by rw [cell?_blk' (show Blk W6.drew (Z + 1) n.arr 53 from H6.out.nd), Nd.get16]
  have hO7 := (H6.out.setN (H6.out.bk.spens (s1.pens + n.pen))).drew
  go_upto_region 7 with (fail)
  refine Rest.region follows ?_
  refine Rest.tame 10 (fun W => W = W6.drew) (by kernel_rfl) rfl ?_
  simp only [Nat.reduceSub, List.drop_zero, List.take_succ_cons, List.take_zero]
  iterate 10 first
   | (refine TW.cons_n rfl _ (by intro wT hT R hR K hK; simp only [Act.put, lsA, lsB, lsC] at hK; subst hT; go_step; exact hK _ _ (hR _ rfl)) ?_; try simp only [Act.put, lsA, lsB, lsC])
  refine TW.nil fun w9 h9 => ?_
  subst h9
  refine Rest.seq (by kernel_rfl) ?_
  simp only [List.drop_succ_cons, List.drop_zero]
  go_upto_region 17 with (fail)
  clear c1 f1 n16 cs
  generalize (W6.setCell ⟨N, 1, none⟩ (.int .i64 (s1.pens + n.pen))).drew = W7 at hO7 ⊢
  have c0 : W7.cell? ⟨N, 0, none⟩ = some (.int .i64 (s1.goal)) := hO7.bk.cgoal
  have c1 : W7.cell? ⟨N, 1, none⟩ = some (.int .i64 (s1.pens + n.pen)) := hO7.bk.cpens
  have s5 := cell?_blk' hO7.st 5
  rw [Sp.get5] at s5
  have s6 := cell?_blk' hO7.st 6
  rw [Sp.get6] at s6
  have f5 := hO7.st.frozen 5
  have f6 := hO7.st.frozen 6
  have hO8 := (hO7.setS (Sp.set5 _ (s1.goal))).setS (Sp.set6 _ (s1.pens + n.pen))
  go_upto_region 19 with (fail)
  clear c0 c1 s5 s6 f5 f6
  generalize (W7.setCell ⟨S, 5, none⟩ (.int .i64 (s1.goal))).setCell ⟨S, 6, none⟩ (.int .i64 (s1.pens + n.pen)) = W8 at hO8 ⊢
  have aS := agg_sp hO8.st
  have hfin := hO8.ret
  have tZ := zbR hO8.rs 0 7 (by decide)
  have H8 := zzh hO8
  clear hO8
  go_wp2_with fail
  refine ret_qsp rfl Z 0 _ rfl hfin.1 rfl ?_
  rw [Hv.out]
  refine ⟨by rw [<- HR1.out.goal, <- HR1.out.pens], ⟨{ s1 with pens := s1.pens + n.pen }, HR1.out.fin (s' := { s1 with pens := s1.pens + n.pen }) HR1.out.goal (by rw [<- HR1.out.pens]) HR1.out.t rfl Hsl.out (fun _ _ => rfl) HRoom.out.2.2 (fun _ _ => rfl), Hsd.out.2, hfin.2.1⟩, hfin.2.2⟩
 ·
  have hv := HSt.out
  rw [if_neg hlater] at hv
  rw [HRoom.out.2.1, decide_eq_false hlater] at cs
  have Hv := zzh hv
  have Hnl := zzh hlater
  clear hv hlater
  have c2 : W6.cell? ⟨N, 2, none⟩ = some (.int .i64 depth) := by rw [H6.out.bk.cdepth, Hsd.out.2]
  have HS6 := zzh (HSz.out W6 H6.out.gr)
  go_upto_region 9 with (go_at_call 117; refine HS6.out.mono ?_; clear HS6; rintro e w7 ⟨rfl, hb7⟩)
  have hba : Below w7.heap.size w7 (w7.alloc (.cells tm.arr 43)) := (Below.refl _ _).alloc (Nat.le_refl _) _
  have hO8 := (H6.out.below hb7).below hba
  have dT := heap_alloc_new w7 (.cells tm.arr 43)
  have hTl : S < w7.heap.size := Nat.lt_of_lt_of_le H6.out.st.lt hb7.size
  obtain ⟨T, hT⟩ : ∃ T, w7.heap.size = T := ⟨_, rfl⟩
  rw [hT] at dT hTl ⊢
  clear hT hba hb7 c2 cs HSz H6
  generalize w7.alloc (.cells tm.arr 43) = W8 at hO8 dT ⊢
  have dT8 : Blk W8 T tm.arr 43 := dT
  have c0 : W8.cell? ⟨N, 0, none⟩ = some (.int .i64 s1.goal) := hO8.bk.cgoal
  have t0 : W8.cell? ⟨T, 0, none⟩ = some (.int .i64 tm.nat) := by rw [cell?_blk' dT8, Tt.get0]
  have H8 := zzh (And.intro hO8 dT8)
  clear dT dT8 hO8
  go_quiet (fail)
  have hO9 := H8.out.1.drewN nq
  have dT9 : Blk (W8.drewN nq) T tm.arr 43 := H8.out.2
  clear c0 t0 H8
  generalize W8.drewN nq = W9 at hO9 dT9 ⊢
  have hrr : s1.goal - tm.nat - dm = rm := HRoom.out.1
  have n4 : W9.cell? ⟨Z + 1, 4, none⟩ = some (.int .i64 n.h) := by rw [cell?_blk' hO9.nd, Nd.get4]
  have k0 : W9.cell? ⟨K, 0, none⟩ = some (.int .i64 kc.scale) := by rw [cell?_blk' hO9.cl, Cl.get0]
  have ks := Hcb.out.scale
  have HSc := zzh (qscaled n.h kc.scale (by omega) (by omega) ks.1 ks.2 W9)
  rw [Hnd.out.1] at HSc
  have H9 := zzh (And.intro hO9 dT9)
  clear hO9 dT9
  go_upto_region 11 with (go_at_call 118; refine HSc.out.mono ?_; clear HSc; rintro e w10 ⟨rfl, rfl⟩)
  clear n4 k0 hrr
  have n4 : W9.cell? ⟨Z + 1, 4, none⟩ = some (.int .i64 n.h) := by rw [cell?_blk' H9.out.1.nd, Nd.get4]
  have k1 : W9.cell? ⟨K, 1, none⟩ = some (.int .i64 kc.most) := by rw [cell?_blk' H9.out.1.cl, Cl.get1]
  have t5 : W9.cell? ⟨T, 5, none⟩ = some (.int .i64 tm.h0) := by rw [cell?_blk' H9.out.2, Tt.get5]
  have b5 : W9.cell? ⟨N, 773, none⟩ = some (.int .i64 stm.t.h0) := by
   have := H9.out.1.bk.ctot (q := 5) (by decide) (s1.t.cells_sh (j := 0) (by decide) 0).2
   rw [Hsh.out] at this
   exact this
  have bh : W9.cell? ⟨N, 513 + k, none⟩ = some (.int .i64 h.size) := by rw [H9.out.1.bk.chold hk2, HRoom.out.2.2]
  obtain ⟨km1, km2⟩ := Hcb.out.most
  go_cut [104] from 73 to 104 (fun t104 wx => t104 = .bool ft /\ ∃ m, wx = W9.drewN m)
  case first =>
   have hfa : rm + tm.h0 + stm.t.h0 = rm + (tm.h0 + stm.t.h0) := Int.add_assoc _ _ _
   by_cases q3 : n.h + h.size <= kc.most
   ·
    have d3 : decide (n.h + h.size <= kc.most) = true := decide_eq_true q3
    by_cases q1 : nd' <= 0
    ·
     have d1 : decide (nd' <= 0) = true := decide_eq_true q1
     have hf := zzh (show ft = true by rw [Hfit.out, d1, d3]; rfl)
     clear hfa
     go_quiet (fail)
     go_wp2_with fail
     go_meet
     exact ⟨by rw [hf.out], _, rfl⟩
    ·
     have d1 : decide (nd' <= 0) = false := decide_eq_false q1
     by_cases q2 : nd' <= rm + tm.h0 + stm.t.h0
     ·
      have d2 : decide (nd' <= rm + tm.h0 + stm.t.h0) = true := decide_eq_true q2
      have hf := zzh (show ft = true by rw [Hfit.out, d1, d3, <- hfa, d2]; rfl)
      clear hfa
      go_quiet (fail)
      go_wp2_with fail
      go_meet
      exact ⟨by rw [hf.out], _, rfl⟩
     ·
      have d2 : decide (nd' <= rm + tm.h0 + stm.t.h0) = false := decide_eq_false q2
      have hf := zzh (show ft = false by rw [Hfit.out, d1, <- hfa, d2]; rfl)
      clear hfa
      go_quiet (fail)
      go_wp2_with fail
      go_meet
      exact ⟨by rw [hf.out], _, rfl⟩
   ·
    have d3 : decide (n.h + h.size <= kc.most) = false := decide_eq_false q3
    have hf := zzh (show ft = false by rw [Hfit.out, d3]; exact Bool.and_false _)
    by_cases q1 : nd' <= 0
    ·
     have d1 : decide (nd' <= 0) = true := decide_eq_true q1
     clear hfa
     go_quiet (fail)
     go_wp2_with fail
     go_meet
     exact ⟨by rw [hf.out], _, rfl⟩
    ·
     have d1 : decide (nd' <= 0) = false := decide_eq_false q1
     by_cases q2 : nd' <= rm + tm.h0 + stm.t.h0
     ·
      have d2 : decide (nd' <= rm + tm.h0 + stm.t.h0) = true := decide_eq_true q2
      clear hfa
      go_quiet (fail)
      go_wp2_with fail
      go_meet
      exact ⟨by rw [hf.out], _, rfl⟩
     ·
      have d2 : decide (nd' <= rm + tm.h0 + stm.t.h0) = false := decide_eq_false q2
      clear hfa
      go_quiet (fail)
      go_wp2_with fail
      go_meet
      exact ⟨by rw [hf.out], _, rfl⟩
  case rest =>
   obtain ⟨rfl, m9, rfl⟩ := hcut
   have hO10 := H9.out.1.drewN m9
   clear n4 k1 t5 b5 bh H9
   generalize W9.drewN m9 = W10 at hO10 ⊢
   cases ft
   ·
    have hv := Hv.out
    rw [if_neg (by decide)] at hv
    have HV := zzh hv
    clear hv
    have aK : agg? W10 K 0 8 = some kc.arr := by rw [agg?_blk' hO10.cl 0 8 (by rw [Cl.size_arr]; decide)]; simp [Cl.arr, Cl.cells]
    have HP := zzh (HPa.out W10 S (Sp.mk (x : Int) (k : Int) 3 0 0 0 0) hNS hbS rfl rfl hO10.gr hO10.bk hO10.st hrmb)
    clear HPa
    have HO10 := zzh hO10
    clear hO10
    obtain ⟨bsz, hbsz⟩ : ∃ v, bS bo = v := ⟨_, rfl⟩
    obtain ⟨sc2, hsc2⟩ : ∃ v, zaT bsz kc.scale = v := ⟨_, rfl⟩
    obtain ⟨pn, hpn⟩ : ∃ v, penI (insP L x) (bA bo) = v := ⟨_, rfl⟩
    rw [hbsz, hsc2, hpn] at HV HP
    rw [hbsz] at sizeb1 sizeb2
    clear hbsz hsc2 hpn
    go_upto_region 16 with (go_at_call 119; refine HP.out.mono ?_; clear HP; rintro e W11 ⟨rfl, hB11, hS11, hY11⟩)
    have hO11 := HO10.out.by2 hY11 hB11 hS11
    clear aK hB11 hS11 hY11 HO10
    have ch : W11.drew.cell? ⟨N, 513 + k, none⟩ = some (.int .i64 h.size) := by have := hO11.bk.chold hk2; rw [show ({ s1 with spl := upd s1.spl k true, goal := s1.goal - sc2, pens := s1.pens + pn } : Bks).hold k = s1.hold k from rfl, HRoom.out.2.2] at this; exact this
    have fh : W11.drew.frozen? ⟨N, 513 + k, none⟩ = false := hO11.bk.drew.frozen _
    have s3 : W11.drew.cell? ⟨S, 3, none⟩ = some (.int .i64 bsz) := by rw [cell?_blk' (show Blk W11.drew S _ 85 from hO11.st), Sp.get3]
    have hO12 := (hO11.setN (hO11.bk.shold hk2 (h.size + bsz))).drew
    refine Rest.region follows ?_
    refine Rest.tame 14 (fun W => W = W11.drew) (by kernel_rfl) rfl ?_
    simp only [Nat.reduceSub, List.drop_zero, List.take_succ_cons, List.take_zero]
    iterate 14 first
     | (refine TW.cons_n rfl _ (by intro wT hT R hR K hK; simp only [Act.put, lsA, lsB, lsC] at hK; subst hT; go_step; exact hK _ _ (hR _ rfl)) ?_; try simp only [Act.put, lsA, lsB, lsC])
    refine TW.nil fun w9 h9 => ?_
    subst h9
    refine Rest.seq (by kernel_rfl) ?_
    simp only [List.drop_succ_cons, List.drop_zero]
    go_upto_region 17 with (fail)
    clear ch fh s3 hO11
    generalize (W11.setCell ⟨N, 513 + k, none⟩ (.int .i64 (h.size + bsz))).drew = W12 at hO12 ⊢
    have c0 : W12.cell? ⟨N, 0, none⟩ = some (.int .i64 (s1.goal - sc2)) := hO12.bk.cgoal
    have c1 : W12.cell? ⟨N, 1, none⟩ = some (.int .i64 (s1.pens + pn)) := hO12.bk.cpens
    have s5 := cell?_blk' hO12.st 5
    rw [Sp.get5] at s5
    have s6 := cell?_blk' hO12.st 6
    rw [Sp.get6] at s6
    have f5 := hO12.st.frozen 5
    have f6 := hO12.st.frozen 6
    have hO18 := (hO12.setS (Sp.set5 _ (s1.goal - sc2))).setS (Sp.set6 _ (s1.pens + pn))
    go_upto_region 19 with (fail)
    clear c0 c1 s5 s6 f5 f6
    generalize (W12.setCell ⟨S, 5, none⟩ (.int .i64 (s1.goal - sc2))).setCell ⟨S, 6, none⟩ (.int .i64 (s1.pens + pn)) = W18 at hO18 ⊢
    have aS := agg_sp hO18.st
    have hfin := hO18.ret
    have tZ := zbR hO18.rs 0 7 (by decide)
    have H18 := zzh hO18
    clear hO18
    go_wp2_with fail
    refine ret_qsp rfl Z 0 _ rfl hfin.1 rfl ?_
    rw [HV.out]
    refine ⟨by rw [<- HR1.out.goal, <- HR1.out.pens], ⟨_, HR1.out.fin (s' := { s1 with spl := upd s1.spl k true, goal := s1.goal - sc2, pens := s1.pens + pn, hold := upd s1.hold k (h.size + bsz) }) (by rw [<- HR1.out.goal]) (by rw [<- HR1.out.pens]) HR1.out.t rfl (zbg _ _ _) (fun a ha => zaN _ _ ha) (zbg _ _ _) (fun a ha => zaN _ _ ha), Hsd.out.2, hfin.2.1⟩, hfin.2.2⟩
   ·
    have hv := Hv.out
    rw [if_pos rfl] at hv
    have HV := zzh hv
    clear hv HPa
    have n4 : W10.cell? ⟨Z + 1, 4, none⟩ = some (.int .i64 n.h) := by rw [cell?_blk' hO10.nd, Nd.get4]
    have s2 : W10.cell? ⟨S, 2, none⟩ = some (.int .i64 3) := by rw [cell?_blk' hO10.st, Sp.get2]
    have s3 : W10.cell? ⟨S, 3, none⟩ = some (.int .i64 0) := by rw [cell?_blk' hO10.st, Sp.get3]
    have f2 := hO10.st.frozen 2
    have f3 := hO10.st.frozen 3
    have hSZ : S ≠ Z + 1 := by omega
    have hO11 := (hO10.setS (Sp.set2 _ 1)).setS (Sp.set3 _ n.h)
    go_upto_region 14 with (fail)
    clear n4 s2 s3 f2 f3 hO10
    generalize (W10.setCell ⟨S, 2, none⟩ (.int .i64 1)).setCell ⟨S, 3, none⟩ (.int .i64 n.h) = W11 at hO11 ⊢
    have c0 : W11.cell? ⟨N, 0, none⟩ = some (.int .i64 s1.goal) := hO11.bk.cgoal
    have f0 : W11.frozen? ⟨N, 0, none⟩ = false := hO11.bk.frozen 0
    have hO12 := hO11.setN (hO11.bk.sgoal (s1.goal - nd'))
    go_upto_region 16 with (fail)
    clear c0 f0 hO11
    generalize W11.setCell ⟨N, 0, none⟩ (.int .i64 (s1.goal - nd')) = W12 at hO12 ⊢
    have ch : W12.drew.cell? ⟨N, 513 + k, none⟩ = some (.int .i64 h.size) := by have := hO12.bk.chold hk2; rw [show ({ s1 with goal := s1.goal - nd' } : Bks).hold k = s1.hold k from rfl, HRoom.out.2.2] at this; exact this
    have fh : W12.drew.frozen? ⟨N, 513 + k, none⟩ = false := hO12.bk.drew.frozen _
    have s3 : W12.drew.cell? ⟨S, 3, none⟩ = some (.int .i64 n.h) := by rw [cell?_blk' (show Blk W12.drew S _ 85 from hO12.st), Sp.get3]
    have hO13 := (hO12.setN (hO12.bk.shold hk2 (h.size + n.h))).drew
    refine Rest.region follows ?_
    refine Rest.tame 14 (fun W => W = W12.drew) (by kernel_rfl) rfl ?_
    simp only [Nat.reduceSub, List.drop_zero, List.take_succ_cons, List.take_zero]
    iterate 14 first
     | (refine TW.cons_n rfl _ (by intro wT hT R hR K hK; simp only [Act.put, lsA, lsB, lsC] at hK; subst hT; go_step; exact hK _ _ (hR _ rfl)) ?_; try simp only [Act.put, lsA, lsB, lsC])
    refine TW.nil fun w9 h9 => ?_
    subst h9
    refine Rest.seq (by kernel_rfl) ?_
    simp only [List.drop_succ_cons, List.drop_zero]
    go_upto_region 17 with (fail)
    clear ch fh s3 hO12
    generalize (W12.setCell ⟨N, 513 + k, none⟩ (.int .i64 (h.size + n.h))).drew = W13 at hO13 ⊢
    have c0 : W13.cell? ⟨N, 0, none⟩ = some (.int .i64 (s1.goal - nd')) := hO13.bk.cgoal
    have c1 : W13.cell? ⟨N, 1, none⟩ = some (.int .i64 (s1.pens)) := hO13.bk.cpens
    have s5 := cell?_blk' hO13.st 5
    rw [Sp.get5] at s5
    have s6 := cell?_blk' hO13.st 6
    rw [Sp.get6] at s6
    have f5 := hO13.st.frozen 5
    have f6 := hO13.st.frozen 6
    have hO18 := (hO13.setS (Sp.set5 _ (s1.goal - nd'))).setS (Sp.set6 _ (s1.pens))
    go_upto_region 19 with (fail)
    clear c0 c1 s5 s6 f5 f6
    generalize (W13.setCell ⟨S, 5, none⟩ (.int .i64 (s1.goal - nd'))).setCell ⟨S, 6, none⟩ (.int .i64 (s1.pens)) = W18 at hO18 ⊢
    have aS := agg_sp hO18.st
    have hfin := hO18.ret
    have tZ := zbR hO18.rs 0 7 (by decide)
    have H18 := zzh hO18
    clear hO18
    go_wp2_with fail
    refine ret_qsp rfl Z 0 _ rfl hfin.1 rfl ?_
    rw [HV.out]
    refine ⟨by rw [<- HR1.out.goal, <- HR1.out.pens], ⟨_, HR1.out.fin (s' := { s1 with goal := s1.goal - nd', hold := upd s1.hold k (h.size + n.h) }) (by rw [<- HR1.out.goal]) HR1.out.pens HR1.out.t rfl HRoom.out.2.1 (fun _ _ => rfl) (zbg _ _ _) (fun a ha => zaN _ _ ha), Hsd.out.2, hfin.2.1⟩, hfin.2.2⟩
end Go.Proofs.YtaehkbbdmamfpaaGreatDoor
