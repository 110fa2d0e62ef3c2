/-
  Inserts: what an Ins comes to, in memory: an account, the blocks of a step. No statement of the seat stands here.
-/
import Derived.Test.YtaehkbbdmamfpaaGreatDoorS7
import Derived.Test.YtaehkbbdmamfpaaGreatDoorI7
import Derived.Test.YtaehkbbdmamfpaaGreatDoorI8
import Derived.Test.YtaehkbbdmamfpaaGreatDoorJ3
namespace Go.Proofs.YtaehkbbdmamfpaaGreatDoor
open Go.ChangeShapes Go.WideShapes Go.ChangeAt Go.RowKit
/-! ### Plain: how great an account's numbers are -/
structure StB (K : Int) (st : As) : Prop where
 goal : -K <= st.goal /\ st.goal <= K
 pens : -K <= st.pens /\ st.pens <= K
 nat : -K <= st.t.nat /\ st.t.nat <= K
 s : ∀ j, -K <= st.t.st j /\ st.t.st j <= K
 h : ∀ j, -K <= st.t.sh j /\ st.t.sh j <= K
 met : ∀ k x, getI st.met k = some x -> -K <= x.size /\ x.size <= K
theorem StB.mono {K J : Int} {st : As} (h : StB K st) (hk : K <= J) : StB J st :=
 ⟨by have := h.goal; omega, by have := h.pens; omega, by have := h.nat; omega, fun j => by have := h.s j; omega, fun j => by have := h.h j; omega, fun k x e => by have := h.met k x e; omega⟩
theorem StB.held {K : Int} {st : As} (h : StB K st) (hk : 0 <= K) (k : Int) : -K <= (zcW st k).size /\ (zcW st k).size <= K := by
 unfold zcW
 cases e : getI st.met k with
 | none => simp; omega
 | some x => exact h.met k x e
theorem StB.first {K : Int} {st : As} (h : StB K st) {k : Cl} (hk : ClB k) : StB (K + 140737488355328) (firstI st k) := by
 have h1 := zbK k.have_ k.scale
 have h2 := hk.nat
 have h3 := hk.str
 have h4 := hk.shr
 unfold firstI
 refine ⟨?_, ?_, ?_, fun j => ?_, fun j => ?_, fun k x e => ?_⟩
 · have := h.goal; simp only; omega
 · have := h.pens; simp only; omega
 · have := h.nat; simp only [Tt.glue, nat_setH, nat_setS]; omega
 ·
  simp only [Tt.glue, st_setH, st_setS]
  split
  ·
   have := h.s k.skip.so.toNat
   show _ <= st.t.st k.skip.so.toNat + k.skip.str /\ st.t.st k.skip.so.toNat + k.skip.str <= _
   omega
  ·
   have := h.s j
   show _ <= st.t.st j /\ st.t.st j <= _
   omega
 ·
  simp only [Tt.glue, sh_setH, zcB]
  split
  ·
   have := h.h k.skip.ho.toNat
   show _ <= st.t.sh k.skip.ho.toNat + k.skip.shr /\ st.t.sh k.skip.ho.toNat + k.skip.shr <= _
   omega
  ·
   have := h.h j
   show _ <= st.t.sh j /\ st.t.sh j <= _
   omega
 · have := h.met k x e; omega
theorem StB.met1 {K : Int} {st : As} (h : StB K st) {C : List Cl} (hc : clsC C = 0) (k : Int) : StB (K + 140737488355328) (metI st C k) := by
 unfold Go.Proofs.YtaehkbbdmamfpaaGreatDoor.metI
 split
 · exact h.mono (by omega)
 · exact h.first (clsAt_ok hc k)
theorem metI_met (st : As) (C : List Cl) (k : Int) : (metI st C k).met = st.met := by unfold metI; split <;> rfl
def midI (L : List Nd) (C : List Cl) (depth : Int) (st0 : As) (x : Nat) : Sp × Ho × Int :=
 let n := nth L x
 let k := zcv C n.sub
 let h := zcW st0 n.sub
 let st := metI st0 C n.sub
 if 0 < h.split then (⟨x, n.sub, 3, 0, 0, 0, 0⟩, h, st.pens + n.pen)
 else if fitI L depth st x k h.size then (⟨x, n.sub, 1, n.h, 0, 0, 0⟩, h, st.pens)
 else
  let o := zbX (insP L x) (zbw k (zbE L depth st x) h.size) n.d
  (⟨x, n.sub, 2, bS o, bA o, 0, 0⟩, ⟨h.size, 1⟩, st.pens + penI (insP L x) (bA o))
def endI (st : As) (k : Cl) (m : Sp × Ho × Int) : As × Sp :=
 let g := if m.1.what = 3 then st.goal else st.goal - zaT m.1.size k.scale
 (⟨g, m.2.2, putI st.met m.1.cls (if m.1.what = 3 then m.2.1 else ⟨m.2.1.size + m.1.size, m.2.1.split⟩), st.t⟩, { m.1 with goal := g, pens := m.2.2 })
theorem step_end (L : List Nd) (C : List Cl) (depth : Int) (st0 : As) (x : Nat) : zbp L C depth st0 x = endI (metI st0 C (nth L x).sub) (zcv C (nth L x).sub) (midI L C depth st0 x) := by
 unfold zbp midI
 simp only
 by_cases h1 : 0 < (zcW st0 (nth L x).sub).split
 ·
  rw [if_pos h1, if_pos h1]
  rfl
 ·
  rw [if_neg h1, if_neg h1]
  by_cases h2 : fitI L depth (metI st0 C (nth L x).sub) x (zcv C (nth L x).sub) (zcW st0 (nth L x).sub).size = true
  ·
   rw [if_pos h2, if_pos h2]
   rfl
  ·
   rw [if_neg h2, if_neg h2]
   rfl
/-! ### Memory -/
def Blk (w : World) (b : Nat) (c : Array Value) (t : TypeId) : Prop := w.heap[b]? = some (.cells c t (0, 0))
theorem Blk.lt {w : World} {b : Nat} {c : Array Value} {t : TypeId} (h : Blk w b c t) : b < w.heap.size := (Array.getElem?_eq_some_iff.1 h).1
theorem Blk.below {w w' : World} {b : Nat} {c : Array Value} {t : TypeId} (h : Blk w b c t) (hb : Below w.heap.size w w') : Blk w' b c t := (hb.block b h.lt).trans h
theorem Blk.cell {w : World} {b : Nat} {c : Array Value} {t : TypeId} (h : Blk w b c t) (k : Nat) (v : Value) (hv : c[k]? = some v) : w.cell? ⟨b, k, none⟩ = some v := by rw [cell?_blk' h, hv]
theorem Blk.frozen {w : World} {b : Nat} {c : Array Value} {t : TypeId} (h : Blk w b c t) (k : Nat) : w.frozen? ⟨b, k, none⟩ = false := frozen_of_row w b k _ _ h
theorem Blk.set {w : World} {b : Nat} {c : Array Value} {t : TypeId} (h : Blk w b c t) (k : Nat) (v : Value) (c' : Array Value) (hc : c.setIfInBounds k v = c') : Blk (w.setCell ⟨b, k, none⟩ v) b c' t := by
 have := heap_setCell_same w b k _ _ v h
 rw [hc] at this
 exact this
theorem Blk.other {w : World} {b : Nat} {c : Array Value} {t : TypeId} (h : Blk w b c t) {q k : Nat} (hq : q ≠ b) (v : Value) : Blk (w.setCell ⟨q, k, none⟩ v) b c t := (Below.heap_setCell _ _ _ _ (by simp only; omega)).trans h
theorem Blk.grown {w w' : World} {b : Nat} {c : Array Value} {t : TypeId} (h : Blk w b c t) {q : Nat} (hg : w.grownBy w' (some q)) (hq : q ≠ b) : Blk w' b c t := (hg.block b h.lt (fun e => hq (Option.some.inj e).symm)).trans h
structure Six (W : World) (Z mb R N K H S T : Nat) (A : Ac) (M : List (Int × Ho)) (r : Sp) (n : Nd) (k : Cl) (h : Ho) (s : Sp) (t : Tt) (w : World) : Prop where
 a : AAt w Z A
 m : MapV w mb (intM (hoM M))
 r : Blk w R r.arr 49
 n : Blk w N n.arr 53
 k : Blk w K k.arr 55
 h : Blk w H h.arr 138
 s : Blk w S s.arr 49
 t : Blk w T t.arr 43
 by2 : By2 Z mb W w
 ne : Z ≠ mb
 lt : Z < W.heap.size /\ mb < W.heap.size
 ord : W.heap.size <= R /\ R < N /\ N < K /\ K < H /\ H < S /\ S < T
section
variable {W w w' : World} {Z mb R N K H S T : Nat} {A A' : Ac} {M M' : List (Int × Ho)} {r r' : Sp} {n : Nd} {k : Cl} {h h' : Ho} {s s' : Sp} {t : Tt}
theorem Six.still (x : Six W Z mb R N K H S T A M r n k h s t w) (hb : Below w.heap.size w w') : Six W Z mb R N K H S T A M r n k h s t w' :=
 ⟨x.a.below hb, x.m.same (hb.block _ x.m.lt), x.r.below hb, x.n.below hb, x.k.below hb, x.h.below hb, x.s.below hb, x.t.below hb, x.by2.trans (.of hb), x.ne, x.lt, x.ord⟩
theorem Six.drewN (x : Six W Z mb R N K H S T A M r n k h s t w) (q : Nat) : Six W Z mb R N K H S T A M r n k h s t (w.drewN q) := x.still (zbd _ _ _)
theorem Six.drew (x : Six W Z mb R N K H S T A M r n k h s t w) : Six W Z mb R N K H S T A M r n k h s t w.drew := x.still ((Below.refl _ _).drew)
theorem Six.setA (x : Six W Z mb R N K H S T A M r n k h s t w) (j : Nat) (v : Value) (hA : A.arr.setIfInBounds j v = A'.arr) : Six W Z mb R N K H S T A' M r n k h s t (w.setCell ⟨Z, j, none⟩ v) := by
 obtain ⟨o1, o2, o3, o4, o5, o6⟩ := x.ord
 obtain ⟨l1, l2⟩ := x.lt
 have ne := x.ne
 exact ⟨x.a.set j v A' hA, x.m.same (Below.heap_setCell _ _ _ _ (by simp only; omega)), x.r.other (by omega) _, x.n.other (by omega) _, x.k.other (by omega) _, x.h.other (by omega) _, x.s.other (by omega) _, x.t.other (by omega) _, x.by2.set j v, x.ne, x.lt, x.ord⟩
theorem By2.far {a b q : Nat} {A B : World} (h : By2 a b A B) (hq : A.heap.size <= q) (j : Nat) (v : Value) : By2 a b A (B.setCell ⟨q, j, none⟩ v) :=
 ⟨h.os, h.tape, h.output, Nat.le_trans h.size (KeepsWalks.setCell B _ v).size, fun i hi h1 h2 => (Below.heap_setCell _ _ _ i (by simp only; omega)).trans (h.block i hi h1 h2)⟩
theorem Six.setH (x : Six W Z mb R N K H S T A M r n k h s t w) (j : Nat) (v : Value) (hA : h.arr.setIfInBounds j v = h'.arr) : Six W Z mb R N K H S T A M r n k h' s t (w.setCell ⟨H, j, none⟩ v) := by
 obtain ⟨o1, o2, o3, o4, o5, o6⟩ := x.ord
 obtain ⟨l1, l2⟩ := x.lt
 exact ⟨(Below.heap_setCell _ _ _ _ (by simp only; omega)).trans x.a, x.m.same (Below.heap_setCell _ _ _ _ (by simp only; omega)), x.r.other (by omega) _, x.n.other (by omega) _, x.k.other (by omega) _, x.h.set j v _ hA, x.s.other (by omega) _, x.t.other (by omega) _, x.by2.far (by omega) j v, x.ne, x.lt, x.ord⟩
theorem Six.setS (x : Six W Z mb R N K H S T A M r n k h s t w) (j : Nat) (v : Value) (hA : s.arr.setIfInBounds j v = s'.arr) : Six W Z mb R N K H S T A M r n k h s' t (w.setCell ⟨S, j, none⟩ v) := by
 obtain ⟨o1, o2, o3, o4, o5, o6⟩ := x.ord
 obtain ⟨l1, l2⟩ := x.lt
 exact ⟨(Below.heap_setCell _ _ _ _ (by simp only; omega)).trans x.a, x.m.same (Below.heap_setCell _ _ _ _ (by simp only; omega)), x.r.other (by omega) _, x.n.other (by omega) _, x.k.other (by omega) _, x.h.other (by omega) _, x.s.set j v _ hA, x.t.other (by omega) _, x.by2.far (by omega) j v, x.ne, x.lt, x.ord⟩
theorem Six.map (x : Six W Z mb R N K H S T A M r n k h s t w) (hg : w.grownBy w' (some mb)) (hm : MapV w' mb (intM (hoM M'))) : Six W Z mb R N K H S T A M' r n k h s t w' := by
 obtain ⟨o1, o2, o3, o4, o5, o6⟩ := x.ord
 obtain ⟨l1, l2⟩ := x.lt
 have ne := x.ne
 exact ⟨(hg.block Z x.a.lt (fun e => ne (Option.some.inj e))).trans x.a, hm, x.r.grown hg (by omega), x.n.grown hg (by omega), x.k.grown hg (by omega), x.h.grown hg (by omega), x.s.grown hg (by omega), x.t.grown hg (by omega), x.by2.trans (.by2 hg), x.ne, x.lt, x.ord⟩
theorem Six.acc (x : Six W Z mb R N K H S T A M r n k h s t w) (hA : AAt w' Z A') (hb : By2 Z mb w w') (hm : w'.heap[mb]? = w.heap[mb]?) : Six W Z mb R N K H S T A' M r n k h s t w' := by
 obtain ⟨o1, o2, o3, o4, o5, o6⟩ := x.ord
 obtain ⟨l1, l2⟩ := x.lt
 have key : ∀ {b : Nat} {c : Array Value} {ty : TypeId}, Blk w b c ty -> Z ≠ b -> mb ≠ b -> Blk w' b c ty := fun h1 h2 h3 => (hb.block _ h1.lt (Ne.symm h2) (Ne.symm h3)).trans h1
 exact ⟨hA, x.m.same hm, key x.r (by omega) (by omega), key x.n (by omega) (by omega), key x.k (by omega) (by omega), key x.h (by omega) (by omega), key x.s (by omega) (by omega), key x.t (by omega) (by omega), x.by2.trans hb, x.ne, x.lt, x.ord⟩
end
structure AccIn (W : World) (Z mb B : Nat) (L : List Nd) (p0 : Option Addr) (b off cap : Nat) (C : List Cl) (pc : Option Addr) (bc oc cc : Nat) (depth : Int) (st : As) : Prop where
 a : AAt W Z (Ac.mk p0 L.length cap pc C.length cc st.goal depth st.pens mb st.t)
 m : MapV W mb (intM (hoM st.met))
 nd : (st.met.map (·.1)).Nodup
 ne : Z ≠ mb
 nodes : NIn W p0 b off cap L
 cls : CIn W pc bc oc cc C
 far : B <= Z /\ B <= mb
 lb : L ≠ [] -> b < B
 lc : C ≠ [] -> bc < B
 bw : B <= W.heap.size
theorem CIn.kept {w w' : World} {p : Option Addr} {b off cap n₀ : Nat} {C : List Cl} (h : CIn w p b off cap C) (hb : C ≠ [] -> b < n₀) (k : Below n₀ w w') : CIn w' p b off cap C :=
 ⟨h.hp, fun e => Nat.lt_of_lt_of_le (h.hb e) k.size, fun j hj => (agg?_block (k.block b (hb (by intro e; rw [e] at hj; simp at hj)))).trans (h.cl j hj), h.cap', h.len⟩
theorem AccIn.next {W W' : World} {Z mb B : Nat} {L : List Nd} {p0 : Option Addr} {b off cap : Nat} {C : List Cl} {pc : Option Addr} {bc oc cc : Nat} {depth : Int} {st st' : As} (h : AccIn W Z mb B L p0 b off cap C pc bc oc cc depth st)
 (ha : AAt W' Z (Ac.mk p0 L.length cap pc C.length cc st'.goal depth st'.pens mb st'.t)) (hm : MapV W' mb (intM (hoM st'.met))) (hn : (st'.met.map (·.1)).Nodup) (hb : By2 Z mb W W') : AccIn W' Z mb B L p0 b off cap C pc bc oc cc depth st' := by
 have k : Below B W W' := hb.below h.far.1 h.far.2 h.bw
 exact ⟨ha, hm, hn, h.ne, h.nodes.kept h.lb k, h.cls.kept h.lc k, h.far, h.lb, h.lc, Nat.le_trans h.bw hb.size⟩
theorem AccIn.still {W W' : World} {Z mb B : Nat} {L : List Nd} {p0 : Option Addr} {b off cap : Nat} {C : List Cl} {pc : Option Addr} {bc oc cc : Nat} {depth : Int} {st : As} (h : AccIn W Z mb B L p0 b off cap C pc bc oc cc depth st) (hb : Below W.heap.size W W') : AccIn W' Z mb B L p0 b off cap C pc bc oc cc depth st :=
 h.next (h.a.below hb) (h.m.same (hb.block _ h.m.lt)) h.nd (.of hb)
theorem AccIn.low {W W' : World} {Z mb B : Nat} {L : List Nd} {p0 : Option Addr} {b off cap : Nat} {C : List Cl} {pc : Option Addr} {bc oc cc : Nat} {depth : Int} {st : As} (h : AccIn W Z mb B L p0 b off cap C pc bc oc cc depth st) (hm : mb < Z + 1) (hb : Below (Z + 1) W W') : AccIn W' Z mb B L p0 b off cap C pc bc oc cc depth st := by
 have k : Below B W W' := ⟨hb.os, hb.tape, hb.output, hb.size, fun q hq => hb.block q (by have := h.far.1; omega)⟩
 exact ⟨(hb.block Z (by omega)).trans h.a, h.m.same (hb.block mb hm), h.nd, h.ne, h.nodes.kept h.lb k, h.cls.kept h.lc k, h.far, h.lb, h.lc, Nat.le_trans h.bw hb.size⟩
theorem StB.step {K : Int} {st0 : As} (h : StB K st0) (hK : 0 <= K) {L : List Nd} {C : List Cl} {depth : Int} {x : Nat} (hc : zao L = 0) (hcc : clsC C = 0) (hx : x ∈ itsP L) (hk : (nth L x).kind = 13) (hX : colQ (insP L x) = 0) : StB (K + 281474976710656) (zbp L C depth st0 x).1 := by
 have hlt := ((zaO hc).lt x hx).2
 obtain ⟨_, nh, nd, npen, _⟩ := ins_nb hc hlt hk
 have hB := h.met1 hcc (nth L x).sub
 have hh := h.held hK (nth L x).sub
 have hnh : -1073741823 <= (nth L x).h /\ (nth L x).h <= 1073741823 := by simpa [zac] using nh
 unfold zbp
 simp only
 generalize zcv C (nth L x).sub = k
 generalize metI st0 C (nth L x).sub = st at hB
 generalize zcW st0 (nth L x).sub = g at hh
 have key : ∀ (gg pp : Int) (y : Ho), (-(K + 281474976710656) <= gg /\ gg <= K + 281474976710656) -> (-(K + 281474976710656) <= pp /\ pp <= K + 281474976710656) -> (-(K + 281474976710656) <= y.size /\ y.size <= K + 281474976710656) -> StB (K + 281474976710656) ⟨gg, pp, putI st.met (nth L x).sub y, st.t⟩ := fun gg pp y h1 h2 h3 =>
  ⟨h1, h2, by have := hB.nat; simp only; omega, fun j => by have := hB.s j; simp only; omega, fun j => by have := hB.h j; simp only; omega, fun q z hz => by
   simp only at hz
   rw [getI_put] at hz
   split at hz
   · cases hz; exact h3
   · have := hB.met q z hz; omega⟩
 have b1 := hB.goal
 have b2 := hB.pens
 split
 · exact key _ _ _ (by omega) (by omega) (by omega)
 split
 ·
  have := zbK (nth L x).h k.scale
  exact key _ _ _ (by omega) (by omega) (by simp only; omega)
 ·
  have h1 := zbK (bS (zbX (insP L x) (zbw k (zbE L depth st x) g.size) (nth L x).d)) k.scale
  obtain ⟨h2, y, hy, hyl⟩ := best_nb (zam hX) (zaO (zam hX)) (zbw k (zbE L depth st x) g.size) (nth L x).d nd
  have hya : bA (zbX (insP L x) (zbw k (zbE L depth st x) g.size) (nth L x).d) = (y.1 : Int) := by
   show bA (bestO _ _ _ _) = _
   rw [hy]; rfl
  have h3 := pen_nb (zam hX) y.1
  rw [<- hya] at h3
  have h2' : -8910000000000 <= bS (zbX (insP L x) (zbw k (zbE L depth st x) g.size) (nth L x).d) /\ bS (zbX (insP L x) (zbw k (zbE L depth st x) g.size) (nth L x).d) <= 8910000000000 := h2
  exact key _ _ _ (by omega) (by omega) (by simp only; omega)
end Go.Proofs.YtaehkbbdmamfpaaGreatDoor
