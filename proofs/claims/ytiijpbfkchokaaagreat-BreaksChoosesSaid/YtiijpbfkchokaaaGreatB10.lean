/-
  Totals of a list: the program's.
-/
import Derived.Test.YtiijpbfkchokaaaGreatB8
import Derived.Test.YtiijpbfkchokaaaGreatB4
namespace Go.Proofs.YtiijpbfkchokaaaGreat
open Go.ChangeShapes Go.WideShapes Go.ChangeAt Go.RowKit
attribute [local go_sem ↓] Go.wp_at_zero Go.wp_at_succ
theorem nat_wide (T : Tt) (x : Int) : ({ T with nat := T.nat + x } : Tt) = T.plus (.wide x) := by apply Tt.ext_all <;> simp [Tt.plus, Tt.wide]
structure TotY (Y : List Nd) (s : List Nat) : Prop where
  items : Items Y 0 s
  right : ∀ n ∈ Y, rightB n = true
  len : Y.length ≤ 2000
  bnd : ∀ d r, s = d ++ r → TtB 4400000000000 (sumA Y d)
structure TotI (w : World) (Z : Nat) (T : Tt) (W : World) : Prop where
  at_ : TAt W (Z + 1) T
  res : TAt W Z .zero
  below : Below w.heap.size w W
  le : w.heap.size ≤ Z
theorem TotI.still {w : World} {Z : Nat} {T : Tt} {W W' : World} (h : TotI w Z T W) (hb : Below W.heap.size W W') : TotI w Z T W' :=
  ⟨(hb.block _ h.at_.lt).trans h.at_, (hb.block _ h.res.lt).trans h.res, h.below.trans (hb.mono h.below.size), h.le⟩
theorem TotI.alloc {w : World} {Z : Nat} {T : Tt} {W : World} (h : TotI w Z T W) (o : Obj) : TotI w Z T (W.alloc o) := h.still ((Below.refl _ _).alloc (Nat.le_refl _) _)
theorem TotI.set {w : World} {Z : Nat} {T T' : Tt} {W : World} (h : TotI w Z T W) (k : Nat) (v : Value) (hm : T.arr.setIfInBounds k v = T'.arr) : TotI w Z T' (W.setCell ⟨Z + 1, k, none⟩ v) :=
  ⟨h.at_.set k v hm, (Below.heap_setCell _ _ _ _ (by simp only; omega)).trans h.res, h.below.setCell (p := ⟨Z + 1, k, none⟩) (by have := h.le; simp only; omega) _, h.le⟩
theorem TotI.drew {w : World} {Z : Nat} {T : Tt} {W : World} (h : TotI w Z T W) : TotI w Z T W.drew := h.still ((Below.refl _ _).drew)
theorem acrossK_split (k : Int) : ((k == 1) = true ∧ acrossK k = true) ∨ ((k == 1) = false ∧ (k == 2) = true ∧ acrossK k = true) ∨ ((k == 1) = false ∧ (k == 2) = false ∧ (k == 3) = true ∧ acrossK k = true) ∨
    ((k == 1) = false ∧ (k == 2) = false ∧ (k == 3) = false ∧ (k == 4) = true ∧ acrossK k = true) ∨ ((k == 1) = false ∧ (k == 2) = false ∧ (k == 3) = false ∧ (k == 4) = false ∧ (k == 5) = true ∧ acrossK k = true) ∨
    ((k == 1) = false ∧ (k == 2) = false ∧ (k == 3) = false ∧ (k == 4) = false ∧ (k == 5) = false ∧ (k == 8) = true ∧ acrossK k = true) ∨
    ((k == 1) = false ∧ (k == 2) = false ∧ (k == 3) = false ∧ (k == 4) = false ∧ (k == 5) = false ∧ (k == 8) = false ∧ (k == 15) = true ∧ acrossK k = true) ∨
    ((k == 1) = false ∧ (k == 2) = false ∧ (k == 3) = false ∧ (k == 4) = false ∧ (k == 5) = false ∧ (k == 8) = false ∧ (k == 15) = false ∧ (k == 16) = true ∧ acrossK k = true) ∨
    ((k == 1) = false ∧ (k == 2) = false ∧ (k == 3) = false ∧ (k == 4) = false ∧ (k == 5) = false ∧ (k == 8) = false ∧ (k == 15) = false ∧ (k == 16) = false ∧ acrossK k = false) := by
  unfold acrossK
  cases (k == 1) <;> cases (k == 2) <;> cases (k == 3) <;> cases (k == 4) <;> cases (k == 5) <;> cases (k == 8) <;> cases (k == 15) <;> cases (k == 16) <;> simp
set_option maxRecDepth 100000 in
set_option maxHeartbeats 8000000 in
theorem total_of (p0 : Option Addr) (b off cap : Nat) (Y : List Nd) (s : List Nat) (hY : TotY Y s) (w : World) (hN : NIn w p0 b off cap Y)
    (hD : ∀ x ∈ s, (nth Y x).kind = 10 → checkC Y = 0 ∧ ∀ W p g c, NIn W p g 0 c (threeP Y x).2.2 → Calls Tryz.prog 64 #[.slice p (threeP Y x).2.2.length c] W fun e w' => e = .returned (.agg (Tt.wide (rowN (threeP Y x).2.2)).arr) ∧ Below W.heap.size W w') :
    Calls Tryz.prog 64 #[.slice p0 Y.length cap] w fun e w' => e = .returned (.agg (sumA Y s).arr) ∧ Below w.heap.size w w' := by
  have H := Lib.hid hN
  have HY := Lib.hid hY
  have HD := Lib.hid hD
  have hlen := hY.len
  have hI : TotI w w.heap.size .zero ((w.alloc (.cells (Tt.mk 0 0 0 0 0 0 0 0 0).arr 62)).alloc (.cells (Tt.mk 0 0 0 0 0 0 0 0 0).arr 62)) :=
    ⟨by have := heap_alloc_new (w.alloc (.cells (Tt.mk 0 0 0 0 0 0 0 0 0).arr 62)) (.cells (Tt.mk 0 0 0 0 0 0 0 0 0).arr 62); rwa [World.size_alloc] at this, (Below.heap_alloc _ _ _ (by simp)).trans (heap_alloc_new w _), ((Below.refl _ _).alloc (Nat.le_refl _) _).alloc (by simp) _, Nat.le_refl _⟩
  clear hN hY hD
  go_enter Tryz.func64, Tryz.ntmps64
  go_upto_region 2 with (fail)
  generalize (w.alloc (.cells (Tt.mk 0 0 0 0 0 0 0 0 0).arr 62)).alloc (.cells (Tt.mk 0 0 0 0 0 0 0 0 0).arr 62) = w1 at hI ⊢
  have HI := Lib.hid hI
  clear hI
  obtain ⟨Z, hZ⟩ : ∃ Z, w.heap.size = Z := ⟨_, rfl⟩
  rw [hZ] at HI ⊢
  have HZ := Lib.hid hZ
  clear hZ
  go_wp2_with fail
  go_loopg [4] (s.length + 1) (fun gg t4 wr => ∃ (pos : Nat) (d r : List Nat), gg = r.length + 1 ∧ t4 = .int .i64 pos ∧ s = d ++ r ∧ Items Y pos r ∧ TotI w Z (sumA Y d) wr)
  case atStart => exact ⟨0, [], s, rfl, rfl, rfl, HY.out.items, HI.out⟩
  case round =>
    clear HI
    obtain ⟨pos, d, r, rfl, rfl, hs, hit, hI⟩ := hrel
    have hp1 : (0 : Int) ≤ (pos : Int) := by omega
    cases hit with
    | done =>
      have hs' : s = d := by rw [hs, List.append_nil]
      have Hs := Lib.hid hs'
      have aT := hI.at_.agg
      have tR := hI.res.there
      have HI := Lib.hid hI
      clear hs hs' hI
      go_wp2_with fail
      refine ret_tt rfl Z 0 (sumA Y d) rfl (HI.out.res.store (U := sumA Y d)).agg rfl ⟨by rw [Hs.out], ?_⟩
      rw [← HZ.out]
      exact Below.setAgg HI.out.below (by rw [HZ.out]; exact Nat.le_refl _) _ _
    | @step _ m r hi hm hit2 =>
      have hmem : pos ∈ s := by rw [hs]; simp
      have hs2 : s = (d ++ [pos]) ++ r := by rw [hs]; simp
      have hN := H.out.below hI.below
      obtain ⟨n, hn⟩ : ∃ n, nth Y pos = n := ⟨_, rfl⟩
      have xa := hN.nth hi
      have hrn : rightB n = true := by rw [← hn, nth_get hi]; exact HY.out.right _ (List.getElem_mem _)
      have hb1 := HY.out.bnd d (pos :: r) hs
      have hb2 := HY.out.bnd (d ++ [pos]) r hs2
      have hsn := sumA_snoc Y d pos
      obtain ⟨T, hT⟩ : ∃ T, sumA Y d = T := ⟨_, rfl⟩
      rw [hT] at hb1 hsn hI
      rw [hsn] at hb2
      rw [hn] at xa
      obtain rfl := hN.at_ hi
      have hp2 : (pos : Int) < (Y.length : Int) := by omega
      have hD10 := HD.out pos hmem
      rw [hn] at hD10
      have HD10 := Lib.hid hD10
      have Hn := Lib.hid hn
      have Hs2 := Lib.hid hs2
      have Hmem := Lib.hid hmem
      have Hsn := Lib.hid hsn
      have Hb1 := Lib.hid hb1
      have Hb2 := Lib.hid hb2
      have Hrn := Lib.hid hrn
      have HIt := Lib.hid hit2
      have HBe : Hid (∀ W, Below w.heap.size w W → Calls Tryz.prog 61 #[.slice (some ⟨b, off, none⟩) Y.length cap, .int .i64 pos] W fun e w' => e = .returned (.int .i64 ((pos + m : Nat) : Int)) ∧ W = w') := Lib.hid fun W hb => behind9 _ b off cap Y pos m W (H.out.below hb) hm
      have HI := Lib.hid hI
      clear hmem hs hs2 hN hrn hb1 hb2 hsn hT hD10 hn hit2 hI hm HD
      go_upto_region 6 with (fail)
      have dX := heap_alloc_new wr (.cells n.arr 69)
      have hI1 := HI.out.alloc (.cells n.arr 69)
      have hbX : Below wr.heap.size wr (wr.alloc (.cells n.arr 69)) := (Below.refl _ _).alloc (Nat.le_refl _) _
      have hXZ : wr.heap.size ≠ Z + 1 := by have := HI.out.at_.lt; omega
      have HX : Hid (Z + 1 < wr.heap.size) := Lib.hid HI.out.at_.lt
      generalize wr.alloc (.cells n.arr 69) = A1 at dX hI1 hbX ⊢
      have x0 : A1.cell? ⟨wr.heap.size, 0, none⟩ = some (.int .i64 n.kind) := by rw [cell?_blk' dX]; rfl
      have x3 : A1.cell? ⟨wr.heap.size, 3, none⟩ = some (.int .i64 n.w) := by rw [cell?_blk' dX]; rfl
      have z0 := hI1.at_.cell 0 _ (Tt.get0 T)
      have f0 := hI1.at_.frozen 0
      obtain ⟨bn1, bn2⟩ := Hb1.out.nat
      have hac := ac_bound Hrn.out
      have HEnd : Hid (∀ W, TotI w Z (T.plus (itT Y pos)) W → (sumA Y (d ++ [pos])) = T.plus (itT Y pos) ∧ TotI w Z (sumA Y (d ++ [pos])) W) := Lib.hid fun W h => ⟨Hsn.out, by rw [Hsn.out]; exact h⟩
      rcases acrossK_split n.kind with ⟨k1, ha⟩ | ⟨k1, k2, ha⟩ | ⟨k1, k2, k3, ha⟩ | ⟨k1, k2, k3, k4, ha⟩ | ⟨k1, k2, k3, k4, k5, ha⟩ | ⟨k1, k2, k3, k4, k5, k8, ha⟩ | ⟨k1, k2, k3, k4, k5, k8, k15, ha⟩ | ⟨k1, k2, k3, k4, k5, k8, k15, k16, ha⟩ | ⟨k1, k2, k3, k4, k5, k8, k15, k16, ha⟩
      rotate_right
      · cases k7 : (n.kind == 7)
        · cases k10 : (n.kind == 10)
          · have hit : itT Y pos = .wide 0 := by unfold itT itN acN; rw [Hn.out, k7, k10, ha]; rfl
            have hI2 : TotI w Z (T.plus (itT Y pos)) A1 := by rw [hit]; rw [show T.plus (.wide 0) = T from by apply Tt.ext_all <;> simp [Tt.plus, Tt.wide]]; exact hI1
            have HE2 := Lib.hid (HEnd.out _ hI2)
            have HBe2 := Lib.hid (HBe.out _ hI2.below)
            clear ha hit hI2 HEnd HBe dX hI1
            go_wp2_with (go_at_call 61; refine HBe2.out.mono ?_; rintro e w' ⟨rfl, rfl⟩)
            go_roundg (r.length + 1)
            case measure => simp only [List.length_cons]; omega
            case rel => exact ⟨pos + m, d ++ [pos], r, rfl, by go_num, Hs2.out, HIt.out, HE2.out.2⟩
          · have k10' : n.kind = 10 := by simpa using k10
            have hit : itT Y pos = .wide (rowN (threeP Y pos).2.2) := by unfold itT itN; rw [Hn.out, k7, k10]; rfl
            have Hit := Lib.hid hit
            obtain ⟨hck, hrec⟩ := HD10.out k10'
            obtain ⟨m9, u9, hd9⟩ := disc_at hck HY.out.items Hmem.out (by rw [Hn.out]; exact k10')
            have hx9 : (threeP Y pos).2.2.length ≤ 2000 := by
              have h1 := (disc_ok hd9).2
              have h2 := hd9.lt
              omega
            clear hd9
            have HP := Lib.hid (parts9 (some ⟨b, off, none⟩) b off cap Y s hck HY.out.items pos Hmem.out (by rw [Hn.out]; exact k10') A1 (H.out.below hI1.below))
            have HR := Lib.hid hrec
            have hbw := Hb2.out
            rw [hit] at hbw
            have hbx : TtB 8800000000000 (Tt.wide (rowN (threeP Y pos).2.2)) := by
              have h1 := hbw.nat
              have h2 := Hb1.out.nat
              simp only [Tt.plus, Tt.wide] at h1
              exact .wide (by omega) (by omega)
            have HA := Lib.hid (fun W => vadd T (Tt.wide (rowN (threeP Y pos).2.2)) 1 (.inl rfl) (Hb1.out.mono (by omega)) (hbx.mono (by omega)) W)
            clear hit hck hrec k10' hbw hbx HD10 hac ha
            go_wp2_with (go_at_call 72; refine HP.out.mono ?_; rintro e w5 ⟨⟨vs, rfl, hv⟩, hb5⟩)
            obtain ⟨_, p3, g3, c3, e3, hN3, _⟩ := row_nodes (hv.rows 2 (by decide)) (show (threeP Y pos).2.2.length * 160 ≤ _ by omega)
            have e3' : vs 2 = .slice p3 (threeP Y pos).2.2.length c3 := e3
            rw [e3']
            have hI5 := hI1.still hb5
            have hI5d := hI5.drew
            have hN3d : NIn w5.drew p3 g3 0 c3 (threeP Y pos).2.2 := ⟨hN3.hp, hN3.hb, hN3.nd, hN3.cap', hN3.len⟩
            have a5 : agg? w5.drew (Z + 1) 0 9 = some T.arr := hI5d.at_.agg
            have HR5 := Lib.hid (HR.out w5.drew p3 g3 c3 hN3d)
            have HK5 : Hid (∀ w8, Below w5.drew.heap.size w5.drew w8 → agg? w8 (Z + 1) 0 9 = some T.arr ∧ there? w8 (Z + 1) 0 9 = true ∧ TotI w Z (T.plus (itT Y pos)) (setAgg w8 (Z + 1) 0 (T.addS (Tt.wide (rowN (threeP Y pos).2.2)) 1).arr)) := Lib.hid fun w8 h8 => by
              have h9 := hI5d.still h8
              refine ⟨h9.at_.agg, h9.at_.there, ?_⟩
              rw [addS_one, ← Hit.out]
              exact ⟨h9.at_.store, h9.res.other (by omega), Below.setAgg h9.below (by have := h9.le; omega) _ _, h9.le⟩
            clear e3 e3' hI5 hI5d hN3 hN3d hv hI1 dX x0 x3 z0 f0
            go_region_with (first | (go_at_call 64; refine HR5.out.mono ?_; rintro e w8 ⟨rfl, hb8⟩; (have a8 := (HK5.out _ hb8).1)) | (go_at_call 63; refine (HA.out _).mono ?_; rintro e w9 ⟨rfl, hb9⟩; (have t9 := (HK5.out _ (hb8.trans (hb9.mono hb8.size))).2.1)))
            all_goals
              have HE2 := Lib.hid (HEnd.out _ (HK5.out _ (hb8.trans (hb9.mono hb8.size))).2.2)
              have HBe2 := Lib.hid (HBe.out _ (HK5.out _ (hb8.trans (hb9.mono hb8.size))).2.2.below)
              go_wp2_with (go_at_call 61; refine HBe2.out.mono ?_; rintro e w' ⟨rfl, rfl⟩)
              go_roundg (r.length + 1)
              case measure => simp only [List.length_cons]; omega
              case rel => exact ⟨pos + m, d ++ [pos], r, rfl, by go_num, Hs2.out, HIt.out, HE2.out.2⟩
        · have k7' : n.kind = 7 := by simpa using k7
          have nb := nb_of Hrn.out
          obtain ⟨g1, g2⟩ := nb.nat k7'
          obtain ⟨g3, g4⟩ := nb.str k7'
          obtain ⟨g5, g6⟩ := nb.shr k7'
          have b1 := nb.so k7'
          have b2 := nb.ho k7'
          have hit : itT Y pos = glueT n.glue := by unfold itT; rw [Hn.out, k7]; rfl
          obtain ⟨j, hj⟩ : ∃ j : Nat, n.glue.so = (j : Int) := ⟨n.glue.so.toNat, by omega⟩
          obtain ⟨h, hh⟩ : ∃ h : Nat, n.glue.ho = (h : Int) := ⟨n.glue.ho.toNat, by omega⟩
          have hj3 : j ≤ 3 := by omega
          have hh3 : h ≤ 3 := by omega
          have hj4 : (0 : Int) ≤ (j : Int) := by omega
          have hj5 : (j : Int) < 4 := by omega
          have hh4 : (0 : Int) ≤ (h : Int) := by omega
          have hh5 : (h : Int) < 4 := by omega
          have x7 : A1.cell? ⟨wr.heap.size, 7, none⟩ = some (.int .i64 n.glue.nat) := by rw [cell?_blk' dX]; rfl
          have Hj := Lib.hid hj
          have Hh := Lib.hid hh
          have Hit := Lib.hid hit
          have hst := Hb1.out.st j
          have hsh := Hb1.out.sh h
          clear b1 b2 nb hj hh hit k7' HD10 hac ha
          go_upto_region 18 with (fail)
          have hI2 := hI1.set 0 (.int .i64 (T.nat + n.glue.nat)) (T' := { T with nat := T.nat + n.glue.nat }) rfl
          have hD2 : (A1.setCell ⟨Z + 1, 0, none⟩ (.int .i64 (T.nat + n.glue.nat))).heap[wr.heap.size]? = some (.cells n.arr 69 (0, 0)) := (Below.heap_setCell _ _ _ _ hXZ).trans dX
          clear hI1 dX x0 x3 x7 z0 f0 hbX
          generalize A1.setCell ⟨Z + 1, 0, none⟩ (.int .i64 (T.nat + n.glue.nat)) = A2 at hI2 hD2 ⊢
          have x8 : A2.cell? ⟨wr.heap.size, 8, none⟩ = some (.int .i64 n.glue.str) := by rw [cell?_blk' hD2]; rfl
          have x10 : A2.cell? ⟨wr.heap.size, 10, none⟩ = some (.int .i64 (j : Nat)) := by rw [cell?_blk' hD2, ← Hj.out]; rfl
          have cj : A2.cell? ⟨Z + 1, 1 + j, none⟩ = some (.int .i64 (T.st j)) := hI2.at_.cell (1 + j) _ (tt_get_st _ j hj3)
          have fj := hI2.at_.frozen (1 + j)
          obtain ⟨bj1, bj2⟩ := hst
          go_region
          have hI5 := (hI2.set (1 + j) (.int .i64 (T.st j + n.glue.str)) (tt_set_st _ _ j hj3)).drew
          have hD5 : (A2.setCell ⟨Z + 1, 1 + j, none⟩ (.int .i64 (T.st j + n.glue.str))).drew.heap[wr.heap.size]? = some (.cells n.arr 69 (0, 0)) := (Below.heap_setCell _ _ _ _ hXZ).trans hD2
          clear hI2 hD2 x8 x10 cj fj bj1 bj2
          generalize (A2.setCell ⟨Z + 1, 1 + j, none⟩ (.int .i64 (T.st j + n.glue.str))).drew = A5 at hI5 hD5 ⊢
          have x9 : A5.cell? ⟨wr.heap.size, 9, none⟩ = some (.int .i64 n.glue.shr) := by rw [cell?_blk' hD5]; rfl
          have x11 : A5.cell? ⟨wr.heap.size, 11, none⟩ = some (.int .i64 (h : Nat)) := by rw [cell?_blk' hD5, ← Hh.out]; rfl
          have ci := hI5.at_.cell (5 + h) _ (tt_get_sh _ h hh3)
          have fi := hI5.at_.frozen (5 + h)
          have hsh2 : (({ T with nat := T.nat + n.glue.nat } : Tt).setS j (T.st j + n.glue.str)).sh h = T.sh h := sh_setS _ _ _ _
          rw [hsh2] at ci
          obtain ⟨bi1, bi2⟩ := hsh
          clear hsh2
          go_wp2_with fail
          go_region
          have hI6 := (hI5.set (5 + h) (.int .i64 (T.sh h + n.glue.shr)) (tt_set_sh _ _ h hh3)).drew
          clear hI5 hD5 x9 x11 ci fi bi1 bi2
          generalize (A5.setCell ⟨Z + 1, 5 + h, none⟩ (.int .i64 (T.sh h + n.glue.shr))).drew = A6 at hI6 ⊢
          have hg : ({ T with nat := T.nat + n.glue.nat } : Tt).glue n.glue = (({ T with nat := T.nat + n.glue.nat } : Tt).setS j (T.st j + n.glue.str)).setH h (T.sh h + n.glue.shr) := by
            unfold Tt.glue
            rw [Hj.out, Hh.out]
            simp only [Int.toNat_natCast]
            rw [show (({ T with nat := T.nat + n.glue.nat } : Tt).setS j (({ T with nat := T.nat + n.glue.nat } : Tt).st j + n.glue.str)) = (({ T with nat := T.nat + n.glue.nat } : Tt).setS j (T.st j + n.glue.str)) from rfl, sh_setS]
            rfl
          rw [← hg, glue_plus, ← Hit.out] at hI6
          have HE2 := Lib.hid (HEnd.out _ hI6)
          have HBe2 := Lib.hid (HBe.out _ hI6.below)
          clear hg hI6 HEnd HBe
          go_wp2_with (go_at_call 61; refine HBe2.out.mono ?_; rintro e w' ⟨rfl, rfl⟩)
          go_roundg (r.length + 1)
          case measure => simp only [List.length_cons]; omega
          case rel => exact ⟨pos + m, d ++ [pos], r, rfl, by go_num, Hs2.out, HIt.out, HE2.out.2⟩
      all_goals
        have h7 : n.kind ≠ 7 := by intro e; rw [e] at ha; revert ha; decide
        have h10 : n.kind ≠ 10 := by intro e; rw [e] at ha; revert ha; decide
        have hit : itT Y pos = .wide n.w := by unfold itT itN acN; rw [Hn.out, if_neg (by simpa using h7), if_neg (by simpa using h10), if_pos ha]
        have hwb : acN n = n.w := by unfold acN; rw [if_pos ha]
        rw [hwb] at hac
        obtain ⟨hw1, hw2⟩ := hac
        have hI2 := hI1.set 0 (.int .i64 (T.nat + n.w)) (T' := T.plus (itT Y pos)) (by rw [hit, Tt.set0, nat_wide])
        have HE2 := Lib.hid (HEnd.out _ hI2)
        have HBe2 := Lib.hid (HBe.out _ hI2.below)
        clear ha h7 h10 hit hwb hI2 HEnd HBe dX hI1
        go_wp2_with (go_at_call 61; refine HBe2.out.mono ?_; rintro e w' ⟨rfl, rfl⟩)
        go_roundg (r.length + 1)
        case measure => simp only [List.length_cons]; omega
        case rel => exact ⟨pos + m, d ++ [pos], r, rfl, by go_num, Hs2.out, HIt.out, HE2.out.2⟩
end Go.Proofs.YtiijpbfkchokaaaGreat
namespace Go.Proofs.YtiijpbfkchokaaaGreat
open Go.ChangeShapes Go.WideShapes Go.ChangeAt Go.RowKit
theorem itT_small {X : List Nd} {x : Nat} (h : smallK (nth X x).kind = true) : itT X x = .wide (acN (nth X x)) := by
  have hn := small_not h
  unfold itT itN
  rw [if_neg (by simpa using hn.2.2.2.1), if_neg (by simpa using hn.2.2.1)]
theorem sumA_small {X : List Nd} : ∀ (s : List Nat), (∀ x ∈ s, smallK (nth X x).kind = true) → sumA X s = .wide ((s.map fun x => acN (nth X x)).foldl (· + ·) 0)
  | [], _ => rfl
  | x :: r, h => by
    rw [sumA_cons, itT_small (h x List.mem_cons_self), sumA_small r (fun y hy => h y (List.mem_cons_of_mem _ hy)), wide_plus, List.map_cons, List.foldl_cons, foldl_add _ (0 + _), Int.zero_add]
theorem totY_part {L X : List Nd} (hP : PartOK L X) (hr : ∀ n ∈ L, rightB n = true) (hl : X.length ≤ 2000) : TotY X (itsP X) := by
  obtain ⟨hi, hk⟩ := hP.its
  refine ⟨hi, fun n hn => hr n (hP.sub n hn), hl, fun d r hs => ?_⟩
  have hd : ∀ x ∈ d, x ∈ itsP X := fun x hx => by rw [hs]; exact List.mem_append_left _ hx
  rw [sumA_small d fun x hx => hk x (hd x hx)]
  have hb := foldl_bound (l := d.map fun x => acN (nth X x)) (K := 1073741823) (fun y hy => by
    obtain ⟨x, hx, rfl⟩ := List.mem_map.1 hy
    have hlt := (hi.lt x (hd x hx)).2
    rw [nth_get hlt]
    exact ac_bound (hr _ (hP.sub _ (List.getElem_mem hlt))))
  have hdl : d.length ≤ 2000 := by
    have := hi.len
    have e : (itsP X).length = d.length + r.length := by rw [hs, List.length_append]
    omega
  rw [List.length_map] at hb
  exact .wide (by omega) (by omega)
theorem total_part {L X : List Nd} (hP : PartOK L X) (hr : ∀ n ∈ L, rightB n = true) (hl : X.length ≤ 2000) (p : Option Addr) (g o c : Nat) (w : World) (hN : NIn w p g o c X) :
    Calls Tryz.prog 64 #[.slice p X.length c] w fun e w' => e = .returned (.agg (Tt.wide (rowN X)).arr) ∧ Below w.heap.size w w' := by
  have h := total_of p g o c X (itsP X) (totY_part hP hr hl) w hN (fun x hx hk => by
    have := hP.its.2 x hx
    rw [hk] at this
    exact absurd this (by decide))
  rwa [sumA_small _ hP.its.2] at h
theorem total_item {L : List Nd} {s : List Nat} (hc : checkC L = 0) (hs : Items L 0 s) {x m : Nat} (hx : x ∈ s) (hm : behC (L.drop x) 0 = some m) (p : Option Addr) (g o c : Nat) (w : World) (hN : NIn w p g o c (sl L x m)) :
    Calls Tryz.prog 64 #[.slice p (sl L x m).length c] w fun e w' => e = .returned (.agg (itT L x).arr) ∧ Below w.heap.size w w' := by
  have hr := check_right hc
  have hll := (checkC_zero hc).1
  have hp := behC_pos _ _ _ hm
  rw [List.length_drop] at hp
  have hlt := (hs.lt x hx).2
  have hsl := sl_len (L := L) (i := x) (m := m) (by omega)
  have hit := items_one hm
  have hck := item_check hc hs hx hm
  have e0 : itT (sl L x m) 0 = itT L x := itT_sl hc hs hx hm
  have hY : TotY (sl L x m) [0] := by
    refine ⟨hit, fun n hn => hr n (sl_sub n hn), by omega, fun d r h => ?_⟩
    have hb := it_bound hc hs hr hx hm
    rcases d with _ | ⟨y, d⟩
    · exact TtB.zero.mono (by omega)
    · simp only [List.cons_append, List.cons.injEq] at h
      obtain ⟨rfl, h2⟩ := h
      have : d = [] := by
        cases d with
        | nil => rfl
        | cons z t => cases h2
      subst this
      rw [show sumA (sl L x m) [0] = itT (sl L x m) 0 from by rw [sumA_cons]; exact plus_zero _, e0]
      exact hb.mono (by omega)
  have h := total_of p g o c (sl L x m) [0] hY w hN (fun y hy hk => by
    obtain rfl : y = 0 := by simpa using hy
    obtain ⟨m2, u2, hd2⟩ := disc_at hck hit (x := 0) (by simp) hk
    obtain ⟨hok, hlen⟩ := disc_ok hd2
    have hlt2 := hd2.lt
    exact ⟨hck, fun W p g c hN => total_part hok.c (check_right hck) (by omega) p g 0 c W hN⟩)
  rwa [show sumA (sl L x m) [0] = itT (sl L x m) 0 from by rw [sumA_cons]; exact plus_zero _, e0] at h
def skipN (g : Gl) : Nd := { Nd.zero with kind := 7, glue := g }
theorem skip_right {g : Gl} (h : g.good = true) : rightB (skipN g) = true := by
  rw [rightB_at (k := 7) (by decide) (by decide) rfl]
  have h1 : goodN 7 (skipN g) = true := by simp [goodN, skipB, skipN, h, withinB, Nd.zero]
  have h2 : restN 7 (skipN g) = { Nd.zero with kind := 7 } := rfl
  rw [h1, h2]
  simp [eqNd, skipN]
theorem glueT_good {g : Gl} (h : g.good = true) : TtB 1073741823 (glueT g) := by
  simp [Gl.good, dimenB, withinB] at h
  exact glue_bound (by omega) (by omega) (by omega) (by omega)
theorem total_skips {a c : Gl} (ha : a.good = true) (hc : c.good = true) (p : Option Addr) (g o q : Nat) (w : World) (hN : NIn w p g o q [skipN a, skipN c]) :
    Calls Tryz.prog 64 #[.slice p 2 q] w fun e w' => e = .returned (.agg ((glueT a).plus (glueT c)).arr) ∧ Below w.heap.size w w' := by
  have hi : Items [skipN a, skipN c] 0 [0, 1] := .step (m := 1) (by simp) rfl (.step (m := 1) (by simp) rfl .done)
  have e0 : itT [skipN a, skipN c] 0 = glueT a := rfl
  have e1 : itT [skipN a, skipN c] 1 = glueT c := rfl
  have hs : sumA [skipN a, skipN c] [0, 1] = (glueT a).plus (glueT c) := by rw [sumA_cons, sumA_cons, e0, e1]; congr 1; exact plus_zero _
  have ba := glueT_good ha
  have bc := glueT_good hc
  have h := total_of p g o q [skipN a, skipN c] [0, 1] ⟨hi, fun n hn => by
      rcases List.mem_cons.1 hn with rfl | hn
      · exact skip_right ha
      · rw [List.mem_singleton] at hn; subst hn; exact skip_right hc, by simp, fun d r h => by
      rcases d with _ | ⟨y, _ | ⟨z, _ | ⟨z2, d⟩⟩⟩
      · exact TtB.zero.mono (by omega)
      · simp only [List.cons_append, List.nil_append, List.cons.injEq] at h
        obtain ⟨rfl, _⟩ := h
        rw [sumA_cons, e0]
        exact (ba.plus TtB.zero).mono (by omega)
      · simp only [List.cons_append, List.nil_append, List.cons.injEq] at h
        obtain ⟨rfl, rfl, _⟩ := h
        rw [hs]
        exact (ba.plus bc).mono (by omega)
      · have := congrArg List.length h
        simp only [List.length_cons, List.length_nil, List.cons_append] at this
        omega⟩ w hN (fun x hx hk => by
    rcases List.mem_cons.1 hx with rfl | hx
    · exact absurd (show (7 : Int) = 10 from hk) (by decide)
    · rw [List.mem_singleton] at hx; subst hx; exact absurd (show (7 : Int) = 10 from hk) (by decide))
  rwa [hs] at h
end Go.Proofs.YtiijpbfkchokaaaGreat
