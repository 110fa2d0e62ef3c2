/-
  The document's side of layer 9: a row's totals (galleyref05.Sum, not down).
-/
import Derived.Test.YtiijpbfkchokaaaGreatS10
import Derived.Test.YtiijpbfkchokaaaGreatB10
import Derived.Test.YtiijpbfkchokaaaGreatF11
namespace Go.Proofs.YtiijpbfkchokaaaGreat
open Go.ChangeShapes Go.WideShapes Go.ChangeAt Go.RowKit
attribute [local go_sem ↓] Go.wp_at_zero Go.wp_at_succ
attribute [local go_sem] run_three2
theorem run_widenat (x : Int) (w : World) : (Instr.field 62 (.agg (Tt.wide x).arr) 0).run Tryz.prog w = .ok (.int .i64 x) w := by kernel_rfl
attribute [local go_sem] run_widenat
structure SumI (w : World) (Z B : Nat) (T : Tt) (v : Value) (s : List Nat) (W : World) : Prop where
  tot : TotI w Z T W
  row : W.ownsRow B 3 1 v s.length (ints (ofN s))
  le : Z + 2 ≤ B
  sz : B ≤ W.heap.size
theorem SumI.still {w : World} {Z B : Nat} {T : Tt} {v : Value} {s : List Nat} {W W' : World} (h : SumI w Z B T v s W) (hb : Below W.heap.size W W') : SumI w Z B T v s W' :=
  ⟨h.tot.still hb, ownsRow_below h.row hb, h.le, Nat.le_trans h.sz hb.size⟩
theorem SumI.set {w : World} {Z B : Nat} {T T' : Tt} {x : Value} {s : List Nat} {W : World} (h : SumI w Z B T x s W) (k : Nat) (v : Value) (hm : T.arr.setIfInBounds k v = T'.arr) : SumI w Z B T' x s (W.setCell ⟨Z + 1, k, none⟩ v) :=
  ⟨h.tot.set k v hm, ownsRow_same h.row fun g hg _ => Below.heap_setCell _ _ _ _ (by have := h.le; have := (h.row.lt _ hg).1; simp only; omega), h.le, Nat.le_trans h.sz (KeepsWalks.setCell W _ _).size⟩
theorem SumI.drew {w : World} {Z B : Nat} {T : Tt} {v : Value} {s : List Nat} {W : World} (h : SumI w Z B T v s W) : SumI w Z B T v s W.drew := h.still ((Below.refl _ _).drew)
set_option maxRecDepth 100000 in
set_option maxHeartbeats 16000000 in
theorem q5sum_of (p0 : Option Addr) (b off cap : Nat) (Y : List Nd) (s : List Nat) (hY : TotY Y s) (hk6 : ∀ x ∈ s, (nth Y x).kind ≠ 6) (w : World) (hN : NIn w p0 b off cap Y)
    (hD : ∀ x ∈ s, (nth Y x).kind = 10 → (∃ m u, DiscAt Y x m u) ∧ ∀ W p g c, NIn W p g 0 c (threeP Y x).2.2 → Calls Tryz.prog 75 #[.slice p (threeP Y x).2.2.length c, .bool false] W fun e w' => e = .returned (.agg (Tt.wide (rowN (threeP Y x).2.2)).arr) ∧ Below W.heap.size W w') :
    Calls Tryz.prog 75 #[.slice p0 Y.length cap, .bool false] w fun e w' => e = .returned (.agg (sumA Y s).arr) ∧ Below w.heap.size w w' := by
  have H := Lib.hid hN
  have HY := Lib.hid hY
  have HD := Lib.hid hD
  have hlen := hY.len
  have hsl := hY.items.len
  have hI : TotI w w.heap.size .zero ((w.alloc (.cells (Tt.mk 0 0 0 0 0 0 0 0 0).arr 62)).alloc (.cells (Tt.mk 0 0 0 0 0 0 0 0 0).arr 62)) :=
    ⟨by have := heap_alloc_new (w.alloc (.cells (Tt.mk 0 0 0 0 0 0 0 0 0).arr 62)) (.cells (Tt.mk 0 0 0 0 0 0 0 0 0).arr 62); rwa [World.size_alloc] at this, (Below.heap_alloc _ _ _ (by simp)).trans (heap_alloc_new w _), ((Below.refl _ _).alloc (Nat.le_refl _) _).alloc (by simp) _, Nat.le_refl _⟩
  have hsz : w.heap.size + 2 ≤ ((w.alloc (.cells (Tt.mk 0 0 0 0 0 0 0 0 0).arr 62)).alloc (.cells (Tt.mk 0 0 0 0 0 0 0 0 0).arr 62)).heap.size := by rw [World.size_alloc, World.size_alloc]; omega
  have HSt : Hid (∀ W, Below w.heap.size w W → Calls Tryz.prog 67 #[.slice p0 Y.length cap] W fun e w' => (∃ v, e = .returned v ∧ IRow W v s w') ∧ Below W.heap.size W w') := Lib.hid fun W hb => qstarts p0 b off cap Y s W (hN.below hb) hY.items hk6
  clear hN hY hD hk6
  go_enter Tryz.func75, Tryz.ntmps75
  go_upto_region 2 with (fail)
  generalize (w.alloc (.cells (Tt.mk 0 0 0 0 0 0 0 0 0).arr 62)).alloc (.cells (Tt.mk 0 0 0 0 0 0 0 0 0).arr 62) = w1 at hI hsz ⊢
  have HI := Lib.hid hI
  obtain ⟨Z, hZ⟩ : ∃ Z, w.heap.size = Z := ⟨_, rfl⟩
  rw [hZ] at HI hsz ⊢
  have HZ := Lib.hid hZ
  clear hI hZ
  go_wp2_with fail
  refine (HSt.out _ HI.out.below).mono ?_
  clear HSt
  rintro e w2 ⟨⟨v, rfl, hrow⟩, hb2⟩
  obtain ⟨B, hB⟩ : ∃ B, w1.heap.size = B := ⟨_, rfl⟩
  have hrw : w2.ownsRow B 3 1 v s.length (ints (ofN s)) := by rw [← hB]; exact hrow
  have HI2 := Lib.hid (show SumI w Z B (sumA Y (s.take 0)) v s w2 from ⟨HI.out.still hb2, hrw, by rw [← hB]; exact hsz, by rw [← hB]; exact hb2.size⟩)
  obtain ⟨pv, cv, rfl⟩ := owns_form hrw
  clear hrow hrw HI hb2 hsz hB
  go_wp2_with fail
  go_loopg [7, 8] (s.length + 1) (fun gg t7 t8 wr => ∃ i : Nat, gg = s.length + 1 - i ∧ i ≤ s.length ∧ t7 = .int .i64 i ∧ SumI w Z B (sumA Y (s.take i)) (.slice pv s.length cv) s wr)
  case atStart => exact ⟨0, rfl, Nat.zero_le _, rfl, HI2.out⟩
  case round =>
    obtain ⟨i, rfl, hi, rfl, hS⟩ := hrel
    clear HI2
    have hi1 : (0 : Int) ≤ (i : Int) := by omega
    by_cases hin : i < s.length
    · have hi2 : (i : Int) < (s.length : Int) := by omega
      obtain ⟨gi, c, hv, _, hcap, cI⟩ := irow_cell hS.row hin
      simp only [Value.slice.injEq] at hv
      obtain ⟨rfl, _, rfl⟩ := hv
      have hxm := List.getElem_mem hin
      have hxl := (HY.out.items.lt _ hxm).2
      have hsn := sumA_snoc Y (s.take i) s[i]
      rw [← List.take_succ_eq_append_getElem hin] at hsn
      have hN := H.out.below hS.tot.below
      have hb1 := HY.out.bnd _ _ (List.take_append_drop i s).symm
      have hb2 := HY.out.bnd _ _ (List.take_append_drop (i + 1) s).symm
      obtain ⟨k, hk⟩ : ∃ k, s[i] = k := ⟨_, rfl⟩
      rw [hk] at cI hxl hxm hsn
      have xa := hN.nth hxl
      obtain rfl := hN.at_ hxl
      have hx1 : (0 : Int) ≤ (k : Int) := by omega
      have hx2 : (k : Int) < (Y.length : Int) := by omega
      have hrn : rightB (nth Y k) = true := by rw [nth_get hxl]; exact HY.out.right _ (List.getElem_mem _)
      obtain ⟨n, hn⟩ : ∃ n, nth Y k = n := ⟨_, rfl⟩
      rw [hn] at xa hrn
      obtain ⟨T, hT⟩ : ∃ T, sumA Y (s.take i) = T := ⟨_, rfl⟩
      rw [hT] at hS hsn hb1
      rw [hsn] at hb2
      have hD10 := HD.out k hxm
      rw [hn] at hD10
      have HD10 := Lib.hid hD10
      have Hsn := Lib.hid hsn
      have Hn := Lib.hid hn
      have Hrn := Lib.hid hrn
      have Hb1 := Lib.hid hb1
      have Hb2 := Lib.hid hb2
      have Hin := Lib.hid hin
      have Hxm := Lib.hid hxm
      have HS := Lib.hid hS
      have Hk := Lib.hid (show s[i]? = some k by rw [List.getElem?_eq_getElem hin, hk])
      clear hsn hn hrn hb1 hb2 hin hxm hS hT hk hN hD10 HD
      go_upto_block 2 with (fail)
      have dX := heap_alloc_new wr (.cells n.arr 69)
      have hbX : Below wr.heap.size wr (wr.alloc (.cells n.arr 69)) := (Below.refl _ wr).alloc (Nat.le_refl _) _
      have hS1 := HS.out.still hbX
      have hXZ : wr.heap.size ≠ Z + 1 := by have := HS.out.tot.at_.lt; omega
      clear xa cI
      generalize wr.alloc (.cells n.arr 69) = A1 at dX hbX hS1 ⊢
      generalize hX : wr.heap.size = X at dX hbX hXZ ⊢
      have hXs : B ≤ X := by rw [← hX]; exact HS.out.sz
      have x0 : A1.cell? ⟨X, 0, none⟩ = some (.int .i64 n.kind) := by rw [cell?_blk' dX]; rfl
      have aX := agg_nd dX
      have HK : Hid (∀ w8, Below A1.drew.heap.size A1.drew w8 → w8.cell? ⟨Z + 1, 0, none⟩ = some (.int .i64 T.nat) ∧ agg? w8 X 0 19 = some n.arr ∧ w8.frozen? ⟨Z + 1, 0, none⟩ = false ∧ w8.heap[X]? = some (.cells n.arr 69 (0, 0)) ∧ SumI w Z B T (.slice (some ⟨gi, 0, none⟩) s.length cv) s w8) := Lib.hid fun w8 h8 => by
        have h9 := hS1.drew.still h8
        have d9 := (h8.block X (Array.getElem?_eq_some_iff.1 dX).1).trans dX
        exact ⟨h9.tot.at_.cell 0 _ (Tt.get0 T), agg_nd d9, h9.tot.at_.frozen 0, d9, h9⟩
      have HC : Hid (∀ w8 x, Below A1.drew.heap.size A1.drew w8 → SumI w Z B { T with nat := x } (.slice (some ⟨gi, 0, none⟩) s.length cv) s (w8.setCell ⟨Z + 1, 0, none⟩ (.int .i64 x)) ∧ (w8.setCell ⟨Z + 1, 0, none⟩ (.int .i64 x)).heap[X]? = some (.cells n.arr 69 (0, 0))) := Lib.hid fun w8 x h8 => by
        obtain ⟨_, _, _, d9, h9⟩ := HK.out _ h8
        exact ⟨h9.set 0 _ rfl, (Below.heap_setCell _ _ _ _ hXZ).trans d9⟩
      have hac := ac_bound Hrn.out
      obtain ⟨bn1, bn2⟩ := Hb1.out.nat
      clear hS1
      go_cut [] from 24 to 54 (fun wx => SumI w Z B { T with nat := T.nat + itN Y k } (.slice (some ⟨gi, 0, none⟩) s.length cv) s wx ∧ wx.heap[X]? = some (.cells n.arr 69 (0, 0)))
      case first =>
        cases k10 : (n.kind == 10)
        · have hit : itN Y k = acN n := by unfold itN; rw [Hn.out, k10]; rfl
          have Hit := Lib.hid hit
          have hwr : IntKind.i64.wrap (T.nat + acN n) = T.nat + acN n := Go.IntWalk.i64_in _ (by omega)
          have HA := Lib.hid (q9across n A1.drew)
          generalize acN n = al at hac HA hwr Hit
          have HK0 := HK.out A1.drew (Below.refl _ _)
          clear hit
          go_wp2_with fail
          go_region_with (go_at_call 93; refine HA.out.mono ?_; rintro e w8 ⟨rfl, hb8⟩; obtain ⟨c8, g8, f8, -, -⟩ := HK.out _ hb8)
          all_goals
            have HCo := Lib.hid (HC.out _ (T.nat + al) hb8)
            go_wp2_with fail
            go_meet
            rw [Hit.out]
            exact HCo.out
        · have k10' : n.kind = 10 := by simpa using k10
          have hit : itN Y k = rowN (threeP Y k).2.2 := by unfold itN; rw [Hn.out, k10]; rfl
          obtain ⟨⟨m9, u9, hd9⟩, hrec⟩ := HD10.out k10'
          have hx9 : (threeP Y k).2.2.length ≤ 2000 := by
            have h1 := (disc_ok hd9).2
            have h2 := hd9.lt
            omega
          have z5 := (HK.out A1.drew (Below.refl _ _)).2.2.2.2
          have HT : Hid (Calls Tryz.prog 88 #[.slice (some ⟨b, off, none⟩) Y.length cap, .int .i64 k] A1.drew fun e w' => ∃ u0 u1 p3 g3 c3, e = .returned (.agg #[u0, u1, .slice p3 (threeP Y k).2.2.length c3]) ∧ NIn w' p3 g3 0 c3 (threeP Y k).2.2 ∧ Below A1.drew.heap.size A1.drew w') := Lib.hid (by
            refine (q3three (some ⟨b, off, none⟩) b off cap Y k m9 u9 hd9 (by rw [Hn.out]; exact k10') hlen A1.drew (H.out.below z5.tot.below)).mono ?_
            rintro e w5 ⟨⟨vs, rfl, hv⟩, hb5⟩
            obtain ⟨_, p3, g3, c3, e3, hN3, _⟩ := row_nodes (hv.rows 2 (by decide)) (show (threeP Y k).2.2.length * 160 ≤ _ by omega)
            have e3' : vs 2 = .slice p3 (threeP Y k).2.2.length c3 := e3
            exact ⟨vs 0, vs 1, p3, g3, c3, by rw [e3'], hN3, hb5⟩)
          have hbw := Hb2.out.nat
          rw [show itT Y k = .wide (itN Y k) by unfold itT; rw [Hn.out, k10']; rfl] at hbw
          simp only [Tt.plus, Tt.wide] at hbw
          rw [hit] at hbw
          have Hit := Lib.hid hit
          have HR := Lib.hid hrec
          obtain ⟨rw9, hrw9⟩ : ∃ r9, rowN (threeP Y k).2.2 = r9 := ⟨_, rfl⟩
          rw [hrw9] at hbw Hit HR
          have hwr : IntKind.i64.wrap (T.nat + rw9) = T.nat + rw9 := Go.IntWalk.i64_in _ (by omega)
          obtain ⟨X3, hX3⟩ : ∃ X3, (threeP Y k).2.2 = X3 := ⟨_, rfl⟩
          rw [hX3] at hx9 HR HT
          have HI : Hid (∀ w8, Below A1.drew.heap.size A1.drew w8 → w8.cell? ⟨gi, i, none⟩ = some (.int .i64 k)) := Lib.hid fun w8 h8 => by
            obtain ⟨gi', c', hv', _, _, cI'⟩ := irow_cell (HK.out _ h8).2.2.2.2.row Hin.out
            simp only [Value.slice.injEq, Option.some.injEq, Addr.mk.injEq] at hv'
            have h2 := Hk.out
            rw [List.getElem?_eq_getElem Hin.out] at h2
            rw [Option.some.inj h2, ← hv'.1.1] at cI'
            exact cI'
          have HI0 := HI.out A1.drew (Below.refl _ _)
          have HK0 := HK.out A1.drew (Below.refl _ _)
          clear hit hrec k10' hrw9 hX3 hd9 hbw HD10 hac z5
          go_wp2_with fail
          go_region_law (first | (go_simp; go_at_call 88; refine HT.out.mono ?_; rintro e w5 ⟨u0, u1, p3, g3, c3, rfl, hN3, hb5⟩; obtain ⟨c5, g5, f5, -, -⟩ := HK.out _ hb5) | (go_simp; go_at_call 75; refine (HR.out _ p3 g3 c3 hN3).mono ?_; rintro e w8 ⟨rfl, hb8⟩; obtain ⟨c8, g8, f8, -, -⟩ := HK.out _ (hb5.trans (hb8.mono hb5.size))))
          all_goals
            have HCo := Lib.hid (HC.out _ (T.nat + rw9) (hb5.trans (hb8.mono hb5.size)))
            go_wp2_with fail
            go_meet
            rw [Hit.out]
            exact HCo.out
      case rest =>
        obtain ⟨hS2, hD2⟩ := hcut
        have y0 : wc.cell? ⟨X, 0, none⟩ = some (.int .i64 n.kind) := by rw [cell?_blk' hD2]; rfl
        clear aX x0 HK HC dX
        cases k7 : (n.kind == 7)
        · have hit : itT Y k = .wide (itN Y k) := by unfold itT; rw [Hn.out, k7]; rfl
          have hse : SumI w Z B (sumA Y (s.take (i + 1))) (.slice (some ⟨gi, 0, none⟩) s.length cv) s wc := by rw [Hsn.out, hit, ← nat_wide]; exact hS2
          have HSe := Lib.hid hse
          clear hit hse hS2 hD2
          go_wp2_with fail
          go_roundg (s.length + 1 - (i + 1))
          case measure => have := Hin.out; omega
          case rel => exact ⟨i + 1, rfl, Hin.out, by go_num, HSe.out⟩
        · have k7' : n.kind = 7 := by simpa using k7
          have nb := nb_of Hrn.out
          obtain ⟨g1, g2⟩ := nb.nat k7'
          obtain ⟨g3, g4⟩ := nb.str k7'
          obtain ⟨g5, g6⟩ := nb.shr k7'
          have b1 := nb.so k7'
          have b2 := nb.ho k7'
          have hit : itT Y k = glueT n.glue := by unfold itT; rw [Hn.out, k7]; rfl
          have hin7 : itN Y k = n.glue.nat := by unfold itN acN; rw [Hn.out, k7']; rfl
          rw [hin7] at hS2
          obtain ⟨j, hj⟩ : ∃ j : Nat, n.glue.so = (j : Int) := ⟨n.glue.so.toNat, by omega⟩
          obtain ⟨h, hh⟩ : ∃ h : Nat, n.glue.ho = (h : Int) := ⟨n.glue.ho.toNat, by omega⟩
          have hj3 : j ≤ 3 := by omega
          have hh3 : h ≤ 3 := by omega
          have hj4 : (0 : Int) ≤ (j : Int) := by omega
          have hj5 : (j : Int) < 4 := by omega
          have hh4 : (0 : Int) ≤ (h : Int) := by omega
          have hh5 : (h : Int) < 4 := by omega
          have Hj := Lib.hid hj
          have Hh := Lib.hid hh
          have Hit := Lib.hid hit
          have hst := Hb1.out.st j
          have hsh := Hb1.out.sh h
          have x8 : wc.cell? ⟨X, 8, none⟩ = some (.int .i64 n.glue.str) := by rw [cell?_blk' hD2]; rfl
          have x10 : wc.cell? ⟨X, 10, none⟩ = some (.int .i64 (j : Nat)) := by rw [cell?_blk' hD2, ← hj]; rfl
          have cj : wc.cell? ⟨Z + 1, 1 + j, none⟩ = some (.int .i64 (T.st j)) := hS2.tot.at_.cell (1 + j) _ (tt_get_st _ j hj3)
          have fj := hS2.tot.at_.frozen (1 + j)
          obtain ⟨bj1, bj2⟩ := hst
          clear b1 b2 nb hj hh hit k7' hin7 hac bn1 bn2 HD10
          go_wp2_with fail
          go_region
          have hI5 := (hS2.set (1 + j) (.int .i64 (T.st j + n.glue.str)) (tt_set_st _ _ j hj3)).drew
          have hD5 : (wc.setCell ⟨Z + 1, 1 + j, none⟩ (.int .i64 (T.st j + n.glue.str))).drew.heap[X]? = some (.cells n.arr 69 (0, 0)) := (Below.heap_setCell _ _ _ _ hXZ).trans hD2
          clear hS2 hD2 y0 x8 x10 cj fj bj1 bj2
          generalize (wc.setCell ⟨Z + 1, 1 + j, none⟩ (.int .i64 (T.st j + n.glue.str))).drew = A5 at hI5 hD5 ⊢
          have x9 : A5.cell? ⟨X, 9, none⟩ = some (.int .i64 n.glue.shr) := by rw [cell?_blk' hD5]; rfl
          have x11 : A5.cell? ⟨X, 11, none⟩ = some (.int .i64 (h : Nat)) := by rw [cell?_blk' hD5, ← Hh.out]; rfl
          have ci := hI5.tot.at_.cell (5 + h) _ (tt_get_sh _ h hh3)
          have fi := hI5.tot.at_.frozen (5 + h)
          have hsh2 : (({ T with nat := T.nat + n.glue.nat } : Tt).setS j (T.st j + n.glue.str)).sh h = T.sh h := sh_setS _ _ _ _
          rw [hsh2] at ci
          obtain ⟨bi1, bi2⟩ := hsh
          clear hsh2
          go_wp2_with fail
          go_region
          have hI6 := (hI5.set (5 + h) (.int .i64 (T.sh h + n.glue.shr)) (tt_set_sh _ _ h hh3)).drew
          clear hI5 hD5 x9 x11 ci fi bi1 bi2
          generalize (A5.setCell ⟨Z + 1, 5 + h, none⟩ (.int .i64 (T.sh h + n.glue.shr))).drew = A6 at hI6 ⊢
          have hg : ({ T with nat := T.nat + n.glue.nat } : Tt).glue n.glue = (({ T with nat := T.nat + n.glue.nat } : Tt).setS j (T.st j + n.glue.str)).setH h (T.sh h + n.glue.shr) := by
            unfold Tt.glue
            rw [Hj.out, Hh.out]
            simp only [Int.toNat_natCast]
            rw [show (({ T with nat := T.nat + n.glue.nat } : Tt).setS j (({ T with nat := T.nat + n.glue.nat } : Tt).st j + n.glue.str)) = (({ T with nat := T.nat + n.glue.nat } : Tt).setS j (T.st j + n.glue.str)) from rfl, sh_setS]
            rfl
          rw [← hg, glue_plus, ← Hit.out, ← Hsn.out] at hI6
          have HSe := Lib.hid hI6
          clear hg hI6
          go_wp2_with fail
          go_roundg (s.length + 1 - (i + 1))
          case measure => have := Hin.out; omega
          case rel => exact ⟨i + 1, rfl, Hin.out, by go_num, HSe.out⟩
    · obtain rfl : i = s.length := by omega
      have hi2 : ¬ (s.length : Int) < (s.length : Int) := by omega
      rw [List.take_length] at hS
      have aT := hS.tot.at_.agg
      have tR := hS.tot.res.there
      have HI := Lib.hid hS.tot
      clear hS
      go_wp2_with fail
      refine ret_tt rfl Z 0 (sumA Y s) rfl (HI.out.res.store (U := sumA Y s)).agg rfl ⟨rfl, ?_⟩
      rw [← HZ.out]
      exact Below.setAgg HI.out.below (by rw [HZ.out]; exact Nat.le_refl _) _ _
end Go.Proofs.YtiijpbfkchokaaaGreat
