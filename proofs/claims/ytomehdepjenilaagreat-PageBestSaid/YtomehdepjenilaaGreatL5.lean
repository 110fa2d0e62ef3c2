/-
  The document's side: where a column may be broken: Places, Legal.
-/
import Derived.Test.YtomehdepjenilaaGreatL4
namespace Go.Proofs.YtomehdepjenilaaGreat
open Go.ChangeShapes Go.WideShapes Go.ChangeAt Go.RowKit Go.Shelf
attribute [local go_sem ↓] Go.wp_at_zero Go.wp_at_succ
structure TwoV (W : World) (R n : Nat) (a b : List Int) (v u : Value) : Prop where
  rv : W.ownsRow R 3 1 v n (ints a)
  ru : W.ownsRow R 3 1 u n (ints b)
  ne : ∀ g, v.ownBlock = some g → u.ownBlock ≠ some g
theorem TwoV.below {W W' : World} {R n : Nat} {a b : List Int} {v u : Value} (h : TwoV W R n a b v u) (hb : Below W.heap.size W W') : TwoV W' R n a b v u := ⟨ownsRow_below h.rv hb, ownsRow_below h.ru hb, h.ne⟩
section
variable {W w1 w2 : World} {R n g cap g2 cap2 : Nat} {a b : List Int} {v u : Value} {x y : Int}
theorem TwoV.push (h : TwoV W R n a b v u) (hg : (W.alloc (.cells #[.int .i64 x] 3)).grownBy w1 v.ownBlock) (hown : w1.ownsRow R 3 1 (.slice (some ⟨g, 0, none⟩) (n + 1) cap) (n + 1) (ints a ++ [.int .i64 x])) (hat : v.ownBlock = some g ∨ g = (W.alloc (.cells #[.int .i64 x] 3)).heap.size) :
    w1.ownsRow R 3 1 u n (ints b) ∧ (∀ q, u.ownBlock = some q → q ≠ g) := by
  refine ⟨(h.ru.alloc _).kept hg ?_, fun q hq e => ?_⟩
  · cases hu : u.ownBlock with
    | none => exact .inl rfl
    | some q => exact .inr fun e => h.ne q e.symm hu
  · subst e
    rcases hat with e | e
    · exact h.ne q e hq
    · have h5 := (h.ru.lt q hq).2
      rw [World.size_alloc] at e; omega
theorem TwoV.both (hown : w1.ownsRow R 3 1 (.slice (some ⟨g, 0, none⟩) (n + 1) cap) (n + 1) (ints a ++ [.int .i64 x])) (hne : ∀ q, u.ownBlock = some q → q ≠ g) (hlt : g < w1.heap.size)
    (hg : (w1.alloc (.cells #[.int .i64 y] 3)).grownBy w2 u.ownBlock) (hown2 : w2.ownsRow R 3 1 (.slice (some ⟨g2, 0, none⟩) (n + 1) cap2) (n + 1) (ints b ++ [.int .i64 y])) (hat : u.ownBlock = some g2 ∨ g2 = (w1.alloc (.cells #[.int .i64 y] 3)).heap.size) :
    TwoV w2 R (n + 1) (a ++ [x]) (b ++ [y]) (.slice (some ⟨g, 0, none⟩) (n + 1) cap) (.slice (some ⟨g2, 0, none⟩) (n + 1) cap2) := by
  refine ⟨by rw [ints_append]; exact (hown.alloc _).kept hg (.inr fun e => hne g e.symm rfl), by rw [ints_append]; exact hown2, fun q hq hu => ?_⟩
  obtain rfl : g = q := by simpa [Value.ownBlock] using hq
  obtain rfl : g2 = g := by simpa [Value.ownBlock] using hu
  rcases hat with e | e
  · exact hne g2 e rfl
  · rw [World.size_alloc] at e; omega
end
theorem atsP_append (a b : List (Nat × Int)) : atsP (a ++ b) = atsP a ++ atsP b := by simp [atsP]
theorem pensP_append (a b : List (Nat × Int)) : pensP (a ++ b) = pensP a ++ pensP b := by simp [pensP]
theorem behC_one {x : Nd} {l : List Nd} {m : Nat} (h : behC (x :: l) 0 = some m) (ho : opensK x.kind = false) (h6 : x.kind ≠ 6) : m = 1 := by
  unfold behC behN at h
  rw [ho] at h
  simp [h6] at h
  exact h.symm
theorem items_head {L : List Nd} {k a : Nat} {r : List Nat} (h : Items L k (a :: r)) : a = k ∧ k < L.length := by
  cases h with
  | step hi _ _ => exact ⟨rfl, hi⟩
theorem items_end {L : List Nd} {k : Nat} (h : Items L k []) : k = L.length := by
  cases h with
  | done => rfl
theorem lastO_take {s : List Nat} {i : Nat} (hi : i < s.length) : lastO none (s.take (i + 1)) = some s[i] := by rw [List.take_succ_eq_append_getElem hi, lastO_snoc]
set_option maxRecDepth 100000 in
set_option maxHeartbeats 16000000 in
theorem qplaces (p0 : Option Addr) (b off cap : Nat) (L : List Nd) (s : List Nat) (hs : Items L 0 s) (hk : ∀ x ∈ s, (nth L x).kind ≠ 6) (hlen : L.length ≤ 2000) (w : World) (hN : NIn w p0 b off cap L) :
    Calls Tryz.prog 44 #[.slice p0 L.length cap] w fun e w' => (∃ v u, e = .returned (.tuple #[v, u]) ∧ TwoV w' w.heap.size (legalP L s).length (atsP (legalP L s)) (pensP (legalP L s)) v u) ∧ Below w.heap.size w w' := by
  have H := Lib.hid hN
  have HS := Lib.hid hs
  have HK := Lib.hid hk
  have HSt := Lib.hid (qstarts p0 b off cap L s w hN hs hk)
  have hsl := hs.len
  obtain ⟨i0, hi0', hz0, hz1, hz2⟩ := info_parts info_int
  clear hN hs hk
  go_enter Tryz.func44, Tryz.ntmps44
  go_wp2_with fail
  refine HSt.out.mono ?_
  clear HSt
  rintro e w2 ⟨⟨v, rfl, hrow⟩, hb2⟩
  obtain ⟨p, gi, c, rfl, hII⟩ := irow_seen hrow
  have hcap : s.length ≤ c := by
    obtain ⟨_, ⟨e, e2⟩ | ⟨g, cc, cur, e, _, _, h1, _⟩⟩ := hrow
    · omega
    · cases e; exact h1
  clear hrow
  go_wp2_with fail
  go_loopg [4, 5, 7, 8, 9, 10] (s.length + 1) (fun gg t4 t5 t7 t8 t9 t10 wr => ∃ (i k : Nat), gg = s.length + 1 - i ∧ i ≤ s.length ∧ t7 = .int .i64 i ∧ Items L k (s.drop i) ∧ TwoV wr w2.heap.size (breaksF L none (s.take i)).length (atsP (breaksF L none (s.take i))) (pensP (breaksF L none (s.take i))) t4 t5 ∧ Below w2.heap.size w2 wr)
  case atStart => exact ⟨0, 0, rfl, Nat.zero_le _, rfl, by rw [List.drop_zero]; exact HS.out, ⟨World.ownsRow_nil _ _ _ _, World.ownsRow_nil _ _ _ _, fun g h => by cases h⟩, .refl _ _⟩
  case round =>
    obtain ⟨i, k, rfl, hi, rfl, hit, hT, hbl⟩ := hrel
    have hi1 : (0 : Int) ≤ (i : Int) := by omega
    obtain ⟨pv, cv, rfl⟩ := owns_form hT.rv
    obtain ⟨pu, cu, rfl⟩ := owns_form hT.ru
    have hbl3 := breaksF_len L (s.take i) none
    rw [List.length_take] at hbl3
    by_cases hin : i < s.length
    · have hi2 : (i : Int) < (s.length : Int) := by omega
      have hIr := hII.below hbl
      have cI := hIr.at_ i hin
      have hne : s ≠ [] := by intro e; rw [e] at hin; simp at hin
      obtain rfl := hII.hp hne
      have hgi := hII.hg hne
      have hdr := List.drop_eq_getElem_cons hin
      rw [hdr] at hit
      have hmem : s[i] ∈ s := List.getElem_mem hin
      have hbs := breaksF_snoc L (s.take i) s[i]
      rw [← List.take_succ_eq_append_getElem hin] at hbs
      obtain ⟨x, hx⟩ : ∃ x, s[i] = x := ⟨_, rfl⟩
      rw [hx] at cI hit hmem hbs
      have Hx := Lib.hid (show s[i]? = some x by rw [List.getElem?_eq_getElem hin, hx])
      clear hx hdr
      cases hit with
      | step hxl hm hs2 =>
        rename_i m
        have hN2 := H.out.below (hb2.trans (hbl.mono hb2.size))
        have xa := hN2.nth hxl
        obtain rfl := hN2.at_ hxl
        have hblt := hN2.lt hxl
        have hx1 : (0 : Int) ≤ (k : Int) := by omega
        have hx2 : (k : Int) < (L.length : Int) := by omega
        obtain ⟨n, hn⟩ : ∃ n, nth L k = n := ⟨_, rfl⟩
        have hn6 := HK.out k hmem
        rw [hn] at xa hn6
        have Hn := Lib.hid hn
        have Hin := Lib.hid hin
        have HS2 := Lib.hid hs2
        have hm1 : n.kind = 8 → m = 1 := fun h8 => by
          rw [List.drop_eq_getElem_cons hxl, ← nth_get hxl, hn] at hm
          exact behC_one hm (by simp [opensK, h8]) (by omega)
        have HM1 := Lib.hid hm1
        have hq0 : qOf L (lastO none (s.take i)) k = if ((n.kind == 7) && (lastO none (s.take i)).any fun j => !fallsK (nth L j).kind) = true then 0 else if (n.kind == 8 && decide (k + 1 < L.length) && (nth L (k + 1)).kind == 7) = true then 0 else if (n.kind == 9) = true then n.pen else 10000 := by unfold qOf; rw [Hn.out]
        have HQ := Lib.hid hq0
        have HBs := Lib.hid hbs
        have hprev : ∀ j, i = j + 1 → (hj : j < s.length) → lastO none (s.take i) = some s[j] := fun j e hj => by subst e; exact lastO_take hj
        have HPv := Lib.hid hprev
        -- on to the next item
        have HNo : Hid (¬ qOf L (lastO none (s.take i)) k < 10000 → breaksF L none (s.take (i + 1)) = breaksF L none (s.take i)) := Lib.hid fun h => by rw [HBs.out]; unfold brk; rw [if_neg h, List.append_nil]
        have HYe : Hid (∀ q, qOf L (lastO none (s.take i)) k = q → q < 10000 → breaksF L none (s.take (i + 1)) = breaksF L none (s.take i) ++ [(k, q)]) := Lib.hid fun q h h2 => by rw [HBs.out, h]; unfold brk; rw [if_pos h2]
        have HT := Lib.hid hT
        have Hbl := Lib.hid hbl
        have hR : w2.heap.size ≤ wr.heap.size := hbl.size
        have HN := Lib.hid hN2
        have HII := Lib.hid hIr
        have hnil : i = 0 → lastO none (s.take i) = none := fun e => by subst e; rfl
        have HNil := Lib.hid hnil
        clear hn hm hs2 hm1 hq0 hbs hprev hT hbl hN2 hIr hn6 hnil
        go_upto_region 8 with (fail)
        have dX := heap_alloc_new wr (.cells n.arr 49)
        have hbX : Below wr.heap.size wr (wr.alloc (.cells n.arr 49)) := (Below.refl _ wr).alloc (Nat.le_refl _) _
        generalize hA1 : wr.alloc (.cells n.arr 49) = A1 at dX hbX ⊢
        clear hA1
        have hgw : gi < wr.heap.size := HII.out.hg hne
        have dI := (hbX.cell (p := ⟨gi, i, none⟩) hgw).trans (HII.out.at_ i Hin.out)
        have x0 : A1.cell? ⟨wr.heap.size, 0, none⟩ = some (.int .i64 n.kind) := by rw [cell?_blk' dX]; rfl
        have x16 : A1.cell? ⟨wr.heap.size, 16, none⟩ = some (.int .i64 n.pen) := by rw [cell?_blk' dX]; rfl
        have dI2 : A1.cell? ⟨gi, i, none⟩ = some (.int .i64 (k : Nat)) := by
          have h2 := Hx.out
          rw [List.getElem?_eq_getElem Hin.out] at h2
          rw [Option.some.inj h2] at dI
          exact dI
        clear dI cI xa
        cases k7 : (n.kind == 7)
        · cases k8 : (n.kind == 8)
          · cases k9 : (n.kind == 9)
            · have HE := Lib.hid (HNo.out (by rw [HQ.out, k7, k8, k9]; simp))
              clear HQ HNo HYe HBs HPv HNil
              go_wp2_with fail
              go_roundg (s.length + 1 - (i + 1))
              case measure => have := Hin.out; omega
              case rel => exact ⟨i + 1, _, rfl, Hin.out, by go_num, HS2.out, by rw [HE.out]; exact HT.out.below hbX, Hbl.out.trans (hbX.mono hR)⟩
            · by_cases hp : n.pen < 10000
              · have HE := Lib.hid (HYe.out n.pen (by rw [HQ.out, k7, k8, k9]; simp) hp)
                clear HQ HNo HYe HBs HPv HNil
                have hTA := HT.out.below hbX
                have rvA := hTA.rv.alloc (.cells #[.int .i64 (k : Nat)] 3)
                have HTA := Lib.hid hTA
                have hRA : w2.heap.size ≤ A1.heap.size := Nat.le_trans hR hbX.size
                have O1 : Hid (∀ u ∈ [Value.int .i64 (k : Nat)], u.oneCell' = true) := Lib.hid (by simp [Value.oneCell'])
                have O2 : Hid (∀ u ∈ [Value.int .i64 n.pen], u.oneCell' = true) := Lib.hid (by simp [Value.oneCell'])
                clear hTA
                go_upto_region 15 with (at_builtin; refine wpList_append_lies _ rfl (.tmp 79) (.tmp 84) 50 rfl w2.heap.size 3 i0 (.int .i64 0) 1 8 Tryz.underlying50 hi0' hz0 hz1 hz2 rfl (by decide) (.slice pv (breaksF L none (s.take i)).length cv) (breaksF L none (s.take i)).length (ints (atsP (breaksF L none (s.take i)))) rfl rvA ⟨A1.heap.size, 0, none⟩ 1 1 [.int .i64 (k : Nat)] rfl rfl (World.news_of_block (cs := #[.int .i64 (k : Nat)]) (heap_alloc_new _ _)) O1.out (by decide) (by unfold maxLen; omega) (by omega) (by simp; omega) _ rfl ?_; intro g8 cap8 w8 hown8 hgrow8 hat8 hlt8)
                obtain ⟨hu8, hne8⟩ := HTA.out.push hgrow8 hown8 hat8
                have hb8 : Below w2.heap.size A1 w8 := Below.grown ((Below.refl _ _).alloc hRA _) hgrow8 (by simp; omega) (fun q hq => (HTA.out.rv.lt q hq).1)
                have hz8 : w2.heap.size ≤ w8.heap.size := Nat.le_trans hRA hb8.size
                have ruA := hu8.alloc (.cells #[.int .i64 n.pen] 3)
                go_wp2_with (at_builtin; refine wpList_append_lies _ rfl (.tmp 86) (.tmp 88) 50 rfl w2.heap.size 3 i0 (.int .i64 0) 1 8 Tryz.underlying50 hi0' hz0 hz1 hz2 rfl (by decide) (.slice pu (breaksF L none (s.take i)).length cu) (breaksF L none (s.take i)).length (ints (pensP (breaksF L none (s.take i)))) rfl ruA ⟨w8.heap.size, 0, none⟩ 1 1 [.int .i64 n.pen] rfl rfl (World.news_of_block (cs := #[.int .i64 n.pen]) (heap_alloc_new _ _)) O2.out (by decide) (by unfold maxLen; omega) (by omega) (by simp; omega) _ rfl ?_; intro g10 cap10 w10 hown10 hgrow10 hat10 hlt10)
                have hT10 := TwoV.both hown8 hne8 hlt8 hgrow10 hown10 hat10
                have hb10 : Below w2.heap.size w8 w10 := Below.grown ((Below.refl _ _).alloc hz8 _) hgrow10 (by simp; omega) (fun q hq => (hu8.lt q hq).1)
                go_roundg (s.length + 1 - (i + 1))
                case measure => have := Hin.out; omega
                case rel => exact ⟨i + 1, _, rfl, Hin.out, by go_num, HS2.out, by rw [HE.out, atsP_append, pensP_append, List.length_append]; exact hT10, ((Hbl.out.trans (hbX.mono hR)).trans hb8).trans hb10⟩
              · have HE := Lib.hid (HNo.out (by rw [HQ.out, k7, k8, k9]; simpa using hp))
                clear HQ HNo HYe HBs HPv HNil
                go_wp2_with fail
                go_roundg (s.length + 1 - (i + 1))
                case measure => have := Hin.out; omega
                case rel => exact ⟨i + 1, _, rfl, Hin.out, by go_num, HS2.out, by rw [HE.out]; exact HT.out.below hbX, Hbl.out.trans (hbX.mono hR)⟩
          · have h8 : n.kind = 8 := by simpa using k8
            have k9 : (n.kind == 9) = false := by rw [h8]; rfl
            have hm := HM1.out h8
            subst hm
            clear h8
            have hwr : IntKind.i64.wrap ((i : Int) + 1) = (i : Int) + 1 := Go.IntWalk.i64_in _ (by omega)
            have hit2 := HS2.out
            by_cases h1 : i + 1 < s.length
            · have hlt3 : ((i : Int) + 1) < (s.length : Int) := by omega
              have hlt4 : (0 : Int) ≤ (i : Int) + 1 := by omega
              have htn : ((i : Int) + 1).toNat = i + 1 := by omega
              have hs1 : s[i + 1] = k + 1 ∧ k + 1 < L.length := by
                rw [List.drop_eq_getElem_cons h1] at hit2
                exact items_head hit2
              obtain ⟨hs1, hkl⟩ := hs1
              have dJ := (hbX.cell (p := ⟨gi, i + 1, none⟩) hgw).trans (HII.out.at_ (i + 1) h1)
              rw [hs1] at dJ
              have hdl : decide (k + 1 < L.length) = true := by simpa using hkl
              have hkl2 : (((k + 1 : Nat)) : Int) < (L.length : Int) := by omega
              have hkl3 : (0 : Int) ≤ ((k + 1 : Nat) : Int) := by omega
              have xn := (HN.out.below hbX).nth hkl
              have y0 : A1.cell? ⟨b, off + (k + 1) * 19, none⟩ = some (.int .i64 (nth L (k + 1)).kind) := by have := agg_cell xn 0 _ (show (nth L (k + 1)).arr[0]? = some (.int .i64 (nth L (k + 1)).kind) from rfl); simpa using this
              clear xn hit2 hs1 hkl
              obtain ⟨k', hk'⟩ : ∃ k', k + 1 = k' := ⟨_, rfl⟩
              rw [hk'] at dJ hkl2 hkl3 y0
              have Hk' := Lib.hid hk'
              clear hk'
              cases kn : ((nth L k').kind == 7)
              · have HE := Lib.hid (HNo.out (by rw [HQ.out, k7, k8, k9, hdl, Hk'.out, kn]; simp))
                clear HQ HNo HYe HBs HPv HNil
                go_wp2_with fail
                go_roundg (s.length + 1 - (i + 1))
                case measure => have := Hin.out; omega
                case rel => exact ⟨i + 1, _, rfl, Hin.out, by go_num, HS2.out, by rw [HE.out]; exact HT.out.below hbX, Hbl.out.trans (hbX.mono hR)⟩
              · have HE := Lib.hid (HYe.out 0 (by rw [HQ.out, k7, k8, hdl, Hk'.out, kn]; simp) (by decide))
                clear HQ HNo HYe HBs HPv HNil
                have hTA := HT.out.below hbX
                have rvA := hTA.rv.alloc (.cells #[.int .i64 (k : Nat)] 3)
                have HTA := Lib.hid hTA
                have hRA : w2.heap.size ≤ A1.heap.size := Nat.le_trans hR hbX.size
                have O1 : Hid (∀ u ∈ [Value.int .i64 (k : Nat)], u.oneCell' = true) := Lib.hid (by simp [Value.oneCell'])
                have O2 : Hid (∀ u ∈ [Value.int .i64 0], u.oneCell' = true) := Lib.hid (by simp [Value.oneCell'])
                clear hTA
                go_upto_region 15 with (at_builtin; refine wpList_append_lies _ rfl (.tmp 79) (.tmp 84) 50 rfl w2.heap.size 3 i0 (.int .i64 0) 1 8 Tryz.underlying50 hi0' hz0 hz1 hz2 rfl (by decide) (.slice pv (breaksF L none (s.take i)).length cv) (breaksF L none (s.take i)).length (ints (atsP (breaksF L none (s.take i)))) rfl rvA ⟨A1.heap.size, 0, none⟩ 1 1 [.int .i64 (k : Nat)] rfl rfl (World.news_of_block (cs := #[.int .i64 (k : Nat)]) (heap_alloc_new _ _)) O1.out (by decide) (by unfold maxLen; omega) (by omega) (by simp; omega) _ rfl ?_; intro g8 cap8 w8 hown8 hgrow8 hat8 hlt8)
                obtain ⟨hu8, hne8⟩ := HTA.out.push hgrow8 hown8 hat8
                have hb8 : Below w2.heap.size A1 w8 := Below.grown ((Below.refl _ _).alloc hRA _) hgrow8 (by simp; omega) (fun q hq => (HTA.out.rv.lt q hq).1)
                have hz8 : w2.heap.size ≤ w8.heap.size := Nat.le_trans hRA hb8.size
                have ruA := hu8.alloc (.cells #[.int .i64 0] 3)
                go_wp2_with (at_builtin; refine wpList_append_lies _ rfl (.tmp 86) (.tmp 88) 50 rfl w2.heap.size 3 i0 (.int .i64 0) 1 8 Tryz.underlying50 hi0' hz0 hz1 hz2 rfl (by decide) (.slice pu (breaksF L none (s.take i)).length cu) (breaksF L none (s.take i)).length (ints (pensP (breaksF L none (s.take i)))) rfl ruA ⟨w8.heap.size, 0, none⟩ 1 1 [.int .i64 0] rfl rfl (World.news_of_block (cs := #[.int .i64 0]) (heap_alloc_new _ _)) O2.out (by decide) (by unfold maxLen; omega) (by omega) (by simp; omega) _ rfl ?_; intro g10 cap10 w10 hown10 hgrow10 hat10 hlt10)
                have hT10 := TwoV.both hown8 hne8 hlt8 hgrow10 hown10 hat10
                have hb10 : Below w2.heap.size w8 w10 := Below.grown ((Below.refl _ _).alloc hz8 _) hgrow10 (by simp; omega) (fun q hq => (hu8.lt q hq).1)
                go_roundg (s.length + 1 - (i + 1))
                case measure => have := Hin.out; omega
                case rel => exact ⟨i + 1, _, rfl, Hin.out, by go_num, HS2.out, by rw [HE.out, atsP_append, pensP_append, List.length_append]; exact hT10, ((Hbl.out.trans (hbX.mono hR)).trans hb8).trans hb10⟩
            · have hlt3 : ¬ ((i : Int) + 1) < (s.length : Int) := by omega
              have hkl : k + 1 = L.length := by
                rw [List.drop_eq_nil_of_le (by omega)] at hit2
                exact items_end hit2
              have hdl : decide (k + 1 < L.length) = false := by simp; omega
              clear hit2 hkl
              have HE := Lib.hid (HNo.out (by rw [HQ.out, k7, k8, k9, hdl]; simp))
              clear HQ HNo HYe HBs HPv HNil
              go_wp2_with fail
              go_roundg (s.length + 1 - (i + 1))
              case measure => have := Hin.out; omega
              case rel => exact ⟨i + 1, _, rfl, Hin.out, by go_num, HS2.out, by rw [HE.out]; exact HT.out.below hbX, Hbl.out.trans (hbX.mono hR)⟩
        · have h7 : n.kind = 7 := by simpa using k7
          have k8 : (n.kind == 8) = false := by rw [h7]; rfl
          have k9 : (n.kind == 9) = false := by rw [h7]; rfl
          clear h7
          by_cases hi0 : i = 0
          · have hz : ¬ (0 : Int) < (i : Int) := by omega
            have hpv := HNil.out hi0
            clear hi0
            have Hpv := Lib.hid hpv
            clear hpv
            have HE := Lib.hid (HNo.out (by rw [HQ.out, Hpv.out, k7, k8, k9]; simp))
            clear HQ HNo HYe HBs HPv HNil
            go_wp2_with fail
            go_roundg (s.length + 1 - (i + 1))
            case measure => have := Hin.out; omega
            case rel => exact ⟨i + 1, _, rfl, Hin.out, by go_num, HS2.out, by rw [HE.out]; exact HT.out.below hbX, Hbl.out.trans (hbX.mono hR)⟩
          · obtain ⟨j, hj⟩ : ∃ j, i = j + 1 := ⟨i - 1, by omega⟩
            have hjl : j < s.length := by have := Hin.out; omega
            have hpv := HPv.out j hj hjl
            obtain ⟨y, hy⟩ : ∃ y, s[j] = y := ⟨_, rfl⟩
            have hyl : y < L.length := by rw [← hy]; exact (HS.out.lt _ (List.getElem_mem hjl)).2
            have dJ := (hbX.cell (p := ⟨gi, j, none⟩) hgw).trans (HII.out.at_ j hjl)
            rw [hy] at dJ hpv
            have hyl2 : (y : Int) < (L.length : Int) := by omega
            have hyl3 : (0 : Int) ≤ (y : Int) := by omega
            have hjp : (0 : Int) < (i : Int) := by omega
            have hwr : IntKind.i64.wrap ((i : Int) - 1) = (j : Int) := by rw [Go.IntWalk.i64_in _ (by omega)]; omega
            have hjs1 : (0 : Int) ≤ (j : Int) := by omega
            have hjs2 : (j : Int) < (s.length : Int) := by omega
            have xj := (HN.out.below hbX).nth hyl
            have HV := Lib.hid (qfalls (nth L y) A1)
            have Hpv := Lib.hid hpv
            have HdX := Lib.hid dX
            clear hpv hy hyl hjl hj hi0
            cases hfj : fallsK (nth L y).kind
            · have HE := Lib.hid (HYe.out 0 (by rw [HQ.out, Hpv.out, k7]; simp [hfj]) (by decide))
              clear HQ HNo HYe HBs HPv HNil
              rw [hfj] at HV
              go_upto_region 10 with (go_at_call 46; refine HV.out.mono ?_; rintro e A2 ⟨rfl, hbF⟩; (have hbX2 := hbX.trans (hbF.mono hbX.size)); (have dX2 := (hbF.block wr.heap.size (Array.getElem?_eq_some_iff.1 HdX.out).1).trans HdX.out); (have x02 : A2.cell? ⟨wr.heap.size, 0, none⟩ = some (.int .i64 n.kind) := by rw [cell?_blk' dX2]; rfl); (have dI3 := (hbF.cell (p := ⟨gi, i, none⟩) (Nat.lt_of_lt_of_le hgw hbX.size)).trans dI2))
              have hTA := HT.out.below hbX2
              have rvA := hTA.rv.alloc (.cells #[.int .i64 (k : Nat)] 3)
              have HTA := Lib.hid hTA
              have hRA : w2.heap.size ≤ A2.heap.size := Nat.le_trans hR hbX2.size
              have O1 : Hid (∀ u ∈ [Value.int .i64 (k : Nat)], u.oneCell' = true) := Lib.hid (by simp [Value.oneCell'])
              have O2 : Hid (∀ u ∈ [Value.int .i64 0], u.oneCell' = true) := Lib.hid (by simp [Value.oneCell'])
              clear hTA
              go_upto_region 15 with (at_builtin; refine wpList_append_lies _ rfl (.tmp 79) (.tmp 84) 50 rfl w2.heap.size 3 i0 (.int .i64 0) 1 8 Tryz.underlying50 hi0' hz0 hz1 hz2 rfl (by decide) (.slice pv (breaksF L none (s.take i)).length cv) (breaksF L none (s.take i)).length (ints (atsP (breaksF L none (s.take i)))) rfl rvA ⟨A2.heap.size, 0, none⟩ 1 1 [.int .i64 (k : Nat)] rfl rfl (World.news_of_block (cs := #[.int .i64 (k : Nat)]) (heap_alloc_new _ _)) O1.out (by decide) (by unfold maxLen; omega) (by omega) (by simp; omega) _ rfl ?_; intro g8 cap8 w8 hown8 hgrow8 hat8 hlt8)
              obtain ⟨hu8, hne8⟩ := HTA.out.push hgrow8 hown8 hat8
              have hb8 : Below w2.heap.size A2 w8 := Below.grown ((Below.refl _ _).alloc hRA _) hgrow8 (by simp; omega) (fun q hq => (HTA.out.rv.lt q hq).1)
              have hz8 : w2.heap.size ≤ w8.heap.size := Nat.le_trans hRA hb8.size
              have ruA := hu8.alloc (.cells #[.int .i64 0] 3)
              go_wp2_with (at_builtin; refine wpList_append_lies _ rfl (.tmp 86) (.tmp 88) 50 rfl w2.heap.size 3 i0 (.int .i64 0) 1 8 Tryz.underlying50 hi0' hz0 hz1 hz2 rfl (by decide) (.slice pu (breaksF L none (s.take i)).length cu) (breaksF L none (s.take i)).length (ints (pensP (breaksF L none (s.take i)))) rfl ruA ⟨w8.heap.size, 0, none⟩ 1 1 [.int .i64 0] rfl rfl (World.news_of_block (cs := #[.int .i64 0]) (heap_alloc_new _ _)) O2.out (by decide) (by unfold maxLen; omega) (by omega) (by simp; omega) _ rfl ?_; intro g10 cap10 w10 hown10 hgrow10 hat10 hlt10)
              have hT10 := TwoV.both hown8 hne8 hlt8 hgrow10 hown10 hat10
              have hb10 : Below w2.heap.size w8 w10 := Below.grown ((Below.refl _ _).alloc hz8 _) hgrow10 (by simp; omega) (fun q hq => (hu8.lt q hq).1)
              go_roundg (s.length + 1 - (i + 1))
              case measure => have := Hin.out; omega
              case rel => exact ⟨i + 1, _, rfl, Hin.out, by go_num, HS2.out, by rw [HE.out, atsP_append, pensP_append, List.length_append]; exact hT10, ((Hbl.out.trans (hbX2.mono hR)).trans hb8).trans hb10⟩
            · have HE := Lib.hid (HNo.out (by rw [HQ.out, Hpv.out, k7, k8, k9]; simp [hfj]))
              clear HQ HNo HYe HBs HPv HNil
              rw [hfj] at HV
              go_upto_region 10 with (go_at_call 46; refine HV.out.mono ?_; rintro e A2 ⟨rfl, hbF⟩; (have hbX2 := hbX.trans (hbF.mono hbX.size)); (have dX2 := (hbF.block wr.heap.size (Array.getElem?_eq_some_iff.1 HdX.out).1).trans HdX.out); (have x02 : A2.cell? ⟨wr.heap.size, 0, none⟩ = some (.int .i64 n.kind) := by rw [cell?_blk' dX2]; rfl); (have dI3 := (hbF.cell (p := ⟨gi, i, none⟩) (Nat.lt_of_lt_of_le hgw hbX.size)).trans dI2))
              go_wp2_with fail
              go_roundg (s.length + 1 - (i + 1))
              case measure => have := Hin.out; omega
              case rel => exact ⟨i + 1, _, rfl, Hin.out, by go_num, HS2.out, by rw [HE.out]; exact HT.out.below hbX2, Hbl.out.trans (hbX2.mono hR)⟩
    · obtain rfl : i = s.length := by omega
      have hi2 : ¬ (s.length : Int) < (s.length : Int) := by omega
      rw [List.take_length] at hT hbl3
      have rvA := hT.rv.alloc (.cells #[.int .i64 (L.length : Nat)] 3)
      have HT := Lib.hid hT
      have hR : w2.heap.size ≤ wr.heap.size := hbl.size
      have Hbl := Lib.hid hbl
      have O1 : Hid (∀ u ∈ [Value.int .i64 (L.length : Nat)], u.oneCell' = true) := Lib.hid (by simp [Value.oneCell'])
      have O2 : Hid (∀ u ∈ [Value.int .i64 (-10000)], u.oneCell' = true) := Lib.hid (by simp [Value.oneCell'])
      clear hT hit hbl hin
      simp only [List.take_length]
      go_wp2_with (first | (at_builtin; refine wpList_append_lies _ rfl (.tmp 90) (.tmp 93) 50 rfl w2.heap.size 3 i0 (.int .i64 0) 1 8 Tryz.underlying50 hi0' hz0 hz1 hz2 rfl (by decide) (.slice pv (breaksF L none s).length cv) (breaksF L none s).length (ints (atsP (breaksF L none s))) rfl rvA ⟨wr.heap.size, 0, none⟩ 1 1 [.int .i64 (L.length : Nat)] rfl rfl (World.news_of_block (cs := #[.int .i64 (L.length : Nat)]) (heap_alloc_new _ _)) O1.out (by decide) (by unfold maxLen; omega) (by omega) (by simp; omega) _ rfl ?_; intro g8 cap8 w8 hown8 hgrow8 hat8 hlt8; (obtain ⟨hu8, hne8⟩ := HT.out.push hgrow8 hown8 hat8); (have ruA := hu8.alloc (.cells #[.int .i64 (-10000)] 3)); (have hb8 : Below w2.heap.size wr w8 := Below.grown ((Below.refl _ _).alloc hR _) hgrow8 (by simp; omega) (fun q hq => (HT.out.rv.lt q hq).1)); (have hz8 : w2.heap.size ≤ w8.heap.size := Nat.le_trans hR hb8.size)) | (at_builtin; refine wpList_append_lies _ rfl (.tmp 95) (.tmp 96) 50 rfl w2.heap.size 3 i0 (.int .i64 0) 1 8 Tryz.underlying50 hi0' hz0 hz1 hz2 rfl (by decide) (.slice pu (breaksF L none s).length cu) (breaksF L none s).length (ints (pensP (breaksF L none s))) rfl ruA ⟨w8.heap.size, 0, none⟩ 1 1 [.int .i64 (-10000)] rfl rfl (World.news_of_block (cs := #[.int .i64 (-10000)]) (heap_alloc_new _ _)) O2.out (by decide) (by unfold maxLen; omega) (by omega) (by simp; omega) _ rfl ?_; intro g10 cap10 w10 hown10 hgrow10 hat10 hlt10))
      have hT10 := TwoV.both hown8 hne8 hlt8 hgrow10 hown10 hat10
      have hb10 : Below w2.heap.size w8 w10 := Below.grown ((Below.refl _ _).alloc hz8 _) hgrow10 (by simp; omega) (fun q hq => (hu8.lt q hq).1)
      have hbE := hb2.trans (((Hbl.out.trans hb8).trans hb10).mono hb2.size)
      have hLe : TwoV w10 w.heap.size (legalP L s).length (atsP (legalP L s)) (pensP (legalP L s)) (.slice (some ⟨g8, 0, none⟩) ((breaksF L none s).length + 1) cap8) (.slice (some ⟨g10, 0, none⟩) ((breaksF L none s).length + 1) cap10) := by
        unfold legalP
        rw [atsP_append, pensP_append, List.length_append]
        exact ⟨ownsRow_base hT10.rv hb2.size, ownsRow_base hT10.ru hb2.size, hT10.ne⟩
      go_ret2
      exact ⟨⟨_, _, rfl, hLe⟩, hbE⟩
end Go.Proofs.YtomehdepjenilaaGreat
