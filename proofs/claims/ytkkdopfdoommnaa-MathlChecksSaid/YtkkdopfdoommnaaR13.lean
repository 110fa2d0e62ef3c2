/-
  Layer 20, the document's side: the classes that items count as: the walk.
-/
import Derived.Test.YtkkdopfdoommnaaR11
import Derived.Test.YtkkdopfdoommnaaR12
import Derived.Laws.OwnMore
import Derived.Outline
namespace Go.Proofs.Ytkkdopfdoommnaa
open Go.ChangeShapes Go.WideShapes Go.ChangeAt Go.RowKit
attribute [local go_sem ↓] Go.wp_at_zero Go.wp_at_succ

theorem ints_idx (l : List Int) (i : Nat) : (ints l)[i]? = (l[i]?).map (Value.int .i64) := by simp [ints]
theorem ints_lset (l : List Int) (i : Nat) (x : Int) : (ints l).set i (.int .i64 x) = ints (l.set i x) := by simp [ints, List.map_set]
/-- ints in a row of the call's own -/
structure IntRow (w : World) (a : Option Addr) (c n : Nat) (xs : List Int) (wr : World) : Prop where
  row : wr.ownsRow w.heap.size 3 1 (.slice a n c) n (ints xs)
  below : Below w.heap.size w wr
section
variable {w wr : World} {a : Option Addr} {g c n : Nat} {xs : List Int}
theorem IntRow.form (h : IntRow w a c n xs wr) (hn : 0 < n) : ∃ g, a = some ⟨g, 0, none⟩ := by
  obtain ⟨g, cap, e, _⟩ := h.row.form hn
  simp only [Value.slice.injEq] at e
  exact ⟨g, e.1⟩
theorem IntRow.cell (h : IntRow w (some ⟨g, 0, none⟩) c n xs wr) {j : Nat} (hj : j < n) {x : Int} (hx : xs[j]? = some x) : wr.cell? ⟨g, j, none⟩ = some (.int .i64 x) := by
  rw [h.row.cellAt j (by omega), ints_idx, hx]; rfl
theorem IntRow.free (h : IntRow w (some ⟨g, 0, none⟩) c n xs wr) (j : Nat) : wr.frozen? ⟨g, j, none⟩ = false := h.row.frozenAt j
theorem IntRow.set (h : IntRow w (some ⟨g, 0, none⟩) c n xs wr) (j : Nat) (x : Int) : IntRow w (some ⟨g, 0, none⟩) c n (xs.set j x) (wr.setCell ⟨g, j, none⟩ (.int .i64 x)) := by
  obtain ⟨h1, h2⟩ := h.row.stored j (.int .i64 x)
  rw [ints_lset] at h1
  exact ⟨h1, h.below.setCell (p := ⟨g, j, none⟩) (h.row.lt g rfl).1 _⟩
end
theorem one1_not (p : Option Int) {x : Int} (h : x ≠ 3) : one1 p x = x := by
  cases p with
  | none => rw [one1, if_neg h]
  | some l => rw [one1, if_neg (fun e => h e.1)]
structure CountedPost (w : World) (X : List Int) (e : Ending) (w' : World) : Prop where
  ex : ∃ v, e = .returned v ∧ w'.ownsRow w.heap.size 3 1 v X.length (ints X)
  below : Below w.heap.size w w'
set_option maxRecDepth 100000 in
set_option maxHeartbeats 16000000 in
theorem rcounted_any (p : Option Addr) (g cap : Nat) (its : List RIt) (w : World) (hlen : its.length ≤ 2000) (_hcap : its.length ≤ cap) (hp : 0 < its.length → p = some ⟨g, 0, none⟩) (hg : 0 < its.length → g < w.heap.size)
    (hi : ∀ i (hi : i < its.length), agg? w g (i * 26) 26 = some its[i].arr) (cs : List Int) (hcs : its.map (fun it => classI it.sign.kind) = cs) :
    Calls Try.prog 58 #[.slice p its.length cap] w (CountedPost w (pass2 (pass1 none (cs.filter (0 < ·))))) := by
  have Hp := Lib.hid hp
  have Hi := Lib.hid hi
  have Hg := Lib.hid hg
  have Hcs := Lib.hid hcs
  have Hcl := Lib.hid (show cs.length = its.length by rw [← hcs]; simp)
  clear hp hi hg hcs
  go_enter Try.func58, Try.ntmps58
  go_wp2_with fail
  go_loopg [3, 4] (its.length + 1) (fun g t3 t4 wr => ∃ (k n : Nat), g = its.length + 1 - k ∧ k ≤ its.length ∧ t4 = .int .i64 k ∧ n = ((cs.take k).filter (0 < ·)).length ∧ wr.ownsRow w.heap.size 3 1 t3 n (ints ((cs.take k).filter (0 < ·))) ∧ Below w.heap.size w wr)
  case atStart => exact ⟨0, 0, rfl, Nat.zero_le _, rfl, rfl, World.ownsRow_nil _ _ _ _, .refl _ _⟩
  case round =>
    obtain ⟨k, n, rfl, hk, rfl, hn, hown, hbl⟩ := hrel
    have Hn := Lib.hid hn
    clear hn
    have hk1 : (0 : Int) ≤ (k : Int) := by omega
    by_cases hkn : k < its.length
    · have hk2 : (k : Int) < (its.length : Int) := by omega
      have hkc : k < cs.length := by rw [Hcl.out]; exact hkn
      have hx : wr.cell? ⟨g, k * 26, none⟩ = some (.int .i64 its[k].sign.kind) := by
        rw [hbl.cell (p := ⟨g, k * 26, none⟩) (Hg.out (by omega))]
        exact agg_cell (Hi.out k hkn) 0 _ rfl
      have Hx : Hid (classI its[k].sign.kind = cs[k]) := Lib.hid (by have := Hcs.out; subst this; simp)
      obtain rfl := Hp.out (by omega)
      have Htk := Lib.hid (List.take_succ_eq_append_getElem hkc)
      have HW : Hid (∀ W, Calls Try.prog 84 #[.int .i64 its[k].sign.kind] W fun e w' => e = .returned (.int .i64 cs[k]) ∧ W = w') := Lib.hid fun W => (rraw_any _ W).mono fun e w' ⟨h1, h2⟩ => ⟨h1.trans (ret_int Hx.out), h2⟩
      clear Hx
      generalize its[k].sign.kind = kk at hx HW
      generalize cs[k] = x at HW Htk
      have hsz := hbl.size
      by_cases hpos : 0 < x
      · have Hf : Hid ((cs.take (k + 1)).filter (0 < ·) = (cs.take k).filter (0 < ·) ++ [x]) := Lib.hid (by
          rw [Htk.out, List.filter_append, List.filter_cons_of_pos (by simpa using hpos)]; rfl)
        have hn2 : n ≤ 2000 := by have := Hn.out; have h2 := List.length_filter_le (fun x : Int => decide (0 < x)) (cs.take k); simp only [List.length_take] at h2; omega
        obtain ⟨i0, hi0', hz0, hz1, hz2⟩ := info_parts info_int
        go_wp2_with (first | (go_at_call 84; refine (HW.out _).mono ?_; rintro e w' ⟨rfl, rfl⟩) | (at_builtin; refine wpList_append_lies _ rfl _ _ _ rfl w.heap.size 3 i0 (.int .i64 0) 1 8 Try.underlying37 hi0' hz0 hz1 hz2 rfl (by decide) u3 n (ints ((cs.take k).filter (0 < ·))) rfl (hown.alloc _) ⟨wr.heap.size, 0, none⟩ 1 1 [.int .i64 x] rfl rfl (World.news_of_block (heap_alloc_new _ _)) (by simp [Value.oneCell']) (by decide) (by unfold maxLen; omega) (by omega) (by simp; omega) _ rfl ?_; intro g8 cap8 w8 hown8 hgrow8 hat8 hlt8))
        go_roundg (its.length + 1 - (k + 1))
        case measure => omega
        case rel =>
          refine ⟨k + 1, n + 1, rfl, hkn, by go_num, by rw [Hf.out, List.length_append, Hn.out]; rfl, ?_, ?_⟩
          · rw [Hf.out]; unfold ints; rw [List.map_append]; exact hown8
          · exact (hbl.alloc hsz _).grown hgrow8 (by simp; omega) (fun k hk => (hown.lt k hk).1)
      · have Hf := Lib.hid (show (cs.take (k + 1)).filter (0 < ·) = (cs.take k).filter (0 < ·) by
          rw [Htk.out, List.filter_append, List.filter_cons_of_neg (by simpa using hpos)]; simp)
        have hneg : x ≤ 0 := by omega
        go_wp2_with (go_at_call 84; refine (HW.out _).mono ?_; rintro e w' ⟨rfl, rfl⟩)
        go_roundg (its.length + 1 - (k + 1))
        case measure => omega
        case rel => exact ⟨k + 1, n, rfl, hkn, by go_num, by rw [Hf.out, Hn.out], by rw [Hf.out]; exact hown, hbl⟩
    · have hk2 : (its.length : Int) ≤ (k : Int) := by omega
      have Hall := Lib.hid (show (cs.take k).filter (0 < ·) = cs.filter (0 < ·) by rw [List.take_of_length_le (by rw [Hcl.out]; omega)])
      have Hfl : (cs.filter (0 < ·)).length ≤ 2000 := by have := List.length_filter_le (fun x : Int => decide (0 < x)) cs; have := Hcl.out; omega
      generalize hF : cs.filter (0 < ·) = F at Hall Hfl ⊢
      have HF := Lib.hid hF
      clear hF
      have hown2 : wr.ownsRow w.heap.size 3 1 u3 F.length (ints F) := by
        have e1 := Hn.out
        rw [Hall.out] at e1
        rw [← e1, ← Hall.out]; exact hown
      obtain ⟨a, c, hv⟩ : ∃ a c, u3 = .slice a F.length c := by
        obtain ⟨_, ⟨h1, h2⟩ | ⟨g, c, cur, h, _⟩⟩ := hown2
        · exact ⟨_, _, by rw [h1, h2]⟩
        · exact ⟨_, _, h⟩
      subst hv
      have hI : IntRow w a c F.length (st1 F 0) wr := ⟨by rw [st1_zero]; exact hown2, hbl⟩
      have hc : F.length ≤ c := by
        obtain ⟨_, ⟨h1, h2⟩ | ⟨g, c, cur, h, _, _, h3, _⟩⟩ := hown2
        · omega
        · cases h; exact h3
      clear hown hown2 hbl Hall Hn Hcs Hcl Hp Hi Hg hkn
      go_wp2_with fail
      go_loopg [6] (F.length + 1) (fun g t6 wl => ∃ i : Nat, g = F.length + 1 - i ∧ i ≤ F.length ∧ t6 = .int .i64 i ∧ IntRow w a c F.length (st1 F i) wl)
      case atStart => exact ⟨0, rfl, Nat.zero_le _, rfl, hI⟩
      case round =>
        clear hI
        obtain ⟨i, rfl, hi, rfl, h2⟩ := hrel
        have hi1 : (0 : Int) ≤ (i : Int) := by omega
        by_cases hlt : i < F.length
        · have hi2 : (i : Int) < (F.length : Int) := by omega
          obtain ⟨g1, rfl⟩ := h2.form (by omega)
          have Hget := Lib.hid (st1_get hlt)
          have Hsucc := Lib.hid (st1_succ hlt)
          have Hkeep := Lib.hid (fun h => st1_keep hlt h)
          have cx := h2.cell hlt Hget.out
          have cz := h2.free i
          generalize F[i] = x at Hget Hsucc Hkeep cx
          cases hx3 : ((x : Int) == 3)
          · have Hx3 := Lib.hid (show x ≠ 3 by simpa using hx3)
            have Hk := Lib.hid (Hkeep.out (one1_not _ Hx3.out))
            clear Hkeep Hsucc
            go_wp2_with fail
            go_roundg (F.length + 1 - (i + 1))
            case measure => omega
            case rel => exact ⟨i + 1, rfl, hlt, by go_num, by rw [Hk.out]; exact h2⟩
          · obtain rfl : x = 3 := by simpa using hx3
            by_cases hi0 : i = 0
            · subst hi0
              have Hs := Lib.hid (show st1 F (0 + 1) = (st1 F 0).set 0 1 from Hsucc.out)
              have h3 := h2.set 0 1
              clear Hkeep Hsucc
              go_wp2_with fail
              go_roundg (F.length + 1 - (0 + 1))
              case measure => omega
              case rel => exact ⟨0 + 1, rfl, hlt, by go_num, by rw [Hs.out]; exact h3⟩
            · obtain ⟨m, rfl⟩ := Nat.exists_eq_succ_of_ne_zero hi0
              simp only [Nat.succ_eq_add_one] at *
              have Hl := Lib.hid (st1_last F m (by omega))
              obtain ⟨y, hy⟩ : ∃ y, (st1 F (m + 1))[m]? = some y := ⟨_, List.getElem?_eq_getElem (by rw [st1_len]; omega)⟩
              have cy := h2.cell (show m < F.length by omega) hy
              have Hy := Lib.hid (show (pass1 none (F.take (m + 1))).getLast? = some y by rw [← Hl.out, hy])
              have z1 : ((m : Int) + 1 == 0) = false := by simp; omega
              clear hy hi0 Hl
              by_cases hc3 : y = 3 ∨ y = 2 ∨ y = 4 ∨ y = 5 ∨ y = 7
              · have Hs := Lib.hid (show st1 F (m + 1 + 1) = (st1 F (m + 1)).set (m + 1) 1 by rw [Hsucc.out, Hy.out, one1, if_pos ⟨rfl, hc3⟩])
                have h3 := h2.set (m + 1) 1
                clear Hkeep Hsucc
                rcases hc3 with rfl | rfl | rfl | rfl | rfl
                all_goals
                  go_wp2_with fail
                  go_roundg (F.length + 1 - (m + 1 + 1))
                  case measure => omega
                  case rel => exact ⟨m + 1 + 1, rfl, hlt, by go_num, by rw [Hs.out]; exact h3⟩
              · have Hk := Lib.hid (Hkeep.out (by rw [Hy.out, one1, if_neg (fun h => hc3 h.2)]))
                have a3 : ((y : Int) == 3) = false := by simp; omega
                have a2 : ((y : Int) == 2) = false := by simp; omega
                have a4 : ((y : Int) == 4) = false := by simp; omega
                have a5 : ((y : Int) == 5) = false := by simp; omega
                have a7 : ((y : Int) == 7) = false := by simp; omega
                clear Hkeep Hsucc hc3
                go_wp2_with fail
                go_roundg (F.length + 1 - (m + 1 + 1))
                case measure => omega
                case rel => exact ⟨m + 1 + 1, rfl, hlt, by go_num, by rw [Hk.out]; exact h2⟩
        · have hi2 : (F.length : Int) ≤ (i : Int) := by omega
          have He := Lib.hid (st1_end F (show F.length ≤ i by omega))
          have HGl := Lib.hid (show (pass1 none F).length = F.length from pass1_len F none)
          have hI : IntRow w a c F.length (st2 (pass1 none F) 0) wr := by rw [st2_zero, ← He.out]; exact h2
          clear h2 He
          generalize hG : pass1 none F = G at HGl hI ⊢
          have HGe := Lib.hid hG
          clear hG
          go_wp2_with fail
          go_loopg [7] (F.length + 1) (fun g t7 wl => ∃ i : Nat, g = F.length + 1 - i ∧ i ≤ F.length ∧ t7 = .int .i64 i ∧ IntRow w a c F.length (st2 G i) wl)
          case atStart => exact ⟨0, rfl, Nat.zero_le _, rfl, hI⟩
          case round =>
            clear hI hi hi1 hi2 hlt
            obtain ⟨i, rfl, hi, rfl, h2⟩ := hrel
            have hi1 : (0 : Int) ≤ (i : Int) := by omega
            by_cases hlt : i < F.length
            · have hi2 : (i : Int) < (F.length : Int) := by omega
              obtain ⟨g1, rfl⟩ := h2.form (by omega)
              have hltG : i < G.length := by rw [HGl.out]; exact hlt
              have Hget := Lib.hid (show (st2 G i)[i]? = some G[i] by have := st2_get (G := G) (i := i) 0; rw [Nat.add_zero] at this; rw [this, List.getElem?_eq_getElem hltG])
              have Hp2 := Lib.hid (pass2_get G i hltG)
              have Hsucc : Hid (∀ v, (pass2 G)[i]? = some v → st2 G (i + 1) = (st2 G i).set i v) := Lib.hid fun v hv => st2_succ hltG hv
              have Hkeep := Lib.hid (fun h => st2_keep hltG h)
              have cx := h2.cell hlt Hget.out
              have cz := h2.free i
              generalize G[i] = x at Hget Hkeep cx Hp2
              cases hx3 : ((x : Int) == 3)
              · have Hx3 := Lib.hid (show x ≠ 3 by simpa using hx3)
                have Hk := Lib.hid (Hkeep.out (by rw [Hp2.out, if_neg (fun h => Hx3.out h.1)]))
                clear Hkeep Hsucc
                go_wp2_with fail
                go_roundg (F.length + 1 - (i + 1))
                case measure => omega
                case rel => exact ⟨i + 1, rfl, hlt, by go_num, by rw [Hk.out]; exact h2⟩
              · obtain rfl : x = 3 := by simpa using hx3
                by_cases hil : i + 1 < F.length
                · have z1 : ((i : Int) == (F.length : Int) - 1) = false := by simp; omega
                  have hil2 : (i : Int) + 1 < (F.length : Int) := by omega
                  have hilG : i + 1 < G.length := by rw [HGl.out]; exact hil
                  have Hy := Lib.hid (List.getElem?_eq_getElem hilG)
                  have cy := h2.cell hil (x := G[i + 1]) (by rw [st2_get (G := G) (i := i) 1, Hy.out])
                  generalize G[i + 1] = y at Hy cy
                  by_cases hc3 : y = 4 ∨ y = 6 ∨ y = 7
                  · have Hs := Lib.hid (Hsucc.out 1 (by rw [Hp2.out, Hy.out, if_pos ⟨rfl, by simpa [nx2] using hc3⟩]))
                    have h3 := h2.set i 1
                    clear Hkeep Hsucc Hp2
                    rcases hc3 with rfl | rfl | rfl
                    all_goals
                      go_wp2_with fail
                      go_roundg (F.length + 1 - (i + 1))
                      case measure => omega
                      case rel => exact ⟨i + 1, rfl, hlt, by go_num, by rw [Hs.out]; exact h3⟩
                  · have Hk := Lib.hid (Hkeep.out (by rw [Hp2.out, Hy.out, if_neg (fun h => hc3 (by simpa [nx2] using h.2))]))
                    have a4 : ((y : Int) == 4) = false := by simp; omega
                    have a6 : ((y : Int) == 6) = false := by simp; omega
                    have a7 : ((y : Int) == 7) = false := by simp; omega
                    clear Hkeep Hsucc hc3 Hp2
                    go_wp2_with fail
                    go_roundg (F.length + 1 - (i + 1))
                    case measure => omega
                    case rel => exact ⟨i + 1, rfl, hlt, by go_num, by rw [Hk.out]; exact h2⟩
                · have z1 : ((i : Int) == (F.length : Int) - 1) = true := by simp; omega
                  have Hs := Lib.hid (Hsucc.out 1 (by rw [Hp2.out, List.getElem?_eq_none (by rw [HGl.out]; omega), if_pos ⟨rfl, rfl⟩]))
                  have h3 := h2.set i 1
                  clear Hkeep Hsucc Hp2
                  go_wp2_with fail
                  go_roundg (F.length + 1 - (i + 1))
                  case measure => omega
                  case rel => exact ⟨i + 1, rfl, hlt, by go_num, by rw [Hs.out]; exact h3⟩
            · have hi2 : (F.length : Int) ≤ (i : Int) := by omega
              have He := Lib.hid (st2_end G (show G.length ≤ i by rw [HGl.out]; omega))
              go_wp2_with fail
              go_ret
              have h3 := h2.row
              rw [He.out] at h3
              have e2 : (pass2 G).length = F.length := by rw [pass2_len]; exact HGl.out
              exact ⟨⟨.slice a F.length c, rfl, by rw [HF.out, HGe.out, e2]; exact h3⟩, h2.below⟩
end Go.Proofs.Ytkkdopfdoommnaa
