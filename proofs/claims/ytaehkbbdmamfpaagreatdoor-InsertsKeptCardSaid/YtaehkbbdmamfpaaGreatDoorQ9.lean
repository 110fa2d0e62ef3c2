/-
  The document's side: Check of a column; whether a glue may be a top glue.
-/
import Derived.Test.YtaehkbbdmamfpaaGreatDoorQ8
import Derived.Test.YtaehkbbdmamfpaaGreatDoorQ6
namespace Go.Proofs.YtaehkbbdmamfpaaGreatDoor
open Go.ChangeShapes Go.WideShapes Go.ChangeAt Go.RowKit
attribute [local go_sem ↓] Go.wp_at_zero Go.wp_at_succ

structure IIn (w : World) (p : Option Addr) (g c : Nat) (s : List Nat) : Prop where
  hp : s ≠ [] → p = some ⟨g, 0, none⟩
  hg : s ≠ [] → g < w.heap.size
  at_ : ∀ i (hi : i < s.length), w.cell? ⟨g, i, none⟩ = some (.int .i64 (s[i] : Nat))
theorem IIn.below {w w' : World} {p : Option Addr} {g c : Nat} {s : List Nat} (h : IIn w p g c s) (hb : Below w.heap.size w w') : IIn w' p g c s :=
  ⟨h.hp, fun e => Nat.lt_of_lt_of_le (h.hg e) hb.size, fun i hi => (hb.cell (p := ⟨g, i, none⟩) (h.hg (by intro e; rw [e] at hi; simp at hi))).trans (h.at_ i hi)⟩
theorem irow_seen {w w' : World} {v : Value} {s : List Nat} (h : IRow w v s w') : ∃ p g c, v = .slice p s.length c ∧ IIn w' p g c s := by
  unfold IRow at h
  by_cases h0 : s = []
  · subst h0
    obtain ⟨_, ⟨rfl, _⟩ | ⟨g, cap, cur, rfl, _⟩⟩ := h
    · exact ⟨none, 0, 0, rfl, fun e => absurd rfl e, fun e => absurd rfl e, fun i hi => by simp at hi⟩
    · exact ⟨_, g, cap, rfl, fun e => absurd rfl e, fun e => absurd rfl e, fun i hi => by simp at hi⟩
  · obtain ⟨g, c, rfl, _, hg⟩ := h.form (List.length_pos_iff.2 h0)
    refine ⟨_, g, c, rfl, fun _ => rfl, fun _ => hg, fun i hi => ?_⟩
    rw [h.cellAt i (by omega), ints_idx]
    simp [ofN, hi]
def frmC (L : List Nd) (s : List Nat) : Int := if s.all (fun x => firmN (nth L x)) then 0 else 30
theorem frmC_step {L : List Nd} {s t : List Nat} {x : Nat} (h : t = s ++ [x]) : frmC L t = if firmN (nth L x) then frmC L s else 30 := by
  rw [h]
  unfold frmC
  rw [List.all_append, List.all_cons, List.all_nil, Bool.and_true]
  cases s.all (fun x => firmN (nth L x)) <;> cases firmN (nth L x) <;> rfl
theorem runC_right : ∀ (l : List Nd) (st : List Int) (d : Int) (r : List Int × Int), runC l st d = some r → ∀ x ∈ l, rightB x = true
  | [], _, _, _, _ => fun x hx => by cases hx
  | y :: l, st, d, r, h => fun x hx => by
    unfold runC at h
    split at h
    · rename_i hr
      obtain ⟨s, _, h2⟩ := Option.bind_eq_some_iff.1 h
      rcases List.mem_cons.1 hx with rfl | hx
      · exact hr
      · exact runC_right l _ _ _ h2 x hx
    · cases h
theorem check_right {L : List Nd} (h : checkC L = 0) : ∀ x ∈ L, rightB x = true := by
  obtain ⟨_, d, _, hr⟩ := checkC_zero h
  exact runC_right L [] 0 _ hr
theorem right_skip {n : Nd} (h : rightB n = true) (hk : n.kind = 7) : n.glue.good = true ∧ withinB n.sub 0 20 = true := by
  unfold rightB at h
  rw [hk] at h
  simp only [Bool.and_eq_true] at h
  have : skipB n = true := h.1.2
  simpa [skipB] using this
theorem good_ho {g : Gl} (h : g.good = true) : (0 ≤ g.so ∧ g.so ≤ 3) ∧ 0 ≤ g.ho ∧ g.ho ≤ 3 := by
  simp [Gl.good, withinB] at h
  omega
set_option maxRecDepth 100000 in
set_option maxHeartbeats 8000000 in
theorem qcolumn (p0 : Option Addr) (b off cap : Nat) (L : List Nd) (s : List Nat) (hs : checkC L = 0 → Items L 0 s) (w : World) (hN : NIn w p0 b off cap L) :
    Calls Tryz.prog 23 #[.slice p0 L.length cap] w fun e w' => e = .returned (.int .i64 (colP L s)) ∧ Below w.heap.size w w' := by
  have HC := Lib.hid (qcheck p0 b off cap L w hN)
  have H := Lib.hid hN
  have Hs := Lib.hid hs
  have hlen := hN.len
  clear hN hs
  go_enter Tryz.func23, Tryz.ntmps23
  go_wp2_with fail
  refine HC.out.mono ?_
  clear HC
  rintro e w1 ⟨rfl, hb1⟩
  by_cases hck : checkC L = 0
  · have hs := Hs.out hck
    have hkd := items_kind0 hs hck
    have HS := Lib.hid (qstarts p0 b off cap L s w1 (H.out.below hb1) hs fun x hx => (hkd x hx).1)
    have Hck := Lib.hid hck
    have HI := Lib.hid hs.lt
    have hsl := hs.len
    rw [hck]
    clear hck hs hkd Hs
    go_wp2_with fail
    refine HS.out.mono ?_
    clear HS
    rintro e w2 ⟨⟨v, rfl, hrow⟩, hb2⟩
    obtain ⟨p, g, c, rfl, hII⟩ := irow_seen hrow
    have hbw := hb1.trans (hb2.mono hb1.size)
    clear hb1 hb2 hrow
    go_wp2_with fail
    go_loopg [5, 6] (s.length + 1) (fun gg t5 t6 wr => ∃ i : Nat, gg = s.length + 1 - i ∧ i ≤ s.length ∧ t5 = .int .i64 (frmC L (s.take i)) ∧ t6 = .int .i64 i ∧ (s.take i).any (fun x => badN (nth L x)) = false ∧ Below w2.heap.size w2 wr)
    case atStart => exact ⟨0, rfl, Nat.zero_le _, rfl, rfl, rfl, .refl _ _⟩
    case round =>
      obtain ⟨i, rfl, hi, rfl, rfl, hbad, hbl⟩ := hrel
      have hi1 : (0 : Int) ≤ (i : Int) := by omega
      have Hbad := Lib.hid hbad
      have Hbl := Lib.hid hbl
      by_cases hin : i < s.length
      · have hi2 : (i : Int) < (s.length : Int) := by omega
        have hIr := hII.below hbl
        have cI := hIr.at_ i hin
        have hne : s ≠ [] := by intro e; rw [e] at hin; simp at hin
        obtain rfl := hII.hp hne
        have hmem : s[i] ∈ s := List.getElem_mem hin
        have hxl := (HI.out s[i] hmem).2
        have Htk := Lib.hid (List.take_succ_eq_append_getElem hin)
        obtain ⟨x, hx⟩ : ∃ x, s[i] = x := ⟨_, rfl⟩
        rw [hx] at cI hxl Htk
        clear hmem hx
        have hN2 := H.out.below (hbw.trans (hbl.mono hbw.size))
        have xa := hN2.nth hxl
        obtain rfl := hN2.at_ hxl
        have hx1 : (0 : Int) ≤ (x : Int) := by omega
        have hx2 : (x : Int) < (L.length : Int) := by omega
        obtain ⟨n, hn⟩ : ∃ n, nth L x = n := ⟨_, rfl⟩
        rw [hn] at xa
        have Hn := Lib.hid hn
        have hho : n.kind = 7 → 0 ≤ n.glue.ho := fun h => (good_ho (right_skip (check_right Hck.out n (by rw [← hn, nth_get hxl]; exact List.getElem_mem _)) h).1).2.1
        have Hin := Lib.hid hin
        clear hn hbl hbad hIr hN2 hin
        have HbB : Hid (badN n = true → colP L s = 50) := Lib.hid fun hb => by
          unfold colP
          rw [if_pos Hck.out, if_pos]
          refine List.any_eq_true.2 ⟨x, ?_, by rw [Hn.out]; exact hb⟩
          have := Htk.out ▸ (List.mem_append_right (s.take i) (List.mem_singleton_self x))
          exact List.mem_of_mem_take this
        have HbG : Hid (badN n = false → (s.take (i + 1)).any (fun x => badN (nth L x)) = false) := Lib.hid fun hb => by rw [Htk.out, List.any_append, Hbad.out, List.any_cons, Hn.out, hb]; rfl
        have dX : (wr.alloc (.cells n.arr 53)).heap[wr.heap.size]? = some (.cells n.arr 53 (0, 0)) := heap_alloc_new _ _
        have x0 : (wr.alloc (.cells n.arr 53)).cell? ⟨wr.heap.size, 0, none⟩ = some (.int .i64 n.kind) := by rw [cell?_blk' dX]; rfl
        have x9 : (wr.alloc (.cells n.arr 53)).cell? ⟨wr.heap.size, 9, none⟩ = some (.int .i64 n.glue.shr) := by rw [cell?_blk' dX]; rfl
        have x11 : (wr.alloc (.cells n.arr 53)).cell? ⟨wr.heap.size, 11, none⟩ = some (.int .i64 n.glue.ho) := by rw [cell?_blk' dX]; rfl
        have hb4 : Below w2.heap.size w2 (wr.alloc (.cells n.arr 53)) := Hbl.out.alloc Hbl.out.size _
        have hst := frmC_step (L := L) Htk.out
        rw [Hn.out] at hst
        have HT := Lib.hid (fun h => HbG.out h)
        generalize frmC L (s.take i) = f at hst ⊢
        have Hst := Lib.hid hst
        have Hho := Lib.hid hho
        have Hb4 := Lib.hid hb4
        clear hst hho hb4 dX
        cases k1 : (n.kind == 1)
        rotate_left
        · have Hc := Lib.hid (HbB.out (by simp [badN, k1]))
          go_wp2_with fail
          go_ret
          exact ⟨ret_int Hc.out.symm, hbw.trans (Hb4.out.mono hbw.size)⟩
        cases k2 : (n.kind == 2)
        rotate_left
        · have Hc := Lib.hid (HbB.out (by simp [badN, k2]))
          go_wp2_with fail
          go_ret
          exact ⟨ret_int Hc.out.symm, hbw.trans (Hb4.out.mono hbw.size)⟩
        cases k10 : (n.kind == 10)
        rotate_left
        · have Hc := Lib.hid (HbB.out (by simp [badN, k10]))
          go_wp2_with fail
          go_ret
          exact ⟨ret_int Hc.out.symm, hbw.trans (Hb4.out.mono hbw.size)⟩
        cases k15 : (n.kind == 15)
        rotate_left
        · have Hc := Lib.hid (HbB.out (by simp [badN, k15]))
          go_wp2_with fail
          go_ret
          exact ⟨ret_int Hc.out.symm, hbw.trans (Hb4.out.mono hbw.size)⟩
        cases k16 : (n.kind == 16)
        rotate_left
        · have Hc := Lib.hid (HbB.out (by simp [badN, k16]))
          go_wp2_with fail
          go_ret
          exact ⟨ret_int Hc.out.symm, hbw.trans (Hb4.out.mono hbw.size)⟩
        cases k17 : (n.kind == 17)
        rotate_left
        · have Hc := Lib.hid (HbB.out (by simp [badN, k17]))
          go_wp2_with fail
          go_ret
          exact ⟨ret_int Hc.out.symm, hbw.trans (Hb4.out.mono hbw.size)⟩
        have hg := HT.out (by simp [badN, k1, k2, k10, k15, k16, k17])
        have HG := Lib.hid hg
        clear hg
        cases k7 : (n.kind == 7)
        · have hf : frmC L (s.take (i + 1)) = f := by rw [Hst.out, show firmN n = true by simp [firmN, k7]]; rfl
          go_wp2_with fail
          go_roundg (s.length + 1 - (i + 1))
          case measure => have := Hin.out; omega
          case rel => exact ⟨i + 1, rfl, Hin.out, by rw [hf], by go_num, HG.out, Hb4.out⟩
        · have h0 := Hho.out (by simpa using k7)
          rcases Int.lt_or_le 0 n.glue.ho with hh | hh
          · cases kr : (n.glue.shr == 0)
            · have hr' : (n.glue.shr != 0) = true := by rw [bne, kr]; rfl
              have hf : frmC L (s.take (i + 1)) = 30 := by rw [Hst.out, show firmN n = false by simp [firmN, k7, kr]; omega]; rfl
              go_wp2_with fail
              go_roundg (s.length + 1 - (i + 1))
              case measure => have := Hin.out; omega
              case rel => exact ⟨i + 1, rfl, Hin.out, by rw [hf], by go_num, HG.out, Hb4.out⟩
            · have hr' : (n.glue.shr != 0) = false := by rw [bne, kr]; rfl
              have hf : frmC L (s.take (i + 1)) = f := by rw [Hst.out, show firmN n = true by simp [firmN, kr]]; rfl
              go_wp2_with fail
              go_roundg (s.length + 1 - (i + 1))
              case measure => have := Hin.out; omega
              case rel => exact ⟨i + 1, rfl, Hin.out, by rw [hf], by go_num, HG.out, Hb4.out⟩
          · have hf : frmC L (s.take (i + 1)) = f := by rw [Hst.out, show firmN n = true by simp [firmN]; omega]; rfl
            go_wp2_with fail
            go_roundg (s.length + 1 - (i + 1))
            case measure => have := Hin.out; omega
            case rel => exact ⟨i + 1, rfl, Hin.out, by rw [hf], by go_num, HG.out, Hb4.out⟩
      · have hi2 : (s.length : Int) ≤ (i : Int) := by omega
        have ht : s.take i = s := List.take_of_length_le (by omega)
        have hcol : colP L s = frmC L s := by
          have := Hbad.out
          rw [ht] at this
          unfold colP
          rw [if_pos Hck.out, this]; rfl
        have Hcol := Lib.hid hcol
        rw [ht]
        clear hcol ht
        go_wp2_with fail
        go_ret
        exact ⟨ret_int Hcol.out.symm, hbw.trans (hbl.mono hbw.size)⟩
  · have hck' : ((checkC L : Int) != 0) = true := by simpa using hck
    have Hcol : Hid (colP L s = checkC L) := Lib.hid (by unfold colP; rw [if_neg hck])
    clear hck
    go_wp2_with fail
    go_ret
    exact ⟨ret_int Hcol.out.symm, hb1⟩
end Go.Proofs.YtaehkbbdmamfpaaGreatDoor
