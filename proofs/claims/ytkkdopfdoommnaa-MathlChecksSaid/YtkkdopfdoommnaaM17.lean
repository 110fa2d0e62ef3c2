/-
  Layer 20: a law's argument, a slice of the document's signs, opened: which signs stand there.
-/
import Derived.Test.YtkkdopfdoommnaaM15
import Derived.Test.YtkkdopfdoommnaaPost
import Derived.SizedLaws
namespace Go.Proofs.Ytkkdopfdoommnaa
open Go.ChangeShapes Go.WideShapes Go.ChangeAt Go.RowKit Go.Deep

section
variable {H : Type} {enc : TypeId × Value → H} {P : Program} {w : World} {base : Nat} {sp : Nat → Bool} {hd : Bool} {m : Nat}
theorem fld {fs : Array Field} {xs : List (DataW H × List MemPlace)} {cs : List Value} (hx : xs.length = fs.size) (hf : ∀ (i : Nat) (f : Field), fs[i]? = some f → DataW.trod enc P w base sp hd m f.type ((cs.drop f.offset).take (P.cellsOf f.type)) = xs[i]?)
    {i t o n : Nat} (e : (fs[i]?).map (fun f => (f.type, f.offset)) = some (t, o)) (hn : P.cellsOf t = n) : ∃ y, DataW.trod enc P w base sp hd m t ((cs.drop o).take n) = some y := by
  obtain ⟨f, hf1, he⟩ := Option.map_eq_some_iff.1 e
  simp only [Prod.mk.injEq] at he
  obtain ⟨rfl, rfl⟩ := he
  have h := hf i f hf1
  have hi : i < xs.length := by rw [hx]; exact (Array.getElem?_eq_some_iff.1 hf1).1
  rw [hn, List.getElem?_eq_getElem hi] at h
  exact ⟨_, h⟩
end
theorem list5 {α : Type} : ∀ (l : List α), l.length = 5 → ∃ a b c d e, l = [a, b, c, d, e]
  | [a, b, c, d, e], _ => ⟨a, b, c, d, e, rfl⟩
theorem list9 {α : Type} : ∀ (l : List α), l.length = 9 → ∃ a b c d e f g h i, l = [a, b, c, d, e, f, g, h, i]
  | [a, b, c, d, e, f, g, h, i], _ => ⟨a, b, c, d, e, f, g, h, i, rfl⟩
theorem cells_int : Try.prog.cellsOf 3 = 1 := by kernel_rfl
theorem cells_u8 : Try.prog.cellsOf 5 = 1 := by kernel_rfl
theorem cells_gl : Try.prog.cellsOf 23 = 5 := by kernel_rfl
theorem cells_rsn : Try.prog.cellsOf 105 = 9 := by kernel_rfl
theorem bytes_rsn : Try.prog.bytesOf 105 = 72 := by kernel_rfl
theorem rs0 : ((Try.prog.fieldsOf 105)[0]?).map (fun f => (f.type, f.offset)) = some (3, 0) := by kernel_rfl
theorem rs1 : ((Try.prog.fieldsOf 105)[1]?).map (fun f => (f.type, f.offset)) = some (3, 1) := by kernel_rfl
theorem rs2 : ((Try.prog.fieldsOf 105)[2]?).map (fun f => (f.type, f.offset)) = some (5, 2) := by kernel_rfl
theorem rs3 : ((Try.prog.fieldsOf 105)[3]?).map (fun f => (f.type, f.offset)) = some (3, 3) := by kernel_rfl
theorem rs4 : ((Try.prog.fieldsOf 105)[4]?).map (fun f => (f.type, f.offset)) = some (23, 4) := by kernel_rfl
theorem gl0 : ((Try.prog.fieldsOf 23)[0]?).map (fun f => (f.type, f.offset)) = some (3, 0) := by kernel_rfl
theorem gl1 : ((Try.prog.fieldsOf 23)[1]?).map (fun f => (f.type, f.offset)) = some (3, 1) := by kernel_rfl
theorem gl2 : ((Try.prog.fieldsOf 23)[2]?).map (fun f => (f.type, f.offset)) = some (3, 2) := by kernel_rfl
theorem gl3 : ((Try.prog.fieldsOf 23)[3]?).map (fun f => (f.type, f.offset)) = some (3, 3) := by kernel_rfl
theorem gl4 : ((Try.prog.fieldsOf 23)[4]?).map (fun f => (f.type, f.offset)) = some (3, 4) := by kernel_rfl
section
variable {H : Type} {enc : TypeId × Value → H} {w : World} {base : Nat} {sp : Nat → Bool} {hd : Bool} {m : Nat}
theorem glue_cells {cs : List Value} {x : DataW H × List MemPlace} (h : DataW.trod enc Try.prog w base sp hd m 23 cs = some x) (hl : cs.length = 5) : ∃ g : Gl, cs = g.cells := by
  obtain ⟨xs, n, _, _, _, hx, hf⟩ := DataW.trod_struct u_gl h
  obtain ⟨_, y0⟩ := fld hx hf gl0 cells_int
  obtain ⟨_, y1⟩ := fld hx hf gl1 cells_int
  obtain ⟨_, y2⟩ := fld hx hf gl2 cells_int
  obtain ⟨_, y3⟩ := fld hx hf gl3 cells_int
  obtain ⟨_, y4⟩ := fld hx hf gl4 cells_int
  obtain ⟨k0, e0, _⟩ := DataW.trod_int Try.underlying3 y0
  obtain ⟨k1, e1, _⟩ := DataW.trod_int Try.underlying3 y1
  obtain ⟨k2, e2, _⟩ := DataW.trod_int Try.underlying3 y2
  obtain ⟨k3, e3, _⟩ := DataW.trod_int Try.underlying3 y3
  obtain ⟨k4, e4, _⟩ := DataW.trod_int Try.underlying3 y4
  clear y0 y1 y2 y3 y4 hf hx h
  obtain ⟨c0, c1, c2, c3, c4, rfl⟩ := list5 cs hl
  simp at e0 e1 e2 e3 e4
  subst e0 e1 e2 e3 e4
  exact ⟨⟨k0, k1, k2, k3, k4⟩, rfl⟩
theorem sign_cells {cs : List Value} {x : DataW H × List MemPlace} (h : DataW.trod enc Try.prog w base sp hd m 105 cs = some x) (hl : cs.length = 9) : ∃ s : Sn, cs = s.cells := by
  obtain ⟨xs, n, _, _, _, hx, hf⟩ := DataW.trod_struct u_RSn h
  obtain ⟨_, y0⟩ := fld hx hf rs0 cells_int
  obtain ⟨_, y1⟩ := fld hx hf rs1 cells_int
  obtain ⟨_, y2⟩ := fld hx hf rs2 cells_u8
  obtain ⟨_, y3⟩ := fld hx hf rs3 cells_int
  obtain ⟨_, y4⟩ := fld hx hf rs4 cells_gl
  obtain ⟨k0, e0, _⟩ := DataW.trod_int Try.underlying3 y0
  obtain ⟨k1, e1, _⟩ := DataW.trod_int Try.underlying3 y1
  obtain ⟨k2, e2, _⟩ := DataW.trod_int Try.underlying5 y2
  obtain ⟨k3, e3, _⟩ := DataW.trod_int Try.underlying3 y3
  obtain ⟨g, e4⟩ := glue_cells y4 (by simp; omega)
  clear y0 y1 y2 y3 y4 hf hx h
  obtain ⟨c0, c1, c2, c3, c4, c5, c6, c7, c8, rfl⟩ := list9 cs hl
  simp at e0 e1 e2 e3
  subst e0 e1 e2 e3
  simp [Gl.cells] at e4
  obtain ⟨rfl, rfl, rfl, rfl, rfl⟩ := e4
  exact ⟨⟨k0, k1, k2, k3, g⟩, rfl⟩

/-- THE ARGUMENT: which signs stand there. -/
theorem open_signs {fuel : Nat} {a0 : Option Addr} {len cap : Nat} {d : DataW H} {p : List MemPlace} {ds : List (DataW H)} {ts : List TypeId} (h : DataW.trod enc Try.prog w 0 (fun _ => true) true fuel 36 [.slice a0 len cap] = some (d, p))
    (hsz : (DataW.weightsEach Try.prog ts ds).all (· ≤ reachBytes) = true) (hts : ts[0]? = some 36) (hds : ds[0]? = some d) :
    ∃ (b off : Nat) (L : List Sn), L.length = len ∧ RSigns w a0 b off cap L := by
  rcases open_slice Try.underlying36 h with ⟨hcs, _⟩ | ⟨a, len', cap', m, n, D, Pl, hcs, _, hl, hm, hmm, hx, hi⟩
  · simp only [List.cons.injEq, Value.slice.injEq, and_true] at hcs
    obtain ⟨rfl, rfl, rfl⟩ := hcs
    exact ⟨0, 0, [], rfl, fun e => absurd rfl e, fun e => absurd rfl e, fun j hj => by simp at hj, Nat.le_refl _, by simp⟩
  · simp only [List.cons.injEq, Value.slice.injEq, and_true] at hcs
    obtain ⟨e1, e2, e3⟩ := hcs
    subst e1 e2 e3
    simp only [if_true] at hmm
    have hmm2 := hmm.symm
    subst hmm2
    rw [cells_rsn] at hi
    have hel : ∀ i, i < len → ∃ s : Sn, ∀ k, k < 9 → w.cell? (a.add (i * 9 + k)) = s.cells[k]? := by
      intro i hlt
      obtain ⟨cs', hc, ht⟩ := hi i (by omega)
      obtain ⟨_, hcl, hat⟩ := World.cells?_some hc
      obtain ⟨s, rfl⟩ := sign_cells ht hcl
      exact ⟨s, fun k hk => by rw [← hat k hk, add_add]⟩
    have hreach : len * 72 ≤ 140737488351232 := by
      simp only [Prod.mk.injEq] at hx
      have := sized_slice hsz (j := 0) hts (by rw [hds, hx.1]) Try.underlying36
      rw [bytes_rsn] at this
      simp only [List.length_map, List.length_range, reachBytes] at this
      have h2 : len * 72 ≤ (len + (cap - len)) * 72 := Nat.mul_le_mul_right _ (by omega)
      omega
    have hf : ∃ f : Nat → Sn, ∀ i, i < len → ∀ k, k < 9 → w.cell? (a.add (i * 9 + k)) = (f i).cells[k]? :=
      ⟨fun i => if hlt : i < len then (hel i hlt).choose else default, fun i hlt => by simp only [dif_pos hlt]; exact (hel i hlt).choose_spec⟩
    obtain ⟨f, hf⟩ := hf
    obtain ⟨b, off, spot⟩ := a
    by_cases h0 : len = 0
    · subst h0
      exact ⟨0, 0, [], rfl, fun e => absurd rfl e, fun e => absurd rfl e, fun j hj => by simp at hj, Nat.zero_le _, by simp⟩
    · have h00 := hf 0 (by omega) 0 (by omega)
      have hspot : spot = none := by simpa [Addr.add] using World.cell?_spot (show w.cell? ((⟨b, off, spot⟩ : Addr).add (0 * 9 + 0)) = some (.int .i64 (f 0).kind) from h00)
      subst hspot
      have hblt : b < w.heap.size := World.block_lt_of_cell? _ _ (show w.cell? (⟨b, off, none⟩ : Addr) = some (.int .i64 (f 0).kind) from h00)
      refine ⟨b, off, (List.range len).map f, by simp, fun _ => rfl, fun _ => hblt, fun j hj => ?_, by simpa using hl, by simpa using hreach⟩
      have hj' : j < len := by simpa using hj
      refine agg_of_cells (by omega) (by simp [Sn.size_arr]) fun k hk => ?_
      have := hf j hj' k hk
      rw [add_plain] at this
      rw [Nat.add_assoc, this]
      simp [Sn.arr]
end
theorem laidOut : laidOutB Try.prog = true := by kernel_rfl
end Go.Proofs.Ytkkdopfdoommnaa
