/-
  A law's arguments: a slice of nodes, opened: which nodes stand there; a glue by value.
-/
import Derived.Test.YtomehdepjenilaaGreatH0
import Derived.Test.YtomehdepjenilaaGreatPost
import Derived.SizedLaws
import Derived.Deep.Slices
import Derived.WideShapes
import Derived.Carry
import Derived.Deep.CondSized
namespace Go.Proofs.YtomehdepjenilaaGreat
open Go.ChangeShapes Go.WideShapes Go.ChangeAt Go.RowKit Go.Deep

section
variable {H : Type} {enc : TypeId × Value → H} {P : Program} {w : World} {base : Nat} {sp : Nat → Bool} {hd : Bool} {m : Nat}
theorem fldO {fs : Array Field} {xs : List (DataW H × List MemPlace)} {cs : List Value} (hx : xs.length = fs.size) (hf : ∀ (i : Nat) (f : Field), fs[i]? = some f → DataW.trod enc P w base sp hd m f.type ((cs.drop f.offset).take (P.cellsOf f.type)) = xs[i]?)
    {i t o n : Nat} (e : (fs[i]?).map (fun f => (f.type, f.offset)) = some (t, o)) (hn : P.cellsOf t = n) : ∃ y, DataW.trod enc P w base sp hd m t ((cs.drop o).take n) = some y := by
  obtain ⟨f, hf1, he⟩ := Option.map_eq_some_iff.1 e
  simp only [Prod.mk.injEq] at he
  obtain ⟨rfl, rfl⟩ := he
  have h := hf i f hf1
  have hi : i < xs.length := by rw [hx]; exact (Array.getElem?_eq_some_iff.1 hf1).1
  rw [hn, List.getElem?_eq_getElem hi] at h
  exact ⟨_, h⟩
end
theorem list5O {α : Type} : ∀ (l : List α), l.length = 5 → ∃ a b c d e, l = [a, b, c, d, e]
  | [a, b, c, d, e], _ => ⟨a, b, c, d, e, rfl⟩
theorem list19O {α : Type} : ∀ (l : List α), l.length = 19 → ∃ c0 c1 c2 c3 c4 c5 c6 c7 c8 c9 c10 c11 c12 c13 c14 c15 c16 c17 c18, l = [c0, c1, c2, c3, c4, c5, c6, c7, c8, c9, c10, c11, c12, c13, c14, c15, c16, c17, c18]
  | [c0, c1, c2, c3, c4, c5, c6, c7, c8, c9, c10, c11, c12, c13, c14, c15, c16, c17, c18], _ => ⟨c0, c1, c2, c3, c4, c5, c6, c7, c8, c9, c10, c11, c12, c13, c14, c15, c16, c17, c18, rfl⟩
theorem cellsO_int : Tryz.prog.cellsOf 3 = 1 := by kernel_rfl
theorem cellsO_u8 : Tryz.prog.cellsOf 5 = 1 := by kernel_rfl
theorem cellsO_str : Tryz.prog.cellsOf 9 = 1 := by kernel_rfl
theorem cellsO_gl : Tryz.prog.cellsOf 23 = 5 := by kernel_rfl
theorem cellsO_nd : Tryz.prog.cellsOf 49 = 19 := by kernel_rfl
theorem bytesO_nd : Tryz.prog.bytesOf 49 = 160 := by kernel_rfl
theorem ndO0 : ((Tryz.prog.fieldsOf 49)[0]?).map (fun f => (f.type, f.offset)) = some (3, 0) := by kernel_rfl
theorem ndO1 : ((Tryz.prog.fieldsOf 49)[1]?).map (fun f => (f.type, f.offset)) = some (3, 1) := by kernel_rfl
theorem ndO2 : ((Tryz.prog.fieldsOf 49)[2]?).map (fun f => (f.type, f.offset)) = some (5, 2) := by kernel_rfl
theorem ndO3 : ((Tryz.prog.fieldsOf 49)[3]?).map (fun f => (f.type, f.offset)) = some (3, 3) := by kernel_rfl
theorem ndO4 : ((Tryz.prog.fieldsOf 49)[4]?).map (fun f => (f.type, f.offset)) = some (3, 4) := by kernel_rfl
theorem ndO5 : ((Tryz.prog.fieldsOf 49)[5]?).map (fun f => (f.type, f.offset)) = some (3, 5) := by kernel_rfl
theorem ndO6 : ((Tryz.prog.fieldsOf 49)[6]?).map (fun f => (f.type, f.offset)) = some (3, 6) := by kernel_rfl
theorem ndO7 : ((Tryz.prog.fieldsOf 49)[7]?).map (fun f => (f.type, f.offset)) = some (23, 7) := by kernel_rfl
theorem ndO8 : ((Tryz.prog.fieldsOf 49)[8]?).map (fun f => (f.type, f.offset)) = some (3, 12) := by kernel_rfl
theorem ndO9 : ((Tryz.prog.fieldsOf 49)[9]?).map (fun f => (f.type, f.offset)) = some (3, 13) := by kernel_rfl
theorem ndO10 : ((Tryz.prog.fieldsOf 49)[10]?).map (fun f => (f.type, f.offset)) = some (3, 14) := by kernel_rfl
theorem ndO11 : ((Tryz.prog.fieldsOf 49)[11]?).map (fun f => (f.type, f.offset)) = some (3, 15) := by kernel_rfl
theorem ndO12 : ((Tryz.prog.fieldsOf 49)[12]?).map (fun f => (f.type, f.offset)) = some (3, 16) := by kernel_rfl
theorem ndO13 : ((Tryz.prog.fieldsOf 49)[13]?).map (fun f => (f.type, f.offset)) = some (3, 17) := by kernel_rfl
theorem ndO14 : ((Tryz.prog.fieldsOf 49)[14]?).map (fun f => (f.type, f.offset)) = some (9, 18) := by kernel_rfl
theorem glO0 : ((Tryz.prog.fieldsOf 23)[0]?).map (fun f => (f.type, f.offset)) = some (3, 0) := by kernel_rfl
theorem glO1 : ((Tryz.prog.fieldsOf 23)[1]?).map (fun f => (f.type, f.offset)) = some (3, 1) := by kernel_rfl
theorem glO2 : ((Tryz.prog.fieldsOf 23)[2]?).map (fun f => (f.type, f.offset)) = some (3, 2) := by kernel_rfl
theorem glO3 : ((Tryz.prog.fieldsOf 23)[3]?).map (fun f => (f.type, f.offset)) = some (3, 3) := by kernel_rfl
theorem glO4 : ((Tryz.prog.fieldsOf 23)[4]?).map (fun f => (f.type, f.offset)) = some (3, 4) := by kernel_rfl
section
variable {H : Type} {enc : TypeId × Value → H} {w : World} {base : Nat} {sp : Nat → Bool} {hd : Bool} {m : Nat}
theorem glueO_cells {cs : List Value} {x : DataW H × List MemPlace} (h : DataW.trod enc Tryz.prog w base sp hd m 23 cs = some x) (hl : cs.length = 5) : ∃ g : Gl, cs = g.cells := by
  obtain ⟨xs, n, _, _, _, hx, hf⟩ := DataW.trod_struct u_gl h
  obtain ⟨_, y0⟩ := fldO hx hf glO0 cellsO_int
  obtain ⟨_, y1⟩ := fldO hx hf glO1 cellsO_int
  obtain ⟨_, y2⟩ := fldO hx hf glO2 cellsO_int
  obtain ⟨_, y3⟩ := fldO hx hf glO3 cellsO_int
  obtain ⟨_, y4⟩ := fldO hx hf glO4 cellsO_int
  obtain ⟨k0, e0, _⟩ := DataW.trod_int Tryz.underlying3 y0
  obtain ⟨k1, e1, _⟩ := DataW.trod_int Tryz.underlying3 y1
  obtain ⟨k2, e2, _⟩ := DataW.trod_int Tryz.underlying3 y2
  obtain ⟨k3, e3, _⟩ := DataW.trod_int Tryz.underlying3 y3
  obtain ⟨k4, e4, _⟩ := DataW.trod_int Tryz.underlying3 y4
  clear y0 y1 y2 y3 y4 hf hx h
  obtain ⟨c0, c1, c2, c3, c4, rfl⟩ := list5O cs hl
  simp at e0 e1 e2 e3 e4
  subst e0 e1 e2 e3 e4
  exact ⟨⟨k0, k1, k2, k3, k4⟩, rfl⟩
theorem nodeO_cells {cs : List Value} {x : DataW H × List MemPlace} (h : DataW.trod enc Tryz.prog w base sp hd m 49 cs = some x) (hl : cs.length = 19) : ∃ s : Nd, cs = s.cells := by
  obtain ⟨xs, n, _, _, _, hx, hf⟩ := DataW.trod_struct u_nd h
  obtain ⟨_, y0⟩ := fldO hx hf ndO0 cellsO_int
  obtain ⟨_, y1⟩ := fldO hx hf ndO1 cellsO_int
  obtain ⟨_, y2⟩ := fldO hx hf ndO2 cellsO_u8
  obtain ⟨_, y3⟩ := fldO hx hf ndO3 cellsO_int
  obtain ⟨_, y4⟩ := fldO hx hf ndO4 cellsO_int
  obtain ⟨_, y5⟩ := fldO hx hf ndO5 cellsO_int
  obtain ⟨_, y6⟩ := fldO hx hf ndO6 cellsO_int
  obtain ⟨_, y7⟩ := fldO hx hf ndO7 cellsO_gl
  obtain ⟨_, y8⟩ := fldO hx hf ndO8 cellsO_int
  obtain ⟨_, y9⟩ := fldO hx hf ndO9 cellsO_int
  obtain ⟨_, y10⟩ := fldO hx hf ndO10 cellsO_int
  obtain ⟨_, y11⟩ := fldO hx hf ndO11 cellsO_int
  obtain ⟨_, y12⟩ := fldO hx hf ndO12 cellsO_int
  obtain ⟨_, y13⟩ := fldO hx hf ndO13 cellsO_int
  obtain ⟨_, y14⟩ := fldO hx hf ndO14 cellsO_str
  obtain ⟨k0, e0, _⟩ := DataW.trod_int Tryz.underlying3 y0
  obtain ⟨k1, e1, _⟩ := DataW.trod_int Tryz.underlying3 y1
  obtain ⟨k2, e2, _⟩ := DataW.trod_int Tryz.underlying5 y2
  obtain ⟨k3, e3, _⟩ := DataW.trod_int Tryz.underlying3 y3
  obtain ⟨k4, e4, _⟩ := DataW.trod_int Tryz.underlying3 y4
  obtain ⟨k5, e5, _⟩ := DataW.trod_int Tryz.underlying3 y5
  obtain ⟨k6, e6, _⟩ := DataW.trod_int Tryz.underlying3 y6
  obtain ⟨k7, e7⟩ := glueO_cells y7 (by simp; omega)
  obtain ⟨k8, e8, _⟩ := DataW.trod_int Tryz.underlying3 y8
  obtain ⟨k9, e9, _⟩ := DataW.trod_int Tryz.underlying3 y9
  obtain ⟨k10, e10, _⟩ := DataW.trod_int Tryz.underlying3 y10
  obtain ⟨k11, e11, _⟩ := DataW.trod_int Tryz.underlying3 y11
  obtain ⟨k12, e12, _⟩ := DataW.trod_int Tryz.underlying3 y12
  obtain ⟨k13, e13, _⟩ := DataW.trod_int Tryz.underlying3 y13
  obtain ⟨k14, e14, _⟩ := DataW.trod_string Tryz.underlying9 y14
  clear y0 y1 y2 y3 y4 y5 y6 y7 y8 y9 y10 y11 y12 y13 y14 hf hx h
  obtain ⟨c0, c1, c2, c3, c4, c5, c6, c7, c8, c9, c10, c11, c12, c13, c14, c15, c16, c17, c18, rfl⟩ := list19O cs hl
  simp at e0 e1 e2 e3 e4 e5 e6 e8 e9 e10 e11 e12 e13 e14
  subst e0 e1 e2 e3 e4 e5 e6 e8 e9 e10 e11 e12 e13 e14
  simp [Gl.cells] at e7
  obtain ⟨rfl, rfl, rfl, rfl, rfl⟩ := e7
  exact ⟨⟨k0, k1, k2, k3, k4, k5, k6, k7, k8, k9, k10, k11, k12, k13, k14⟩, rfl⟩
theorem add_plainO (b off j : Nat) : (⟨b, off, none⟩ : Addr).add j = ⟨b, off + j, none⟩ := by unfold Addr.add; split <;> simp_all
theorem open_nodes {w : World} {fuel : Nat} {a0 : Option Addr} {len cap : Nat} {d : DataW H} {p : List MemPlace} {ds : List (DataW H)} {ts : List TypeId} (h : DataW.trod enc Tryz.prog w 0 (fun _ => true) true fuel 27 [.slice a0 len cap] = some (d, p))
    (hsz : (DataW.weightsEach Tryz.prog ts ds).all (· ≤ reachBytes) = true) (hts : ts[0]? = some 27) (hds : ds[0]? = some d) :
    ∃ (b off : Nat) (L : List Nd), L.length = len ∧ NIn w a0 b off cap L := by
  rcases open_slice Tryz.underlying27 h with ⟨hcs, _⟩ | ⟨a, len', cap', m, n, D, Pl, hcs, _, hl, hm, hmm, hx, hi⟩
  · simp only [List.cons.injEq, Value.slice.injEq, and_true] at hcs
    obtain ⟨rfl, rfl, rfl⟩ := hcs
    exact ⟨0, 0, [], rfl, fun e => absurd rfl e, fun e => absurd rfl e, fun j hj => by simp at hj, Nat.le_refl _, by simp⟩
  · simp only [List.cons.injEq, Value.slice.injEq, and_true] at hcs
    obtain ⟨e1, e2, e3⟩ := hcs
    subst e1 e2 e3
    simp only [if_true] at hmm
    have hmm2 := hmm.symm
    subst hmm2
    rw [cellsO_nd] at hi
    have hel : ∀ i, i < len → ∃ s : Nd, ∀ k, k < 19 → w.cell? (a.add (i * 19 + k)) = s.cells[k]? := by
      intro i hlt
      obtain ⟨cs', hc, ht⟩ := hi i (by omega)
      obtain ⟨_, hcl, hat⟩ := World.cells?_some hc
      obtain ⟨s, rfl⟩ := nodeO_cells ht hcl
      exact ⟨s, fun k hk => by rw [← hat k hk, add_add]⟩
    have hreach : len * 160 ≤ 140737488351232 := by
      simp only [Prod.mk.injEq] at hx
      have := sized_slice hsz (j := 0) hts (by rw [hds, hx.1]) Tryz.underlying27
      rw [bytesO_nd] at this
      simp only [List.length_map, List.length_range, reachBytes] at this
      have h2 : len * 160 ≤ (len + (cap - len)) * 160 := Nat.mul_le_mul_right _ (by omega)
      omega
    have hf : ∃ f : Nat → Nd, ∀ i, i < len → ∀ k, k < 19 → w.cell? (a.add (i * 19 + k)) = (f i).cells[k]? :=
      ⟨fun i => if hlt : i < len then (hel i hlt).choose else default, fun i hlt => by simp only [dif_pos hlt]; exact (hel i hlt).choose_spec⟩
    obtain ⟨f, hf⟩ := hf
    obtain ⟨b, off, spot⟩ := a
    by_cases h0 : len = 0
    · subst h0
      exact ⟨0, 0, [], rfl, fun e => absurd rfl e, fun e => absurd rfl e, fun j hj => by simp at hj, Nat.zero_le _, by simp⟩
    · have h00 := hf 0 (by omega) 0 (by omega)
      have hspot : spot = none := by simpa [Addr.add] using World.cell?_spot (show w.cell? ((⟨b, off, spot⟩ : Addr).add (0 * 19 + 0)) = some (.int .i64 (f 0).kind) from h00)
      subst hspot
      have hblt : b < w.heap.size := World.block_lt_of_cell? _ _ (show w.cell? (⟨b, off, none⟩ : Addr) = some (.int .i64 (f 0).kind) from h00)
      refine ⟨b, off, (List.range len).map f, by simp, fun _ => rfl, fun _ => hblt, fun j hj => ?_, by simpa using hl, by simpa using hreach⟩
      have hj' : j < len := by simpa using hj
      refine agg_of_cells (by omega) (by simp [Nd.size_arr]) fun k hk => ?_
      have := hf j hj' k hk
      rw [add_plainO] at this
      rw [Nat.add_assoc, this]
      simp [Nd.arr]
end
theorem laidOutO : laidOutB Tryz.prog = true := by kernel_rfl
end Go.Proofs.YtomehdepjenilaaGreat
