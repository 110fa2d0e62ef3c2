/-
  A law's arguments: a paragraph's parameters by value, opened: its shape lies in memory. No statement of the seat stands here.
-/
import Derived.Test.YtiijpbfkchokaaaGreatB4
import Derived.Test.YtiijpbfkchokaaaGreatOpen
namespace Go.Proofs.YtiijpbfkchokaaaGreat
set_option maxRecDepth 10000
open Go.ChangeShapes Go.WideShapes Go.ChangeAt Go.RowKit Go.Deep
theorem list24O {α : Type} : ∀ (l : List α), l.length = 24 → ∃ c0 c1 c2 c3 c4 c5 c6 c7 c8 c9 c10 c11 c12 c13 c14 c15 c16 c17 c18 c19 c20 c21 c22 c23, l = [c0, c1, c2, c3, c4, c5, c6, c7, c8, c9, c10, c11, c12, c13, c14, c15, c16, c17, c18, c19, c20, c21, c22, c23]
  | [c0, c1, c2, c3, c4, c5, c6, c7, c8, c9, c10, c11, c12, c13, c14, c15, c16, c17, c18, c19, c20, c21, c22, c23], _ => ⟨c0, c1, c2, c3, c4, c5, c6, c7, c8, c9, c10, c11, c12, c13, c14, c15, c16, c17, c18, c19, c20, c21, c22, c23, rfl⟩
theorem list2O {α : Type} : ∀ (l : List α), l.length = 2 → ∃ c0 c1, l = [c0, c1]
  | [c0, c1], _ => ⟨c0, c1, rfl⟩
theorem u_pm : Tryz.prog.underlying 27 = some (.struct (Tryz.prog.fieldsOf 27)) := by kernel_rfl
theorem cellsO_pm : Tryz.prog.cellsOf 27 = 24 := by kernel_rfl
theorem cellsO_sh : Tryz.prog.cellsOf 25 = 1 := by kernel_rfl
theorem cellsO_s2 : Tryz.prog.cellsOf 108 = 2 := by kernel_rfl
theorem bytesO_s2 : Tryz.prog.bytesOf 108 = 16 := by kernel_rfl
theorem pmO0 : ((Tryz.prog.fieldsOf 27)[0]?).map (fun f => (f.type, f.offset)) = some (3, 0) := by kernel_rfl
theorem pmO1 : ((Tryz.prog.fieldsOf 27)[1]?).map (fun f => (f.type, f.offset)) = some (3, 1) := by kernel_rfl
theorem pmO2 : ((Tryz.prog.fieldsOf 27)[2]?).map (fun f => (f.type, f.offset)) = some (3, 2) := by kernel_rfl
theorem pmO3 : ((Tryz.prog.fieldsOf 27)[3]?).map (fun f => (f.type, f.offset)) = some (3, 3) := by kernel_rfl
theorem pmO4 : ((Tryz.prog.fieldsOf 27)[4]?).map (fun f => (f.type, f.offset)) = some (3, 4) := by kernel_rfl
theorem pmO5 : ((Tryz.prog.fieldsOf 27)[5]?).map (fun f => (f.type, f.offset)) = some (3, 5) := by kernel_rfl
theorem pmO6 : ((Tryz.prog.fieldsOf 27)[6]?).map (fun f => (f.type, f.offset)) = some (3, 6) := by kernel_rfl
theorem pmO7 : ((Tryz.prog.fieldsOf 27)[7]?).map (fun f => (f.type, f.offset)) = some (3, 7) := by kernel_rfl
theorem pmO8 : ((Tryz.prog.fieldsOf 27)[8]?).map (fun f => (f.type, f.offset)) = some (3, 8) := by kernel_rfl
theorem pmO9 : ((Tryz.prog.fieldsOf 27)[9]?).map (fun f => (f.type, f.offset)) = some (3, 9) := by kernel_rfl
theorem pmO10 : ((Tryz.prog.fieldsOf 27)[10]?).map (fun f => (f.type, f.offset)) = some (24, 10) := by kernel_rfl
theorem pmO11 : ((Tryz.prog.fieldsOf 27)[11]?).map (fun f => (f.type, f.offset)) = some (24, 15) := by kernel_rfl
theorem pmO12 : ((Tryz.prog.fieldsOf 27)[12]?).map (fun f => (f.type, f.offset)) = some (3, 20) := by kernel_rfl
theorem pmO13 : ((Tryz.prog.fieldsOf 27)[13]?).map (fun f => (f.type, f.offset)) = some (3, 21) := by kernel_rfl
theorem pmO14 : ((Tryz.prog.fieldsOf 27)[14]?).map (fun f => (f.type, f.offset)) = some (3, 22) := by kernel_rfl
theorem pmO15 : ((Tryz.prog.fieldsOf 27)[15]?).map (fun f => (f.type, f.offset)) = some (25, 23) := by kernel_rfl
section
variable {H : Type} {enc : TypeId × Value → H}
theorem pairO_cells {w : World} {base : Nat} {sp : Nat → Bool} {hd : Bool} {m : Nat} {cs : List Value} {x : DataW H × List MemPlace} (h : DataW.trod enc Tryz.prog w base sp hd m 108 cs = some x) (hl : cs.length = 2) : ∃ s : Sh2, cs = s.cells := by
  obtain ⟨xs, n, _, _, _, hx, hf⟩ := DataW.trod_array Tryz.underlying108 h
  have h0 := hf 0 (by decide)
  have h1 := hf 1 (by decide)
  rw [cellsO_int, List.getElem?_eq_getElem (by omega)] at h0 h1
  obtain ⟨k0, e0, _⟩ := DataW.trod_int Tryz.underlying3 h0
  obtain ⟨k1, e1, _⟩ := DataW.trod_int Tryz.underlying3 h1
  clear h0 h1 hf h
  obtain ⟨c0, c1, rfl⟩ := list2O cs hl
  simp at e0 e1
  subst e0 e1
  exact ⟨⟨k0, k1⟩, rfl⟩
theorem open_shape {w : World} {fuel : Nat} {cs : List Value} {d : DataW H} {p : List MemPlace} (h : DataW.trod enc Tryz.prog w 0 (fun _ => true) true fuel 25 cs = some (d, p))
    (hsz : ∀ n ∈ d.weights Tryz.prog 25, n ≤ reachBytes) :
    ∃ (a0 : Option Addr) (len cap g off : Nat) (S : List Sh2), cs = [.slice a0 len cap] ∧ S.length = len ∧ (S ≠ [] → a0 = some ⟨g, off, none⟩) ∧ (S ≠ [] → g < w.heap.size) ∧ (∀ i (hi : i < S.length), agg? w g (off + i * 2) 2 = some S[i].arr) ∧ S.length ≤ cap ∧ S.length * 16 ≤ 140737488351232 := by
  rcases open_slice Tryz.underlying25 h with ⟨hcs, _⟩ | ⟨a, len, cap, m, n, D, Pl, hcs, _, hl, hm, hmm, hx, hi⟩
  · exact ⟨none, 0, 0, 0, 0, [], hcs, rfl, fun e => absurd rfl e, fun e => absurd rfl e, fun j hj => by simp at hj, Nat.le_refl _, by simp⟩
  · simp only [if_true] at hmm
    have hmm2 := hmm.symm
    subst hmm2
    rw [cellsO_s2] at hi
    have hel : ∀ i, i < len → ∃ s : Sh2, ∀ k, k < 2 → w.cell? (a.add (i * 2 + k)) = s.cells[k]? := by
      intro i hlt
      obtain ⟨cs', hc, ht⟩ := hi i (by omega)
      obtain ⟨_, hcl, hat⟩ := World.cells?_some hc
      obtain ⟨s, rfl⟩ := pairO_cells ht hcl
      exact ⟨s, fun k hk => by rw [← hat k hk, add_add]⟩
    have hreach : len * 16 ≤ 140737488351232 := by
      simp only [Prod.mk.injEq] at hx
      have h1 := hsz ((len + (cap - len)) * 16) (by
        rw [hx.1]
        simp only [DataW.weights, Tryz.underlying25, bytesO_s2]
        simp)
      simp only [reachBytes] at h1
      have h2 : len * 16 ≤ (len + (cap - len)) * 16 := Nat.mul_le_mul_right _ (by omega)
      omega
    have hf : ∃ f : Nat → Sh2, ∀ i, i < len → ∀ k, k < 2 → w.cell? (a.add (i * 2 + k)) = (f i).cells[k]? :=
      ⟨fun i => if hlt : i < len then (hel i hlt).choose else default, fun i hlt => by simp only [dif_pos hlt]; exact (hel i hlt).choose_spec⟩
    obtain ⟨f, hf⟩ := hf
    obtain ⟨b, off, spot⟩ := a
    by_cases h0 : len = 0
    · subst h0
      exact ⟨_, 0, cap, 0, 0, [], hcs, rfl, fun e => absurd rfl e, fun e => absurd rfl e, fun j hj => by simp at hj, Nat.zero_le _, by simp⟩
    · have h00 := hf 0 (by omega) 0 (by omega)
      have hspot : spot = none := by simpa [Addr.add] using World.cell?_spot (show w.cell? ((⟨b, off, spot⟩ : Addr).add (0 * 2 + 0)) = some (.int .i64 (f 0).a) from h00)
      subst hspot
      have hblt : b < w.heap.size := World.block_lt_of_cell? _ _ (show w.cell? (⟨b, off, none⟩ : Addr) = some (.int .i64 (f 0).a) from h00)
      refine ⟨some ⟨b, off, none⟩, len, cap, b, off, (List.range len).map f, hcs, by simp, fun _ => rfl, fun _ => hblt, fun j hj => ?_, by simpa using hl, by simpa using hreach⟩
      have hj' : j < len := by simpa using hj
      refine agg_of_cells (by omega) (by simp [Sh2.size_arr]) fun k hk => ?_
      have := hf j hj' k hk
      rw [add_plainO] at this
      rw [Nat.add_assoc, this]
      simp [Sh2.arr]
theorem weight_field {ts : List TypeId} {ds : List (DataW H)} {N : Nat} (h : ∀ n ∈ DataW.weightsEach Tryz.prog ts ds, n ≤ N) {j : Nat} {t : TypeId} {d : DataW H} (ht : ts[j]? = some t) (hd : ds[j]? = some d) : ∀ n ∈ d.weights Tryz.prog t, n ≤ N := fun n hn => h n (DataW.weights_mem_each ht hd n hn)
set_option maxRecDepth 100000 in
theorem open_params {w : World} {r : Reach} {b0 fuel : Nat} {v : Value} {d : DataW H} {p : List MemPlace} {ds : List (DataW H)} {ts : List TypeId} {j0 : Nat} (hv : Value.okWide Tryz.prog w r b0 27 v)
    (h : DataW.trod enc Tryz.prog w 0 (fun _ => true) true fuel 27 v.cells.toList = some (d, p)) (hsz : (DataW.weightsEach Tryz.prog ts ds).all (· ≤ reachBytes) = true) (hts : ts[j0]? = some 27) (hds : ds[j0]? = some d) :
    ∃ (P : Pm) (g off : Nat) (S : List Sh2), v = .agg P.arr ∧ ShIn w P g off S := by
  obtain ⟨cs, rfl, hsize⟩ := okWide_struct u_pm hv
  have h24 : cs.size = 24 := hsize.trans cellsO_pm
  have hf2 : DataW.trod enc Tryz.prog w 0 (fun _ => true) true fuel 27 cs.toList = some (d, p) := h
  obtain ⟨l, rfl⟩ : ∃ l : List Value, cs = l.toArray := ⟨cs.toList, by simp⟩
  have hl : l.length = 24 := by simpa using h24
  obtain ⟨xs, n, _, hxx, _, hx, hf⟩ := DataW.trod_struct u_pm hf2
  simp only [Prod.mk.injEq] at hxx
  obtain ⟨_, y0⟩ := fldO hx hf pmO0 cellsO_int
  obtain ⟨_, y1⟩ := fldO hx hf pmO1 cellsO_int
  obtain ⟨_, y2⟩ := fldO hx hf pmO2 cellsO_int
  obtain ⟨_, y3⟩ := fldO hx hf pmO3 cellsO_int
  obtain ⟨_, y4⟩ := fldO hx hf pmO4 cellsO_int
  obtain ⟨_, y5⟩ := fldO hx hf pmO5 cellsO_int
  obtain ⟨_, y6⟩ := fldO hx hf pmO6 cellsO_int
  obtain ⟨_, y7⟩ := fldO hx hf pmO7 cellsO_int
  obtain ⟨_, y8⟩ := fldO hx hf pmO8 cellsO_int
  obtain ⟨_, y9⟩ := fldO hx hf pmO9 cellsO_int
  obtain ⟨_, y10⟩ := fldO hx hf pmO10 cellsO_gl
  obtain ⟨_, y11⟩ := fldO hx hf pmO11 cellsO_gl
  obtain ⟨_, y12⟩ := fldO hx hf pmO12 cellsO_int
  obtain ⟨_, y13⟩ := fldO hx hf pmO13 cellsO_int
  obtain ⟨_, y14⟩ := fldO hx hf pmO14 cellsO_int
  obtain ⟨x15, y15, hx15⟩ : ∃ y, DataW.trod enc Tryz.prog w 0 (fun _ => true) true n 25 ((l.drop 23).take 1) = some y ∧ xs[15]? = some y := by
    obtain ⟨f, hf1, he⟩ := Option.map_eq_some_iff.1 pmO15
    simp only [Prod.mk.injEq] at he
    obtain ⟨e1, e2⟩ := he
    have h9 := hf 15 f hf1
    have hi : 15 < xs.length := by rw [hx]; exact (Array.getElem?_eq_some_iff.1 hf1).1
    rw [e1, e2, cellsO_sh, List.getElem?_eq_getElem hi] at h9
    exact ⟨_, h9, List.getElem?_eq_getElem hi⟩
  obtain ⟨d15, p15⟩ := x15
  obtain ⟨k0, e0, _⟩ := DataW.trod_int Tryz.underlying3 y0
  obtain ⟨k1, e1, _⟩ := DataW.trod_int Tryz.underlying3 y1
  obtain ⟨k2, e2, _⟩ := DataW.trod_int Tryz.underlying3 y2
  obtain ⟨k3, e3, _⟩ := DataW.trod_int Tryz.underlying3 y3
  obtain ⟨k4, e4, _⟩ := DataW.trod_int Tryz.underlying3 y4
  obtain ⟨k5, e5, _⟩ := DataW.trod_int Tryz.underlying3 y5
  obtain ⟨k6, e6, _⟩ := DataW.trod_int Tryz.underlying3 y6
  obtain ⟨k7, e7, _⟩ := DataW.trod_int Tryz.underlying3 y7
  obtain ⟨k8, e8, _⟩ := DataW.trod_int Tryz.underlying3 y8
  obtain ⟨k9, e9, _⟩ := DataW.trod_int Tryz.underlying3 y9
  obtain ⟨k10, e10⟩ := glueO_cells y10 (by simp; omega)
  obtain ⟨k11, e11⟩ := glueO_cells y11 (by simp; omega)
  obtain ⟨k12, e12, _⟩ := DataW.trod_int Tryz.underlying3 y12
  obtain ⟨k13, e13, _⟩ := DataW.trod_int Tryz.underlying3 y13
  obtain ⟨k14, e14, _⟩ := DataW.trod_int Tryz.underlying3 y14
  have hwt : ∀ m ∈ d15.weights Tryz.prog 25, m ≤ reachBytes := by
    have h1 : ∀ m ∈ d.weights Tryz.prog 27, m ≤ reachBytes := fun m hm => by
      have := List.all_eq_true.1 hsz m (DataW.weights_mem_each hts hds m hm)
      simpa using this
    rw [hxx.1] at h1
    simp only [DataW.weights, u_pm] at h1
    refine weight_field h1 (j := 15) ?_ ?_
    · rw [List.getElem?_map, Array.getElem?_toList]
      obtain ⟨f, hf1, he⟩ := Option.map_eq_some_iff.1 pmO15
      simp only [Prod.mk.injEq] at he
      rw [hf1]
      exact congrArg some he.1
    · rw [List.getElem?_map, hx15]; rfl
  obtain ⟨a0, len, cap, g, off, S, e15, s1, s2, s3, s4, s5, s6⟩ := open_shape y15 hwt
  clear y0 y1 y2 y3 y4 y5 y6 y7 y8 y9 y10 y11 y12 y13 y14 y15 hf hx h hf2 hsize h24 hwt hxx hx15
  obtain ⟨c0, c1, c2, c3, c4, c5, c6, c7, c8, c9, c10, c11, c12, c13, c14, c15, c16, c17, c18, c19, c20, c21, c22, c23, rfl⟩ := list24O l hl
  simp at e0 e1 e2 e3 e4 e5 e6 e7 e8 e9 e12 e13 e14 e15
  subst e0 e1 e2 e3 e4 e5 e6 e7 e8 e9 e12 e13 e14 e15
  simp [Gl.cells] at e10 e11
  obtain ⟨rfl, rfl, rfl, rfl, rfl⟩ := e10
  obtain ⟨rfl, rfl, rfl, rfl, rfl⟩ := e11
  exact ⟨⟨k0, k1, k2, k3, k4, k5, k6, k7, k8, k9, k10, k11, k12, k13, k14, a0, len, cap⟩, g, off, S, rfl, ⟨s2, s3, s1.symm, s4, s5, s6⟩⟩
end
end Go.Proofs.YtiijpbfkchokaaaGreat
