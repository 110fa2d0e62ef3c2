/-
  A law's arguments: a slice of classes, opened: which classes stand there. No statement of the seat stands here.
-/
import Derived.Test.YtaehkbbdmamfpaaGreatDoorI5
import Derived.Test.YtaehkbbdmamfpaaGreatDoorOpen
namespace Go.Proofs.YtaehkbbdmamfpaaGreatDoor
open Go.ChangeShapes Go.WideShapes Go.ChangeAt Go.RowKit Go.Deep
theorem list8O {α : Type} : ∀ (l : List α), l.length = 8 -> ∃ c0 c1 c2 c3 c4 c5 c6 c7, l = [c0, c1, c2, c3, c4, c5, c6, c7]
 | [c0, c1, c2, c3, c4, c5, c6, c7], _ => ⟨c0, c1, c2, c3, c4, c5, c6, c7, rfl⟩
theorem cellsO_cl : Tryz.prog.cellsOf 55 = 8 := by kernel_rfl
theorem bytesO_cl : Tryz.prog.bytesOf 55 = 64 := by kernel_rfl
theorem clO0 : ((Tryz.prog.fieldsOf 55)[0]?).map (fun f => (f.type, f.offset)) = some (3, 0) := by kernel_rfl
theorem clO1 : ((Tryz.prog.fieldsOf 55)[1]?).map (fun f => (f.type, f.offset)) = some (3, 1) := by kernel_rfl
theorem clO2 : ((Tryz.prog.fieldsOf 55)[2]?).map (fun f => (f.type, f.offset)) = some (3, 2) := by kernel_rfl
theorem clO3 : ((Tryz.prog.fieldsOf 55)[3]?).map (fun f => (f.type, f.offset)) = some (51, 3) := by kernel_rfl
section
variable {H : Type} {enc : TypeId × Value -> H} {w : World} {base : Nat} {sp : Nat -> Bool} {hd : Bool} {m : Nat}
theorem classO_cells {cs : List Value} {x : DataW H × List MemPlace} (h : DataW.trod enc Tryz.prog w base sp hd m 55 cs = some x) (hl : cs.length = 8) : ∃ s : Cl, cs = s.cells := by
 obtain ⟨xs, n, _, _, _, hx, hf⟩ := DataW.trod_struct u_cl h
 obtain ⟨_, y0⟩ := fldO hx hf clO0 zaB
 obtain ⟨_, y1⟩ := fldO hx hf clO1 zaB
 obtain ⟨_, y2⟩ := fldO hx hf clO2 zaB
 obtain ⟨_, y3⟩ := fldO hx hf clO3 cellsO_gl
 obtain ⟨k0, e0, _⟩ := DataW.trod_int Tryz.underlying3 y0
 obtain ⟨k1, e1, _⟩ := DataW.trod_int Tryz.underlying3 y1
 obtain ⟨k2, e2, _⟩ := DataW.trod_int Tryz.underlying3 y2
 obtain ⟨k3, e3⟩ := glueO_cells y3 (by simp; omega)
 clear y0 y1 y2 y3 hf hx h
 obtain ⟨c0, c1, c2, c3, c4, c5, c6, c7, rfl⟩ := list8O cs hl
 simp at e0 e1 e2
 subst e0 e1 e2
 simp [Gl.cells] at e3
 obtain ⟨rfl, rfl, rfl, rfl, rfl⟩ := e3
 exact ⟨⟨k0, k1, k2, k3⟩, rfl⟩
theorem open_classes {w : World} {fuel : Nat} {a0 : Option Addr} {len cap : Nat} {d : DataW H} {p : List MemPlace} {ds : List (DataW H)} {ts : List TypeId} {j0 : Nat} (h : DataW.trod enc Tryz.prog w 0 (fun _ => true) true fuel 23 [.slice a0 len cap] = some (d, p))
 (hsz : (DataW.weightsEach Tryz.prog ts ds).all (· <= reachBytes) = true) (hts : ts[j0]? = some 23) (hds : ds[j0]? = some d) :
 ∃ (b off : Nat) (L : List Cl), L.length = len /\ CIn w a0 b off cap L := by
 rcases open_slice Tryz.underlying23 h with ⟨hcs, _⟩ | ⟨a, len', cap', m, n, D, Pl, hcs, _, hl, hm, hmm, hx, hi⟩
 ·
  simp only [List.cons.injEq, Value.slice.injEq, and_true] at hcs
  obtain ⟨rfl, rfl, rfl⟩ := hcs
  exact ⟨0, 0, [], rfl, fun e => absurd rfl e, fun e => absurd rfl e, fun j hj => by simp at hj, Nat.le_refl _, by simp⟩
 ·
  simp only [List.cons.injEq, Value.slice.injEq, and_true] at hcs
  obtain ⟨e1, e2, e3⟩ := hcs
  subst e1 e2 e3
  simp only [if_true] at hmm
  have hmm2 := hmm.symm
  subst hmm2
  rw [cellsO_cl] at hi
  have hel : ∀ i, i < len -> ∃ s : Cl, ∀ k, k < 8 -> w.cell? (a.add (i * 8 + k)) = s.cells[k]? := by
   intro i hlt
   obtain ⟨cs', hc, ht⟩ := hi i (by omega)
   obtain ⟨_, hcl, hat⟩ := World.cells?_some hc
   obtain ⟨s, rfl⟩ := classO_cells ht hcl
   exact ⟨s, fun k hk => by rw [<- hat k hk, add_add]⟩
  have hreach : len * 64 <= 140737488351232 := by
   simp only [Prod.mk.injEq] at hx
   have := sized_slice hsz (j := j0) hts (by rw [hds, hx.1]) Tryz.underlying23
   rw [bytesO_cl] at this
   simp only [List.length_map, List.length_range, reachBytes] at this
   have h2 : len * 64 <= (len + (cap - len)) * 64 := Nat.mul_le_mul_right _ (by omega)
   omega
  have hf : ∃ f : Nat -> Cl, ∀ i, i < len -> ∀ k, k < 8 -> w.cell? (a.add (i * 8 + k)) = (f i).cells[k]? :=
   ⟨fun i => if hlt : i < len then (hel i hlt).choose else default, fun i hlt => by simp only [dif_pos hlt]; exact (hel i hlt).choose_spec⟩
  obtain ⟨f, hf⟩ := hf
  obtain ⟨b, off, spot⟩ := a
  by_cases h0 : len = 0
  ·
   subst h0
   exact ⟨0, 0, [], rfl, fun e => absurd rfl e, fun e => absurd rfl e, fun j hj => by simp at hj, Nat.zero_le _, by simp⟩
  ·
   have h00 := hf 0 (by omega) 0 (by omega)
   have hspot : spot = none := by simpa [Addr.add] using World.cell?_spot (show w.cell? ((⟨b, off, spot⟩ : Addr).add (0 * 8 + 0)) = some (.int .i64 (f 0).scale) from h00)
   subst hspot
   have hblt : b < w.heap.size := World.block_lt_of_cell? _ _ (show w.cell? (⟨b, off, none⟩ : Addr) = some (.int .i64 (f 0).scale) from h00)
   refine ⟨b, off, (List.range len).map f, by simp, fun _ => rfl, fun _ => hblt, fun j hj => ?_, by simpa using hl, by simpa using hreach⟩
   have hj' : j < len := by simpa using hj
   refine agg_of_cells (by omega) (by simp [Cl.size_arr]) fun k hk => ?_
   have := hf j hj' k hk
   rw [add_plainO] at this
   rw [Nat.add_assoc, this]
   simp [Cl.arr]
end
end Go.Proofs.YtaehkbbdmamfpaaGreatDoor
