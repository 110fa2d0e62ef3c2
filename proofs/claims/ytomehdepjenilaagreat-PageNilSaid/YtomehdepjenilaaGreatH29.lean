/-
  A law's argument: a slice of questions, opened. No statement of the seat stands here.
-/
import Derived.Test.YtomehdepjenilaaGreatH28
import Derived.Test.YtomehdepjenilaaGreatOpen
import Derived.Deep.SlicePairs
namespace Go.Proofs.YtomehdepjenilaaGreat
open Go.ChangeShapes Go.WideShapes Go.ChangeAt Go.RowKit Go.Deep
section
variable {H : Type} {enc : TypeId × Value → H}
theorem weights_all {P : Program} {e : TypeId} {d : DataW H} : ∀ {l : List (DataW H)}, d ∈ l → ∀ n ∈ d.weights P e, n ∈ DataW.weightsAll P e l
  | x :: r, hd, n, hn => by
    rw [DataW.weightsAll]
    rcases List.mem_cons.1 hd with rfl | hd
    · exact List.mem_append_left _ hn
    · exact List.mem_append_right _ (weights_all hd n hn)
theorem open_nodes9 {w : World} {fuel : Nat} {cs : List Value} {d : DataW H} {p : List MemPlace} (h : DataW.trod enc Tryz.prog w 0 (fun _ => true) true fuel 27 cs = some (d, p)) (hsz : ∀ n ∈ d.weights Tryz.prog 27, n ≤ reachBytes) :
    ∃ (a0 : Option Addr) (cap b off : Nat) (L : List Nd), cs = [.slice a0 L.length cap] ∧ NIn w a0 b off cap L := by
  have key : ∀ a0 len cap, cs = [.slice a0 len cap] → ∃ (a0 : Option Addr) (cap b off : Nat) (L : List Nd), cs = [.slice a0 L.length cap] ∧ NIn w a0 b off cap L := fun a0 len cap e => by
    subst e
    obtain ⟨b, off, L, rfl, hN⟩ := open_nodes (ts := [27]) (ds := [d]) h (by
      simp only [DataW.weightsEach, List.append_nil]
      exact List.all_eq_true.2 fun n hn => decide_eq_true (hsz n hn)) rfl rfl
    exact ⟨a0, cap, b, off, L, rfl, hN⟩
  rcases open_slice Tryz.underlying27 h with ⟨hcs, _⟩ | ⟨a, len', cap', m, n, D, Pl, hcs, _⟩
  · exact key none 0 0 hcs
  · exact key (some a) len' cap' hcs
theorem oxFields : Tryz.prog.underlying 74 = some (.struct #[(Tryz.prog.fieldsOf 74)[0]!, (Tryz.prog.fieldsOf 74)[1]!]) := by kernel_rfl
theorem cellsO_ox : Tryz.prog.cellsOf 74 = 2 := by kernel_rfl
theorem ox0t : ((Tryz.prog.fieldsOf 74)[0]!).type = 3 := by kernel_rfl
theorem ox1t : ((Tryz.prog.fieldsOf 74)[1]!).type = 27 := by kernel_rfl
theorem ox0o : ((Tryz.prog.fieldsOf 74)[0]!).offset = 0 := by kernel_rfl
theorem ox1o : ((Tryz.prog.fieldsOf 74)[1]!).offset = 1 := by kernel_rfl
theorem ox0c : Tryz.prog.cellsOf ((Tryz.prog.fieldsOf 74)[0]!).type = 1 := by kernel_rfl
theorem ox1c : Tryz.prog.cellsOf ((Tryz.prog.fieldsOf 74)[1]!).type = 1 := by kernel_rfl
theorem open_ops {w : World} {fuel : Nat} {a0 : Option Addr} {len cap : Nat} {d : DataW H} {p : List MemPlace} {ds : List (DataW H)} {ts : List TypeId} (h : DataW.trod enc Tryz.prog w 0 (fun _ => true) true fuel 68 [.slice a0 len cap] = some (d, p))
    (hsz : (DataW.weightsEach Tryz.prog ts ds).all (· ≤ reachBytes) = true) (hts : ts[0]? = some 68) (hds : ds[0]? = some d) :
    ∃ Os : List OpD, OpsIn w a0 len cap Os := by
  have hw : ∀ n ∈ d.weights Tryz.prog 68, n ≤ reachBytes := fun n hn => by
    have := List.all_eq_true.1 hsz n (DataW.weights_mem_each hts hds n hn)
    simpa using this
  rcases open_slice_pairs Tryz.underlying68 oxFields cellsO_ox ox0o ox1o ox0c ox1c h with ⟨hcs, _⟩ | ⟨a, len', cap', m, n, V0, V1, D0, D1, P0, P1, hcs, _, hl, hm, hmm, hx, hi⟩
  · simp only [List.cons.injEq, Value.slice.injEq, and_true] at hcs
    obtain ⟨rfl, rfl, rfl⟩ := hcs
    exact ⟨[], rfl, fun e => absurd rfl e, fun x hx => (by cases hx), by decide⟩
  · simp only [List.cons.injEq, Value.slice.injEq, and_true] at hcs
    obtain ⟨e1, e2, e3⟩ := hcs
    subst e1 e2 e3
    simp only [if_true] at hmm
    have hmm2 := hmm.symm
    subst hmm2
    simp only [Prod.mk.injEq] at hx
    have hel : ∀ i, i < len → ∃ x : OpD, w.cell? (a.add (i * 2)) = some (.int .i64 x.kind) ∧ w.cell? (a.add (i * 2 + 1)) = some (.slice x.p x.L.length x.c) ∧ NIn w x.p x.b x.o x.c x.L := by
      intro i hlt
      obtain ⟨c0, c1, t0, t1⟩ := hi i (by omega)
      rw [ox0t] at t0
      rw [ox1t] at t1
      obtain ⟨k0, e0, _⟩ := DataW.trod_int Tryz.underlying3 t0
      simp only [List.cons.injEq, and_true] at e0
      have hws : ∀ n ∈ (D1 i).weights Tryz.prog 27, n ≤ reachBytes := fun n hn => hw n (by
        rw [hx.1]
        simp only [DataW.weights, Tryz.underlying68]
        refine List.mem_cons_of_mem _ (List.mem_append_left _ ?_)
        refine weights_all (d := .agg [D0 i, D1 i]) (List.mem_map.2 ⟨i, List.mem_range.2 hlt, rfl⟩) n ?_
        simp only [DataW.weights, oxFields]
        refine DataW.weights_mem_each (t := 27) (d := D1 i) (j := 1) ?_ rfl n hn
        exact congrArg some ox1t)
      obtain ⟨aa, cc, bb, oo, L, e1, hN⟩ := open_nodes9 t1 hws
      simp only [List.cons.injEq, and_true] at e1
      exact ⟨⟨k0, aa, bb, oo, cc, L⟩, by rw [c0, e0], by rw [c1, e1], hN⟩
    obtain ⟨f, hf⟩ : ∃ f : Nat → OpD, ∀ i, i < len → w.cell? (a.add (i * 2)) = some (.int .i64 (f i).kind) ∧ w.cell? (a.add (i * 2 + 1)) = some (.slice (f i).p (f i).L.length (f i).c) ∧ NIn w (f i).p (f i).b (f i).o (f i).c (f i).L :=
      ⟨fun i => if hlt : i < len then (hel i hlt).choose else ⟨0, none, 0, 0, 0, []⟩, fun i hlt => by simp only [dif_pos hlt]; exact (hel i hlt).choose_spec⟩
    refine ⟨(List.range len).map f, by simp, fun hne => ?_, fun x hx9 => ?_, by unfold maxLen at hm; omega⟩
    · have hp : 0 < len := by
        rcases Nat.eq_zero_or_pos len with e | e
        · exact absurd (by rw [e]; rfl) hne
        · exact e
      obtain ⟨b, off, spot⟩ := a
      have h00 := (hf 0 hp).1
      have hspot : spot = none := by simpa [Addr.add] using World.cell?_spot (show w.cell? ((⟨b, off, spot⟩ : Addr).add (0 * 2)) = some (.int .i64 (f 0).kind) from h00)
      subst hspot
      have hblt : b < w.heap.size := World.block_lt_of_cell? _ _ (show w.cell? (⟨b, off, none⟩ : Addr) = some (.int .i64 (f 0).kind) from h00)
      refine ⟨b, off, rfl, hblt, fun j hj => ?_⟩
      have hj' : j < len := by simpa using hj
      have h0 := (hf j hj').1
      have h1 := (hf j hj').2.1
      rw [add_plainO] at h0 h1
      refine agg_of_cells (by omega) (by rw [Ox.size_arr]) fun k hk => ?_
      have hgj : ((List.range len).map f)[j] = f j := by simp
      rw [hgj]
      match k, hk with
      | 0, _ => rw [Nat.add_zero, h0]; rfl
      | 1, _ => rw [Nat.add_assoc, h1]; rfl
    · obtain ⟨i, hi9, rfl⟩ := List.mem_map.1 hx9
      exact (hf i (List.mem_range.1 hi9)).2.2
end
end Go.Proofs.YtomehdepjenilaaGreat
