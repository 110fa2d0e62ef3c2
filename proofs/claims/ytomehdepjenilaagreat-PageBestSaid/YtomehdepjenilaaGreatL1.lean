/-
  vlist: the place behind an item; dimensions, glue.
-/
import Derived.Test.YtomehdepjenilaaGreatH0
import Derived.Test.YtomehdepjenilaaGreatV2
import Derived.RangeFuncNested
import Derived.RangeFuncBound
import Derived.RangeFuncCalls
import Derived.RangeFuncLeaves
import Derived.RangeFuncFrom
import Derived.RangeFuncBox
import Derived.Shelf.Abstract
import Derived.Shelf.RegionOpen
import Derived.OwnWalkIn
import Derived.TacticsInMore
import Derived.LoopNIn
import Derived.LoopIn
set_option maxRecDepth 100000
set_option maxHeartbeats 4000000
namespace Go.Proofs.YtomehdepjenilaaGreat
open Go.ChangeShapes Go.WideShapes Go.ChangeAt Go.RowKit
attribute [local go_sem ↓] Go.wp_at_zero Go.wp_at_succ

def behN (k n : Int) : Int := if opensK k then n + 1 else if k = 6 then n - 1 else n
def behC : List Nd → Int → Option Nat
  | [], _ => none
  | x :: l, n => if behN x.kind n = 0 then some 1 else (behC l (behN x.kind n)).map (· + 1)
theorem behC_pos : ∀ (l : List Nd) (n : Int) (m : Nat), behC l n = some m → 1 ≤ m ∧ m ≤ l.length
  | [], _, _, h => by cases h
  | x :: l, n, m, h => by
    unfold behC at h
    split at h
    · cases h; simp
    · obtain ⟨k, hk, rfl⟩ := Option.map_eq_some_iff.1 h
      have := behC_pos l _ k hk
      simp; omega
theorem behC_at {L : List Nd} {j : Nat} (hj : j < L.length) {n : Int} {m : Nat} (h : behC (L.drop j) n = some m) : (behN L[j].kind n = 0 ∧ m = 1) ∨ (behN L[j].kind n ≠ 0 ∧ ∃ k, m = k + 1 ∧ behC (L.drop (j + 1)) (behN L[j].kind n) = some k) := by
  rw [List.drop_eq_getElem_cons hj] at h
  unfold behC at h
  split at h
  · rename_i h0; cases h; exact .inl ⟨h0, rfl⟩
  · rename_i h0
    obtain ⟨k, hk, rfl⟩ := Option.map_eq_some_iff.1 h
    exact .inr ⟨h0, k, rfl, hk⟩
theorem kinds_split (k : Int) : ((k == 4) = true ∧ opensK k = true) ∨ ((k == 4) = false ∧ (k == 5) = true ∧ opensK k = true) ∨ ((k == 4) = false ∧ (k == 5) = false ∧ (k == 10) = true ∧ opensK k = true) ∨
    ((k == 4) = false ∧ (k == 5) = false ∧ (k == 10) = false ∧ (k == 13) = true ∧ opensK k = true) ∨ ((k == 4) = false ∧ (k == 5) = false ∧ (k == 10) = false ∧ (k == 13) = false ∧ (k == 17) = true ∧ opensK k = true) ∨
    ((k == 4) = false ∧ (k == 5) = false ∧ (k == 10) = false ∧ (k == 13) = false ∧ (k == 17) = false ∧ opensK k = false) := by
  unfold opensK
  cases (k == 4) <;> cases (k == 5) <;> cases (k == 10) <;> cases (k == 13) <;> cases (k == 17) <;> simp
theorem behind_any (p0 : Option Addr) (b off cap : Nat) (L : List Nd) (at_ m : Nat) (w : World) (h : NIn w p0 b off cap L) (hm : behC (L.drop at_) 0 = some m) :
    Calls Tryz.prog 100 #[.slice p0 L.length cap, .int .i64 at_] w fun e w' => e = .returned (.int .i64 ((at_ + m : Nat) : Int)) ∧ w = w' := by
  have H := Lib.hid h
  have hl := h.len
  have Hm := Lib.hid hm
  clear h hm
  go_enter Tryz.func100, Tryz.ntmps100
  go_wp2_with fail
  go_loopg [1, 5] (L.length + 1 - at_) (fun g t1 t5 wr => ∃ (j k : Nat) (n : Int), g = L.length + 1 - j ∧ t1 = .int .i64 j ∧ t5 = .int .i64 n ∧ behC (L.drop j) n = some k ∧ j + k = at_ + m ∧ (-(j : Int) ≤ n ∧ n ≤ j) ∧ wr = w)
  case atStart => exact ⟨at_, m, 0, rfl, rfl, rfl, Hm.out, rfl, by omega, rfl⟩
  case round =>
    clear Hm
    obtain ⟨j, k, n, rfl, rfl, rfl, hk, hjk, hn, rfl⟩ := hrel
    have hlt : j < L.length := by have := behC_pos _ _ _ hk; simp at this; omega
    have x1 : wr.cell? ⟨b, off + j * 19, none⟩ = some (.int .i64 L[j].kind) := agg_cell (H.out.nd j hlt) 0 _ rfl
    obtain rfl := H.out.at_ hlt
    have hj1 : (0 : Int) ≤ (j : Int) := by omega
    have hj2 : (j : Int) < (L.length : Int) := by omega
    obtain ⟨hn1, hn2⟩ := hn
    have HB := Lib.hid (behC_at hlt hk)
    have Hjk := Lib.hid hjk
    have Hl := Lib.hid hlt
    generalize L[j].kind = kd at x1 HB
    clear hk hjk hlt
    rcases kinds_split kd with ⟨h4, ho⟩ | ⟨h4, h5, ho⟩ | ⟨h4, h5, h10, ho⟩ | ⟨h4, h5, h10, h13, ho⟩ | ⟨h4, h5, h10, h13, h17, ho⟩ | ⟨h4, h5, h10, h13, h17, ho⟩
    rotate_right
    · cases h6 : (kd == 6)
      · have hb : behN kd n = n := by unfold behN; rw [ho, if_neg (by simp), if_neg (by simpa using h6)]
        have HB := HB.out
        rw [hb] at HB
        clear hb ho
        rcases HB with ⟨hz, hk1⟩ | ⟨hz, k1, hk1, hk2⟩
        · subst hz
          go_wp2_with fail
          go_ret
          exact ⟨ret_int (by have := Hjk.out; omega), rfl⟩
        · have Hk2 := Lib.hid hk2
          have hz' : (n == 0) = false := by simpa using hz
          clear hk2 hz
          go_wp2_with fail
          go_roundg (L.length + 1 - (j + 1))
          case measure => have := Hl.out; omega
          case rel => exact ⟨j + 1, k1, n, rfl, by go_num, rfl, Hk2.out, by have := Hjk.out; omega, by omega, rfl⟩
      · have hb : behN kd n = n - 1 := by unfold behN; rw [ho, if_neg (by simp), if_pos (by simpa using h6)]
        have HB := HB.out
        rw [hb] at HB
        clear hb ho
        rcases HB with ⟨hz, hk1⟩ | ⟨hz, k1, hk1, hk2⟩
        · have hz' : ((n - 1 : Int) == 0) = true := by simpa using hz
          clear hz
          go_wp2_with fail
          go_ret
          exact ⟨ret_int (by have := Hjk.out; omega), rfl⟩
        · have Hk2 := Lib.hid hk2
          have hz' : ((n - 1 : Int) == 0) = false := by simpa using hz
          clear hk2 hz
          go_wp2_with fail
          go_roundg (L.length + 1 - (j + 1))
          case measure => have := Hl.out; omega
          case rel => exact ⟨j + 1, k1, n - 1, rfl, by go_num, rfl, Hk2.out, by have := Hjk.out; omega, by omega, rfl⟩
    all_goals
      have hb : behN kd n = n + 1 := by unfold behN; rw [ho, if_pos rfl]
      have HB := HB.out
      rw [hb] at HB
      clear hb ho
      rcases HB with ⟨hz, hk1⟩ | ⟨hz, k1, hk1, hk2⟩
      · have hz' : ((n + 1 : Int) == 0) = true := by simpa using hz
        clear hz
        go_wp2_with fail
        go_ret
        exact ⟨ret_int (by have := Hjk.out; omega), rfl⟩
      · have Hk2 := Lib.hid hk2
        have hz' : ((n + 1 : Int) == 0) = false := by simpa using hz
        clear hk2 hz
        go_wp2_with fail
        go_roundg (L.length + 1 - (j + 1))
        case measure => have := Hl.out; omega
        case rel => exact ⟨j + 1, k1, n + 1, rfl, by go_num, rfl, Hk2.out, by have := Hjk.out; omega, by omega, rfl⟩
end Go.Proofs.YtomehdepjenilaaGreat
namespace Go.Proofs.YtomehdepjenilaaGreat
open Go.ChangeShapes Go.WideShapes Go.ChangeAt Go.RowKit Go.Shelf

inductive Items (L : List Nd) : Nat → List Nat → Prop
  | done : Items L L.length []
  | step {i m : Nat} {s : List Nat} (hi : i < L.length) (hm : behC (L.drop i) 0 = some m) (hs : Items L (i + m) s) : Items L i (i :: s)
theorem Items.lt {L : List Nd} {i : Nat} {s : List Nat} (h : Items L i s) : ∀ x ∈ s, i ≤ x ∧ x < L.length := by
  induction h with
  | done => intro x hx; cases hx
  | step hi hm hs ih =>
    rename_i i' m' s'
    have := behC_pos _ _ _ hm
    intro x hx
    rcases List.mem_cons.1 hx with rfl | hx
    · exact ⟨Nat.le_refl _, hi⟩
    · have := ih x hx; omega
theorem Items.len {L : List Nd} {i : Nat} {s : List Nat} (h : Items L i s) : s.length + i ≤ L.length := by
  induction h with
  | done => simp
  | step hi hm hs ih => have := behC_pos _ _ _ hm; simp; omega
theorem NIn.kept {w w' : World} {p : Option Addr} {b off cap n₀ : Nat} {L : List Nd} (h : NIn w p b off cap L) (hb : L ≠ [] → b < n₀) (k : Below n₀ w w') : NIn w' p b off cap L :=
  ⟨h.hp, fun e => Nat.lt_of_lt_of_le (h.hb e) k.size, fun j hj => (agg?_block (k.block b (hb (h.ne hj)))).trans (h.nd j hj), h.cap', h.len⟩
def KpI (n₀ Bs : Nat) (W W' : World) : Prop := Below n₀ W W' ∧ W'.heap[Bs]? = W.heap[Bs]?
theorem kpI_t {n₀ Bs : Nat} {A B C : World} (h : KpI n₀ Bs A B) (k : KpI n₀ Bs B C) : KpI n₀ Bs A C := ⟨h.1.trans k.1, k.2.trans h.2⟩
theorem kpI_b {n₀ Bs : Nat} {w : World} (h1 : n₀ ≤ w.heap.size) (h2 : Bs < w.heap.size) : ∀ (W : World) (l : Nat) (o o' : Obj), w.heap.size ≤ l → W.heap[l]? = some o → o.isCells = false → o.isWalk = false → KpI n₀ Bs W (W.putObj l o') := fun W l o o' hz ho hc hw =>
  ⟨belowK_b h1 W l o o' hz ho hc hw, World.putObj_heap_other (by omega)⟩
theorem items_any (p0 : Option Addr) (len cap : Nat) (w : World) : Calls Tryz.prog 85 #[.slice p0 len cap] w fun e w' =>
    e = .returned (.func (.func 99) #[] #[.pointer (some ⟨w.heap.size, 0, none⟩)]) ∧ w' = w.alloc (.cells #[.slice p0 len cap] 27) := by
  go_enter Tryz.func85, Tryz.ntmps85
  go_wp2
  go_ret
  exact ⟨rfl, rfl⟩
section
attribute [local go_sem] Oper.semAt_some
theorem items1_in (n : Nat) (hn : 2 ≤ n) (l Bs n₀ b off cap : Nat) (p0 : Option Addr) (L : List Nd) (s : List Nat) (hs : Items L 0 s) (J Jx : List {i : Nat // i ∈ s} → World → Prop)
    (hY : ∀ pre x W, J pre W → pre.length < s.length → YieldAt Fence.wide (n - 1) Tryz.prog l #[.int .i64 (x.1 : Nat)] W fun e W' =>
      (e = .returned (.bool true) ∧ J (pre ++ [x]) W' ∧ KpI n₀ Bs W W') ∨ (e = .returned (.bool false) ∧ Jx (pre ++ [x]) W'))
    (W : World) (hBs : W.heap[Bs]? = some (.cells #[.slice p0 L.length cap] 27 (0, 0))) (hN : NIn W p0 b off cap L) (hb : L ≠ [] → b < n₀) (h0 : J [] W) :
    CallsIn Fence.wide n Tryz.prog 99 #[.func (.yield l) #[] #[], .pointer (some ⟨Bs, 0, none⟩)] W fun e W' => (∃ v, e = .returned v) ∧
      ((∃ ys : List {i : Nat // i ∈ s}, ys.map (·.1) = s ∧ J ys W') ∨ (∃ pre : List {i : Nat // i ∈ s}, pre.map (·.1) <+: s ∧ Jx pre W')) := by
  have h1 : 1 ≤ n := by omega
  refine callsIn_of_wp Tryz.func99 rfl trivial ?_ rfl
  simp only [Tryz.ntmps99, List.size_toArray, List.length_cons, List.length_nil, Nat.reduceAdd, Nat.reduceSub, Array.replicate_succ, Array.replicate_zero, List.push_toArray, List.append_toArray, List.nil_append, List.cons_append]
  gi_wp2
  gi_loopw [3] (fun i wr => ∃ (k : Nat) (pre : List {i : Nat // i ∈ s}) (rest : List Nat), i = .int .i64 k ∧ s = pre.map (·.1) ++ rest ∧ Items L k rest ∧ k ≤ L.length ∧ J pre wr ∧ KpI n₀ Bs W wr)
    (fun i _ => L.length + 1 - (intOf i).toNat)
  case atStart => exact ⟨0, [], s, rfl, rfl, hs, Nat.zero_le _, h0, Below.refl _ _, rfl⟩
  case round =>
    obtain ⟨k, pre, rest, rfl, hsp, hit, hk, hJ, hkp⟩ := hrel
    have hBk : wr.heap[Bs]? = some (.cells #[.slice p0 L.length cap] 27 (0, 0)) := hkp.2.trans hBs
    have cB : wr.cell? ⟨Bs, 0, none⟩ = some (.slice p0 L.length cap) := by rw [cell?_blk' hBk]; rfl
    have hk1 : (0 : Int) ≤ (k : Int) := by omega
    have hl := hN.len
    cases hit with
    | done =>
      gi_wp2
      refine ⟨fun _ h => (by cases h), ?_⟩
      gi_wp2
      go_end0
      exact ⟨⟨_, rfl⟩, .inl ⟨pre, (hsp.trans (by simp)).symm, hJ⟩⟩
    | step hi hm hs2 =>
      rename_i m rest'
      have hk2 : (k : Int) < (L.length : Int) := by omega
      have hx : k ∈ s := by rw [hsp]; simp
      obtain ⟨fn, tmps, assign, body, hy, hR⟩ := hY pre ⟨k, hx⟩ wr hJ (by have := congrArg List.length hsp; simp at this; omega)
      gi_wp2
      refine hR.mono ?_
      rintro e W3 (⟨rfl, hJ3, hk3⟩ | ⟨rfl, hJx3⟩)
      · have hB3 : W3.heap[Bs]? = some (.cells #[.slice p0 L.length cap] 27 (0, 0)) := hk3.2.trans hBk
        have c3 : W3.cell? ⟨Bs, 0, none⟩ = some (.slice p0 L.length cap) := by rw [cell?_blk' hB3]; rfl
        have hN3 : NIn W3 p0 b off cap L := hN.kept hb (hkp.1.trans hk3.1)
        have hB := callsIn_wide (n := n - 1).2 (behind_any p0 b off cap L k m W3 hN3 hm)
        gi_wp2
        refine ⟨trivial, hB.mono ?_⟩
        rintro e W4 ⟨rfl, rfl⟩
        gi_wp2
        go_roundw
        case rel => exact ⟨k + m, pre ++ [⟨k, hx⟩], rest', rfl, hsp.trans (by simp), hs2, by have := behC_pos _ _ _ hm; simp at this; omega, hJ3, kpI_t hkp hk3⟩
        case measure => have := behC_pos _ _ _ hm; simp [intOf]; omega
      · gi_wp2
        go_end0
        exact ⟨⟨_, rfl⟩, .inr ⟨pre ++ [⟨k, hx⟩], ⟨rest', Eq.trans (by simp) hsp.symm⟩, hJx3⟩⟩
end
theorem items_stops (n : Nat) (hn : 2 ≤ n) (Bs n₀ b off cap : Nat) (p0 : Option Addr) (L : List Nd) (s : List Nat) (hs : Items L 0 s) (w : World) (hBs : w.heap[Bs]? = some (.cells #[.slice p0 L.length cap] 27 (0, 0))) (hN : NIn w p0 b off cap L) (hb : L ≠ [] → b < n₀) :
    SeqStopsK Fence.wide n Tryz.prog 99 #[.pointer (some ⟨Bs, 0, none⟩)] (fun x : {i : Nat // i ∈ s} => #[.int .i64 (x.1 : Nat)]) (KpI n₀ Bs) (fun ys => ys.map (·.1) = s) (fun pre => pre.map (·.1) <+: s) s.length w := fun l J Jx W hW _ _ hY h0 =>
  items1_in n hn l Bs n₀ b off cap p0 L s hs J Jx hY W ((hW.block Bs (Array.getElem?_eq_some_iff.1 hBs).1).trans hBs) (hN.below hW) hb h0
end Go.Proofs.YtomehdepjenilaaGreat

namespace Go.Proofs.YtomehdepjenilaaGreat
open Go.RowKit
section
variable {F : Fence} {n : Nat} {P : Program}

def Turns (B m : Nat) (A : World) (row : Option Nat) : Prop := ∀ r, row = some r → B ≤ r ∧ (r < B + m ∨ ∃ o : Obj, A.heap[r]? = some o ∧ o.isCells = false)
def Abides {β : Type} (B m : Nat) (J : β → World → Prop) : Prop := ∀ s A C row, J s A → A.grownBy C row → Turns B m A row → J s C
theorem Abides.and {β : Type} {B m : Nat} {J K : β → World → Prop} (h : Abides B m J) (k : Abides B m K) : Abides B m (fun s W => J s W ∧ K s W) := fun s A C row hs hg hr => ⟨h s A C row hs.1 hg hr, k s A C row hs.2 hg hr⟩
theorem Abides.pure {β : Type} (B m : Nat) (p : β → Prop) : Abides B m (fun s (_ : World) => p s) := fun _ _ _ _ hs _ _ => hs
theorem Abides.alloc {β : Type} {B m : Nat} {J : β → World → Prop} (h : Abides B m J) {s : β} {W : World} (o : Obj) (hs : J s W) : J s (W.alloc o) := h s W _ none hs (World.grownBy_alloc W o none) (fun r e => by cases e)
theorem Abides.put {β : Type} {B m : Nat} {J : β → World → Prop} (h : Abides B m J) {s : β} {W : World} {l : Nat} (o : Obj) (hs : J s W) (hB : B ≤ l) (hl : l < B + m) : J s (W.putObj l o) := h s W _ (some l) hs (grownBy_putObj' W l o) (fun r e => by cases e; exact ⟨hB, .inl hl⟩)
theorem Abides.from {β : Type} {B m B' : Nat} {J : β → World → Prop} (h : Abides B m J) (hB : B ≤ B') : OwnFrom B' J := fun s A C row hs hg hr => h s A C row hs hg (fun r e => ⟨Nat.le_trans hB (hr r e).1, .inr (hr r e).2⟩)
def SeqCells {α : Type} (F : Fence) (n : Nat) (P : Program) (g : Nat) (lb : Array Value) (encs : α → Array Value) (Kp : Nat → World → World → Prop) (S Sp : List α → Prop) (N m : Nat) (w : World) : Prop :=
  ∀ (l : Nat) (J Jx : List α → World → Prop) (W : World), Below w.heap.size w W → Abides W.heap.size m J → Abides W.heap.size m Jx →
    (∀ pre x A, J pre A → pre.length < N → W.heap.size + m ≤ A.heap.size → YieldAt F (n - 1) P l (encs x) A fun e C => (e = .returned (.bool true) ∧ J (pre ++ [x]) C ∧ Kp W.heap.size A C) ∨ (e = .returned (.bool false) ∧ Jx (pre ++ [x]) C ∧ KeepsFrom W.heap.size A C)) →
    J [] W → CallsIn F n P g (#[.func (.yield l) #[] #[]] ++ lb) W fun e C => (∃ v, e = .returned v) ∧ ((∃ xs, S xs ∧ J xs C) ∨ (∃ pre, Sp pre ∧ Jx pre C))
theorem wpIn_range_cells {α : Type} {g : Operand} {ps : Array Tmp} {assign body : Code} {Q : Exit → Act → World → Prop} {a : Act} {w : World}
    (hro : F.round = none) (h1 : 1 ≤ n) {gf : Nat} {lb : Array Value} (hg : a.eval g = .func (.func gf) #[] lb) (hFg : F.fn gf) (eg : ∀ args w, (callFunc gf args).run P w = .ok (.enter gf args) w)
    {encs : α → Array Value} {Kp : Nat → World → World → Prop} {S Sp : List α → Prop} {N m : Nat} {w0 : World} (hseq : SeqCells F (n - 1) P gf lb encs Kp S Sp N m w0)
    (hKt : ∀ {A B C : World}, Kp (w.heap.size + 2) A B → Kp (w.heap.size + 2) B C → Kp (w.heap.size + 2) A C) (hKb : ∀ (W : World) (o : Obj), w.heap.size + 1 < W.heap.size → Kp (w.heap.size + 2) W (W.putObj (w.heap.size + 1) o)) (hb0 : Below w0.heap.size w0 w) (hps : ∀ x, (encs x).size = ps.size)
    (I : List α → World → Prop) (Ix : Code → List α → World → Prop) (hI : Abides w.heap.size (m + 2) I) (hIx : ∀ c, Abides w.heap.size (m + 2) (Ix c)) (h0 : I [] w) (a₁ : α → Act)
    (hassign : ∀ (l : Nat) (x : α) (W : World) (K : Act → World → Prop), K (a₁ x) W → assign.wpIn (F.inRound l) (n - 1 - 1) P (Exit.then K (fun _ _ _ => False)) { tmps := (ps.zip (encs x)).foldl (fun t (p, v) => t.setIfInBounds p v) a.tmps, defers := [] } W)
    (hbody : ∀ (l : Nat) (pre : List α) (x : α) (W : World), I pre W → w.heap.size + 2 + m ≤ W.heap.size → pre.length < N → body.wpIn (F.inRound l) (n - 1 - 1) P (ownPostK (Kp (w.heap.size + 2)) I Ix (pre ++ [x]) W) (a₁ x) W)
    (hdone : ∀ (xs : List α) (W : World), S xs → I xs W → W.heap[w.heap.size]? = some (.deferred (some [])) → Q .normal { a with defers := { target := .collected w.heap.size, args := #[] } :: a.defers } W)
    (hstop : ∀ (c : Code) (pre : List α) (W : World), Sp pre → Ix c pre W → W.heap[w.heap.size]? = some (.deferred (some [])) → c.wpIn F n P Q { a with defers := { target := .collected w.heap.size, args := #[] } :: a.defers } W) :
    (Code.rangeFunc g ps assign body).wpIn F n P Q a w := by
  refine wpIn_rangeFunc fun fn hfn => ?_
  rw [hro]
  -- the loop's record in each of its states, and the world in which both blocks lie
  let rec_ : LoopState → Option Code → Loop := fun st pe => { state := st, pending := pe, fn, tmps := a.tmps, params := ps, assign, body, defers := w.heap.size }
  have hL1 : ((w.alloc (.deferred (some []))).alloc (.loop (rec_ .ready none))).heap[w.heap.size + 1]? = some (.loop (rec_ .ready none)) := by
    have := World.alloc_heap_new (w.alloc (.deferred (some []))) (.loop (rec_ .ready none)); rwa [World.size_alloc] at this
  have hD1 : ((w.alloc (.deferred (some []))).alloc (.loop (rec_ .ready none))).heap[w.heap.size]? = some (.deferred (some [])) := (Below.heap_alloc _ _ _ (by simp)).trans (World.alloc_heap_new w _)
  have hb1 : Below w0.heap.size w0 ((w.alloc (.deferred (some []))).alloc (.loop (rec_ .ready none))) := hb0.trans ((((Below.refl _ w).alloc (Nat.le_refl _) _).alloc (by simp) _).mono hb0.size)
  have hI1 : I [] ((w.alloc (.deferred (some []))).alloc (.loop (rec_ .ready none))) := hI.alloc _ (hI.alloc _ h0)
  have hz1 : ((w.alloc (.deferred (some []))).alloc (.loop (rec_ .ready none))).heap.size = w.heap.size + 2 := by simp
  have he : (Instr.enterLoop fn a.tmps ps assign body none).run P w = .ok (w.heap.size + 1, [{ target := .collected w.heap.size, args := #[] }]) ((w.alloc (.deferred (some []))).alloc (.loop (rec_ .ready none))) := run_enterLoop_outer _ _ _ _ _
  generalize (w.alloc (.deferred (some []))).alloc (.loop (rec_ .ready none)) = W1 at hL1 hD1 hb1 hI1 hz1 he
  refine ⟨w.heap.size + 1, [{ target := .collected w.heap.size, args := #[] }], W1, { target := .fn (.func gf) lb, args := #[.func (.yield (w.heap.size + 1)) #[] #[]] }, W1, gf, #[.func (.yield (w.heap.size + 1)) #[] #[]] ++ lb, W1,
    he, by simp only [resolve, hg]; simp [go_sem], fun f' hf' => by simp [Target.leads] at hf'; subst hf'; exact hFg, by simp [invoke, go_sem, eg], fun _ => h1, ?_⟩
  have far : ∀ {A : World} {row : Option Nat}, Turns W1.heap.size m A row → Turns w.heap.size (m + 2) A row := fun h r e => by have := h r e; rw [hz1] at this; exact ⟨by omega, this.2.imp (fun h => by omega) id⟩
  have keep : ∀ {A C : World} {row : Option Nat} {k : Nat} {o : Obj}, Turns W1.heap.size m A row → A.grownBy C row → k < w.heap.size + 2 → A.heap[k]? = some o → C.heap[k]? = some o := fun ht hgr hk hA => (hgr.block _ (Array.getElem?_eq_some_iff.1 hA).1 (fun e => by have := (ht _ e.symm).1; omega)).trans hA
  refine (hseq (w.heap.size + 1)
    (fun pre W => I pre W ∧ W.heap[w.heap.size + 1]? = some (.loop (rec_ .ready none)) ∧ W.heap[w.heap.size]? = some (.deferred (some [])))
    (fun pre W => ∃ c, Ix c pre W ∧ W.heap[w.heap.size + 1]? = some (.loop (rec_ .done (some c))) ∧ W.heap[w.heap.size]? = some (.deferred (some [])))
    W1 hb1 (fun s A C row hs hgr ht => ⟨hI s A C row hs.1 hgr (far ht), keep ht hgr (by omega) hs.2.1, keep ht hgr (by omega) hs.2.2⟩)
    (fun s A C row hs hgr ht => by obtain ⟨c, h2, h3, h4⟩ := hs; exact ⟨c, hIx c s A C row h2 hgr (far ht), keep ht hgr (by omega) h3, keep ht hgr (by omega) h4⟩)
    ?round ⟨hI1, hL1, hD1⟩).mono ?behind
  case round =>
    rintro pre x A ⟨hi, hl, hd⟩ hlen hsz
    rw [hz1] at hsz
    have hlt : w.heap.size + 1 < A.heap.size := (Array.getElem?_eq_some_iff.1 hl).1
    refine ⟨fn, _, assign, body, run_yield (P := P) (args := encs x) hl (hps x), roundIn_of_wpIn hfn (hassign _ x A _ ⟨_, run_beginRound hl rfl, ?_⟩)⟩
    rw [hz1]
    have hl2 : (A.putObj (w.heap.size + 1) (.loop { rec_ .ready none with state := .busy })).heap[w.heap.size + 1]? = some (.loop { rec_ .ready none with state := .busy }) := World.putObj_heap_same hlt
    have hd2 : (A.putObj (w.heap.size + 1) (.loop { rec_ .ready none with state := .busy })).heap[w.heap.size]? = some (.deferred (some [])) := (World.putObj_heap_other (by omega)).trans hd
    have hi2 : I pre (A.putObj (w.heap.size + 1) (.loop { rec_ .ready none with state := .busy })) := hI.put _ hi (by omega) (by omega)
    have hz2 : w.heap.size + 2 + m ≤ (A.putObj (w.heap.size + 1) (.loop { rec_ .ready none with state := .busy })).heap.size := by rw [World.putObj_size]; exact hsz
    have hk2 := hKb A (.loop { rec_ .ready none with state := .busy }) hlt
    have hf2 : KeepsFrom (w.heap.size + 2) A (A.putObj (w.heap.size + 1) (.loop { rec_ .ready none with state := .busy })) := KeepsFrom.of_grownBy (grownBy_putObj' A _ _) (fun j e => by cases e; omega)
    generalize A.putObj (w.heap.size + 1) (.loop { rec_ .ready none with state := .busy }) = A2 at hl2 hd2 hi2 hk2 hf2 hz2 ⊢
    have fin : ∀ (jump : Option Code) (C : World), KeepsOthers A2 C → (Instr.endRound (w.heap.size + 1) jump).run P C = .ok (.bool jump.isNone) (C.putObj (w.heap.size + 1) (.loop (rec_ (if jump.isNone then .ready else .done) jump))) ∧ w.heap.size + 1 < C.heap.size ∧
        (C.putObj (w.heap.size + 1) (.loop (rec_ (if jump.isNone then .ready else .done) jump))).heap[w.heap.size + 1]? = some (.loop (rec_ (if jump.isNone then .ready else .done) jump)) ∧
        (C.putObj (w.heap.size + 1) (.loop (rec_ (if jump.isNone then .ready else .done) jump))).heap[w.heap.size]? = some (.deferred (some [])) := fun jump C hk => by
      have hl3 := hk.same _ _ hl2 rfl
      have hlt3 := (Array.getElem?_eq_some_iff.1 hl3).1
      exact ⟨run_endRound (P := P) jump hl3, hlt3, World.putObj_heap_same hlt3, (World.putObj_heap_other (by omega)).trans (hk.same _ _ hd2 rfl)⟩
    refine wpIn_mono (hbody _ pre x A2 hi2 hz2 hlen) ?_
    have out : ∀ (c : Code) (C : World), KeepsOthers A2 C → Ix c (pre ++ [x]) C → ∃ v C', (Instr.endRound (w.heap.size + 1) (some c)).run P C = .ok v C' ∧ ((Ending.returned v = .returned (.bool true) ∧ (I (pre ++ [x]) C' ∧ C'.heap[w.heap.size + 1]? = some (.loop (rec_ .ready none)) ∧ C'.heap[w.heap.size]? = some (.deferred (some []))) ∧ Kp (w.heap.size + 2) A C') ∨
        (Ending.returned v = .returned (.bool false) ∧ (∃ c, Ix c (pre ++ [x]) C' ∧ C'.heap[w.heap.size + 1]? = some (.loop (rec_ .done (some c))) ∧ C'.heap[w.heap.size]? = some (.deferred (some []))) ∧ KeepsFrom (w.heap.size + 2) A C')) := fun c C hk hx => by
      obtain ⟨hr, _, h3, h4⟩ := fin (some c) C hk
      exact ⟨_, _, hr, .inr ⟨rfl, ⟨c, (hIx c).put _ hx (by omega) (by omega), h3, h4⟩, (hf2.trans (hk.from _)).trans (KeepsFrom.of_grownBy (grownBy_putObj' C _ _) (fun j e => by cases e; omega))⟩⟩
    rintro e a3 C hp
    cases e with
    | normal =>
      obtain ⟨hk, hkp, hi3⟩ := hp
      obtain ⟨hr, hlt3, h3, h4⟩ := fin none C hk
      exact ⟨_, _, hr, .inl ⟨rfl, ⟨hI.put _ hi3 (by omega) (by omega), h3, h4⟩, hKt (hKt hk2 hkp) (hKb _ _ hlt3)⟩⟩
    | ret => exact out .ret C hp.1 hp.2
    | exit id => exact out (.exit id) C hp.1 hp.2
    | goto t => exact out (.goto t) C hp.1 hp.2
    | panic ch => exact hp.elim
    | outgrown => exact hp.elim
  case behind =>
    rintro e C ⟨⟨v, rfl⟩, (⟨xs, hS, hi, hl, hd⟩ | ⟨pre, hSp, c, hi, hl, hd⟩)⟩
    · exact ⟨none, _, run_endLoop (P := P) hl (fun e => by cases e), hdone xs _ hS (hI.put _ hi (by omega) (by omega)) ((World.putObj_heap_other (by omega)).trans hd)⟩
    · exact ⟨some c, _, run_endLoop (P := P) hl (fun e => by cases e), hstop c pre _ hSp ((hIx c).put _ hi (by omega) (by omega)) ((World.putObj_heap_other (by omega)).trans hd)⟩
end
end Go.Proofs.YtomehdepjenilaaGreat
