/-
  A range over an iterator that keeps cells of its own between the rounds: its contract; the statement's law.
-/
import Derived.Test.YtaehkbbdmamfpaaGreatDoorV7
namespace Go.Proofs.YtaehkbbdmamfpaaGreatDoor
open Go.RowKit
section
variable {F : Fence} {n : Nat} {P : Program}

def Turns (B m : Nat) (A : World) (row : Option Nat) : Prop := ∀ r, row = some r → B ≤ r ∧ (r < B + m ∨ ∃ o : Obj, A.heap[r]? = some o ∧ o.isCells = false)
def Abides {β : Type} (B m : Nat) (J : β → World → Prop) : Prop := ∀ s A C row, J s A → A.grownBy C row → Turns B m A row → J s C
theorem Abides.and {β : Type} {B m : Nat} {J K : β → World → Prop} (h : Abides B m J) (k : Abides B m K) : Abides B m (fun s W => J s W ∧ K s W) := fun s A C row hs hg hr => ⟨h s A C row hs.1 hg hr, k s A C row hs.2 hg hr⟩
theorem Abides.pure {β : Type} (B m : Nat) (p : β → Prop) : Abides B m (fun s (_ : World) => p s) := fun _ _ _ _ hs _ _ => hs
theorem Abides.alloc {β : Type} {B m : Nat} {J : β → World → Prop} (h : Abides B m J) {s : β} {W : World} (o : Obj) (hs : J s W) : J s (W.alloc o) := h s W _ none hs (World.grownBy_alloc W o none) (fun r e => by cases e)
theorem Abides.put {β : Type} {B m : Nat} {J : β → World → Prop} (h : Abides B m J) {s : β} {W : World} {l : Nat} (o : Obj) (hs : J s W) (hB : B ≤ l) (hl : l < B + m) : J s (W.putObj l o) := h s W _ (some l) hs (grownBy_putObj' W l o) (fun r e => by cases e; exact ⟨hB, .inl hl⟩)
theorem Abides.from {β : Type} {B m B' : Nat} {J : β → World → Prop} (h : Abides B m J) (hB : B ≤ B') : OwnFrom B' J := fun s A C row hs hg hr => h s A C row hs hg (fun r e => ⟨Nat.le_trans hB (hr r e).1, .inr (hr r e).2⟩)
def SeqCells {α : Type} (F : Fence) (n : Nat) (P : Program) (g : Nat) (lb : Array Value) (encs : α → Array Value) (Kp : Nat → World → World → Prop) (S Sp : List α → Prop) (N m : Nat) (w : World) : Prop :=
  ∀ (l : Nat) (J Jx : List α → World → Prop) (W : World), Below w.heap.size w W → Abides W.heap.size m J → Abides W.heap.size m Jx →
    (∀ pre x A, J pre A → pre.length < N → W.heap.size + m ≤ A.heap.size → YieldAt F (n - 1) P l (encs x) A fun e C => (e = .returned (.bool true) ∧ J (pre ++ [x]) C ∧ Kp W.heap.size A C) ∨ (e = .returned (.bool false) ∧ Jx (pre ++ [x]) C ∧ KeepsFrom W.heap.size A C)) →
    J [] W → CallsIn F n P g (#[.func (.yield l) #[] #[]] ++ lb) W fun e C => (∃ v, e = .returned v) ∧ ((∃ xs, S xs ∧ J xs C) ∨ (∃ pre, Sp pre ∧ Jx pre C))
theorem wpIn_range_cells {α : Type} {g : Operand} {ps : Array Tmp} {assign body : Code} {Q : Exit → Act → World → Prop} {a : Act} {w : World}
    (hro : F.round = none) (h1 : 1 ≤ n) {gf : Nat} {lb : Array Value} (hg : a.eval g = .func (.func gf) #[] lb) (hFg : F.fn gf) (eg : ∀ args w, (callFunc gf args).run P w = .ok (.enter gf args) w)
    {encs : α → Array Value} {Kp : Nat → World → World → Prop} {S Sp : List α → Prop} {N m : Nat} {w0 : World} (hseq : SeqCells F (n - 1) P gf lb encs Kp S Sp N m w0)
    (hKt : ∀ {A B C : World}, Kp (w.heap.size + 2) A B → Kp (w.heap.size + 2) B C → Kp (w.heap.size + 2) A C) (hKb : ∀ (W : World) (o : Obj), w.heap.size + 1 < W.heap.size → Kp (w.heap.size + 2) W (W.putObj (w.heap.size + 1) o)) (hb0 : Below w0.heap.size w0 w) (hps : ∀ x, (encs x).size = ps.size)
    (I : List α → World → Prop) (Ix : Code → List α → World → Prop) (hI : Abides w.heap.size (m + 2) I) (hIx : ∀ c, Abides w.heap.size (m + 2) (Ix c)) (h0 : I [] w) (a₁ : α → Act)
    (hassign : ∀ (l : Nat) (x : α) (W : World) (K : Act → World → Prop), K (a₁ x) W → assign.wpIn (F.inRound l) (n - 1 - 1) P (Exit.then K (fun _ _ _ => False)) { tmps := (ps.zip (encs x)).foldl (fun t (p, v) => t.setIfInBounds p v) a.tmps, defers := [] } W)
    (hbody : ∀ (l : Nat) (pre : List α) (x : α) (W : World), I pre W → w.heap.size + 2 + m ≤ W.heap.size → pre.length < N → body.wpIn (F.inRound l) (n - 1 - 1) P (ownPostK (Kp (w.heap.size + 2)) I Ix (pre ++ [x]) W) (a₁ x) W)
    (hdone : ∀ (xs : List α) (W : World), S xs → I xs W → W.heap[w.heap.size]? = some (.deferred (some [])) → Q .normal { a with defers := { target := .collected w.heap.size, args := #[] } :: a.defers } W)
    (hstop : ∀ (c : Code) (pre : List α) (W : World), Sp pre → Ix c pre W → W.heap[w.heap.size]? = some (.deferred (some [])) → c.wpIn F n P Q { a with defers := { target := .collected w.heap.size, args := #[] } :: a.defers } W) :
    (Code.rangeFunc g ps assign body).wpIn F n P Q a w := by
  refine wpIn_rangeFunc fun fn hfn => ?_
  rw [hro]
  -- the loop's record in each of its states, and the world in which both blocks lie
  let rec_ : LoopState → Option Code → Loop := fun st pe => { state := st, pending := pe, fn, tmps := a.tmps, params := ps, assign, body, defers := w.heap.size }
  have hL1 : ((w.alloc (.deferred (some []))).alloc (.loop (rec_ .ready none))).heap[w.heap.size + 1]? = some (.loop (rec_ .ready none)) := by
    have := World.alloc_heap_new (w.alloc (.deferred (some []))) (.loop (rec_ .ready none)); rwa [World.size_alloc] at this
  have hD1 : ((w.alloc (.deferred (some []))).alloc (.loop (rec_ .ready none))).heap[w.heap.size]? = some (.deferred (some [])) := (Below.heap_alloc _ _ _ (by simp)).trans (World.alloc_heap_new w _)
  have hb1 : Below w0.heap.size w0 ((w.alloc (.deferred (some []))).alloc (.loop (rec_ .ready none))) := hb0.trans ((((Below.refl _ w).alloc (Nat.le_refl _) _).alloc (by simp) _).mono hb0.size)
  have hI1 : I [] ((w.alloc (.deferred (some []))).alloc (.loop (rec_ .ready none))) := hI.alloc _ (hI.alloc _ h0)
  have hz1 : ((w.alloc (.deferred (some []))).alloc (.loop (rec_ .ready none))).heap.size = w.heap.size + 2 := by simp
  have he : (Instr.enterLoop fn a.tmps ps assign body none).run P w = .ok (w.heap.size + 1, [{ target := .collected w.heap.size, args := #[] }]) ((w.alloc (.deferred (some []))).alloc (.loop (rec_ .ready none))) := run_enterLoop_outer _ _ _ _ _
  generalize (w.alloc (.deferred (some []))).alloc (.loop (rec_ .ready none)) = W1 at hL1 hD1 hb1 hI1 hz1 he
  refine ⟨w.heap.size + 1, [{ target := .collected w.heap.size, args := #[] }], W1, { target := .fn (.func gf) lb, args := #[.func (.yield (w.heap.size + 1)) #[] #[]] }, W1, gf, #[.func (.yield (w.heap.size + 1)) #[] #[]] ++ lb, W1,
    he, by simp only [resolve, hg]; simp [go_sem], fun f' hf' => by simp [Target.leads] at hf'; subst hf'; exact hFg, by simp [invoke, go_sem, eg], fun _ => h1, ?_⟩
  have far : ∀ {A : World} {row : Option Nat}, Turns W1.heap.size m A row → Turns w.heap.size (m + 2) A row := fun h r e => by have := h r e; rw [hz1] at this; exact ⟨by omega, this.2.imp (fun h => by omega) id⟩
  have keep : ∀ {A C : World} {row : Option Nat} {k : Nat} {o : Obj}, Turns W1.heap.size m A row → A.grownBy C row → k < w.heap.size + 2 → A.heap[k]? = some o → C.heap[k]? = some o := fun ht hgr hk hA => (hgr.block _ (Array.getElem?_eq_some_iff.1 hA).1 (fun e => by have := (ht _ e.symm).1; omega)).trans hA
  refine (hseq (w.heap.size + 1)
    (fun pre W => I pre W ∧ W.heap[w.heap.size + 1]? = some (.loop (rec_ .ready none)) ∧ W.heap[w.heap.size]? = some (.deferred (some [])))
    (fun pre W => ∃ c, Ix c pre W ∧ W.heap[w.heap.size + 1]? = some (.loop (rec_ .done (some c))) ∧ W.heap[w.heap.size]? = some (.deferred (some [])))
    W1 hb1 (fun s A C row hs hgr ht => ⟨hI s A C row hs.1 hgr (far ht), keep ht hgr (by omega) hs.2.1, keep ht hgr (by omega) hs.2.2⟩)
    (fun s A C row hs hgr ht => by obtain ⟨c, h2, h3, h4⟩ := hs; exact ⟨c, hIx c s A C row h2 hgr (far ht), keep ht hgr (by omega) h3, keep ht hgr (by omega) h4⟩)
    ?round ⟨hI1, hL1, hD1⟩).mono ?behind
  case round =>
    rintro pre x A ⟨hi, hl, hd⟩ hlen hsz
    rw [hz1] at hsz
    have hlt : w.heap.size + 1 < A.heap.size := (Array.getElem?_eq_some_iff.1 hl).1
    refine ⟨fn, _, assign, body, run_yield (P := P) (args := encs x) hl (hps x), roundIn_of_wpIn hfn (hassign _ x A _ ⟨_, run_beginRound hl rfl, ?_⟩)⟩
    rw [hz1]
    have hl2 : (A.putObj (w.heap.size + 1) (.loop { rec_ .ready none with state := .busy })).heap[w.heap.size + 1]? = some (.loop { rec_ .ready none with state := .busy }) := World.putObj_heap_same hlt
    have hd2 : (A.putObj (w.heap.size + 1) (.loop { rec_ .ready none with state := .busy })).heap[w.heap.size]? = some (.deferred (some [])) := (World.putObj_heap_other (by omega)).trans hd
    have hi2 : I pre (A.putObj (w.heap.size + 1) (.loop { rec_ .ready none with state := .busy })) := hI.put _ hi (by omega) (by omega)
    have hz2 : w.heap.size + 2 + m ≤ (A.putObj (w.heap.size + 1) (.loop { rec_ .ready none with state := .busy })).heap.size := by rw [World.putObj_size]; exact hsz
    have hk2 := hKb A (.loop { rec_ .ready none with state := .busy }) hlt
    have hf2 : KeepsFrom (w.heap.size + 2) A (A.putObj (w.heap.size + 1) (.loop { rec_ .ready none with state := .busy })) := KeepsFrom.of_grownBy (grownBy_putObj' A _ _) (fun j e => by cases e; omega)
    generalize A.putObj (w.heap.size + 1) (.loop { rec_ .ready none with state := .busy }) = A2 at hl2 hd2 hi2 hk2 hf2 hz2 ⊢
    have fin : ∀ (jump : Option Code) (C : World), KeepsOthers A2 C → (Instr.endRound (w.heap.size + 1) jump).run P C = .ok (.bool jump.isNone) (C.putObj (w.heap.size + 1) (.loop (rec_ (if jump.isNone then .ready else .done) jump))) ∧ w.heap.size + 1 < C.heap.size ∧
        (C.putObj (w.heap.size + 1) (.loop (rec_ (if jump.isNone then .ready else .done) jump))).heap[w.heap.size + 1]? = some (.loop (rec_ (if jump.isNone then .ready else .done) jump)) ∧
        (C.putObj (w.heap.size + 1) (.loop (rec_ (if jump.isNone then .ready else .done) jump))).heap[w.heap.size]? = some (.deferred (some [])) := fun jump C hk => by
      have hl3 := hk.same _ _ hl2 rfl
      have hlt3 := (Array.getElem?_eq_some_iff.1 hl3).1
      exact ⟨run_endRound (P := P) jump hl3, hlt3, World.putObj_heap_same hlt3, (World.putObj_heap_other (by omega)).trans (hk.same _ _ hd2 rfl)⟩
    refine wpIn_mono (hbody _ pre x A2 hi2 hz2 hlen) ?_
    have out : ∀ (c : Code) (C : World), KeepsOthers A2 C → Ix c (pre ++ [x]) C → ∃ v C', (Instr.endRound (w.heap.size + 1) (some c)).run P C = .ok v C' ∧ ((Ending.returned v = .returned (.bool true) ∧ (I (pre ++ [x]) C' ∧ C'.heap[w.heap.size + 1]? = some (.loop (rec_ .ready none)) ∧ C'.heap[w.heap.size]? = some (.deferred (some []))) ∧ Kp (w.heap.size + 2) A C') ∨
        (Ending.returned v = .returned (.bool false) ∧ (∃ c, Ix c (pre ++ [x]) C' ∧ C'.heap[w.heap.size + 1]? = some (.loop (rec_ .done (some c))) ∧ C'.heap[w.heap.size]? = some (.deferred (some []))) ∧ KeepsFrom (w.heap.size + 2) A C')) := fun c C hk hx => by
      obtain ⟨hr, _, h3, h4⟩ := fin (some c) C hk
      exact ⟨_, _, hr, .inr ⟨rfl, ⟨c, (hIx c).put _ hx (by omega) (by omega), h3, h4⟩, (hf2.trans (hk.from _)).trans (KeepsFrom.of_grownBy (grownBy_putObj' C _ _) (fun j e => by cases e; omega))⟩⟩
    rintro e a3 C hp
    cases e with
    | normal =>
      obtain ⟨hk, hkp, hi3⟩ := hp
      obtain ⟨hr, hlt3, h3, h4⟩ := fin none C hk
      exact ⟨_, _, hr, .inl ⟨rfl, ⟨hI.put _ hi3 (by omega) (by omega), h3, h4⟩, hKt (hKt hk2 hkp) (hKb _ _ hlt3)⟩⟩
    | ret => exact out .ret C hp.1 hp.2
    | exit id => exact out (.exit id) C hp.1 hp.2
    | goto t => exact out (.goto t) C hp.1 hp.2
    | panic ch => exact hp.elim
    | outgrown => exact hp.elim
  case behind =>
    rintro e C ⟨⟨v, rfl⟩, (⟨xs, hS, hi, hl, hd⟩ | ⟨pre, hSp, c, hi, hl, hd⟩)⟩
    · exact ⟨none, _, run_endLoop (P := P) hl (fun e => by cases e), hdone xs _ hS (hI.put _ hi (by omega) (by omega)) ((World.putObj_heap_other (by omega)).trans hd)⟩
    · exact ⟨some c, _, run_endLoop (P := P) hl (fun e => by cases e), hstop c pre _ hSp ((hIx c).put _ hi (by omega) (by omega)) ((World.putObj_heap_other (by omega)).trans hd)⟩
end
end Go.Proofs.YtaehkbbdmamfpaaGreatDoor
