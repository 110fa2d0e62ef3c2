/-
  Inserts: rows of nodes, each in a block of its own; an append to one of them. No statement of the seat stands here.
-/
import Derived.Test.YtaehkbbdmamfpaaGreatDoorVBs
import Derived.Test.YtaehkbbdmamfpaaGreatDoorB6
import Derived.Test.YtaehkbbdmamfpaaGreatDoorI13
import Derived.Maps.AppendAt
namespace Go.Proofs.YtaehkbbdmamfpaaGreatDoor
open Go.ChangeShapes Go.WideShapes Go.ChangeAt Go.RowKit
section
attribute [local go_sem ↓] Go.wp_at_zero Go.wp_at_succ
/-! ### append, at the operation; the row that is appended may be empty -/
theorem zbI {P : Program} {w : World} {o : Oper} {a : Act} {K : Act -> World -> Prop} {Q : Exit -> Act -> World -> Prop} (s x : Operand) (t : TypeId)
 (ho : o.op = .call { callee := .builtin .append, args := #[s, x], argTypes := #[t, t] })
 (base : Nat) (e : TypeId) (i : TypeInfo) (z : Value) (size bytes : Nat) (ht : P.underlying t = some (.slice e)) (hi : P.info? e = some i) (hz : i.zero = some z)
 (hsize : i.size = size) (hby : i.bytes = bytes) (hzs : z.cells.size = size) (hsz : 0 < size)
 (v : Value) (n : Nat) (xs : List Value) (hs : a.eval s = v) (hown : w.ownsRow base e size v n xs)
 (ad : Addr) (m c : Nat) (news : List Value) (hx : a.eval x = .slice (some ad) m c) (hl : news.length = m * size) (hnews : ∀ j u, news[j]? = some u -> w.cell? (ad.add j) = some u) (h1 : ∀ u ∈ news, u.oneCell' = true)
 (h63 : n + m <= maxLen) (hbytes : (n + m) * bytes <= 140737488355328) (hbase : base <= w.heap.size)
 (h : ∀ v' w', w'.ownsRow base e size v' (n + m) (xs ++ news) -> w.grownBy w' v.ownBlock -> (v'.ownBlock = v.ownBlock \/ v'.ownBlock = some w.heap.size) -> K (a.put o.dst v') w') : o.wp P a w K Q := by
 obtain ⟨v', w', hr, h2, h3, _, h5⟩ := run_append_own_at (P := P) w base t o.type e i z size bytes ht hi hz hsize hby hzs hsz v n xs hown ad m c news hl hnews h1 h63 hbytes hbase
 unfold Oper.wp execOp
 simp only [ho, resolve, invoke, builtin, Sem.run_bind, Sem.run_pure, Result.andThen_ok, List.map_toArray, List.map_cons, List.map_nil, hs, hx, hr]
 exact h v' w' h2 h3 h5
theorem zah {P : Program} (w : World) {ops : Array Oper} {rest : List Oper} {o : Oper} {a : Act} {Q : Exit -> Act -> World -> Prop} (hgd : o.guard = none) (s x : Operand) (t : TypeId)
 (ho : o.op = .call { callee := .builtin .append, args := #[s, x], argTypes := #[t, t] })
 (base : Nat) (e : TypeId) (i : TypeInfo) (z : Value) (size bytes : Nat) (ht : P.underlying t = some (.slice e)) (hi : P.info? e = some i) (hz : i.zero = some z)
 (hsize : i.size = size) (hby : i.bytes = bytes) (hzs : z.cells.size = size) (hsz : 0 < size)
 (v : Value) (n : Nat) (xs : List Value) (hs : a.eval s = v) (hown : w.ownsRow base e size v n xs)
 (ad : Addr) (m c : Nat) (news : List Value) (hx : a.eval x = .slice (some ad) m c) (hl : news.length = m * size) (hnews : ∀ j u, news[j]? = some u -> w.cell? (ad.add j) = some u) (h1 : ∀ u ∈ news, u.oneCell' = true)
 (h63 : n + m <= maxLen) (hbytes : (n + m) * bytes <= 140737488355328) (hbase : base <= w.heap.size)
 (h : ∀ v' w', w'.ownsRow base e size v' (n + m) (xs ++ news) -> w.grownBy w' v.ownBlock -> (v'.ownBlock = v.ownBlock \/ v'.ownBlock = some w.heap.size) -> wpList P ops Q rest (a.put o.dst v') w') : wpList P ops Q (o :: rest) a w :=
 wpList_plain hgd fun _ hK => zbI s x t ho base e i z size bytes ht hi hz hsize hby hzs hsz v n xs hs hown ad m c news hx hl hnews h1 h63 hbytes hbase fun v' w' h2 h3 h4 => hK _ _ (h v' w' h2 h3 h4)
/-! ### Rows -/
def upd {α : Type} (f : Nat -> α) (i : Nat) (x : α) : Nat -> α := fun j => if j = i then x else f j
theorem zbg {α : Type} (f : Nat -> α) (i : Nat) (x : α) : upd f i x i = x := if_pos rfl
theorem zaN {α : Type} (f : Nat -> α) {i j : Nat} (x : α) (h : j ≠ i) : upd f i x j = f j := if_neg h
structure Rws (W : World) (base N : Nat) (vs : Nat -> Value) (xs : Nat -> List Nd) : Prop where
 row : ∀ i, i < N -> W.ownsRow base 53 19 (vs i) (xs i).length ((xs i).flatMap Nd.cells)
 ne : ∀ i j, i < N -> j < N -> i ≠ j -> ∀ q, (vs i).ownBlock = some q -> (vs j).ownBlock ≠ some q
section
variable {W W' : World} {base N : Nat} {vs : Nat -> Value} {xs : Nat -> List Nd}
theorem Rws.still (h : Rws W base N vs xs) (hb : Below W.heap.size W W') : Rws W' base N vs xs := ⟨fun i hi => zad (h.row i hi) hb, h.ne⟩
theorem Rws.far (h : Rws W base N vs xs) {r : Option Nat} (hg : W.grownBy W' r) (hr : ∀ i q, i < N -> (vs i).ownBlock = some q -> r ≠ some q) : Rws W' base N vs xs :=
 ⟨fun i hi => zar (h.row i hi) fun q hq hl => hg.block q hl (fun e => hr i q hi hq e.symm), h.ne⟩
theorem Rws.grow (h : Rws W base N vs xs) {i : Nat} (hi : i < N) {v' : Value} {y : List Nd} (hr : W'.ownsRow base 53 19 v' ((xs i).length + y.length) ((xs i).flatMap Nd.cells ++ y.flatMap Nd.cells)) (hg : W.grownBy W' (vs i).ownBlock) (hat : v'.ownBlock = (vs i).ownBlock \/ v'.ownBlock = some W.heap.size) :
 Rws W' base N (upd vs i v') (upd xs i (xs i ++ y)) := by
 have hne : ∀ j, j < N -> j ≠ i -> ∀ q, (vs j).ownBlock = some q -> v'.ownBlock ≠ some q := fun j hj hji q hq e => by
  rcases hat with h2 | h2
  · exact h.ne j i hj hi hji q hq (h2 ▸ e)
  ·
   rw [h2] at e
   have := ((h.row j hj).lt q hq).2
   simp only [Option.some.injEq] at e
   omega
 refine ⟨fun j hj => ?_, fun j k hj hk hjk q hq => ?_⟩
 ·
  by_cases e : j = i
  ·
   subst e
   rw [zbg, zbg, List.length_append, List.flatMap_append]
   exact hr
  ·
   rw [zaN _ _ e, zaN _ _ e]
   exact zar (h.row j hj) fun q hq hl => hg.block q hl (fun e2 => h.ne j i hj hi e q hq e2.symm)
 ·
  by_cases e : j = i
  ·
   subst e
   rw [zbg] at hq
   rw [zaN _ _ (Ne.symm hjk)]
   intro e2
   exact hne k hk (Ne.symm hjk) q e2 hq
  ·
   rw [zaN _ _ e] at hq
   by_cases f : k = i
   ·
    subst f
    rw [zbg]
    exact hne j hj e q hq
   ·
    rw [zaN _ _ f]
    exact h.ne j k hj hk hjk q hq
theorem Rws.push (h : Rws W base N vs xs) : Rws W base (N + 1) (upd vs N (.slice none 0 0)) (upd xs N []) := by
 refine ⟨fun j hj => ?_, fun j k hj hk hjk q hq => ?_⟩
 ·
  by_cases e : j = N
  ·
   subst e
   rw [zbg, zbg]
   exact World.ownsRow_nil _ _ _ _
  ·
   rw [zaN _ _ e, zaN _ _ e]
   exact h.row j (by omega)
 ·
  by_cases e : j = N
  · subst e; rw [zbg] at hq; cases hq
  ·
   rw [zaN _ _ e] at hq
   by_cases f : k = N
   · subst f; rw [zbg]; intro e2; cases e2
   ·
    rw [zaN _ _ f]
    exact h.ne j k (by omega) (by omega) hjk q hq
end
def boxV (N : Nat) (vs : Nat -> Value) : List Value := (List.range (N - 2)).map fun k => vs (k + 2)
theorem boxV_len (N : Nat) (vs : Nat -> Value) : (boxV N vs).length = N - 2 := by simp [boxV]
theorem boxV_at {N : Nat} {vs : Nat -> Value} {k : Nat} (h : k < N - 2) : (boxV N vs)[k]? = some (vs (k + 2)) := by simp [boxV, h]
theorem boxV_upd {N : Nat} {vs : Nat -> Value} {k : Nat} (h : k < N - 2) (v : Value) : boxV N (upd vs (k + 2) v) = (boxV N vs).set k v := by
 apply List.ext_getElem?
 intro j
 rw [List.getElem?_set]
 by_cases hj : j < N - 2
 ·
  rw [boxV_at hj]
  by_cases e : k = j
  · subst e; rw [if_pos rfl, if_pos (by rw [boxV_len]; exact h), zbg]
  · rw [if_neg e, boxV_at hj, zaN _ _ (by omega)]
 ·
  rw [List.getElem?_eq_none (by rw [boxV_len]; omega)]
  split
  · rename_i e; omega
  · rw [List.getElem?_eq_none (by rw [boxV_len]; omega)]
theorem boxV_low {N : Nat} {vs : Nat -> Value} {i : Nat} (h : i < 2) (v : Value) : boxV N (upd vs i v) = boxV N vs := by
 unfold boxV
 refine List.map_congr_left fun k _ => ?_
 rw [zaN _ _ (by omega)]
theorem boxV_push {N : Nat} {vs : Nat -> Value} (h : 2 <= N) (v : Value) : boxV (N + 1) (upd vs N v) = boxV N vs ++ [v] := by
 unfold boxV
 rw [show N + 1 - 2 = (N - 2) + 1 by omega, List.range_succ, List.map_append, List.map_singleton]
 congr 1
 ·
  refine List.map_congr_left fun k hk => ?_
  have := List.mem_range.1 hk
  rw [zaN _ _ (by omega)]
 · rw [show N - 2 + 2 = N by omega, zbg]
theorem info_rowb : (Tryz.prog.info? 22).map (fun i => (i.zero, i.size, i.bytes)) = some (some (.slice none 0 0), 1, 24) := by kernel_rfl
theorem info_row0 : (Tryz.prog.info? 22).map (fun i => (i.zero, i.size)) = some (some (.slice none 0 0), 1) := by kernel_rfl
def bsRow1 (parts : Array (Nat × Value)) : Sem Value := Instr.buildSlice 25 1 parts
@[go_sem ↓] theorem execOp_bsRow1 (ρ : Operand -> Value) (dst : Option Tmp) (x : Array (Nat × Operand)) (ty : TypeId) (pos : String) (after : Array Edge) (guard : Option (Nat × Bool)) :
 execOp ρ { dst, op := .buildSlice 25 1 x, type := ty, pos, after, guard } = (do pure (.value (<- bsRow1 (x.map fun (i, y) => (i, ρ y))))) := rfl
theorem fill_row1 : Instr.fill (fun i => some (i * 1, 1)) ((Array.range (1 * 1)).map ((Value.slice none 0 0).cells[· % (Value.slice none 0 0).cells.size]!)) [(0, .slice none 0 0)] = some #[.slice none 0 0] := by kernel_rfl
@[go_sem] theorem run_bsRow1 (w : World) : (bsRow1 #[(0, .slice none 0 0)]).run Tryz.prog w = .ok (.slice (some ⟨w.heap.size, 0, none⟩) 1 1) (w.alloc (.cells #[.slice none 0 0] 22)) := by
 obtain ⟨i, hi, hzz⟩ := Option.map_eq_some_iff.1 info_row0
 simp only [Prod.mk.injEq] at hzz
 obtain ⟨hz, hs⟩ := hzz
 refine run_buildSlice w _ 22 1 _ #[.slice none 0 0] i (.slice none 0 0) Tryz.underlying25 hi hz (by rw [hs]; decide) (by rw [hs]; decide) ?_
 rw [hs]
 exact fill_row1
theorem row_ne_node : (22 : TypeId) ≠ 53 := by decide
theorem zbz {W : World} {b1 b2 n1 n2 : Nat} {u v : Value} {xs ys : List Value} (hu : W.ownsRow b1 22 1 u n1 xs) (hv : W.ownsRow b2 53 19 v n2 ys) : ∀ q, v.ownBlock = some q -> u.ownBlock ≠ some q := by
 intro q hq hq2
 obtain ⟨_, ⟨rfl, _⟩ | ⟨g, c, cur, rfl, _, hg, _⟩⟩ := hu
 · cases hq2
 ·
  obtain ⟨_, ⟨rfl, _⟩ | ⟨g', c', cur', rfl, _, hg', _⟩⟩ := hv
  · cases hq
  ·
   simp only [Value.ownBlock, Option.some.injEq] at hq hq2
   rw [hq2, <- hq, hg'] at hg
   simp only [Option.some.injEq, Obj.cells.injEq] at hg
   exact row_ne_node hg.2.1.symm
end
section
/-! ### Plain -/
theorem take_split {L : List Nd} {t x : Nat} (hx : x <= (L.take t).length) : L.drop x = (L.take t).drop x ++ L.drop t := by
 have h := List.drop_append_of_le_length (l₂ := L.drop t) hx
 rw [List.take_append_drop] at h
 exact h
theorem take_beh {L : List Nd} {t x m : Nat} (hx : x < (L.take t).length) (hm : behC ((L.take t).drop x) 0 = some m) : behC (L.drop x) 0 = some m /\ x + m <= t := by
 refine ⟨by rw [take_split (Nat.le_of_lt hx)]; exact behC_app _ _ _ _ hm, ?_⟩
 have := zaw _ _ _ hm
 rw [List.length_drop, List.length_take] at this
 rw [List.length_take] at hx
 omega
theorem take_ins {L : List Nd} {t x m : Nat} (hx : x < (L.take t).length) (hm : behC ((L.take t).drop x) 0 = some m) : insP (L.take t) x = insP L x := by
 obtain ⟨h1, h2⟩ := take_beh hx hm
 rw [zcc hm, zcc h1]
 unfold sl
 rw [List.drop_take, List.take_take]
 congr 1
 omega
structure StepOk (L : List Nd) (t : Nat) (s : Sp) : Prop where
 ex : ∃ x : Nat, s.at_ = (x : Int) /\ x ∈ itsP L /\ x < t /\ (nth L x).kind = 13
 cls : ∃ k : Nat, s.cls = (k : Int) /\ k <= 254
 what : s.what = 1 \/ s.what = 2 \/ s.what = 3
 split : ∃ q : Nat, s.split = (q : Int) /\ q <= (insP L s.at_.toNat).length
theorem step_what (L : List Nd) (C : List Cl) (depth : Int) (st : As) (x : Nat) : (zbp L C depth st x).2.at_ = x /\ (zbp L C depth st x).2.cls = (nth L x).sub /\ ((zbp L C depth st x).2.what = 1 \/ (zbp L C depth st x).2.what = 2 \/ (zbp L C depth st x).2.what = 3) := by
 unfold zbp
 simp only
 split
 · simp
 split <;> simp
theorem step_split {L : List Nd} {C : List Cl} {depth : Int} {st : As} {x : Nat} (hc : zao L = 0) (hlt : x < L.length) (hk : (nth L x).kind = 13) (hX : colQ (insP L x) = 0) : ∃ q : Nat, (zbp L C depth st x).2.split = (q : Int) /\ q <= (insP L x).length := by
 obtain ⟨_, _, nd, _, _⟩ := ins_nb hc hlt hk
 unfold zbp
 simp only
 split
 · exact ⟨0, rfl, Nat.zero_le _⟩
 split
 · exact ⟨0, rfl, Nat.zero_le _⟩
 ·
  obtain ⟨_, y, hy, hyl⟩ := best_nb (zam hX) (zaO (zam hX)) (zbw (zcv C (nth L x).sub) (zbE L depth (metI st C (nth L x).sub) x) (zcW st (nth L x).sub).size) (nth L x).d nd
  refine ⟨y.1, ?_, ?_⟩
  ·
   show bA (bestO _ _ _ _) = _
   rw [hy]; rfl
  ·
   rcases hyl with h | h
   · exact Nat.le_of_lt ((zaO (zam hX)).lt _ h).2
   · omega
theorem fold_steps {L : List Nd} {C : List Cl} {depth : Int} : ∀ (s : List Nat) (p : As × List Sp), ∀ y ∈ (s.foldl (addI L C depth) p).2, y ∈ p.2 \/ ∃ st x, x ∈ s /\ (nth L x).kind = 13 /\ y = (zbp L C depth st x).2
 | [], p, y, hy => .inl hy
 | x :: s, p, y, hy => by
  rw [List.foldl_cons] at hy
  rcases fold_steps s _ y hy with h | ⟨st, z, hz, hk, e⟩
  ·
   unfold addI at h
   split at h
   ·
    rename_i hk
    rcases List.mem_append.1 h with h | h
    · exact .inl h
    ·
     simp only [List.mem_singleton] at h
     exact .inr ⟨p.1, x, by simp, hk, h⟩
   · exact .inl h
  · exact .inr ⟨st, z, by simp [hz], hk, e⟩
theorem steps_ok {L : List Nd} {C : List Cl} {goal depth : Int} {t : Nat} (hc : zao L = 0) (ht : t ∈ itsP L \/ t = L.length) (h : (accR (L.take t) C goal depth).2.2 = 0) : ∀ y ∈ (accR (L.take t) C goal depth).1, StepOk L t y := by
 intro y hy
 have hs := zaO hc
 have htl : t <= L.length := by
  rcases ht with h | h
  · exact Nat.le_of_lt (hs.lt _ h).2
  · omega
 have hlen : (L.take t).length = t := by rw [List.length_take]; omega
 have hi := zbL hs ht
 have hit : itsP (L.take t) = zaF (itsP L) t := itsP_eq hi
 unfold accR at h hy
 split at h
 ·
  rename_i hE
  rw [if_pos hE] at hy
  split at h
  ·
   rename_i hd
   rw [if_pos hd] at hy
   have hok := accE_ok hE
   rcases fold_steps _ _ y hy with h1 | ⟨st, x, hx, hk, rfl⟩
   · cases h1
   ·
    obtain ⟨m, hm⟩ := (zaO (zam hok.col)).at_ x hx
    have hxl := ((zaO (zam hok.col)).lt x hx).2
    have hxt : x < t := by omega
    have hn : nth (L.take t) x = nth L x := by unfold nth; rw [List.getElem?_take_of_lt hxt]
    obtain ⟨s1, s2, s3⟩ := step_what (L.take t) C depth st x
    obtain ⟨nsub, _⟩ := ins_nb (zam hok.col) hxl hk
    refine ⟨⟨x, s1, ?_, hxt, by rw [<- hn]; exact hk⟩, ?_, s3, ?_⟩
    ·
     rw [hit] at hx
     exact (List.takeWhile_sublist _).subset hx
    ·
     rw [s2]
     exact ⟨(nth (L.take t) x).sub.toNat, by omega, by omega⟩
    ·
     rw [s1, Int.toNat_natCast, <- take_ins hxl hm]
     exact step_split (zam hok.col) hxl hk (hok.ins x hx hk)
  · cases h
 · rename_i hE; exact absurd h hE
theorem zcV {L : List Nd} {tk : Int} (h : zbm L tk = true) : ∃ t : Nat, tk = (t : Int) /\ (t ∈ itsP L \/ t = L.length) := by
 unfold zbm at h
 simp only [Bool.or_eq_true, beq_iff_eq, List.any_eq_true] at h
 rcases h with h | ⟨x, hx, e⟩
 · exact ⟨L.length, h, .inr rfl⟩
 · exact ⟨x, e.symm, .inl hx⟩
/-! ### What a deal holds -/
def rowX (page : List Nd) (d : Dl) : Nat -> List Nd
 | 0 => page
 | 1 => d.rest
 | k + 2 => (d.boxes[k]?).getD []
structure DlIn (W : World) (base : Nat) (vs : Nat -> Value) (bv : Value) (page : List Nd) (d : Dl) : Prop where
 rws : Rws W base (d.boxes.length + 2) vs (rowX page d)
 out : W.ownsRow base 22 1 bv d.boxes.length (boxV (d.boxes.length + 2) vs)
theorem DlIn.still {W W' : World} {base : Nat} {vs : Nat -> Value} {bv : Value} {page : List Nd} {d : Dl} (h : DlIn W base vs bv page d) (hb : Below W.heap.size W W') : DlIn W' base vs bv page d := ⟨h.rws.still hb, zad h.out hb⟩
theorem rowX_rest (page : List Nd) (d : Dl) (y : List Nd) : rowX page ⟨d.boxes, d.rest ++ y⟩ = upd (rowX page d) 1 (rowX page d 1 ++ y) := by
 funext j
 unfold upd
 match j with
 | 0 => rfl
 | 1 => rfl
 | k + 2 => rfl
theorem rowX_box (page : List Nd) (d : Dl) {k : Nat} (hk : k < d.boxes.length) (y : List Nd) : rowX page ⟨putB d.boxes k y, d.rest⟩ = upd (rowX page d) (k + 2) (rowX page d (k + 2) ++ y) := by
 funext j
 unfold upd
 match j with
 | 0 => rfl
 | 1 => rfl
 | i + 2 =>
  unfold rowX putB
  simp only
  rw [List.getElem?_set]
  by_cases e : k = i
  ·
   subst e
   rw [if_pos rfl, if_pos hk, if_pos rfl]
   rfl
  · rw [if_neg e, if_neg (by omega)]
theorem rowX_push (page : List Nd) (d : Dl) : rowX page ⟨d.boxes ++ [[]], d.rest⟩ = upd (rowX page d) (d.boxes.length + 2) [] := by
 funext j
 unfold upd
 match j with
 | 0 => rfl
 | 1 => rfl
 | i + 2 =>
  unfold rowX
  simp only
  by_cases e : i = d.boxes.length
  · subst e; rw [if_pos rfl]; simp
  ·
   rw [if_neg (by omega)]
   by_cases hlt : i < d.boxes.length
   · rw [List.getElem?_append_left hlt]
   · rw [List.getElem?_eq_none (by simp; omega), List.getElem?_eq_none (by omega)]
set_option maxRecDepth 100000
theorem row_not {W : World} {B : Nat} {e : TypeId} {size : Nat} {v : Value} {n : Nat} {xs : List Value} (h : W.ownsRow B e size v n xs) {q : Nat} {c : Array Value} {t : TypeId} (hb : Blk W q c t) (ht : t ≠ e) : v.ownBlock ≠ some q := by
 intro hq
 obtain ⟨_, ⟨rfl, _⟩ | ⟨g, c', cur, rfl, _, hg, _⟩⟩ := h
 · cases hq
 ·
  simp only [Value.ownBlock, Option.some.injEq] at hq
  rw [hq] at hg
  unfold Blk at hb
  rw [hg] at hb
  simp only [Option.some.injEq, Obj.cells.injEq] at hb
  exact ht hb.2.1.symm
theorem step_ne_node : (49 : TypeId) ≠ 53 := by decide
theorem step_ne_row : (49 : TypeId) ≠ 22 := by decide
section
variable {W W' : World} {base : Nat} {vs : Nat -> Value} {bv : Value} {page : List Nd} {d : Dl}
theorem DlIn.rest (h : DlIn W base vs bv page d) {y : List Nd} {v' : Value} (hr : W'.ownsRow base 53 19 v' (d.rest.length + y.length) (d.rest.flatMap Nd.cells ++ y.flatMap Nd.cells)) (hg : W.grownBy W' (vs 1).ownBlock) (hat : v'.ownBlock = (vs 1).ownBlock \/ v'.ownBlock = some W.heap.size) :
 DlIn W' base (upd vs 1 v') bv page ⟨d.boxes, d.rest ++ y⟩ := by
 refine ⟨?_, ?_⟩
 ·
  rw [rowX_rest]
  exact h.rws.grow (by omega) hr hg hat
 ·
  show W'.ownsRow base _ 1 bv d.boxes.length (boxV (d.boxes.length + 2) (upd vs 1 v'))
  rw [boxV_low (by omega)]
  exact zar h.out fun q hq hl => hg.block q hl (fun e => zbz h.out (h.rws.row 1 (by omega)) q e.symm hq)
theorem DlIn.push (h : DlIn W base vs bv page d) {bv' : Value} (hr : W'.ownsRow base 22 1 bv' (d.boxes.length + 1) (boxV (d.boxes.length + 2) vs ++ [.slice none 0 0])) (hg : W.grownBy W' bv.ownBlock) :
 DlIn W' base (upd vs (d.boxes.length + 2) (.slice none 0 0)) bv' page ⟨d.boxes ++ [[]], d.rest⟩ := by
 have e : (d.boxes ++ [([] : List Nd)]).length = d.boxes.length + 1 := by simp
 refine ⟨?_, ?_⟩
 ·
  show Rws W' base ((d.boxes ++ [([] : List Nd)]).length + 2) _ _
  rw [rowX_push, e]
  exact (h.rws.far hg fun i q hi hq e => zbz h.out (h.rws.row i hi) q hq e).push
 ·
  show W'.ownsRow base _ 1 bv' (d.boxes ++ [([] : List Nd)]).length (boxV ((d.boxes ++ [([] : List Nd)]).length + 2) _)
  rw [e]
  show W'.ownsRow base _ 1 bv' (d.boxes.length + 1) (boxV (d.boxes.length + 2 + 1) _)
  rw [boxV_push (by omega)]
  exact hr
theorem zbv {N n : Nat} (h : W.ownsRow base 22 1 bv n (boxV N vs)) {k : Nat} (hk : k < N - 2) :
 ∃ g c, bv = .slice (some ⟨g, 0, none⟩) n c /\ n = N - 2 /\ n <= c /\ base <= g /\ W.cell? ⟨g, k, none⟩ = some (vs (k + 2)) /\ W.frozen? ⟨g, k, none⟩ = false := by
 have hn := h.1
 rw [boxV_len] at hn
 obtain ⟨_, ⟨_, e⟩ | ⟨g, c, cur, rfl, hb, hg, hc, _⟩⟩ := id h
 · omega
 ·
  refine ⟨g, c, rfl, by omega, hc, hb, ?_, frozen_of_row W g k cur _ hg⟩
  have := h.cells (g := g) rfl k (vs (k + 2)) (boxV_at hk)
  rwa [show (⟨g, 0, none⟩ : Addr).add k = ⟨g, k, none⟩ by unfold Addr.add; split <;> simp_all] at this
theorem out_set {N n g c : Nat} (h : W.ownsRow base 22 1 (.slice (some ⟨g, 0, none⟩) n c) n (boxV N vs)) {k : Nat} (hk : k < N - 2) (v : Value) :
 (W.setCell ⟨g, k, none⟩ v).ownsRow base 22 1 (.slice (some ⟨g, 0, none⟩) n c) n (boxV N (upd vs (k + 2) v)) := by
 obtain ⟨l1, ⟨e1, _⟩ | ⟨g1, c1, cur, e1, b1, hg, n1, m1, s1, t1⟩⟩ := id h
 · cases e1
 cases e1
 rw [boxV_upd hk]
 refine ⟨by rw [List.length_set]; exact l1, .inr ⟨g, c, _, rfl, b1, heap_setCell_same W g k cur _ _ hg, n1, m1, by simp [s1], ?_⟩⟩
 rw [<- t1, Array.toList_setIfInBounds, List.take_set]
end
structure JB (w0 : World) (base : Nat) (vs : Nat -> Value) (bv : Value) (page : List Nd) (d : Dl) (k : Nat) (y : List Nd) (Sb : Nat) (s : Sp) (iL iA iS : Nat) (m : Nat -> Bool) (us : Nat -> Value) (W : World) : Prop where
 below : Below base w0 W
 size : base <= W.heap.size
 blk : Blk W Sb s.arr 49
 ne : iL ≠ iA /\ iL ≠ iS /\ iA ≠ iS
 dep1 : m iS = true -> m iA = true
 dep2 : m iA = true -> m iL = true
 ld : m iL = true -> us iL = vs (k + 2)
 pre : m iA = false -> DlIn W base vs bv page d
 mid : m iA = true -> m iS = false -> Rws W base (d.boxes.length + 2) (upd vs (k + 2) (us iA)) (rowX page ⟨putB d.boxes k y, d.rest⟩) /\ W.ownsRow base 22 1 bv d.boxes.length (boxV (d.boxes.length + 2) vs)
 post : m iS = true -> DlIn W base (upd vs (k + 2) (us iA)) bv page ⟨putB d.boxes k y, d.rest⟩
section
variable {w0 W W' : World} {base : Nat} {vs : Nat -> Value} {bv : Value} {page : List Nd} {d : Dl} {k : Nat} {y : List Nd} {Sb : Nat} {s : Sp} {iL iA iS : Nat} {m : Nat -> Bool} {us : Nat -> Value}
theorem JB.init (h : DlIn w0 base vs bv page d) (hs : base <= w0.heap.size) (hb : Blk w0 Sb s.arr 49) (hne : iL ≠ iA /\ iL ≠ iS /\ iA ≠ iS) : JB w0 base vs bv page d k y Sb s iL iA iS (fun _ => false) us w0.drew :=
 ⟨(Below.refl _ _).drew, hs, hb, hne, (fun h => by cases h), (fun h => by cases h), (fun h => by cases h), (fun _ => h.still ((Below.refl _ _).drew)), (fun h => by cases h), (fun h => by cases h)⟩
theorem JB.load (h : JB w0 base vs bv page d k y Sb s iL iA iS m us W) (hm : m iL = false) {u : Value} (hu : u = vs (k + 2)) : JB w0 base vs bv page d k y Sb s iL iA iS (fun j => m j || j == iL) (fun j => if j = iL then u else us j) W := by
 obtain ⟨n1, n2, n3⟩ := h.ne
 have hA : m iA = false := by
  cases e : m iA
  · rfl
  · have := h.dep2 e; rw [hm] at this; cases this
 have hS : m iS = false := by
  cases e : m iS
  · rfl
  · have := h.dep1 e; rw [hA] at this; cases this
 have eA : (m iA || iA == iL) = false := by simp [hA, Ne.symm n1]
 have eS : (m iS || iS == iL) = false := by simp [hS, Ne.symm n2]
 refine ⟨h.below, h.size, h.blk, h.ne, fun e => ?_, fun e => ?_, fun _ => ?_, fun _ => h.pre hA, fun e => ?_, fun e => ?_⟩
 · rw [eS] at e; cases e
 · rw [eA] at e; cases e
 · simp only [if_pos]; exact hu
 · rw [eA] at e; cases e
 · rw [eS] at e; cases e
theorem JB.app (h : JB w0 base vs bv page d k y Sb s iL iA iS m us W) (hk : k < d.boxes.length) (hL : m iL = true) (hm : m iA = false) {v' : Value}
 (hr : W'.ownsRow base 53 19 v' ((rowX page d (k + 2)).length + y.length) ((rowX page d (k + 2)).flatMap Nd.cells ++ y.flatMap Nd.cells)) (hg : W.grownBy W' (vs (k + 2)).ownBlock) (hat : v'.ownBlock = (vs (k + 2)).ownBlock \/ v'.ownBlock = some W.heap.size) :
 JB w0 base vs bv page d k y Sb s iL iA iS (fun j => m j || j == iA) (fun j => if j = iA then v' else us j) W' := by
 obtain ⟨n1, n2, n3⟩ := h.ne
 have hS : m iS = false := by
  cases e : m iS
  · rfl
  · have := h.dep1 e; rw [hm] at this; cases this
 have eS : (m iS || iS == iA) = false := by simp [hS, Ne.symm n3]
 have eA : (m iA || iA == iA) = true := by simp
 have h0 := h.pre hm
 have hrow := h0.rws.row (k + 2) (by omega)
 refine ⟨h.below.grown hg h.size (fun q hq => (hrow.lt q hq).1), Nat.le_trans h.size hg.size, ?_, h.ne, fun e => ?_, fun _ => ?_, fun _ => ?_, fun e => ?_, fun _ _ => ⟨?_, ?_⟩, fun e => ?_⟩
 · exact (hg.block Sb h.blk.lt (fun e => row_not hrow h.blk step_ne_node e.symm)).trans h.blk
 · rw [eS] at e; cases e
 · simp [hL]
 · simp only [if_neg n1]; exact h.ld hL
 · rw [eA] at e; cases e
 ·
  simp only [if_pos]
  rw [rowX_box page d hk y]
  exact h0.rws.grow (by omega) hr hg hat
 · exact zar h0.out fun q hq hl => hg.block q hl (fun e => zbz h0.out hrow q e.symm hq)
 · rw [eS] at e; cases e
theorem JB.store (h : JB w0 base vs bv page d k y Sb s iL iA iS m us W) (hk : k < d.boxes.length) (hA : m iA = true) (hm : m iS = false) {g n c : Nat} (hbv : bv = .slice (some ⟨g, 0, none⟩) n c) (u : Value) :
 JB w0 base vs bv page d k y Sb s iL iA iS (fun j => m j || j == iS) (fun j => if j = iS then u else us j) (W.setCell ⟨g, k, none⟩ (us iA)) := by
 obtain ⟨n1, n2, n3⟩ := h.ne
 obtain ⟨h1, h2⟩ := h.mid hA hm
 have hL := h.dep2 hA
 obtain ⟨g', c', e', f1, _, f2, _, _⟩ := zbv h2 (k := k) (by omega)
 rw [hbv] at e'
 cases e'
 subst hbv
 have hrow : ∀ i, i < d.boxes.length + 2 -> (upd vs (k + 2) (us iA) i).ownBlock ≠ some g := fun i hi e => zbz h2 (h1.row i hi) g e rfl
 have hne : Sb ≠ g := fun e => row_not h2 h.blk step_ne_row (by rw [e]; rfl)
 refine ⟨h.below.setCell f2 _, ?_, ?_, h.ne, fun _ => ?_, fun _ => ?_, fun _ => ?_, fun e => ?_, fun _ e => ?_, fun _ => ?_⟩
 · exact Nat.le_trans h.size ((KeepsWalks.setCell W _ _).size)
 · exact h.blk.other (Ne.symm hne) _
 · simp [hA]
 · simp [hL]
 · simp only [if_neg n2]; exact h.ld hL
 · simp [hA] at e
 · simp at e
 ·
  simp only [if_neg n3]
  refine ⟨⟨fun i hi => ?_, fun i j hi hj => h1.ne i j (by simpa [putB] using hi) (by simpa [putB] using hj)⟩, ?_⟩
  · exact ownsRow_setCell_other (h1.row i (by simpa [putB] using hi)) (hrow i (by simpa [putB] using hi)) _
  ·
   show (W.setCell _ _).ownsRow base _ 1 _ (putB d.boxes k y).length (boxV ((putB d.boxes k y).length + 2) _)
   rw [show (putB d.boxes k y).length = d.boxes.length by simp [putB]]
   exact out_set h2 (by omega) _
end
def LeftIs (w : World) (r : List Nd × Int) (v e : Value) (W : World) : Prop :=
 (r.2 = 0 -> e = .nilIface /\ NRow w v r.1 W) /\ (r.2 ≠ 0 -> v = .slice none 0 0 /\ ∃ X, e = .iface 75 (.pointer (some ⟨X, 0, none⟩)) /\ w.heap.size <= X /\ W.heap[X]? = some (.cells #[.int .i64 r.2] 79 (0, 0)))
structure JL (w : World) (r : List Nd × Int) (c : Nat) (m : Nat -> Bool) (us : Nat -> Value) (W : World) : Prop where
 below : Below w.heap.size w W
 dep : ∀ j, m j = true -> m c = true
 vals : ∃ v e, (m c = true -> LeftIs w r v e W) /\ ∀ j, m j = true -> us j = if j = c + 2 \/ j = c + 4 then v else if j = c + 3 \/ j = c + 5 then e else .tuple #[v, e]
section
variable {w W W' : World} {r : List Nd × Int} {c i : Nat} {m : Nat -> Bool} {us : Nat -> Value}
theorem JL.init : JL w r c (fun _ => false) us w.drew := ⟨(Below.refl _ _).drew, (fun _ h => by cases h), ⟨undef, undef, (fun h => by cases h), (fun _ h => by cases h)⟩⟩
theorem JL.call (h : JL w r c m us W) (hm : m c = false) {ev : Ending} (hp : LeftPost W r ev W') : ∃ u, ev = .returned u /\ JL w r c (fun j => m j || j == c) (fun j => if j = c then u else us j) W' := by
 have hn : ∀ j, m j = false := fun j => by
  cases e : m j
  · rfl
  · have := h.dep j e; rw [hm] at this; cases this
 have hj : ∀ j, (m j || j == c) = true -> j = c := fun j e => by simpa [hn j] using e
 have hb := h.below.trans (hp.below.mono h.below.size)
 by_cases h0 : r.2 = 0
 ·
  obtain ⟨v, rfl, hv⟩ := hp.good h0
  refine ⟨_, rfl, hb, fun j e => by simp, v, .nilIface, fun _ => ⟨fun _ => ⟨rfl, zas hv h.below.size⟩, fun e => absurd h0 e⟩, fun j e => ?_⟩
  obtain rfl := hj j e
  simp only [if_pos]
  rw [if_neg (by omega), if_neg (by omega)]
 ·
  obtain ⟨X, rfl, h1, h2⟩ := hp.bad h0
  refine ⟨_, rfl, hb, fun j e => by simp, .slice none 0 0, _, fun _ => ⟨fun e => absurd e h0, fun _ => ⟨rfl, X, rfl, Nat.le_trans h.below.size h1, h2⟩⟩, fun j e => ?_⟩
  obtain rfl := hj j e
  simp only [if_pos]
  rw [if_neg (by omega), if_neg (by omega)]
theorem JL.pure (h : JL w r c m us W) (hm : m c = true) (hi : i ≠ c) {u : Value} (hu : ∀ v e, us c = .tuple #[v, e] -> (∀ j, m j = true -> us j = if j = c + 2 \/ j = c + 4 then v else if j = c + 3 \/ j = c + 5 then e else .tuple #[v, e]) -> u = if i = c + 2 \/ i = c + 4 then v else if i = c + 3 \/ i = c + 5 then e else .tuple #[v, e]) :
 JL w r c (fun j => m j || j == i) (fun j => if j = i then u else us j) W := by
 obtain ⟨v, e, h1, h2⟩ := h.vals
 refine ⟨h.below, fun j hj => by simp [hm], v, e, fun _ => h1 hm, fun j hj => ?_⟩
 by_cases e1 : j = i
 ·
  subst e1
  simp only [if_pos]
  exact hu v e (by rw [h2 c hm, if_neg (by omega), if_neg (by omega)]) h2
 ·
  simp only [if_neg e1]
  exact h2 j (by simpa [e1] using hj)
end
theorem dealF_cons {L : List Nd} {s : Sp} {r : List Sp} {d D : Dl} (h : zdf L (s :: r) d = .ok D) : ∃ d', dealS L d s = .ok d' /\ zdf L r d' = .ok D := by
 unfold zdf at h
 cases hs : dealS L d s with
 | error e => rw [hs] at h; cases h
 | ok d' => rw [hs] at h; exact ⟨d', rfl, h⟩
structure DlOk (n : Nat) (d : Dl) : Prop where
 few : d.boxes.length <= 255
 box : ∀ x ∈ d.boxes, x.length <= n * 2002
 rest : d.rest.length <= n * 2002
theorem leftP_len {n : Nd} {R : List Nd} (_h : (zdc n R).2 = 0) : (zdc n R).1.length <= 2002 := by
 unfold zdc at _h ⊢
 simp only at _h ⊢
 split
 ·
  split
  · simp
  split
  ·
   rename_i hc
   have := (zaj hc).1
   split
   · simp only [List.length_append, List.length_cons, List.length_nil]; omega
   · exact Nat.zero_le _
  · exact Nat.zero_le _
 · exact Nat.zero_le _
theorem itemN_le (L : List Nd) (x : Nat) : (zby L x).length <= L.length := by unfold zby; simp; omega
theorem putB_ok {n k : Nat} {B : List (List Nd)} {y : List Nd} (h : ∀ x ∈ B, x.length <= n * 2002) (hy : y.length <= 2002) : ∀ x ∈ putB B k y, x.length <= (n + 1) * 2002 := by
 intro x hx
 unfold putB at hx
 rcases List.mem_or_eq_of_mem_set hx with hx | rfl
 · have := h x hx; omega
 ·
  rw [List.length_append]
  cases hg : B[k]? with
  | none => simp; omega
  | some z => have := h z (List.mem_of_getElem? hg); simp; omega
theorem padI_ok {n k : Nat} {B : List (List Nd)} (h : ∀ x ∈ B, x.length <= n * 2002) : ∀ x ∈ padI B k, x.length <= n * 2002 := by
 intro x hx
 unfold padI at hx
 rcases List.mem_append.1 hx with hx | hx
 · exact h x hx
 · rw [(List.mem_replicate.1 hx).2]; simp
theorem padI_few {k : Nat} {B : List (List Nd)} (h : B.length <= 255) (hk : k <= 254) : (padI B k).length <= 255 := by unfold padI; simp; omega
theorem dealS_ok {L : List Nd} {t n : Nat} {d d' : Dl} {s : Sp} (hL : L.length <= 2000) (hs : StepOk L t s) (h : DlOk n d) (hd : dealS L d s = .ok d') : DlOk (n + 1) d' := by
 obtain ⟨c, hc, hc2⟩ := hs.cls
 have hct : s.cls.toNat = c := by rw [hc, Int.toNat_natCast]
 have hi := insP_le (L := L) s.at_.toNat
 have hm := itemN_le L s.at_.toNat
 have hP := padI_ok (k := c) h.box
 have hF := padI_few (k := c) h.few hc2
 have hr := h.rest
 have hr1 : d.rest.length <= (n + 1) * 2002 := by omega
 have hr2 : ∀ y : List Nd, y.length <= 2002 -> (d.rest ++ y).length <= (n + 1) * 2002 := fun y hy => by rw [List.length_append]; omega
 unfold dealS at hd
 simp only [hct] at hd
 split at hd
 ·
  cases hd
  exact ⟨by simpa [putB] using hF, putB_ok hP (by omega), hr1⟩
 split at hd
 ·
  cases hd
  exact ⟨hF, fun x hx => by have := hP x hx; omega, hr2 _ (by omega)⟩
 split at hd
 ·
  rename_i hl
  cases hd
  have := leftP_len hl
  exact ⟨by simpa [putB] using hF, putB_ok hP (by rw [List.length_take]; omega), hr2 _ this⟩
 · cases hd
theorem fold_few {L : List Nd} {C : List Cl} {depth : Int} : ∀ (s : List Nat) (p : As × List Sp), (s.foldl (addI L C depth) p).2.length <= p.2.length + s.length
 | [], p => by simp
 | x :: s, p => by
  rw [List.foldl_cons]
  have := fold_few (L := L) (C := C) (depth := depth) s (addI L C depth p x)
  have h2 : (addI L C depth p x).2.length <= p.2.length + 1 := by
   unfold addI
   split
   · simp
   · omega
  simp only [List.length_cons]
  omega
theorem steps_few {L : List Nd} {C : List Cl} {goal depth : Int} : (accR L C goal depth).1.length <= (itsP L).length := by
 unfold accR
 split
 ·
  split
  ·
   have := fold_few (L := L) (C := C) (depth := depth) (itsP L) (As.mk goal 0 [] .zero, [])
   simpa [accF] using this
  · simp
 · simp
theorem dlIn_start {W : World} {base : Nat} {page : List Nd} {v : Value} (h : W.ownsRow base 53 19 v page.length (page.flatMap Nd.cells)) : DlIn W base (fun i => if i = 0 then v else .slice none 0 0) (.slice none 0 0) page ⟨[], []⟩ := by
 refine ⟨⟨fun i hi => ?_, fun i j hi hj hij q hq e => ?_⟩, World.ownsRow_nil _ _ _ _⟩
 ·
  match i with
  | 0 => exact h
  | 1 => exact World.ownsRow_nil _ _ _ _
  | k + 2 => exact absurd hi (by show ¬ k + 2 < 2; omega)
 ·
  match i, j with
  | 0, 0 => exact hij rfl
  | 0, j + 1 => cases e
  | i + 1, _ => cases hq
theorem padI_at (B : List (List Nd)) (k : Nat) : k < (padI B k).length := by unfold padI; simp; omega
theorem dealS_at {L : List Nd} {d : Dl} {s : Sp} {x c q : Nat} (hx : s.at_ = (x : Int)) (hc : s.cls = (c : Int)) (hq : s.split = (q : Int)) :
 dealS L d s = if s.what = 1 then .ok ⟨putB (padI d.boxes c) c (insP L x), d.rest⟩ else if s.what = 3 then .ok ⟨padI d.boxes c, d.rest ++ zby L x⟩ else
  if (zdc (nth L x) ((insP L x).drop q)).2 = 0 then .ok ⟨putB (padI d.boxes c) c ((insP L x).take q), d.rest ++ (zdc (nth L x) ((insP L x).drop q)).1⟩ else .error (zdc (nth L x) ((insP L x).drop q)).2 := by
 unfold dealS
 rw [hx, hc, hq]
 rfl
def RunG (D : Int) (A : List Nd) : Prop := ∃ d, d <= D /\ runC A [] 0 = some ([], d)
theorem RunG.its {D : Int} {A : List Nd} (h : RunG D A) : Items A 0 (itsP A) := by
 obtain ⟨d, _, hr⟩ := h
 obtain ⟨s, hs⟩ := items_of_run A A.length 0 0 d (by omega) (Nat.zero_le _) (by rw [List.drop_zero]; exact hr)
 rw [itsP_eq hs]; exact hs
theorem check_run {A : List Nd} : zao A = 0 ↔ A.length <= 2000 /\ RunG 40 A := by
 refine ⟨fun h => ?_, fun h => ?_⟩
 ·
  obtain ⟨h1, d, h2, h3⟩ := zaj h
  exact ⟨h1, d, h2, h3⟩
 ·
  obtain ⟨h1, d, h2, h3⟩ := h
  unfold zao
  rw [if_neg (by omega), h3]
  simp only [codeC]
  rw [if_neg (by simp), if_neg (by omega)]
theorem items_run3 {A : List Nd} {i : Nat} {s : List Nat} (h : Items A i s) : ∀ {d d' : Int}, runC (A.drop i) [] d = some ([], d') -> ∀ t, t ∈ s \/ t = A.length -> ∃ e, e <= d' /\ runC (sl A i (t - i)) [] d = some ([], e) /\ runC (A.drop t) [] e = some ([], d') := by
 induction h with
 | done =>
  intro d d' hr t ht
  rcases ht with h | rfl
  · cases h
  ·
   refine ⟨d, (runC_dd _ _ _ _ _ 0 hr).1, ?_, hr⟩
   rw [Nat.sub_self]; rfl
 | step hi hm hs ih =>
  rename_i i m s
  intro d d' hr t ht
  have hp := zaw _ _ _ hm
  rw [List.length_drop] at hp
  by_cases he : t = i
  ·
   subst he
   refine ⟨d, (runC_dd _ _ _ _ _ 0 hr).1, ?_, hr⟩
   rw [Nat.sub_self]; rfl
  ·
   have ht' : t ∈ s \/ t = A.length := by
    rcases ht with h | h
    ·
     rcases List.mem_cons.1 h with h | h
     · exact absurd h he
     · exact .inl h
    · exact .inr h
   have htm : i + m <= t := by
    rcases ht' with h | h
    · exact (hs.lt t h).1
    · omega
   have hml := sl_len (L := A) (i := i) (m := m) (by omega)
   have e : A.drop i = sl A i m ++ (A.drop i).drop m := (List.take_append_drop m (A.drop i)).symm
   have hr0 := hr
   rw [e, runC_app] at hr0
   obtain ⟨⟨st, d2⟩, h2, h3⟩ := Option.bind_eq_some_iff.1 hr0
   have hst : st = [] := runC_len (sl A i m) ((A.drop i).drop m) [] st d d2 h2 (by rw [<- e, hml]; exact hm)
   subst hst
   rw [List.drop_drop] at h3
   obtain ⟨e2, h4, h5, h6⟩ := ih h3 t ht'
   refine ⟨e2, h4, ?_, h6⟩
   have es : sl A i (t - i) = sl A i m ++ sl A (i + m) (t - (i + m)) := by
    unfold sl
    rw [<- List.drop_drop, <- List.take_add]
    congr 1; omega
   rw [es, runC_app, h2]
   exact h5
/-! ### One deeper -/
theorem zcF {D : Int} {A : List Nd} (h : RunG D A) {x : Nat} (hx : x ∈ itsP A) : (nth A x).kind ≠ 6 := by
 have hs := h.its
 obtain ⟨d, hd, hr⟩ := h
 obtain ⟨e, _, _, h1⟩ := items_run3 hs (by rw [List.drop_zero]; exact hr) x (.inl hx)
 have hlt := (hs.lt x hx).2
 rw [List.drop_eq_getElem_cons hlt] at h1
 unfold runC at h1
 split at h1
 ·
  obtain ⟨⟨X, d2⟩, h2, _⟩ := Option.bind_eq_some_iff.1 h1
  rw [zaV hlt]
  exact ((zcS h2).2 rfl).1
 · cases h1
/-! ### Item by item -/
end
end Go.Proofs.YtaehkbbdmamfpaaGreatDoor
