/-
  Layer 20: a field is read: a Begin, a formula, an End.
-/
import Derived.Test.YtkkdopfdoommnaaM3
namespace Go.Proofs.Ytkkdopfdoommnaa
open Go.ChangeShapes Go.WideShapes Go.ChangeAt Go.RowKit
attribute [local go_sem ↓] Go.wp_at_zero Go.wp_at_succ

theorem post_none {w w' : World} {R b cap i : Nat} {p : Option Addr} {L : List Sn} (ht : Turned w.heap.size R w w') (hr : Rdr w' R b cap p L i) (hi : i ≤ L.length) {a : Option Addr} {n c : Nat} :
    FieldPost w R b cap p L none (.returned (.tuple #[.slice a n c, .bool false])) w' :=
  ⟨⟨_, _, _, rfl⟩, ht, i, hi, hr, fun _ e => by cases e⟩
theorem field_none {d : Nat} {l : List Sn} (h : ∀ s r, l = s :: r → eqSn s beginS = false) : fieldP d l = none := by
  cases d with
  | zero => cases l <;> rfl
  | succ d => cases l with
    | nil => rfl
    | cons s r => rw [fieldP, if_neg (by rw [h s r rfl]; simp)]

def PeekC (R : Nat) (w : World) (k : Int) : Prop := ∀ n, Calls Try.prog 124 #[.pointer (some ⟨R, 0, none⟩)] (w.drewN n) fun e w' => e = .returned (.int .i64 k) ∧ ∃ m, w' = w.drewN m
theorem peekC {w : World} {R b cap i : Nat} {p : Option Addr} {L : List Sn} (h : Rdr w R b cap p L i) (hi : i ≤ L.length) : PeekC R w (kindAt L i) := fun n => Calls.quiet_of (mpeek_any R b cap i p L _ (h.drewN n) hi)

set_option maxHeartbeats 1000000 in
theorem field_a (dp : Int) (R b cap i : Nat) (p : Option Addr) (L : List Sn) (w : World) (h : Rdr w R b cap p L i) (hi : i ≤ L.length) (hk : ((kindAt L i : Int) != 21) = true) :
    Calls Try.prog 127 #[.pointer (some ⟨R, 0, none⟩), .int .i64 dp] w (FieldPost w R b cap p L none) := by
  have hp := peekC h hi
  go_enter Try.func127, Try.ntmps127
  go_wp2_with fail
  go_quiet ((go_at_call 124; exact hp _))
  go_wp2_with fail
  go_ret2
  exact post_none (.drewN (.refl _ _ _) _) (h.drewN _) hi

set_option maxHeartbeats 1000000 in
theorem field_b (dp : Int) (R b cap i : Nat) (p : Option Addr) (L : List Sn) (w : World) (h : Rdr w R b cap p L i) (hi : i < L.length) (hk : ((kindAt L i : Int) != 21) = false) (s : Sn) (hs : agg? w b (i * 9) 9 = some s.arr)
    (he : eqSn s { kind := 21, fam := Sn.zero.fam, char := Sn.zero.char, n := Sn.zero.n, glue := Sn.zero.glue } = false) :
    Calls Try.prog 127 #[.pointer (some ⟨R, 0, none⟩), .int .i64 dp] w (FieldPost w R b cap p L none) := by
  have hp := peekC h (Nat.le_of_lt hi)
  have c0 := h.c0
  have c1 := h.c1
  have hcap := h.cap'
  have hl := h.len
  have hi1 : (0 : Int) ≤ (i : Int) := by omega
  have hi2 : (i : Int) < (L.length : Int) := by omega
  rw [h.hp (by intro e; rw [e] at hi; simp at hi)] at c0
  go_enter Try.func127, Try.ntmps127
  go_wp2_with fail
  go_quiet ((go_at_call 124; exact hp _))
  go_wp2_with fail
  go_ret2
  exact post_none (.drewN (.refl _ _ _) _) (h.drewN _) (Nat.le_of_lt hi)

set_option maxHeartbeats 1000000 in
theorem field_c (R b cap i : Nat) (p : Option Addr) (L : List Sn) (w : World) (h : Rdr w R b cap p L i) (hi : i < L.length) (hk : ((kindAt L i : Int) != 21) = false) (s : Sn) (hs : agg? w b (i * 9) 9 = some s.arr)
    (he : eqSn s { kind := 21, fam := Sn.zero.fam, char := Sn.zero.char, n := Sn.zero.n, glue := Sn.zero.glue } = true) :
    Calls Try.prog 127 #[.pointer (some ⟨R, 0, none⟩), .int .i64 20] w (FieldPost w R b cap p L none) := by
  have hp := peekC h (Nat.le_of_lt hi)
  have c0 := h.c0
  have c1 := h.c1
  have hcap := h.cap'
  have hl := h.len
  have hi1 : (0 : Int) ≤ (i : Int) := by omega
  have hi2 : (i : Int) < (L.length : Int) := by omega
  rw [h.hp (by intro e; rw [e] at hi; simp at hi)] at c0
  go_enter Try.func127, Try.ntmps127
  go_wp2_with fail
  go_quiet ((go_at_call 124; exact hp _))
  go_wp2_with fail
  go_ret2
  exact post_none (.drewN (.refl _ _ _) _) (h.drewN _) (Nat.le_of_lt hi)

set_option maxHeartbeats 1000000 in
theorem field_d (d : Nat) (hF : FmlaOK d) (dp : Int) (hd : dp + d + 1 = 20) (h0 : 0 ≤ dp) (R b cap i : Nat) (p : Option Addr) (L : List Sn) (w : World) (h : Rdr w R b cap p L i) (hi : i < L.length) (hk : ((kindAt L i : Int) != 21) = false) (s : Sn) (hs : agg? w b (i * 9) 9 = some s.arr)
    (he : eqSn s { kind := 21, fam := Sn.zero.fam, char := Sn.zero.char, n := Sn.zero.n, glue := Sn.zero.glue } = true)
    (r : Option (List Int × List Sn)) (hr0 : Hid (fmlaP (fieldP d) (L.length - (i + 1)) (L.drop (i + 1)) = r)) :
    Calls Try.prog 127 #[.pointer (some ⟨R, 0, none⟩), .int .i64 dp] w (FieldPost w R b cap p L (r.bind fun x => closeP x.2)) := by
  have hp := peekC h (Nat.le_of_lt hi)
  have c0 := h.c0
  have c1 := h.c1
  have cf := h.fr
  have hcap := h.cap'
  have hl := h.len
  have hi1 : (0 : Int) ≤ (i : Int) := by omega
  have hi2 : (i : Int) < (L.length : Int) := by omega
  have hd1 : dp < 20 := by omega
  rw [h.hp (by intro e; rw [e] at hi; simp at hi)] at c0
  go_enter Try.func127, Try.ntmps127
  go_wp2_with fail
  go_quiet ((go_at_call 124; exact hp _))
  go_wp2_with fail
  have h1 := (h.drewN nq).put1
  have hF' := hF (dp + 1) R b cap (i + 1) p L _ (by omega) h1 hi
  rw [hr0.out] at hF'
  refine hF'.mono ?_
  clear hp c0 c1 cf hs he hk hF' hr0
  rintro e w1 ⟨⟨v, rfl, hv⟩, ht, j, hj, hr, hx⟩
  have ht' : Turned w.heap.size R w w1 := Turned.trans (((Turned.refl _ R w).drewN nq).setCell (.inl rfl) _) (ht.mono (by simp [World.setCell]))
  clear ht h1 h
  have c0 := hr.c0
  have c1 := hr.c1
  have cf := hr.fr
  have hp := peekC hr hj
  have HV := Lib.hid hv
  have HX := Lib.hid hx
  clear hv hx
  have hj1 : (0 : Int) ≤ (j : Int) := by omega
  cases r with
  | none =>
    simp only [okB_none]
    go_wp2_with fail
    go_quiet (fail)
    go_wp2_with fail
    go_ret2
    exact post_none (ht'.drewN _) (hr.drewN _) hj
  | some x =>
    obtain ⟨a, n, c, rfl⟩ := (HV.out x rfl).slice
    have hx2 := Lib.hid (show x.2 = L.drop j from HX.out x.2 rfl)
    clear HV HX
    simp only [okB_some]
    have hlen : j < L.length → (j : Int) < (L.length : Int) := by omega
    have hpp := hr.hp
    have hne : j < L.length → L ≠ [] := by intro h e; rw [e] at h; simp at h
    have hsg := Lib.hid hr.sg
    cases hk2 : ((kindAt L j : Int) != 22)
    · have hj2 : j < L.length := by
        apply Decidable.byContradiction
        intro hn
        simp [kindAt, show L[j]? = none by simp; omega] at hk2
      have hj3 := hlen hj2
      rw [hpp (hne hj2)] at c0
      have hs := hsg.out j hj2
      have hxs := Lib.hid (show x.2 = L[j] :: L.drop (j + 1) by rw [hx2.out]; exact List.drop_eq_getElem_cons hj2)
      clear hx2 hpp hne hlen hsg
      generalize L[j] = s2 at hs hxs
      cases he2 : eqSn s2 { kind := 22, fam := Sn.zero.fam, char := Sn.zero.char, n := Sn.zero.n, glue := Sn.zero.glue }
      · have hres := Lib.hid (show closeP x.2 = none by rw [hxs.out, closeP, if_neg (by rw [show endS = { kind := 22, fam := Sn.zero.fam, char := Sn.zero.char, n := Sn.zero.n, glue := Sn.zero.glue } from rfl, he2]; simp)])
        go_wp2_with fail
        go_quiet ((go_at_call 124; exact hp _))
        go_wp2_with fail
        go_ret2
        show FieldPost w R b cap p L (closeP x.2) _ _
        rw [hres.out]
        exact post_none (ht'.drewN _) (hr.drewN _) hj
      · have hres := Lib.hid (show closeP x.2 = some (L.drop (j + 1)) by rw [hxs.out, closeP, if_pos (by rw [show endS = { kind := 22, fam := Sn.zero.fam, char := Sn.zero.char, n := Sn.zero.n, glue := Sn.zero.glue } from rfl, he2])])
        go_wp2_with fail
        go_quiet ((go_at_call 124; exact hp _))
        go_wp2_with fail
        go_ret2
        show FieldPost w R b cap p L (closeP x.2) _ _
        rw [hres.out]
        exact ⟨⟨_, _, _, rfl⟩, (ht'.drewN _).setCell (.inl rfl) _, j + 1, hj2, (hr.drewN _).put1, fun l e => (Option.some.inj e).symm⟩
    · have hres := Lib.hid (show closeP x.2 = none by
        rw [hx2.out]
        by_cases hj2 : j < L.length
        · rw [List.drop_eq_getElem_cons hj2, closeP, if_neg]
          intro e
          have := eqSn_iff.1 e
          simp [kindAt, hj2, this, endS] at hk2
        · rw [List.drop_eq_nil_iff.2 (by omega)]; rfl)
      clear hx2 hpp hne hlen hsg
      go_wp2_with fail
      go_quiet ((go_at_call 124; exact hp _))
      go_wp2_with fail
      go_ret2
      show FieldPost w R b cap p L (closeP x.2) _ _
      rw [hres.out]
      exact post_none (ht'.drewN _) (hr.drewN _) hj

theorem field_zero : FieldOK 0 := by
  intro dp R b cap i p L w hd h hi
  obtain rfl : dp = 20 := by omega
  show Calls _ _ _ _ (FieldPost w R b cap p L none)
  cases hk : ((kindAt L i : Int) != 21)
  · have hlt : i < L.length := by
      apply Decidable.byContradiction
      intro hn
      simp [kindAt, show L[i]? = none by simp; omega] at hk
    cases he : eqSn L[i] { kind := 21, fam := Sn.zero.fam, char := Sn.zero.char, n := Sn.zero.n, glue := Sn.zero.glue }
    · exact field_b 20 R b cap i p L w h hlt hk _ (h.sg i hlt) he
    · exact field_c R b cap i p L w h hlt hk _ (h.sg i hlt) he
  · exact field_a 20 R b cap i p L w h hi hk
theorem field_succ (d : Nat) (hd20 : d < 20) (hF : FmlaOK d) : FieldOK (d + 1) := by
  intro dp R b cap i p L w hd h hi
  cases hk : ((kindAt L i : Int) != 21)
  · have hlt : i < L.length := by
      apply Decidable.byContradiction
      intro hn
      simp [kindAt, show L[i]? = none by simp; omega] at hk
    cases he : eqSn L[i] { kind := 21, fam := Sn.zero.fam, char := Sn.zero.char, n := Sn.zero.n, glue := Sn.zero.glue }
    · rw [List.drop_eq_getElem_cons hlt, fieldP, if_neg (by rw [show beginS = { kind := 21, fam := Sn.zero.fam, char := Sn.zero.char, n := Sn.zero.n, glue := Sn.zero.glue } from rfl, he]; simp)]
      exact field_b dp R b cap i p L w h hlt hk _ (h.sg i hlt) he
    · rw [List.drop_eq_getElem_cons hlt, fieldP, if_pos (by rw [show beginS = { kind := 21, fam := Sn.zero.fam, char := Sn.zero.char, n := Sn.zero.n, glue := Sn.zero.glue } from rfl, he])]
      rw [show (L.drop (i + 1)).length = L.length - (i + 1) by simp]
      exact field_d d hF dp (by omega) (by omega) R b cap i p L w h hlt hk _ (h.sg i hlt) he _ (Lib.hid rfl)
  · have : fieldP (d + 1) (L.drop i) = none := by
      by_cases hlt : i < L.length
      · rw [List.drop_eq_getElem_cons hlt, fieldP, if_neg]
        intro e
        have := eqSn_iff.1 e
        simp [kindAt, hlt, this, beginS] at hk
      · rw [List.drop_eq_nil_iff.2 (by omega)]; rfl
    rw [this]
    exact field_a dp R b cap i p L w h hi hk
end Go.Proofs.Ytkkdopfdoommnaa
