/-
  The law InsertsDeals: how much a deal holds, at most (plain). No statement of the seat stands here.
-/
import Derived.Test.YtaehkbbdmamfpaaGreatDoorI25
import Derived.Test.YtaehkbbdmamfpaaGreatDoorI30
namespace Go.Proofs.YtaehkbbdmamfpaaGreatDoor
open Go.ChangeShapes Go.WideShapes Go.ChangeAt Go.RowKit
theorem accR_few {A : List Nd} {C : List Cl} {goal depth : Int} (h : Items A 0 (itsP A)) : (accR A C goal depth).1.length <= A.length := by
 have h1 := accF_len A C goal depth (itsP A)
 have h2 := h.len
 unfold accR
 split
 ·
  split
  ·
   show (accF A C goal depth (itsP A)).2.length <= _
   omega
  · exact Nat.zero_le _
 · exact Nat.zero_le _
theorem dealF_len {L : List Nd} {t : Nat} (hL : L.length <= 2000) : ∀ {s : List Sp} {n : Nat} {d D : Dl}, (∀ y ∈ s, StepOk L t y) -> DlOk n d -> zdf L s d = .ok D -> DlOk (n + s.length) D
 | [], n, d, D, _, h, hD => by cases hD; exact h
 | a :: s, n, d, D, hs, h, hD => by
  obtain ⟨d', h1, h2⟩ := dealF_cons hD
  have := dealF_len hL (fun y hy => hs y (by simp [hy])) (dealS_ok hL (hs a (by simp)) h h1) h2
  rw [List.length_cons, show n + (s.length + 1) = n + 1 + s.length by omega]
  exact this
theorem page_few {L : List Nd} {i : Nat} {s : List Nat} (h : Items L i s) : (zaU L s).length + i <= L.length := by
 induction h with
 | done => simp [zaU]
 | @step i m r hi hm _ ih =>
  have h1 : (zaU L (i :: r)).length <= m + (zaU L r).length := by
   unfold zaU
   rw [List.flatMap_cons, List.length_append]
   have h2 : (if (nth L i).kind = 13 then [] else zby L i).length <= m := by
    split
    · exact Nat.zero_le _
    ·
     unfold zby
     rw [hm, List.length_take]
     exact Nat.min_le_left _ _
   omega
  omega
theorem page_take (L : List Nd) (f : Nat -> Bool) (s : List Nat) : (zaU L (s.takeWhile f)).length <= (zaU L s).length := by
 have h : zaU L s = zaU L (s.takeWhile f) ++ zaU L (s.dropWhile f) := by
  unfold zaU
  rw [<- List.flatMap_append, List.takeWhile_append_dropWhile]
 rw [h, List.length_append]
 omega
structure Few (R : Dealt) : Prop where
 page : R.page.length <= 2000
 rest : R.rest.length <= 2000
 boxes : R.boxes.length <= 255
 box : ∀ x ∈ R.boxes, x.length <= 10000000
theorem few_bad (e : Int) : Few (.bad e) := ⟨Nat.zero_le _, Nat.zero_le _, Nat.zero_le _, fun x hx => by cases hx⟩
theorem deal_few (L : List Nd) (tk : Int) (C : List Cl) (goal depth : Int) : Few (zbt L tk C goal depth) := by
 unfold zbt
 split
 case isFalse h1 => exact few_bad _
 rename_i h1
 have hok := accE_ok h1
 have hck := zam hok.col
 have hs := zaO hck
 split
 case isFalse h2 => exact few_bad _
 rename_i h2
 obtain ⟨t, rfl, ht⟩ := zcV h2
 simp only [Int.toNat_natCast]
 split
 case isFalse h3 => exact few_bad _
 rename_i h3
 split
 · exact few_bad _
 rename_i D hD
 split
 · exact few_bad _
 rename_i h4
 have hso := steps_ok (L := L) (C := C) (goal := goal) (depth := depth) hck ht h3
 have hdo := dealF_len (n := 0) (zaj hck).1 hso ⟨by decide, (fun x hx => by cases hx), Nat.zero_le _⟩ hD
 have hti := zbL hs ht
 have hfew := accR_few (A := L.take t) (C := C) (goal := goal) (depth := depth) (by rw [itsP_eq hti]; exact hti)
 have hlen : (L.take t).length <= L.length := by rw [List.length_take]; omega
 have hll := (zaj hck).1
 refine ⟨?_, by show (D.rest ++ L.drop t).length <= 2000; omega, hdo.few, fun x hx => ?_⟩
 ·
  have h5 := page_take L (fun x => decide ((x : Int) < (t : Int))) (itsP L)
  have h6 := page_few hs
  show (zaU L ((itsP L).takeWhile _)).length <= 2000
  omega
 ·
  have h5 := hdo.box x hx
  have h6 : (0 + (accR (L.take t) C goal depth).1.length) * 2002 <= 2000 * 2002 := Nat.mul_le_mul_right _ (by omega)
  omega
end Go.Proofs.YtaehkbbdmamfpaaGreatDoor
