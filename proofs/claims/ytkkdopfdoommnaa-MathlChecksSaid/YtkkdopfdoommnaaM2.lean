/-
  Layer 20: may a sign be: one walk a kind.
-/
import Derived.Test.YtkkdopfdoommnaaM2a
import Derived.Test.YtkkdopfdoommnaaM2b
namespace Go.Proofs.Ytkkdopfdoommnaa
open Go.ChangeShapes Go.WideShapes Go.ChangeAt Go.RowKit
attribute [local go_sem ↓] Go.wp_at_zero Go.wp_at_succ

theorem good_any (s : Sn) (w : World) : Calls Try.prog 125 #[.agg s.arr] w fun e w' => e = .returned (.bool (goodB s)) ∧ Below w.heap.size w w' := by
  obtain ⟨k, f, c, n, g⟩ := s
  by_cases h1 : k < 1
  · exact good_lo k f c n g w h1
  by_cases h2 : 22 < k
  · exact good_hi k f c n g w h2
  have hk : k = 1 ∨ k = 2 ∨ k = 3 ∨ k = 4 ∨ k = 5 ∨ k = 6 ∨ k = 7 ∨ k = 8 ∨ k = 9 ∨ k = 10 ∨ k = 11 ∨ k = 12 ∨ k = 13 ∨ k = 14 ∨ k = 15 ∨ k = 16 ∨ k = 17 ∨ k = 18 ∨ k = 19 ∨ k = 20 ∨ k = 21 ∨ k = 22 := by omega
  clear h1 h2
  rcases hk with rfl | rfl | rfl | rfl | rfl | rfl | rfl | rfl | rfl | rfl | rfl | rfl | rfl | rfl | rfl | rfl | rfl | rfl | rfl | rfl | rfl | rfl
  · cases hn : ((n : Int) == 1)
    · cases he : eqSn { kind := 1, fam := f, char := c, n := n, glue := g } { kind := 1, fam := f, char := c, n := Sn.zero.n, glue := Sn.zero.glue }
      · exact good_1c f c n g w hn he
      · exact good_1b f c n g w hn he
    · exact good_1a f c n g w hn
  · cases hn : ((n : Int) == 1)
    · cases he : eqSn { kind := 2, fam := f, char := c, n := n, glue := g } { kind := 2, fam := f, char := c, n := Sn.zero.n, glue := Sn.zero.glue }
      · exact good_2c f c n g w hn he
      · exact good_2b f c n g w hn he
    · exact good_2a f c n g w hn
  · cases hn : ((n : Int) == 1)
    · cases he : eqSn { kind := 3, fam := f, char := c, n := n, glue := g } { kind := 3, fam := f, char := c, n := Sn.zero.n, glue := Sn.zero.glue }
      · exact good_3c f c n g w hn he
      · exact good_3b f c n g w hn he
    · exact good_3a f c n g w hn
  · cases hn : ((n : Int) == 1)
    · cases he : eqSn { kind := 4, fam := f, char := c, n := n, glue := g } { kind := 4, fam := f, char := c, n := Sn.zero.n, glue := Sn.zero.glue }
      · exact good_4c f c n g w hn he
      · exact good_4b f c n g w hn he
    · exact good_4a f c n g w hn
  · cases hn : ((n : Int) == 1)
    · cases he : eqSn { kind := 5, fam := f, char := c, n := n, glue := g } { kind := 5, fam := f, char := c, n := Sn.zero.n, glue := Sn.zero.glue }
      · exact good_5c f c n g w hn he
      · exact good_5b f c n g w hn he
    · exact good_5a f c n g w hn
  · cases hn : ((n : Int) == 1)
    · cases he : eqSn { kind := 6, fam := f, char := c, n := n, glue := g } { kind := 6, fam := f, char := c, n := Sn.zero.n, glue := Sn.zero.glue }
      · exact good_6c f c n g w hn he
      · exact good_6b f c n g w hn he
    · exact good_6a f c n g w hn
  · cases hn : ((n : Int) == 1)
    · cases he : eqSn { kind := 7, fam := f, char := c, n := n, glue := g } { kind := 7, fam := f, char := c, n := Sn.zero.n, glue := Sn.zero.glue }
      · exact good_7c f c n g w hn he
      · exact good_7b f c n g w hn he
    · exact good_7a f c n g w hn
  · cases hn : ((n : Int) == 1)
    · cases he : eqSn { kind := 8, fam := f, char := c, n := n, glue := g } { kind := 8, fam := f, char := c, n := Sn.zero.n, glue := Sn.zero.glue }
      · exact good_8c f c n g w hn he
      · exact good_8b f c n g w hn he
    · exact good_8a f c n g w hn
  · cases he : eqSn { kind := 9, fam := f, char := c, n := n, glue := g } { kind := 9, fam := Sn.zero.fam, char := Sn.zero.char, n := n, glue := Sn.zero.glue }
    · exact good_9c f c n g w he
    · exact good_9b f c n g w he
  · cases he : eqSn { kind := 10, fam := f, char := c, n := n, glue := g } { kind := 10, fam := f, char := c, n := Sn.zero.n, glue := Sn.zero.glue }
    · exact good_10c f c n g w he
    · exact good_10b f c n g w he
  · exact good_11a f c n g w
  · exact good_12a f c n g w
  · cases hn : ((n : Int) == 1)
    · cases he : eqSn { kind := 13, fam := f, char := c, n := n, glue := g } { kind := 13, fam := f, char := c, n := Sn.zero.n, glue := Sn.zero.glue }
      · exact good_13c f c n g w hn he
      · exact good_13b f c n g w hn he
    · exact good_13a f c n g w hn
  · cases hn : ((n : Int) == 1)
    · cases he : eqSn { kind := 14, fam := f, char := c, n := n, glue := g } { kind := 14, fam := f, char := c, n := Sn.zero.n, glue := Sn.zero.glue }
      · exact good_14c f c n g w hn he
      · exact good_14b f c n g w hn he
    · exact good_14a f c n g w hn
  · cases he : eqSn { kind := 15, fam := f, char := c, n := n, glue := g } { kind := 15, fam := Sn.zero.fam, char := Sn.zero.char, n := n, glue := Sn.zero.glue }
    · exact good_15c f c n g w he
    · exact good_15b f c n g w he
  · cases he : eqSn { kind := 16, fam := f, char := c, n := n, glue := g } { kind := 16, fam := Sn.zero.fam, char := Sn.zero.char, n := Sn.zero.n, glue := g }
    · exact good_16c f c n g w he
    · exact good_16b f c n g w he
  · cases he : eqSn { kind := 17, fam := f, char := c, n := n, glue := g } { kind := 17, fam := Sn.zero.fam, char := Sn.zero.char, n := n, glue := Sn.zero.glue }
    · exact good_17c f c n g w he
    · exact good_17b f c n g w he
  · cases he : eqSn { kind := 18, fam := f, char := c, n := n, glue := g } { kind := 18, fam := Sn.zero.fam, char := Sn.zero.char, n := n, glue := Sn.zero.glue }
    · exact good_18c f c n g w he
    · exact good_18b f c n g w he
  · exact good_19a f c n g w
  · exact good_20a f c n g w
  · exact good_21a f c n g w
  · exact good_22a f c n g w
end Go.Proofs.Ytkkdopfdoommnaa
