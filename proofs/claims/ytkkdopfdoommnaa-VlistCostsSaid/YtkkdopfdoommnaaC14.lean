/-
  The law VlistCosts: the walk.
-/
import Derived.Test.YtkkdopfdoommnaaK4
import Derived.Test.YtkkdopfdoommnaaC11
import Derived.Test.YtkkdopfdoommnaaC13
import Derived.Test.YtkkdopfdoommnaaV5
import Derived.Sort.AtCall
namespace Go.Proofs.Ytkkdopfdoommnaa
open Go.ChangeShapes Go.WideShapes Go.ChangeAt Go.RowKit Go.Shelf
set_option maxRecDepth 100000 in
set_option maxHeartbeats 1000000 in
theorem costs_walk (p0 : Option Addr) (b off cap : Nat) (L : List Nd) (tk height depth : Int) (w : World) (hN : NIn w p0 b off cap L) :
    Calls Try.prog 10 #[.slice p0 L.length cap, .int .i64 tk, .int .i64 height, .int .i64 depth] w fun e w' => e = .returned (.bool true) ∧ Below w.heap.size w w' := by
  have hlen := hN.len
  have HN := Lib.hid hN
  have Hs := Lib.hid (show checkC L = 0 → Items L 0 (itemsP L) from fun h => itemsP_spec h)
  have HL := Lib.hid (lent_any p0 b off cap L w hN)
  clear hN
  go_enter Try.func10, Try.ntmps10
  go_wp2_with fail
  refine HL.out.mono ?_
  clear HL
  rintro e w2 ⟨⟨x, c, rfl, hcx, hown⟩, hb2⟩
  have HX := Lib.hid (lentIn_of hown hlen)
  have HP := Lib.hid (vCost _ x 0 c L (itemsP L) Hs.out tk height depth w2 HX.out.nin)
  have HQ := Lib.hid (fun W hb => qcost p0 b off cap L (itemsP L) Hs.out tk height depth W (HN.out.below hb))
  have HB : Hid (∀ W, Below w2.heap.size w2 W → _) := Lib.hid (fun W hb => vBest _ x 0 c L (itemsP L) Hs.out height depth W (HX.out.below hb).nin)
  have HD := Lib.hid (fun W hb => qbest p0 b off cap L (itemsP L) Hs.out height depth W (HN.out.below hb))
  clear hown hcx
  generalize costR L (itemsP L) tk height depth = cr at HP HQ
  generalize bestR L (itemsP L) height depth = br at HB HD
  obtain ⟨c1, c2⟩ := cr
  obtain ⟨o, c3⟩ := br
  generalize bA o = a1 at HB HD
  generalize bS o = a2 at HB HD
  generalize bL o = a3 at HB HD
  simp only at HP HQ HB HD
  go_wp2_with fail
  refine HP.out.mono ?_
  clear HP
  rintro e w3 ⟨rfl, hb3⟩
  have HX3 := Lib.hid (HX.out.below hb3)
  have hb03 := hb2.trans (hb3.mono hb2.size)
  go_wp2_with fail
  refine (HB.out _ hb3).mono ?_
  clear HB
  rintro e w4 ⟨rfl, hb4⟩
  have hb04 := hb03.trans (hb4.mono hb03.size)
  have HX4 := Lib.hid (HX3.out.below hb4)
  go_wp2_with fail
  refine (HQ.out _ hb04).mono ?_
  clear HQ
  rintro e w5 ⟨rfl, hb5⟩
  have hb05 := hb04.trans (hb5.mono hb04.size)
  have HX5 := Lib.hid (HX4.out.below hb5)
  go_wp2_with fail
  refine (HD.out _ hb05).mono ?_
  clear HD
  rintro e w6 ⟨rfl, hb6⟩
  have hb06 := hb05.trans (hb6.mono hb05.size)
  have HX6 := Lib.hid (HX5.out.below hb6)
  clear hb2 hb3 hb4 hb5 hb6 hb03 hb04 hb05 HX HX3 HX4 HX5
  go_wp2_with (first
    | (go_at_call 14; refine (num11_any _ _).mono ?_; rintro e w' ⟨rfl, rfl⟩))
  refine (HX6.out.stays (HN.out.below hb06)).mono ?_
  rintro e w10 ⟨rfl, hbx⟩
  have hbF := hb06.trans (hbx.mono hb06.size)
  clear hbx hb06 HX6 HN
  go_wp2_with (go_at_call 15; refine (knows_any _).mono ?_; rintro e w12 ⟨rfl, hb12⟩)
  go_ret
  exact ⟨rfl, hbF.trans (hb12.mono hbF.size)⟩
end Go.Proofs.Ytkkdopfdoommnaa
