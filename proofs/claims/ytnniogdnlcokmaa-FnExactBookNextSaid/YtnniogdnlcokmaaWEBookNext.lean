/-
  The walk of 'FnExactBookNext'.
-/
import Derived.Test.YtnniogdnlcokmaaBkN
import Derived.Test.YtnniogdnlcokmaaBase2
namespace Go.Proofs.Ytnniogdnlcokmaa
open Go.RowKit
set_option linter.unusedVariables false
set_option maxRecDepth 100000

theorem walkFnExactBookNext (w : World) (A0a : Option Addr) (c0a : Nat) (l0 : List (Int × Int)) (rd0 : Rd encP w A0a l0) (hn0 : l0.length ≤ 9223372036854775807) (z1 : Int) (z2 : Int) (z3 : Int) :
    Calls Try.prog 11 #[.slice A0a l0.length c0a, vi z1, vi z2, vi z3] w fun e w' => e = .returned (.bool true) ∧ Below w.heap.size w w' := by
  by_cases hbig0 : 1048576 < (l0.length : Int)
  · have Hz0 := Lib.hid (szV_lo hbig0)
    go_enter Try.func11, Try.ntmps11
    go_wp2_with fail
    refine (szBookingS_any A0a l0.length c0a (1048576) w hn0 (by omega) (by omega)).mono ?_
    rintro e w' ⟨he, rfl⟩
    rw [Hz0.out] at he
    subst he
    go_wp2
    go_ret
    exact ⟨rfl, Below.refl _ _⟩
  have Hz0 := Lib.hid (szV_hi hbig0)
  have hl0 : l0.length ≤ 1000000000 := by omega
  go_enter Try.func11, Try.ntmps11
  go_wp2_with fail
  refine (szBookingS_any A0a l0.length c0a (1048576) w hn0 (by omega) (by omega)).mono ?_
  rintro e w' ⟨he, rfl⟩
  rw [Hz0.out] at he
  subst he
  go_wp2_with fail
  refine (toBookingS_any A0a c0a l0 w rd0 (by omega)).mono ?_
  rintro e w1 ⟨A1, c1, rfl, ho1, hb1⟩
  have HO1 := Lib.hid ho1
  have HB1 := Lib.hid hb1
  have hs1 : w.heap.size ≤ w1.heap.size := hb1.size
  have HI1 := Lib.hid ho1.in_
  clear ho1 hb1
  go_wp2_with fail
  refine (specBookNext A1 c1 l0 z1 z2 z3 w1 HO1.out.rd (by omega)).mono ?_
  rintro e w2 ⟨r1, hx1, rfl, hb2⟩
  have HX1 := Lib.hid hx1
  have HB2 := Lib.hid (bthen HB1.out hb2)
  have hs2 : w1.heap.size ≤ w2.heap.size := hb2.size
  have HO1 := Lib.hid (HO1.out.below hb2)
  clear hb2 hx1
  go_wp2_with fail
  refine (toBookingS_any A0a c0a l0 w2 (rd0.below HB2.out) (by omega)).mono ?_
  rintro e w3 ⟨A3, c3, rfl, ho3, hb3⟩
  have HO3 := Lib.hid ho3
  have HB3 := Lib.hid (bthen HB2.out hb3)
  have hs3 : w2.heap.size ≤ w3.heap.size := hb3.size
  have HI3 := Lib.hid ho3.in_
  have HO1 := Lib.hid (HO1.out.below hb3)
  clear ho3 hb3
  go_wp2_with fail
  refine (implBookNext A3 c3 l0 z1 z2 z3 w3 HO3.out.rd (by omega)).mono ?_
  rintro e w4 ⟨r2, hx2, rfl, hb4⟩
  obtain rfl := HX1.out.uniq hx2
  have HB4 := Lib.hid (bthen HB3.out hb4)
  have hs4 : w3.heap.size ≤ w4.heap.size := hb4.size
  have HO1 := Lib.hid (HO1.out.below hb4)
  have HO3 := Lib.hid (HO3.out.below hb4)
  clear hb4 hx2
  go_wp2_with fail
  refine (toBookingS_any A0a c0a l0 w4 (rd0.below HB4.out) (by omega)).mono ?_
  rintro e w5 ⟨A5, c5, rfl, ho5, hb5⟩
  have HO5 := Lib.hid ho5
  have HB5 := Lib.hid (bthen HB4.out hb5)
  have hs5 : w4.heap.size ≤ w5.heap.size := hb5.size
  have HI5 := Lib.hid ho5.in_
  have HO1 := Lib.hid (HO1.out.below hb5)
  have HO3 := Lib.hid (HO3.out.below hb5)
  clear ho5 hb5
  go_wp2_with fail
  refine (eqBookingS_any A3 A5 c3 c5 l0 w5 HO3.out.rd HO5.out.rd (by omega)).mono ?_
  rintro e w6 ⟨rfl, hb6⟩
  have HB6 := Lib.hid (bthen HB5.out hb6)
  have hs6 : w5.heap.size ≤ w6.heap.size := hb6.size
  have HO1 := Lib.hid (HO1.out.below hb6)
  have HO3 := Lib.hid (HO3.out.below hb6)
  have HO5 := Lib.hid (HO5.out.below hb6)
  clear hb6
  go_wp2
  go_ret
  exact ⟨rfl, HB6.out⟩
end Go.Proofs.Ytnniogdnlcokmaa
