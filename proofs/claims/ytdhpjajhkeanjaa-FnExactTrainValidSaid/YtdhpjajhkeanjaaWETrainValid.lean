/-
  The walk of 'FnExactTrainValid'.
-/
import Derived.Test.YtdhpjajhkeanjaaTrainA
import Derived.Test.YtdhpjajhkeanjaaBase2
namespace Go.Proofs.Ytdhpjajhkeanjaa
open Go.RowKit
set_option linter.unusedVariables false

theorem walkFnExactTrainValid (w : World) (A0a : Option Addr) (c0a : Nat) (l0 : List (Int × Int)) (rd0 : Rd encP w A0a l0) (hn0 : l0.length ≤ 9223372036854775807) (A1a : Option Addr) (c1a : Nat) (l1 : List Bx) (rd1 : Rd encB w A1a l1) (hn1 : l1.length ≤ 9223372036854775807) (A2a : Option Addr) (c2a : Nat) (l2 : List Int) (rd2 : RdI w A2a l2) :
    Calls Try.prog 6 #[.slice A0a l0.length c0a, .slice A1a l1.length c1a, .slice A2a l2.length c2a] w fun e w' => e = .returned (.bool true) ∧ Below w.heap.size w w' := by
  by_cases hbig2 : 1048576 < l2.length
  · go_enter Try.func6, Try.ntmps6
    go_wp2
    go_ret
    exact ⟨rfl, Below.refl _ _⟩
  by_cases hbig0 : 1048576 < (l0.length : Int)
  · have Hz0 := Lib.hid (szV_lo hbig0)
    go_enter Try.func6, Try.ntmps6
    go_wp2_with fail
    refine (szWagonS_any A0a l0.length c0a (1048576) w hn0 (by omega) (by omega)).mono ?_
    rintro e w' ⟨he, rfl⟩
    rw [Hz0.out] at he
    subst he
    go_wp2
    go_ret
    exact ⟨rfl, Below.refl _ _⟩
  have Hz0 := Lib.hid (szV_hi hbig0)
  by_cases hbig1 : 1048576 - (l0.length : Int) < (l1.length : Int)
  · have Hz1 := Lib.hid (szV_lo hbig1)
    go_enter Try.func6, Try.ntmps6
    go_wp2_with fail
    refine (szWagonS_any A0a l0.length c0a (1048576) w hn0 (by omega) (by omega)).mono ?_
    rintro e w' ⟨he, rfl⟩
    rw [Hz0.out] at he
    subst he
    go_wp2_with fail
    refine (szBoxS_any A1a l1.length c1a (1048576 - (l0.length : Int)) w hn1 (by omega) (by omega)).mono ?_
    rintro e w' ⟨he, rfl⟩
    rw [Hz1.out] at he
    subst he
    go_wp2
    go_ret
    exact ⟨rfl, Below.refl _ _⟩
  have Hz1 := Lib.hid (szV_hi hbig1)
  have hl0 : l0.length ≤ 1000000000 := by omega
  have hl1 : l1.length ≤ 1000000000 := by omega
  have hl2 : l2.length ≤ 1000000000 := by omega
  have hsm2 := same_self l2
  go_enter Try.func6, Try.ntmps6
  go_wp2_with fail
  refine (szWagonS_any A0a l0.length c0a (1048576) w hn0 (by omega) (by omega)).mono ?_
  rintro e w' ⟨he, rfl⟩
  rw [Hz0.out] at he
  subst he
  go_wp2_with fail
  refine (szBoxS_any A1a l1.length c1a (1048576 - (l0.length : Int)) w hn1 (by omega) (by omega)).mono ?_
  rintro e w' ⟨he, rfl⟩
  rw [Hz1.out] at he
  subst he
  go_wp2_with fail
  refine (toWagonS_any A0a c0a l0 w rd0 (by omega)).mono ?_
  rintro e w1 ⟨A1, c1, rfl, ho1, hb1⟩
  have HO1 := Lib.hid ho1
  have HB1 := Lib.hid hb1
  have hs1 : w.heap.size ≤ w1.heap.size := hb1.size
  have HI1 := Lib.hid ho1.in_
  clear ho1 hb1
  go_wp2_with fail
  refine (toBoxS_any A1a c1a l1 w1 (rd1.below HB1.out) (by omega)).mono ?_
  rintro e w2 ⟨A2, c2, rfl, ho2, hb2⟩
  have HO2 := Lib.hid ho2
  have HB2 := Lib.hid (bthen HB1.out hb2)
  have hs2 : w1.heap.size ≤ w2.heap.size := hb2.size
  have HI2 := Lib.hid ho2.in_
  have HO1 := Lib.hid (HO1.out.below hb2)
  clear ho2 hb2
  go_wp2_with fail
  refine (toIntS_any A2a c2a l2 w2 (rd2.below HB2.out) (by omega)).mono ?_
  rintro e w3 ⟨A3, c3, rfl, ho3, hb3⟩
  have HO3 := Lib.hid ho3
  have HB3 := Lib.hid (bthen HB2.out hb3)
  have hs3 : w2.heap.size ≤ w3.heap.size := hb3.size
  have HI3 := Lib.hid ho3.in_
  have HO1 := Lib.hid (HO1.out.below hb3)
  have HO2 := Lib.hid (HO2.out.below hb3)
  clear ho3 hb3
  go_wp2_with fail
  refine (specTrainValid A1 c1 l0 A2 c2 l1 A3 c3 l2 w3 HO1.out.rd HO2.out.rd HO3.out.rd (by omega) (by omega) (by omega)).mono ?_
  rintro e w4 ⟨rfl, hb4⟩
  have HB4 := Lib.hid (bthen HB3.out hb4)
  have hs4 : w3.heap.size ≤ w4.heap.size := hb4.size
  have HO1 := Lib.hid (HO1.out.below hb4)
  have HO2 := Lib.hid (HO2.out.below hb4)
  have HO3 := Lib.hid (HO3.out.below hb4)
  clear hb4
  go_wp2_with fail
  refine (toWagonS_any A0a c0a l0 w4 (rd0.below HB4.out) (by omega)).mono ?_
  rintro e w5 ⟨A5, c5, rfl, ho5, hb5⟩
  have HO5 := Lib.hid ho5
  have HB5 := Lib.hid (bthen HB4.out hb5)
  have hs5 : w4.heap.size ≤ w5.heap.size := hb5.size
  have HI5 := Lib.hid ho5.in_
  have HO1 := Lib.hid (HO1.out.below hb5)
  have HO2 := Lib.hid (HO2.out.below hb5)
  have HO3 := Lib.hid (HO3.out.below hb5)
  clear ho5 hb5
  go_wp2_with fail
  refine (toBoxS_any A1a c1a l1 w5 (rd1.below HB5.out) (by omega)).mono ?_
  rintro e w6 ⟨A6, c6, rfl, ho6, hb6⟩
  have HO6 := Lib.hid ho6
  have HB6 := Lib.hid (bthen HB5.out hb6)
  have hs6 : w5.heap.size ≤ w6.heap.size := hb6.size
  have HI6 := Lib.hid ho6.in_
  have HO1 := Lib.hid (HO1.out.below hb6)
  have HO2 := Lib.hid (HO2.out.below hb6)
  have HO3 := Lib.hid (HO3.out.below hb6)
  have HO5 := Lib.hid (HO5.out.below hb6)
  clear ho6 hb6
  go_wp2_with fail
  refine (toIntS_any A2a c2a l2 w6 (rd2.below HB6.out) (by omega)).mono ?_
  rintro e w7 ⟨A7, c7, rfl, ho7, hb7⟩
  have HO7 := Lib.hid ho7
  have HB7 := Lib.hid (bthen HB6.out hb7)
  have hs7 : w6.heap.size ≤ w7.heap.size := hb7.size
  have HI7 := Lib.hid ho7.in_
  have HO1 := Lib.hid (HO1.out.below hb7)
  have HO2 := Lib.hid (HO2.out.below hb7)
  have HO3 := Lib.hid (HO3.out.below hb7)
  have HO5 := Lib.hid (HO5.out.below hb7)
  have HO6 := Lib.hid (HO6.out.below hb7)
  clear ho7 hb7
  go_wp2_with fail
  refine (implTrainValid A5 c5 l0 A6 c6 l1 A7 c7 l2 w7 HO5.out.rd HO6.out.rd HO7.out.rd (by omega) (by omega) (by omega) HO6.out.cap.1).mono ?_
  rintro e w8 ⟨rfl, hb8⟩
  have HB8 := Lib.hid (bthen HB7.out hb8)
  have hs8 : w7.heap.size ≤ w8.heap.size := hb8.size
  have HO1 := Lib.hid (HO1.out.below hb8)
  have HO2 := Lib.hid (HO2.out.below hb8)
  have HO3 := Lib.hid (HO3.out.below hb8)
  have HO5 := Lib.hid (HO5.out.below hb8)
  have HO6 := Lib.hid (HO6.out.below hb8)
  have HO7 := Lib.hid (HO7.out.below hb8)
  clear hb8
  go_wp2_with fail
  refine (toWagonS_any A0a c0a l0 w8 (rd0.below HB8.out) (by omega)).mono ?_
  rintro e w9 ⟨A9, c9, rfl, ho9, hb9⟩
  have HO9 := Lib.hid ho9
  have HB9 := Lib.hid (bthen HB8.out hb9)
  have hs9 : w8.heap.size ≤ w9.heap.size := hb9.size
  have HI9 := Lib.hid ho9.in_
  have HO1 := Lib.hid (HO1.out.below hb9)
  have HO2 := Lib.hid (HO2.out.below hb9)
  have HO3 := Lib.hid (HO3.out.below hb9)
  have HO5 := Lib.hid (HO5.out.below hb9)
  have HO6 := Lib.hid (HO6.out.below hb9)
  have HO7 := Lib.hid (HO7.out.below hb9)
  clear ho9 hb9
  go_wp2_with fail
  refine (eqWagonS_any A5 A9 c5 c9 l0 w9 HO5.out.rd HO9.out.rd (by omega)).mono ?_
  rintro e w10 ⟨rfl, hb10⟩
  have HB10 := Lib.hid (bthen HB9.out hb10)
  have hs10 : w9.heap.size ≤ w10.heap.size := hb10.size
  have HO1 := Lib.hid (HO1.out.below hb10)
  have HO2 := Lib.hid (HO2.out.below hb10)
  have HO3 := Lib.hid (HO3.out.below hb10)
  have HO5 := Lib.hid (HO5.out.below hb10)
  have HO6 := Lib.hid (HO6.out.below hb10)
  have HO7 := Lib.hid (HO7.out.below hb10)
  have HO9 := Lib.hid (HO9.out.below hb10)
  clear hb10
  go_wp2_with fail
  refine (toBoxS_any A1a c1a l1 w10 (rd1.below HB10.out) (by omega)).mono ?_
  rintro e w11 ⟨A11, c11, rfl, ho11, hb11⟩
  have HO11 := Lib.hid ho11
  have HB11 := Lib.hid (bthen HB10.out hb11)
  have hs11 : w10.heap.size ≤ w11.heap.size := hb11.size
  have HI11 := Lib.hid ho11.in_
  have HO1 := Lib.hid (HO1.out.below hb11)
  have HO2 := Lib.hid (HO2.out.below hb11)
  have HO3 := Lib.hid (HO3.out.below hb11)
  have HO5 := Lib.hid (HO5.out.below hb11)
  have HO6 := Lib.hid (HO6.out.below hb11)
  have HO7 := Lib.hid (HO7.out.below hb11)
  clear ho11 hb11
  go_wp2_with fail
  refine (eqBoxS_any A6 A11 c6 c11 l1 w11 HO6.out.rd HO11.out.rd (by omega)).mono ?_
  rintro e w12 ⟨rfl, hb12⟩
  have HB12 := Lib.hid (bthen HB11.out hb12)
  have hs12 : w11.heap.size ≤ w12.heap.size := hb12.size
  have HO1 := Lib.hid (HO1.out.below hb12)
  have HO2 := Lib.hid (HO2.out.below hb12)
  have HO3 := Lib.hid (HO3.out.below hb12)
  have HO5 := Lib.hid (HO5.out.below hb12)
  have HO6 := Lib.hid (HO6.out.below hb12)
  have HO7 := Lib.hid (HO7.out.below hb12)
  have HO11 := Lib.hid (HO11.out.below hb12)
  clear hb12
  go_wp2_with fail
  refine (toIntS_any A2a c2a l2 w12 (rd2.below HB12.out) (by omega)).mono ?_
  rintro e w13 ⟨A13, c13, rfl, ho13, hb13⟩
  have HO13 := Lib.hid ho13
  have HB13 := Lib.hid (bthen HB12.out hb13)
  have hs13 : w12.heap.size ≤ w13.heap.size := hb13.size
  have HI13 := Lib.hid ho13.in_
  have HO1 := Lib.hid (HO1.out.below hb13)
  have HO2 := Lib.hid (HO2.out.below hb13)
  have HO3 := Lib.hid (HO3.out.below hb13)
  have HO5 := Lib.hid (HO5.out.below hb13)
  have HO6 := Lib.hid (HO6.out.below hb13)
  have HO7 := Lib.hid (HO7.out.below hb13)
  clear ho13 hb13
  go_wp2_with fail
  refine (eqIntS_any A7 A13 c7 c13 l2 l2 w13 HO7.out.rd HO13.out.rd (by omega) (by omega)).mono ?_
  rintro e w14 ⟨rfl, hd14⟩
  have hb14 := of_draws hd14
  have HB14 := Lib.hid (bthen HB13.out hb14)
  have hs14 : w13.heap.size ≤ w14.heap.size := hb14.size
  have HO1 := Lib.hid (HO1.out.below hb14)
  have HO2 := Lib.hid (HO2.out.below hb14)
  have HO3 := Lib.hid (HO3.out.below hb14)
  have HO5 := Lib.hid (HO5.out.below hb14)
  have HO6 := Lib.hid (HO6.out.below hb14)
  have HO7 := Lib.hid (HO7.out.below hb14)
  have HO13 := Lib.hid (HO13.out.below hb14)
  clear hd14 hb14
  go_wp2
  go_ret
  exact ⟨rfl, HB14.out⟩
end Go.Proofs.Ytdhpjajhkeanjaa
