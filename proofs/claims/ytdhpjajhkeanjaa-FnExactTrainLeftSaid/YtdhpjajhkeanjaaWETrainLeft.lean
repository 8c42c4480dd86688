/-
  The walk of 'FnExactTrainLeft'.
-/
import Derived.Test.YtdhpjajhkeanjaaTrainD
import Derived.Test.YtdhpjajhkeanjaaMarkB
import Derived.Test.YtdhpjajhkeanjaaBase2
namespace Go.Proofs.Ytdhpjajhkeanjaa
open Go.RowKit
set_option linter.unusedVariables false

theorem walkFnExactTrainLeft (w : World) (A0a : Option Addr) (c0a : Nat) (l0 : List (Int × Int)) (rd0 : Rd encP w A0a l0) (hn0 : l0.length ≤ 9223372036854775807) (A1a : Option Addr) (c1a : Nat) (l1 : List Bx) (rd1 : Rd encB w A1a l1) (hn1 : l1.length ≤ 9223372036854775807) (A2a : Option Addr) (c2a : Nat) (l2 : List Int) (rd2 : RdI w A2a l2) :
    Calls Try.prog 10 #[.slice A0a l0.length c0a, .slice A1a l1.length c1a, .slice A2a l2.length c2a] w fun e w' => e = .returned (.bool true) ∧ Below w.heap.size w w' := by
  by_cases hbig2 : 1048576 < l2.length
  · go_enter Try.func10, Try.ntmps10
    go_wp2
    go_ret
    exact ⟨rfl, Below.refl _ _⟩
  by_cases hbig0 : 1048576 < (l0.length : Int)
  · have Hz0 := Lib.hid (szV_lo hbig0)
    go_enter Try.func10, Try.ntmps10
    go_wp2_with fail
    refine (szWagonS_any A0a l0.length c0a (1048576) w hn0 (by omega) (by omega)).mono ?_
    rintro e w' ⟨he, rfl⟩
    rw [Hz0.out] at he
    subst he
    go_wp2
    go_ret
    exact ⟨rfl, Below.refl _ _⟩
  have Hz0 := Lib.hid (szV_hi hbig0)
  by_cases hbig1 : 1048576 - (l0.length : Int) < (l1.length : Int)
  · have Hz1 := Lib.hid (szV_lo hbig1)
    go_enter Try.func10, Try.ntmps10
    go_wp2_with fail
    refine (szWagonS_any A0a l0.length c0a (1048576) w hn0 (by omega) (by omega)).mono ?_
    rintro e w' ⟨he, rfl⟩
    rw [Hz0.out] at he
    subst he
    go_wp2_with fail
    refine (szBoxS_any A1a l1.length c1a (1048576 - (l0.length : Int)) w hn1 (by omega) (by omega)).mono ?_
    rintro e w' ⟨he, rfl⟩
    rw [Hz1.out] at he
    subst he
    go_wp2
    go_ret
    exact ⟨rfl, Below.refl _ _⟩
  have Hz1 := Lib.hid (szV_hi hbig1)
  have hl0 : l0.length ≤ 1000000000 := by omega
  have hl1 : l1.length ≤ 1000000000 := by omega
  have hl2 : l2.length ≤ 1000000000 := by omega
  have hsm2 := same_self l2
  have hfl := length_trainLeft l0 l1 l2
  have hsmr := same_self (trainLeft l0 l1 l2)
  go_enter Try.func10, Try.ntmps10
  go_wp2_with fail
  refine (szWagonS_any A0a l0.length c0a (1048576) w hn0 (by omega) (by omega)).mono ?_
  rintro e w' ⟨he, rfl⟩
  rw [Hz0.out] at he
  subst he
  go_wp2_with fail
  refine (szBoxS_any A1a l1.length c1a (1048576 - (l0.length : Int)) w hn1 (by omega) (by omega)).mono ?_
  rintro e w' ⟨he, rfl⟩
  rw [Hz1.out] at he
  subst he
  go_wp2_with fail
  refine (toWagonS_any A0a c0a l0 w rd0 (by omega)).mono ?_
  rintro e w1 ⟨A1, c1, rfl, ho1, hb1⟩
  have HO1 := Lib.hid ho1
  have HB1 := Lib.hid hb1
  have hs1 : w.heap.size ≤ w1.heap.size := hb1.size
  have HI1 := Lib.hid ho1.in_
  clear ho1 hb1
  go_wp2_with fail
  refine (toBoxS_any A1a c1a l1 w1 (rd1.below HB1.out) (by omega)).mono ?_
  rintro e w2 ⟨A2, c2, rfl, ho2, hb2⟩
  have HO2 := Lib.hid ho2
  have HB2 := Lib.hid (bthen HB1.out hb2)
  have hs2 : w1.heap.size ≤ w2.heap.size := hb2.size
  have HI2 := Lib.hid ho2.in_
  have HO1 := Lib.hid (HO1.out.below hb2)
  clear ho2 hb2
  go_wp2_with fail
  refine (toIntS_any A2a c2a l2 w2 (rd2.below HB2.out) (by omega)).mono ?_
  rintro e w3 ⟨A3, c3, rfl, ho3, hb3⟩
  have HO3 := Lib.hid ho3
  have HB3 := Lib.hid (bthen HB2.out hb3)
  have hs3 : w2.heap.size ≤ w3.heap.size := hb3.size
  have HI3 := Lib.hid ho3.in_
  have HO1 := Lib.hid (HO1.out.below hb3)
  have HO2 := Lib.hid (HO2.out.below hb3)
  clear ho3 hb3
  go_wp2_with fail
  refine (specTrainLeft A1 c1 l0 A2 c2 l1 A3 c3 l2 w3 HO1.out.rd HO2.out.rd HO3.out.rd (by omega) (by omega) (by omega) HO2.out.cap.1).mono ?_
  rintro e w4 ⟨A4, c4, rfl, ho4, hb4⟩
  have HO4 := Lib.hid ho4
  have HB4 := Lib.hid (bthen HB3.out hb4)
  have hs4 : w3.heap.size ≤ w4.heap.size := hb4.size
  have HI4 := Lib.hid ho4.in_
  have HO1 := Lib.hid (HO1.out.below hb4)
  have HO2 := Lib.hid (HO2.out.below hb4)
  have HO3 := Lib.hid (HO3.out.below hb4)
  clear ho4 hb4
  go_wp2_with fail
  refine (toWagonS_any A0a c0a l0 w4 (rd0.below HB4.out) (by omega)).mono ?_
  rintro e w5 ⟨A5, c5, rfl, ho5, hb5⟩
  have HO5 := Lib.hid ho5
  have HB5 := Lib.hid (bthen HB4.out hb5)
  have hs5 : w4.heap.size ≤ w5.heap.size := hb5.size
  have HI5 := Lib.hid ho5.in_
  have HO1 := Lib.hid (HO1.out.below hb5)
  have HO2 := Lib.hid (HO2.out.below hb5)
  have HO3 := Lib.hid (HO3.out.below hb5)
  have HO4 := Lib.hid (HO4.out.below hb5)
  clear ho5 hb5
  go_wp2_with fail
  refine (toBoxS_any A1a c1a l1 w5 (rd1.below HB5.out) (by omega)).mono ?_
  rintro e w6 ⟨A6, c6, rfl, ho6, hb6⟩
  have HO6 := Lib.hid ho6
  have HB6 := Lib.hid (bthen HB5.out hb6)
  have hs6 : w5.heap.size ≤ w6.heap.size := hb6.size
  have HI6 := Lib.hid ho6.in_
  have HO1 := Lib.hid (HO1.out.below hb6)
  have HO2 := Lib.hid (HO2.out.below hb6)
  have HO3 := Lib.hid (HO3.out.below hb6)
  have HO4 := Lib.hid (HO4.out.below hb6)
  have HO5 := Lib.hid (HO5.out.below hb6)
  clear ho6 hb6
  go_wp2_with fail
  refine (toIntS_any A2a c2a l2 w6 (rd2.below HB6.out) (by omega)).mono ?_
  rintro e w7 ⟨A7, c7, rfl, ho7, hb7⟩
  have HO7 := Lib.hid ho7
  have HB7 := Lib.hid (bthen HB6.out hb7)
  have hs7 : w6.heap.size ≤ w7.heap.size := hb7.size
  have HI7 := Lib.hid ho7.in_
  have HO1 := Lib.hid (HO1.out.below hb7)
  have HO2 := Lib.hid (HO2.out.below hb7)
  have HO3 := Lib.hid (HO3.out.below hb7)
  have HO4 := Lib.hid (HO4.out.below hb7)
  have HO5 := Lib.hid (HO5.out.below hb7)
  have HO6 := Lib.hid (HO6.out.below hb7)
  clear ho7 hb7
  go_wp2_with fail
  refine (implTrainLeft A5 c5 l0 A6 c6 l1 A7 c7 l2 w7 HO5.out.rd HO6.out.rd HO7.out.rd (by omega) (by omega) (by omega) HO6.out.cap.1).mono ?_
  rintro e w8 ⟨A8, c8, rfl, ho8, hb8⟩
  have HO8 := Lib.hid ho8
  have HB8 := Lib.hid (bthen HB7.out hb8)
  have hs8 : w7.heap.size ≤ w8.heap.size := hb8.size
  have HI8 := Lib.hid ho8.in_
  have HO1 := Lib.hid (HO1.out.below hb8)
  have HO2 := Lib.hid (HO2.out.below hb8)
  have HO3 := Lib.hid (HO3.out.below hb8)
  have HO4 := Lib.hid (HO4.out.below hb8)
  have HO5 := Lib.hid (HO5.out.below hb8)
  have HO6 := Lib.hid (HO6.out.below hb8)
  have HO7 := Lib.hid (HO7.out.below hb8)
  clear ho8 hb8
  go_wp2_with fail
  refine (eqIntS_any A8 A4 c8 c4 (trainLeft l0 l1 l2) (trainLeft l0 l1 l2) w8 HO8.out.rd HO4.out.rd (by omega) (by omega)).mono ?_
  rintro e w9 ⟨rfl, hd9⟩
  have hb9 := of_draws hd9
  have HB9 := Lib.hid (bthen HB8.out hb9)
  have hs9 : w8.heap.size ≤ w9.heap.size := hb9.size
  have HO1 := Lib.hid (HO1.out.below hb9)
  have HO2 := Lib.hid (HO2.out.below hb9)
  have HO3 := Lib.hid (HO3.out.below hb9)
  have HO4 := Lib.hid (HO4.out.below hb9)
  have HO5 := Lib.hid (HO5.out.below hb9)
  have HO6 := Lib.hid (HO6.out.below hb9)
  have HO7 := Lib.hid (HO7.out.below hb9)
  have HO8 := Lib.hid (HO8.out.below hb9)
  clear hd9 hb9
  go_wp2_with fail
  refine (toWagonS_any A0a c0a l0 w9 (rd0.below HB9.out) (by omega)).mono ?_
  rintro e w10 ⟨A10, c10, rfl, ho10, hb10⟩
  have HO10 := Lib.hid ho10
  have HB10 := Lib.hid (bthen HB9.out hb10)
  have hs10 : w9.heap.size ≤ w10.heap.size := hb10.size
  have HI10 := Lib.hid ho10.in_
  have HO1 := Lib.hid (HO1.out.below hb10)
  have HO2 := Lib.hid (HO2.out.below hb10)
  have HO3 := Lib.hid (HO3.out.below hb10)
  have HO4 := Lib.hid (HO4.out.below hb10)
  have HO5 := Lib.hid (HO5.out.below hb10)
  have HO6 := Lib.hid (HO6.out.below hb10)
  have HO7 := Lib.hid (HO7.out.below hb10)
  have HO8 := Lib.hid (HO8.out.below hb10)
  clear ho10 hb10
  go_wp2_with fail
  refine (eqWagonS_any A5 A10 c5 c10 l0 w10 HO5.out.rd HO10.out.rd (by omega)).mono ?_
  rintro e w11 ⟨rfl, hb11⟩
  have HB11 := Lib.hid (bthen HB10.out hb11)
  have hs11 : w10.heap.size ≤ w11.heap.size := hb11.size
  have HO1 := Lib.hid (HO1.out.below hb11)
  have HO2 := Lib.hid (HO2.out.below hb11)
  have HO3 := Lib.hid (HO3.out.below hb11)
  have HO4 := Lib.hid (HO4.out.below hb11)
  have HO5 := Lib.hid (HO5.out.below hb11)
  have HO6 := Lib.hid (HO6.out.below hb11)
  have HO7 := Lib.hid (HO7.out.below hb11)
  have HO8 := Lib.hid (HO8.out.below hb11)
  have HO10 := Lib.hid (HO10.out.below hb11)
  clear hb11
  go_wp2_with fail
  refine (toBoxS_any A1a c1a l1 w11 (rd1.below HB11.out) (by omega)).mono ?_
  rintro e w12 ⟨A12, c12, rfl, ho12, hb12⟩
  have HO12 := Lib.hid ho12
  have HB12 := Lib.hid (bthen HB11.out hb12)
  have hs12 : w11.heap.size ≤ w12.heap.size := hb12.size
  have HI12 := Lib.hid ho12.in_
  have HO1 := Lib.hid (HO1.out.below hb12)
  have HO2 := Lib.hid (HO2.out.below hb12)
  have HO3 := Lib.hid (HO3.out.below hb12)
  have HO4 := Lib.hid (HO4.out.below hb12)
  have HO5 := Lib.hid (HO5.out.below hb12)
  have HO6 := Lib.hid (HO6.out.below hb12)
  have HO7 := Lib.hid (HO7.out.below hb12)
  have HO8 := Lib.hid (HO8.out.below hb12)
  clear ho12 hb12
  go_wp2_with fail
  refine (eqBoxS_any A6 A12 c6 c12 l1 w12 HO6.out.rd HO12.out.rd (by omega)).mono ?_
  rintro e w13 ⟨rfl, hb13⟩
  have HB13 := Lib.hid (bthen HB12.out hb13)
  have hs13 : w12.heap.size ≤ w13.heap.size := hb13.size
  have HO1 := Lib.hid (HO1.out.below hb13)
  have HO2 := Lib.hid (HO2.out.below hb13)
  have HO3 := Lib.hid (HO3.out.below hb13)
  have HO4 := Lib.hid (HO4.out.below hb13)
  have HO5 := Lib.hid (HO5.out.below hb13)
  have HO6 := Lib.hid (HO6.out.below hb13)
  have HO7 := Lib.hid (HO7.out.below hb13)
  have HO8 := Lib.hid (HO8.out.below hb13)
  have HO12 := Lib.hid (HO12.out.below hb13)
  clear hb13
  go_wp2_with fail
  refine (toIntS_any A2a c2a l2 w13 (rd2.below HB13.out) (by omega)).mono ?_
  rintro e w14 ⟨A14, c14, rfl, ho14, hb14⟩
  have HO14 := Lib.hid ho14
  have HB14 := Lib.hid (bthen HB13.out hb14)
  have hs14 : w13.heap.size ≤ w14.heap.size := hb14.size
  have HI14 := Lib.hid ho14.in_
  have HO1 := Lib.hid (HO1.out.below hb14)
  have HO2 := Lib.hid (HO2.out.below hb14)
  have HO3 := Lib.hid (HO3.out.below hb14)
  have HO4 := Lib.hid (HO4.out.below hb14)
  have HO5 := Lib.hid (HO5.out.below hb14)
  have HO6 := Lib.hid (HO6.out.below hb14)
  have HO7 := Lib.hid (HO7.out.below hb14)
  have HO8 := Lib.hid (HO8.out.below hb14)
  clear ho14 hb14
  go_wp2_with fail
  refine (eqIntS_any A7 A14 c7 c14 l2 l2 w14 HO7.out.rd HO14.out.rd (by omega) (by omega)).mono ?_
  rintro e w15 ⟨rfl, hd15⟩
  have hb15 := of_draws hd15
  have HB15 := Lib.hid (bthen HB14.out hb15)
  have hs15 : w14.heap.size ≤ w15.heap.size := hb15.size
  have HO1 := Lib.hid (HO1.out.below hb15)
  have HO2 := Lib.hid (HO2.out.below hb15)
  have HO3 := Lib.hid (HO3.out.below hb15)
  have HO4 := Lib.hid (HO4.out.below hb15)
  have HO5 := Lib.hid (HO5.out.below hb15)
  have HO6 := Lib.hid (HO6.out.below hb15)
  have HO7 := Lib.hid (HO7.out.below hb15)
  have HO8 := Lib.hid (HO8.out.below hb15)
  have HO14 := Lib.hid (HO14.out.below hb15)
  clear hd15 hb15
  go_wp2_with fail
  refine (markWagonS_any A5 l0.length c5 w4.heap.size l0 1 w15 HO5.out (by omega) (by omega) (by omega)).mono ?_
  rintro e w16 ⟨rfl, ho16, hg16⟩
  have HB16 := Lib.hid (HB15.out.grown hg16 HB15.out.size (blk_from HI5.out (by omega)))
  have hs16 : w15.heap.size ≤ w16.heap.size := hg16.size
  have HO1 := Lib.hid (HO1.out.far hg16 (apart HI1.out HI5.out (by omega)))
  have HO2 := Lib.hid (HO2.out.far hg16 (apart HI2.out HI5.out (by omega)))
  have HO3 := Lib.hid (HO3.out.far hg16 (apart HI3.out HI5.out (by omega)))
  have HO4 := Lib.hid (HO4.out.far hg16 (apart HI4.out HI5.out (by omega)))
  have HO6 := Lib.hid (HO6.out.far hg16 (apart_ HI6.out HI5.out (by omega)))
  have HO7 := Lib.hid (HO7.out.far hg16 (apart_ HI7.out HI5.out (by omega)))
  have HO8 := Lib.hid (HO8.out.far hg16 (apart_ HI8.out HI5.out (by omega)))
  have HO5 := Lib.hid ho16
  clear ho16 hg16
  go_wp2_with fail
  refine (markBoxS_any A6 l1.length c6 w5.heap.size l1 (1 + (2 * l0.length : Int)) w16 HO6.out (by omega) (by omega) (by omega)).mono ?_
  rintro e w17 ⟨rfl, ho17, hg17⟩
  have HB17 := Lib.hid (HB16.out.grown hg17 HB16.out.size (blk_from HI6.out (by omega)))
  have hs17 : w16.heap.size ≤ w17.heap.size := hg17.size
  have HO1 := Lib.hid (HO1.out.far hg17 (apart HI1.out HI6.out (by omega)))
  have HO2 := Lib.hid (HO2.out.far hg17 (apart HI2.out HI6.out (by omega)))
  have HO3 := Lib.hid (HO3.out.far hg17 (apart HI3.out HI6.out (by omega)))
  have HO4 := Lib.hid (HO4.out.far hg17 (apart HI4.out HI6.out (by omega)))
  have HO7 := Lib.hid (HO7.out.far hg17 (apart_ HI7.out HI6.out (by omega)))
  have HO8 := Lib.hid (HO8.out.far hg17 (apart_ HI8.out HI6.out (by omega)))
  have HO6 := Lib.hid ho17
  clear ho17 hg17
  go_wp2_with fail
  refine (markIntS_any A7 l2.length c7 w6.heap.size l2 ((1 + (2 * l0.length : Int)) + (5 * l1.length : Int)) w17 HO7.out (by omega) (by omega) (by omega)).mono ?_
  rintro e w18 ⟨rfl, ho18, hg18⟩
  have HB18 := Lib.hid (HB17.out.grown hg18 HB17.out.size (blk_from HI7.out (by omega)))
  have hs18 : w17.heap.size ≤ w18.heap.size := hg18.size
  have HO1 := Lib.hid (HO1.out.far hg18 (apart HI1.out HI7.out (by omega)))
  have HO2 := Lib.hid (HO2.out.far hg18 (apart HI2.out HI7.out (by omega)))
  have HO3 := Lib.hid (HO3.out.far hg18 (apart HI3.out HI7.out (by omega)))
  have HO4 := Lib.hid (HO4.out.far hg18 (apart HI4.out HI7.out (by omega)))
  have HO8 := Lib.hid (HO8.out.far hg18 (apart_ HI8.out HI7.out (by omega)))
  have HO7 := Lib.hid ho18
  clear ho18 hg18
  go_wp2_with fail
  refine (eqIntS_any A8 A4 c8 c4 (trainLeft l0 l1 l2) (trainLeft l0 l1 l2) w18 HO8.out.rd HO4.out.rd (by omega) (by omega)).mono ?_
  rintro e w19 ⟨rfl, hd19⟩
  have hb19 := of_draws hd19
  have HB19 := Lib.hid (bthen HB18.out hb19)
  have hs19 : w18.heap.size ≤ w19.heap.size := hb19.size
  have HO1 := Lib.hid (HO1.out.below hb19)
  have HO2 := Lib.hid (HO2.out.below hb19)
  have HO3 := Lib.hid (HO3.out.below hb19)
  have HO4 := Lib.hid (HO4.out.below hb19)
  have HO8 := Lib.hid (HO8.out.below hb19)
  clear hd19 hb19
  go_wp2_with fail
  refine (markIntS_any A8 (trainLeft l0 l1 l2).length c8 w7.heap.size (trainLeft l0 l1 l2) 1 w19 HO8.out (by omega) (by omega) (by omega)).mono ?_
  rintro e w20 ⟨rfl, ho20, hg20⟩
  have HB20 := Lib.hid (HB19.out.grown hg20 HB19.out.size (blk_from HI8.out (by omega)))
  have hs20 : w19.heap.size ≤ w20.heap.size := hg20.size
  have HO1 := Lib.hid (HO1.out.far hg20 (apart HI1.out HI8.out (by omega)))
  have HO2 := Lib.hid (HO2.out.far hg20 (apart HI2.out HI8.out (by omega)))
  have HO3 := Lib.hid (HO3.out.far hg20 (apart HI3.out HI8.out (by omega)))
  have HO4 := Lib.hid (HO4.out.far hg20 (apart HI4.out HI8.out (by omega)))
  have HO8 := Lib.hid ho20
  clear ho20 hg20
  go_wp2_with fail
  refine (heldIntS_any A8 (trainLeft l0 l1 l2).length c8 1 w20 HO8.out.rd (by omega) (by omega) (by omega)).mono ?_
  rintro e w' ⟨rfl, rfl⟩
  go_wp2_with fail
  refine (toWagonS_any A0a c0a l0 w20 (rd0.below HB20.out) (by omega)).mono ?_
  rintro e w21 ⟨A21, c21, rfl, ho21, hb21⟩
  have HO21 := Lib.hid ho21
  have HB21 := Lib.hid (bthen HB20.out hb21)
  have hs21 : w20.heap.size ≤ w21.heap.size := hb21.size
  have HI21 := Lib.hid ho21.in_
  have HO1 := Lib.hid (HO1.out.below hb21)
  have HO2 := Lib.hid (HO2.out.below hb21)
  have HO3 := Lib.hid (HO3.out.below hb21)
  have HO4 := Lib.hid (HO4.out.below hb21)
  have HO8 := Lib.hid (HO8.out.below hb21)
  clear ho21 hb21
  go_wp2_with fail
  refine (toBoxS_any A1a c1a l1 w21 (rd1.below HB21.out) (by omega)).mono ?_
  rintro e w22 ⟨A22, c22, rfl, ho22, hb22⟩
  have HO22 := Lib.hid ho22
  have HB22 := Lib.hid (bthen HB21.out hb22)
  have hs22 : w21.heap.size ≤ w22.heap.size := hb22.size
  have HI22 := Lib.hid ho22.in_
  have HO1 := Lib.hid (HO1.out.below hb22)
  have HO2 := Lib.hid (HO2.out.below hb22)
  have HO3 := Lib.hid (HO3.out.below hb22)
  have HO4 := Lib.hid (HO4.out.below hb22)
  have HO8 := Lib.hid (HO8.out.below hb22)
  have HO21 := Lib.hid (HO21.out.below hb22)
  clear ho22 hb22
  go_wp2_with fail
  refine (toIntS_any A2a c2a l2 w22 (rd2.below HB22.out) (by omega)).mono ?_
  rintro e w23 ⟨A23, c23, rfl, ho23, hb23⟩
  have HO23 := Lib.hid ho23
  have HB23 := Lib.hid (bthen HB22.out hb23)
  have hs23 : w22.heap.size ≤ w23.heap.size := hb23.size
  have HI23 := Lib.hid ho23.in_
  have HO1 := Lib.hid (HO1.out.below hb23)
  have HO2 := Lib.hid (HO2.out.below hb23)
  have HO3 := Lib.hid (HO3.out.below hb23)
  have HO4 := Lib.hid (HO4.out.below hb23)
  have HO8 := Lib.hid (HO8.out.below hb23)
  have HO21 := Lib.hid (HO21.out.below hb23)
  have HO22 := Lib.hid (HO22.out.below hb23)
  clear ho23 hb23
  go_wp2_with fail
  refine (implTrainLeft A21 c21 l0 A22 c22 l1 A23 c23 l2 w23 HO21.out.rd HO22.out.rd HO23.out.rd (by omega) (by omega) (by omega) HO22.out.cap.1).mono ?_
  rintro e w24 ⟨A24, c24, rfl, ho24, hb24⟩
  have HO24 := Lib.hid ho24
  have HB24 := Lib.hid (bthen HB23.out hb24)
  have hs24 : w23.heap.size ≤ w24.heap.size := hb24.size
  have HI24 := Lib.hid ho24.in_
  have HO1 := Lib.hid (HO1.out.below hb24)
  have HO2 := Lib.hid (HO2.out.below hb24)
  have HO3 := Lib.hid (HO3.out.below hb24)
  have HO4 := Lib.hid (HO4.out.below hb24)
  have HO8 := Lib.hid (HO8.out.below hb24)
  have HO21 := Lib.hid (HO21.out.below hb24)
  have HO22 := Lib.hid (HO22.out.below hb24)
  have HO23 := Lib.hid (HO23.out.below hb24)
  clear ho24 hb24
  go_wp2_with fail
  refine (eqIntS_any A24 A4 c24 c4 (trainLeft l0 l1 l2) (trainLeft l0 l1 l2) w24 HO24.out.rd HO4.out.rd (by omega) (by omega)).mono ?_
  rintro e w25 ⟨rfl, hd25⟩
  have hb25 := of_draws hd25
  have HB25 := Lib.hid (bthen HB24.out hb25)
  have hs25 : w24.heap.size ≤ w25.heap.size := hb25.size
  have HO1 := Lib.hid (HO1.out.below hb25)
  have HO2 := Lib.hid (HO2.out.below hb25)
  have HO3 := Lib.hid (HO3.out.below hb25)
  have HO4 := Lib.hid (HO4.out.below hb25)
  have HO8 := Lib.hid (HO8.out.below hb25)
  have HO21 := Lib.hid (HO21.out.below hb25)
  have HO22 := Lib.hid (HO22.out.below hb25)
  have HO23 := Lib.hid (HO23.out.below hb25)
  have HO24 := Lib.hid (HO24.out.below hb25)
  clear hd25 hb25
  go_wp2_with fail
  refine (heldIntS_any A8 (trainLeft l0 l1 l2).length c8 1 w25 HO8.out.rd (by omega) (by omega) (by omega)).mono ?_
  rintro e w' ⟨rfl, rfl⟩
  go_wp2
  go_ret
  exact ⟨rfl, HB25.out⟩
end Go.Proofs.Ytdhpjajhkeanjaa
