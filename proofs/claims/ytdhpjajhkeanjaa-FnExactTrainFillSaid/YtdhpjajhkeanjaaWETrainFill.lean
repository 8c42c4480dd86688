/-
  The walk of 'FnExactTrainFill'.
-/
import Derived.Test.YtdhpjajhkeanjaaTrainC
import Derived.Test.YtdhpjajhkeanjaaMarkB
import Derived.Test.YtdhpjajhkeanjaaBase2
namespace Go.Proofs.Ytdhpjajhkeanjaa
open Go.RowKit
set_option linter.unusedVariables false

theorem walkFnExactTrainFill (w : World) (A0a : Option Addr) (c0a : Nat) (l0 : List (Int × Int)) (rd0 : Rd encP w A0a l0) (hn0 : l0.length ≤ 9223372036854775807) (A1a : Option Addr) (c1a : Nat) (l1 : List Bx) (rd1 : Rd encB w A1a l1) (hn1 : l1.length ≤ 9223372036854775807) :
    Calls Try.prog 8 #[.slice A0a l0.length c0a, .slice A1a l1.length c1a] w fun e w' => e = .returned (.bool true) ∧ Below w.heap.size w w' := by
  by_cases hbig0 : 1048576 < (l0.length : Int)
  · have Hz0 := Lib.hid (szV_lo hbig0)
    go_enter Try.func8, Try.ntmps8
    go_wp2_with fail
    refine (szWagonS_any A0a l0.length c0a (1048576) w hn0 (by omega) (by omega)).mono ?_
    rintro e w' ⟨he, rfl⟩
    rw [Hz0.out] at he
    subst he
    go_wp2
    go_ret
    exact ⟨rfl, Below.refl _ _⟩
  have Hz0 := Lib.hid (szV_hi hbig0)
  by_cases hbig1 : 1048576 - (l0.length : Int) < (l1.length : Int)
  · have Hz1 := Lib.hid (szV_lo hbig1)
    go_enter Try.func8, Try.ntmps8
    go_wp2_with fail
    refine (szWagonS_any A0a l0.length c0a (1048576) w hn0 (by omega) (by omega)).mono ?_
    rintro e w' ⟨he, rfl⟩
    rw [Hz0.out] at he
    subst he
    go_wp2_with fail
    refine (szBoxS_any A1a l1.length c1a (1048576 - (l0.length : Int)) w hn1 (by omega) (by omega)).mono ?_
    rintro e w' ⟨he, rfl⟩
    rw [Hz1.out] at he
    subst he
    go_wp2
    go_ret
    exact ⟨rfl, Below.refl _ _⟩
  have Hz1 := Lib.hid (szV_hi hbig1)
  have hl0 : l0.length ≤ 1000000000 := by omega
  have hl1 : l1.length ≤ 1000000000 := by omega
  have hfl := length_fillL l0 l1
  have hsmr := same_self (fillL l0 l1)
  go_enter Try.func8, Try.ntmps8
  go_wp2_with fail
  refine (szWagonS_any A0a l0.length c0a (1048576) w hn0 (by omega) (by omega)).mono ?_
  rintro e w' ⟨he, rfl⟩
  rw [Hz0.out] at he
  subst he
  go_wp2_with fail
  refine (szBoxS_any A1a l1.length c1a (1048576 - (l0.length : Int)) w hn1 (by omega) (by omega)).mono ?_
  rintro e w' ⟨he, rfl⟩
  rw [Hz1.out] at he
  subst he
  go_wp2_with fail
  refine (toWagonS_any A0a c0a l0 w rd0 (by omega)).mono ?_
  rintro e w1 ⟨A1, c1, rfl, ho1, hb1⟩
  have HO1 := Lib.hid ho1
  have HB1 := Lib.hid hb1
  have hs1 : w.heap.size ≤ w1.heap.size := hb1.size
  have HI1 := Lib.hid ho1.in_
  clear ho1 hb1
  go_wp2_with fail
  refine (toBoxS_any A1a c1a l1 w1 (rd1.below HB1.out) (by omega)).mono ?_
  rintro e w2 ⟨A2, c2, rfl, ho2, hb2⟩
  have HO2 := Lib.hid ho2
  have HB2 := Lib.hid (bthen HB1.out hb2)
  have hs2 : w1.heap.size ≤ w2.heap.size := hb2.size
  have HI2 := Lib.hid ho2.in_
  have HO1 := Lib.hid (HO1.out.below hb2)
  clear ho2 hb2
  go_wp2_with fail
  refine (specTrainFill A1 c1 l0 A2 c2 l1 w2 HO1.out.rd HO2.out.rd (by omega) (by omega) HO2.out.cap.1).mono ?_
  rintro e w3 ⟨A3, c3, rfl, ho3, hb3⟩
  have HO3 := Lib.hid ho3
  have HB3 := Lib.hid (bthen HB2.out hb3)
  have hs3 : w2.heap.size ≤ w3.heap.size := hb3.size
  have HI3 := Lib.hid ho3.in_
  have HO1 := Lib.hid (HO1.out.below hb3)
  have HO2 := Lib.hid (HO2.out.below hb3)
  clear ho3 hb3
  go_wp2_with fail
  refine (toWagonS_any A0a c0a l0 w3 (rd0.below HB3.out) (by omega)).mono ?_
  rintro e w4 ⟨A4, c4, rfl, ho4, hb4⟩
  have HO4 := Lib.hid ho4
  have HB4 := Lib.hid (bthen HB3.out hb4)
  have hs4 : w3.heap.size ≤ w4.heap.size := hb4.size
  have HI4 := Lib.hid ho4.in_
  have HO1 := Lib.hid (HO1.out.below hb4)
  have HO2 := Lib.hid (HO2.out.below hb4)
  have HO3 := Lib.hid (HO3.out.below hb4)
  clear ho4 hb4
  go_wp2_with fail
  refine (toBoxS_any A1a c1a l1 w4 (rd1.below HB4.out) (by omega)).mono ?_
  rintro e w5 ⟨A5, c5, rfl, ho5, hb5⟩
  have HO5 := Lib.hid ho5
  have HB5 := Lib.hid (bthen HB4.out hb5)
  have hs5 : w4.heap.size ≤ w5.heap.size := hb5.size
  have HI5 := Lib.hid ho5.in_
  have HO1 := Lib.hid (HO1.out.below hb5)
  have HO2 := Lib.hid (HO2.out.below hb5)
  have HO3 := Lib.hid (HO3.out.below hb5)
  have HO4 := Lib.hid (HO4.out.below hb5)
  clear ho5 hb5
  go_wp2_with fail
  refine (implTrainFill A4 c4 l0 A5 c5 l1 w5 HO4.out.rd HO5.out.rd (by omega) (by omega) HO5.out.cap.1).mono ?_
  rintro e w6 ⟨A6, c6, rfl, ho6, hb6⟩
  have HO6 := Lib.hid ho6
  have HB6 := Lib.hid (bthen HB5.out hb6)
  have hs6 : w5.heap.size ≤ w6.heap.size := hb6.size
  have HI6 := Lib.hid ho6.in_
  have HO1 := Lib.hid (HO1.out.below hb6)
  have HO2 := Lib.hid (HO2.out.below hb6)
  have HO3 := Lib.hid (HO3.out.below hb6)
  have HO4 := Lib.hid (HO4.out.below hb6)
  have HO5 := Lib.hid (HO5.out.below hb6)
  clear ho6 hb6
  go_wp2_with fail
  refine (eqIntS_any A6 A3 c6 c3 (fillL l0 l1) (fillL l0 l1) w6 HO6.out.rd HO3.out.rd (by omega) (by omega)).mono ?_
  rintro e w7 ⟨rfl, hd7⟩
  have hb7 := of_draws hd7
  have HB7 := Lib.hid (bthen HB6.out hb7)
  have hs7 : w6.heap.size ≤ w7.heap.size := hb7.size
  have HO1 := Lib.hid (HO1.out.below hb7)
  have HO2 := Lib.hid (HO2.out.below hb7)
  have HO3 := Lib.hid (HO3.out.below hb7)
  have HO4 := Lib.hid (HO4.out.below hb7)
  have HO5 := Lib.hid (HO5.out.below hb7)
  have HO6 := Lib.hid (HO6.out.below hb7)
  clear hd7 hb7
  go_wp2_with fail
  refine (toWagonS_any A0a c0a l0 w7 (rd0.below HB7.out) (by omega)).mono ?_
  rintro e w8 ⟨A8, c8, rfl, ho8, hb8⟩
  have HO8 := Lib.hid ho8
  have HB8 := Lib.hid (bthen HB7.out hb8)
  have hs8 : w7.heap.size ≤ w8.heap.size := hb8.size
  have HI8 := Lib.hid ho8.in_
  have HO1 := Lib.hid (HO1.out.below hb8)
  have HO2 := Lib.hid (HO2.out.below hb8)
  have HO3 := Lib.hid (HO3.out.below hb8)
  have HO4 := Lib.hid (HO4.out.below hb8)
  have HO5 := Lib.hid (HO5.out.below hb8)
  have HO6 := Lib.hid (HO6.out.below hb8)
  clear ho8 hb8
  go_wp2_with fail
  refine (eqWagonS_any A4 A8 c4 c8 l0 w8 HO4.out.rd HO8.out.rd (by omega)).mono ?_
  rintro e w9 ⟨rfl, hb9⟩
  have HB9 := Lib.hid (bthen HB8.out hb9)
  have hs9 : w8.heap.size ≤ w9.heap.size := hb9.size
  have HO1 := Lib.hid (HO1.out.below hb9)
  have HO2 := Lib.hid (HO2.out.below hb9)
  have HO3 := Lib.hid (HO3.out.below hb9)
  have HO4 := Lib.hid (HO4.out.below hb9)
  have HO5 := Lib.hid (HO5.out.below hb9)
  have HO6 := Lib.hid (HO6.out.below hb9)
  have HO8 := Lib.hid (HO8.out.below hb9)
  clear hb9
  go_wp2_with fail
  refine (toBoxS_any A1a c1a l1 w9 (rd1.below HB9.out) (by omega)).mono ?_
  rintro e w10 ⟨A10, c10, rfl, ho10, hb10⟩
  have HO10 := Lib.hid ho10
  have HB10 := Lib.hid (bthen HB9.out hb10)
  have hs10 : w9.heap.size ≤ w10.heap.size := hb10.size
  have HI10 := Lib.hid ho10.in_
  have HO1 := Lib.hid (HO1.out.below hb10)
  have HO2 := Lib.hid (HO2.out.below hb10)
  have HO3 := Lib.hid (HO3.out.below hb10)
  have HO4 := Lib.hid (HO4.out.below hb10)
  have HO5 := Lib.hid (HO5.out.below hb10)
  have HO6 := Lib.hid (HO6.out.below hb10)
  clear ho10 hb10
  go_wp2_with fail
  refine (eqBoxS_any A5 A10 c5 c10 l1 w10 HO5.out.rd HO10.out.rd (by omega)).mono ?_
  rintro e w11 ⟨rfl, hb11⟩
  have HB11 := Lib.hid (bthen HB10.out hb11)
  have hs11 : w10.heap.size ≤ w11.heap.size := hb11.size
  have HO1 := Lib.hid (HO1.out.below hb11)
  have HO2 := Lib.hid (HO2.out.below hb11)
  have HO3 := Lib.hid (HO3.out.below hb11)
  have HO4 := Lib.hid (HO4.out.below hb11)
  have HO5 := Lib.hid (HO5.out.below hb11)
  have HO6 := Lib.hid (HO6.out.below hb11)
  have HO10 := Lib.hid (HO10.out.below hb11)
  clear hb11
  go_wp2_with fail
  refine (markWagonS_any A4 l0.length c4 w3.heap.size l0 1 w11 HO4.out (by omega) (by omega) (by omega)).mono ?_
  rintro e w12 ⟨rfl, ho12, hg12⟩
  have HB12 := Lib.hid (HB11.out.grown hg12 HB11.out.size (blk_from HI4.out (by omega)))
  have hs12 : w11.heap.size ≤ w12.heap.size := hg12.size
  have HO1 := Lib.hid (HO1.out.far hg12 (apart HI1.out HI4.out (by omega)))
  have HO2 := Lib.hid (HO2.out.far hg12 (apart HI2.out HI4.out (by omega)))
  have HO3 := Lib.hid (HO3.out.far hg12 (apart HI3.out HI4.out (by omega)))
  have HO5 := Lib.hid (HO5.out.far hg12 (apart_ HI5.out HI4.out (by omega)))
  have HO6 := Lib.hid (HO6.out.far hg12 (apart_ HI6.out HI4.out (by omega)))
  have HO4 := Lib.hid ho12
  clear ho12 hg12
  go_wp2_with fail
  refine (markBoxS_any A5 l1.length c5 w4.heap.size l1 (1 + (2 * l0.length : Int)) w12 HO5.out (by omega) (by omega) (by omega)).mono ?_
  rintro e w13 ⟨rfl, ho13, hg13⟩
  have HB13 := Lib.hid (HB12.out.grown hg13 HB12.out.size (blk_from HI5.out (by omega)))
  have hs13 : w12.heap.size ≤ w13.heap.size := hg13.size
  have HO1 := Lib.hid (HO1.out.far hg13 (apart HI1.out HI5.out (by omega)))
  have HO2 := Lib.hid (HO2.out.far hg13 (apart HI2.out HI5.out (by omega)))
  have HO3 := Lib.hid (HO3.out.far hg13 (apart HI3.out HI5.out (by omega)))
  have HO6 := Lib.hid (HO6.out.far hg13 (apart_ HI6.out HI5.out (by omega)))
  have HO5 := Lib.hid ho13
  clear ho13 hg13
  go_wp2_with fail
  refine (eqIntS_any A6 A3 c6 c3 (fillL l0 l1) (fillL l0 l1) w13 HO6.out.rd HO3.out.rd (by omega) (by omega)).mono ?_
  rintro e w14 ⟨rfl, hd14⟩
  have hb14 := of_draws hd14
  have HB14 := Lib.hid (bthen HB13.out hb14)
  have hs14 : w13.heap.size ≤ w14.heap.size := hb14.size
  have HO1 := Lib.hid (HO1.out.below hb14)
  have HO2 := Lib.hid (HO2.out.below hb14)
  have HO3 := Lib.hid (HO3.out.below hb14)
  have HO6 := Lib.hid (HO6.out.below hb14)
  clear hd14 hb14
  go_wp2_with fail
  refine (markIntS_any A6 (fillL l0 l1).length c6 w5.heap.size (fillL l0 l1) 1 w14 HO6.out (by omega) (by omega) (by omega)).mono ?_
  rintro e w15 ⟨rfl, ho15, hg15⟩
  have HB15 := Lib.hid (HB14.out.grown hg15 HB14.out.size (blk_from HI6.out (by omega)))
  have hs15 : w14.heap.size ≤ w15.heap.size := hg15.size
  have HO1 := Lib.hid (HO1.out.far hg15 (apart HI1.out HI6.out (by omega)))
  have HO2 := Lib.hid (HO2.out.far hg15 (apart HI2.out HI6.out (by omega)))
  have HO3 := Lib.hid (HO3.out.far hg15 (apart HI3.out HI6.out (by omega)))
  have HO6 := Lib.hid ho15
  clear ho15 hg15
  go_wp2_with fail
  refine (heldIntS_any A6 (fillL l0 l1).length c6 1 w15 HO6.out.rd (by omega) (by omega) (by omega)).mono ?_
  rintro e w' ⟨rfl, rfl⟩
  go_wp2_with fail
  refine (toWagonS_any A0a c0a l0 w15 (rd0.below HB15.out) (by omega)).mono ?_
  rintro e w16 ⟨A16, c16, rfl, ho16, hb16⟩
  have HO16 := Lib.hid ho16
  have HB16 := Lib.hid (bthen HB15.out hb16)
  have hs16 : w15.heap.size ≤ w16.heap.size := hb16.size
  have HI16 := Lib.hid ho16.in_
  have HO1 := Lib.hid (HO1.out.below hb16)
  have HO2 := Lib.hid (HO2.out.below hb16)
  have HO3 := Lib.hid (HO3.out.below hb16)
  have HO6 := Lib.hid (HO6.out.below hb16)
  clear ho16 hb16
  go_wp2_with fail
  refine (toBoxS_any A1a c1a l1 w16 (rd1.below HB16.out) (by omega)).mono ?_
  rintro e w17 ⟨A17, c17, rfl, ho17, hb17⟩
  have HO17 := Lib.hid ho17
  have HB17 := Lib.hid (bthen HB16.out hb17)
  have hs17 : w16.heap.size ≤ w17.heap.size := hb17.size
  have HI17 := Lib.hid ho17.in_
  have HO1 := Lib.hid (HO1.out.below hb17)
  have HO2 := Lib.hid (HO2.out.below hb17)
  have HO3 := Lib.hid (HO3.out.below hb17)
  have HO6 := Lib.hid (HO6.out.below hb17)
  have HO16 := Lib.hid (HO16.out.below hb17)
  clear ho17 hb17
  go_wp2_with fail
  refine (implTrainFill A16 c16 l0 A17 c17 l1 w17 HO16.out.rd HO17.out.rd (by omega) (by omega) HO17.out.cap.1).mono ?_
  rintro e w18 ⟨A18, c18, rfl, ho18, hb18⟩
  have HO18 := Lib.hid ho18
  have HB18 := Lib.hid (bthen HB17.out hb18)
  have hs18 : w17.heap.size ≤ w18.heap.size := hb18.size
  have HI18 := Lib.hid ho18.in_
  have HO1 := Lib.hid (HO1.out.below hb18)
  have HO2 := Lib.hid (HO2.out.below hb18)
  have HO3 := Lib.hid (HO3.out.below hb18)
  have HO6 := Lib.hid (HO6.out.below hb18)
  have HO16 := Lib.hid (HO16.out.below hb18)
  have HO17 := Lib.hid (HO17.out.below hb18)
  clear ho18 hb18
  go_wp2_with fail
  refine (eqIntS_any A18 A3 c18 c3 (fillL l0 l1) (fillL l0 l1) w18 HO18.out.rd HO3.out.rd (by omega) (by omega)).mono ?_
  rintro e w19 ⟨rfl, hd19⟩
  have hb19 := of_draws hd19
  have HB19 := Lib.hid (bthen HB18.out hb19)
  have hs19 : w18.heap.size ≤ w19.heap.size := hb19.size
  have HO1 := Lib.hid (HO1.out.below hb19)
  have HO2 := Lib.hid (HO2.out.below hb19)
  have HO3 := Lib.hid (HO3.out.below hb19)
  have HO6 := Lib.hid (HO6.out.below hb19)
  have HO16 := Lib.hid (HO16.out.below hb19)
  have HO17 := Lib.hid (HO17.out.below hb19)
  have HO18 := Lib.hid (HO18.out.below hb19)
  clear hd19 hb19
  go_wp2_with fail
  refine (heldIntS_any A6 (fillL l0 l1).length c6 1 w19 HO6.out.rd (by omega) (by omega) (by omega)).mono ?_
  rintro e w' ⟨rfl, rfl⟩
  go_wp2
  go_ret
  exact ⟨rfl, HB19.out⟩
end Go.Proofs.Ytdhpjajhkeanjaa
