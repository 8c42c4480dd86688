/-
  The walk of 'FnExactHaulCost'.
-/
import Derived.Test.YtpabfbaoibmnlaaHlB
import Derived.Test.YtpabfbaoibmnlaaBase2
namespace Go.Proofs.Ytpabfbaoibmnlaa
open Go.RowKit
set_option linter.unusedVariables false
set_option maxRecDepth 100000

theorem walkFnExactHaulCost (w : World) (A0a : Option Addr) (c0a : Nat) (l0 : List (List Int)) (rd0 : RdM w A0a l0) (hn0 : l0.length ≤ 9223372036854775807) (hr0 : ∀ k, k < l0.length → (nth l0 k).length ≤ 9223372036854775807) (A1a : Option Addr) (c1a : Nat) (l1 : List Int) (rd1 : RdI w A1a l1) :
    Calls Try.prog 5 #[.slice A0a l0.length c0a, .slice A1a l1.length c1a] w fun e w' => e = .returned (.bool true) ∧ Below w.heap.size w w' := by
  by_cases hbig1 : 1048576 < l1.length
  · go_enter Try.func5, Try.ntmps5
    go_wp2
    go_ret
    exact ⟨rfl, Below.refl _ _⟩
  have hlt0 := len_le_tot l0
  have hrt0 := Lib.hid (row_le_tot l0)
  by_cases hbig0 : 1048576 < (tot l0 : Int)
  · have Hz0 := Lib.hid (szV_lo hbig0)
    go_enter Try.func5, Try.ntmps5
    go_wp2_with fail
    refine (szIntSS_any A0a c0a l0 (1048576) w rd0 hn0 hr0 (by omega) (by omega)).mono ?_
    rintro e w' ⟨he, rfl⟩
    rw [Hz0.out] at he
    subst he
    go_wp2
    go_ret
    exact ⟨rfl, Below.refl _ _⟩
  have Hz0 := Lib.hid (szV_hi hbig0)
  have hl0 : l0.length ≤ 1000000000 := by omega
  have hl1 : l1.length ≤ 1000000000 := by omega
  have SM0 := small_of (L := l0) (by omega)
  have HRW0 : ∀ k, k < l0.length → (nth l0 k).length ≤ 1048576 := fun k hk => by have := hrt0.out k hk; omega
  have HRW0 := Lib.hid HRW0
  have SM0 := Lib.hid SM0
  have hsm1 := same_self l1
  go_enter Try.func5, Try.ntmps5
  go_wp2_with fail
  refine (szIntSS_any A0a c0a l0 (1048576) w rd0 hn0 hr0 (by omega) (by omega)).mono ?_
  rintro e w' ⟨he, rfl⟩
  rw [Hz0.out] at he
  subst he
  go_wp2_with fail
  refine (toIntSS_any A0a c0a l0 w rd0 (by omega) HRW0.out).mono ?_
  rintro e w1 ⟨A1, c1, rfl, ho1, hb1⟩
  have HO1 := Lib.hid ho1
  have HB1 := Lib.hid hb1
  have hs1 : w.heap.size ≤ w1.heap.size := hb1.size
  have HI1 := Lib.hid ho1.in_
  clear ho1 hb1
  go_wp2_with fail
  refine (toIntS_any A1a c1a l1 w1 (rd1.below HB1.out) (by omega)).mono ?_
  rintro e w2 ⟨A2, c2, rfl, ho2, hb2⟩
  have HO2 := Lib.hid ho2
  have HB2 := Lib.hid (bthen HB1.out hb2)
  have hs2 : w1.heap.size ≤ w2.heap.size := hb2.size
  have HI2 := Lib.hid ho2.in_
  have HO1 := Lib.hid (HO1.out.below hb2)
  clear ho2 hb2
  go_wp2_with fail
  refine (specHaulCostB A1 c1 l0 A2 c2 l1 w2 HO1.out.rd HO2.out.rd SM0.out (by omega) HO2.out.cap.1).mono ?_
  rintro e w3 ⟨rfl, hb3⟩
  have HB3 := Lib.hid (bthen HB2.out hb3)
  have hs3 : w2.heap.size ≤ w3.heap.size := hb3.size
  have HO1 := Lib.hid (HO1.out.below hb3)
  have HO2 := Lib.hid (HO2.out.below hb3)
  clear hb3
  go_wp2_with fail
  refine (toIntSS_any A0a c0a l0 w3 (rd0.below HB3.out) (by omega) HRW0.out).mono ?_
  rintro e w4 ⟨A4, c4, rfl, ho4, hb4⟩
  have HO4 := Lib.hid ho4
  have HB4 := Lib.hid (bthen HB3.out hb4)
  have hs4 : w3.heap.size ≤ w4.heap.size := hb4.size
  have HI4 := Lib.hid ho4.in_
  have HO1 := Lib.hid (HO1.out.below hb4)
  have HO2 := Lib.hid (HO2.out.below hb4)
  clear ho4 hb4
  go_wp2_with fail
  refine (toIntS_any A1a c1a l1 w4 (rd1.below HB4.out) (by omega)).mono ?_
  rintro e w5 ⟨A5, c5, rfl, ho5, hb5⟩
  have HO5 := Lib.hid ho5
  have HB5 := Lib.hid (bthen HB4.out hb5)
  have hs5 : w4.heap.size ≤ w5.heap.size := hb5.size
  have HI5 := Lib.hid ho5.in_
  have HO1 := Lib.hid (HO1.out.below hb5)
  have HO2 := Lib.hid (HO2.out.below hb5)
  have HO4 := Lib.hid (HO4.out.below hb5)
  clear ho5 hb5
  go_wp2_with fail
  refine (implHaulCostB A4 c4 l0 A5 c5 l1 w5 HO4.out.rd HO5.out.rd SM0.out (by omega) HO5.out.cap.1).mono ?_
  rintro e w6 ⟨rfl, hb6⟩
  have HB6 := Lib.hid (bthen HB5.out hb6)
  have hs6 : w5.heap.size ≤ w6.heap.size := hb6.size
  have HO1 := Lib.hid (HO1.out.below hb6)
  have HO2 := Lib.hid (HO2.out.below hb6)
  have HO4 := Lib.hid (HO4.out.below hb6)
  have HO5 := Lib.hid (HO5.out.below hb6)
  clear hb6
  go_wp2_with fail
  refine (toIntSS_any A0a c0a l0 w6 (rd0.below HB6.out) (by omega) HRW0.out).mono ?_
  rintro e w7 ⟨A7, c7, rfl, ho7, hb7⟩
  have HO7 := Lib.hid ho7
  have HB7 := Lib.hid (bthen HB6.out hb7)
  have hs7 : w6.heap.size ≤ w7.heap.size := hb7.size
  have HI7 := Lib.hid ho7.in_
  have HO1 := Lib.hid (HO1.out.below hb7)
  have HO2 := Lib.hid (HO2.out.below hb7)
  have HO4 := Lib.hid (HO4.out.below hb7)
  have HO5 := Lib.hid (HO5.out.below hb7)
  clear ho7 hb7
  go_wp2_with fail
  refine (eqIntSS_any A4 A7 c4 c7 l0 w7 HO4.out.rd HO7.out.rd SM0.out).mono ?_
  rintro e w8 ⟨rfl, hb8⟩
  have HB8 := Lib.hid (bthen HB7.out hb8)
  have hs8 : w7.heap.size ≤ w8.heap.size := hb8.size
  have HO1 := Lib.hid (HO1.out.below hb8)
  have HO2 := Lib.hid (HO2.out.below hb8)
  have HO4 := Lib.hid (HO4.out.below hb8)
  have HO5 := Lib.hid (HO5.out.below hb8)
  have HO7 := Lib.hid (HO7.out.below hb8)
  clear hb8
  go_wp2_with fail
  refine (toIntS_any A1a c1a l1 w8 (rd1.below HB8.out) (by omega)).mono ?_
  rintro e w9 ⟨A9, c9, rfl, ho9, hb9⟩
  have HO9 := Lib.hid ho9
  have HB9 := Lib.hid (bthen HB8.out hb9)
  have hs9 : w8.heap.size ≤ w9.heap.size := hb9.size
  have HI9 := Lib.hid ho9.in_
  have HO1 := Lib.hid (HO1.out.below hb9)
  have HO2 := Lib.hid (HO2.out.below hb9)
  have HO4 := Lib.hid (HO4.out.below hb9)
  have HO5 := Lib.hid (HO5.out.below hb9)
  clear ho9 hb9
  go_wp2_with fail
  refine (eqIntS_any A5 A9 c5 c9 l1 l1 w9 HO5.out.rd HO9.out.rd (by omega) (by omega)).mono ?_
  rintro e w10 ⟨rfl, hd10⟩
  have hb10 := of_draws hd10
  have HB10 := Lib.hid (bthen HB9.out hb10)
  have hs10 : w9.heap.size ≤ w10.heap.size := hb10.size
  have HO1 := Lib.hid (HO1.out.below hb10)
  have HO2 := Lib.hid (HO2.out.below hb10)
  have HO4 := Lib.hid (HO4.out.below hb10)
  have HO5 := Lib.hid (HO5.out.below hb10)
  have HO9 := Lib.hid (HO9.out.below hb10)
  clear hd10 hb10
  go_wp2
  go_ret
  exact ⟨rfl, HB10.out⟩
end Go.Proofs.Ytpabfbaoibmnlaa
