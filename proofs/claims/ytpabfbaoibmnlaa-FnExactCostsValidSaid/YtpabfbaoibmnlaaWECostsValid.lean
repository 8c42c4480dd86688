/-
  The walk of 'FnExactCostsValid'.
-/
import Derived.Test.YtpabfbaoibmnlaaHlB
import Derived.Test.YtpabfbaoibmnlaaBase2
namespace Go.Proofs.Ytpabfbaoibmnlaa
open Go.RowKit
set_option linter.unusedVariables false
set_option maxRecDepth 100000

theorem walkFnExactCostsValid (w : World) (A0a : Option Addr) (c0a : Nat) (l0 : List (List Int)) (rd0 : RdM w A0a l0) (hn0 : l0.length ≤ 9223372036854775807) (hr0 : ∀ k, k < l0.length → (nth l0 k).length ≤ 9223372036854775807) :
    Calls Try.prog 3 #[.slice A0a l0.length c0a] w fun e w' => e = .returned (.bool true) ∧ Below w.heap.size w w' := by
  have hlt0 := len_le_tot l0
  have hrt0 := Lib.hid (row_le_tot l0)
  by_cases hbig0 : 1048576 < (tot l0 : Int)
  · have Hz0 := Lib.hid (szV_lo hbig0)
    go_enter Try.func3, Try.ntmps3
    go_wp2_with fail
    refine (szIntSS_any A0a c0a l0 (1048576) w rd0 hn0 hr0 (by omega) (by omega)).mono ?_
    rintro e w' ⟨he, rfl⟩
    rw [Hz0.out] at he
    subst he
    go_wp2
    go_ret
    exact ⟨rfl, Below.refl _ _⟩
  have Hz0 := Lib.hid (szV_hi hbig0)
  have hl0 : l0.length ≤ 1000000000 := by omega
  have SM0 := small_of (L := l0) (by omega)
  have HRW0 : ∀ k, k < l0.length → (nth l0 k).length ≤ 1048576 := fun k hk => by have := hrt0.out k hk; omega
  have HRW0 := Lib.hid HRW0
  have SM0 := Lib.hid SM0
  go_enter Try.func3, Try.ntmps3
  go_wp2_with fail
  refine (szIntSS_any A0a c0a l0 (1048576) w rd0 hn0 hr0 (by omega) (by omega)).mono ?_
  rintro e w' ⟨he, rfl⟩
  rw [Hz0.out] at he
  subst he
  go_wp2_with fail
  refine (toIntSS_any A0a c0a l0 w rd0 (by omega) HRW0.out).mono ?_
  rintro e w1 ⟨A1, c1, rfl, ho1, hb1⟩
  have HO1 := Lib.hid ho1
  have HB1 := Lib.hid hb1
  have hs1 : w.heap.size ≤ w1.heap.size := hb1.size
  have HI1 := Lib.hid ho1.in_
  clear ho1 hb1
  go_wp2_with fail
  refine (specCostsValid A1 c1 l0 w1 HO1.out.rd SM0.out).mono ?_
  rintro e w' ⟨rfl, rfl⟩
  go_wp2_with fail
  refine (toIntSS_any A0a c0a l0 w1 (rd0.below HB1.out) (by omega) HRW0.out).mono ?_
  rintro e w2 ⟨A2, c2, rfl, ho2, hb2⟩
  have HO2 := Lib.hid ho2
  have HB2 := Lib.hid (bthen HB1.out hb2)
  have hs2 : w1.heap.size ≤ w2.heap.size := hb2.size
  have HI2 := Lib.hid ho2.in_
  have HO1 := Lib.hid (HO1.out.below hb2)
  clear ho2 hb2
  go_wp2_with fail
  refine (implCostsValid A2 c2 l0 w2 HO2.out.rd SM0.out).mono ?_
  rintro e w' ⟨rfl, rfl⟩
  go_wp2_with fail
  refine (toIntSS_any A0a c0a l0 w2 (rd0.below HB2.out) (by omega) HRW0.out).mono ?_
  rintro e w3 ⟨A3, c3, rfl, ho3, hb3⟩
  have HO3 := Lib.hid ho3
  have HB3 := Lib.hid (bthen HB2.out hb3)
  have hs3 : w2.heap.size ≤ w3.heap.size := hb3.size
  have HI3 := Lib.hid ho3.in_
  have HO1 := Lib.hid (HO1.out.below hb3)
  have HO2 := Lib.hid (HO2.out.below hb3)
  clear ho3 hb3
  go_wp2_with fail
  refine (eqIntSS_any A2 A3 c2 c3 l0 w3 HO2.out.rd HO3.out.rd SM0.out).mono ?_
  rintro e w4 ⟨rfl, hb4⟩
  have HB4 := Lib.hid (bthen HB3.out hb4)
  have hs4 : w3.heap.size ≤ w4.heap.size := hb4.size
  have HO1 := Lib.hid (HO1.out.below hb4)
  have HO2 := Lib.hid (HO2.out.below hb4)
  have HO3 := Lib.hid (HO3.out.below hb4)
  clear hb4
  go_wp2
  go_ret
  exact ⟨rfl, HB4.out⟩
end Go.Proofs.Ytpabfbaoibmnlaa
