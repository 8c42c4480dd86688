/-
  The walk of 'FnExactLeastHauls'.
-/
import Derived.Test.YtpabfbaoibmnlaaHlT
import Derived.Test.YtpabfbaoibmnlaaBase2
namespace Go.Proofs.Ytpabfbaoibmnlaa
open Go.RowKit
set_option linter.unusedVariables false
set_option maxRecDepth 100000

theorem walkFnExactLeastHauls (w : World) (A0a : Option Addr) (c0a : Nat) (l0 : List (List Int)) (rd0 : RdM w A0a l0) (hn0 : l0.length ≤ 9223372036854775807) (hr0 : ∀ k, k < l0.length → (nth l0 k).length ≤ 9223372036854775807) :
    Calls Try.prog 6 #[.slice A0a l0.length c0a] w fun e w' => e = .returned (.bool true) ∧ Below w.heap.size w w' := by
  have hlt0 := len_le_tot l0
  have hrt0 := Lib.hid (row_le_tot l0)
  by_cases hbig0 : 1048576 < (tot l0 : Int)
  · have Hz0 := Lib.hid (szV_lo hbig0)
    go_enter Try.func6, Try.ntmps6
    go_wp2_with fail
    refine (szIntSS_any A0a c0a l0 (1048576) w rd0 hn0 hr0 (by omega) (by omega)).mono ?_
    rintro e w' ⟨he, rfl⟩
    rw [Hz0.out] at he
    subst he
    go_wp2
    go_ret
    exact ⟨rfl, Below.refl _ _⟩
  have Hz0 := Lib.hid (szV_hi hbig0)
  have hl0 : l0.length ≤ 1000000000 := by omega
  have SM0 := small_of (L := l0) (by omega)
  have HRW0 : ∀ k, k < l0.length → (nth l0 k).length ≤ 1048576 := fun k hk => by have := hrt0.out k hk; omega
  have HRW0 := Lib.hid HRW0
  have SM0 := Lib.hid SM0
  go_enter Try.func6, Try.ntmps6
  go_wp2_with fail
  refine (szIntSS_any A0a c0a l0 (1048576) w rd0 hn0 hr0 (by omega) (by omega)).mono ?_
  rintro e w' ⟨he, rfl⟩
  rw [Hz0.out] at he
  subst he
  go_wp2_with fail
  refine (toIntSS_any A0a c0a l0 w rd0 (by omega) HRW0.out).mono ?_
  rintro e w1 ⟨A1, c1, rfl, ho1, hb1⟩
  have HO1 := Lib.hid ho1
  have HB1 := Lib.hid hb1
  have hs1 : w.heap.size ≤ w1.heap.size := hb1.size
  have HI1 := Lib.hid ho1.in_
  clear ho1 hb1
  go_wp2_with fail
  refine (specLeastHauls A1 c1 l0 w1 HO1.out.rd SM0.out).mono ?_
  rintro e w2 ⟨rfl, hb2⟩
  have HB2 := Lib.hid (bthen HB1.out hb2)
  have hs2 : w1.heap.size ≤ w2.heap.size := hb2.size
  have HO1 := Lib.hid (HO1.out.below hb2)
  clear hb2
  go_wp2_with fail
  refine (toIntSS_any A0a c0a l0 w2 (rd0.below HB2.out) (by omega) HRW0.out).mono ?_
  rintro e w3 ⟨A3, c3, rfl, ho3, hb3⟩
  have HO3 := Lib.hid ho3
  have HB3 := Lib.hid (bthen HB2.out hb3)
  have hs3 : w2.heap.size ≤ w3.heap.size := hb3.size
  have HI3 := Lib.hid ho3.in_
  have HO1 := Lib.hid (HO1.out.below hb3)
  clear ho3 hb3
  go_wp2_with fail
  refine (implLeastHauls A3 c3 l0 w3 HO3.out.rd SM0.out).mono ?_
  rintro e w4 ⟨rfl, hb4⟩
  have HB4 := Lib.hid (bthen HB3.out hb4)
  have hs4 : w3.heap.size ≤ w4.heap.size := hb4.size
  have HO1 := Lib.hid (HO1.out.below hb4)
  have HO3 := Lib.hid (HO3.out.below hb4)
  clear hb4
  go_wp2_with fail
  refine (toIntSS_any A0a c0a l0 w4 (rd0.below HB4.out) (by omega) HRW0.out).mono ?_
  rintro e w5 ⟨A5, c5, rfl, ho5, hb5⟩
  have HO5 := Lib.hid ho5
  have HB5 := Lib.hid (bthen HB4.out hb5)
  have hs5 : w4.heap.size ≤ w5.heap.size := hb5.size
  have HI5 := Lib.hid ho5.in_
  have HO1 := Lib.hid (HO1.out.below hb5)
  have HO3 := Lib.hid (HO3.out.below hb5)
  clear ho5 hb5
  go_wp2_with fail
  refine (eqIntSS_any A3 A5 c3 c5 l0 w5 HO3.out.rd HO5.out.rd SM0.out).mono ?_
  rintro e w6 ⟨rfl, hb6⟩
  have HB6 := Lib.hid (bthen HB5.out hb6)
  have hs6 : w5.heap.size ≤ w6.heap.size := hb6.size
  have HO1 := Lib.hid (HO1.out.below hb6)
  have HO3 := Lib.hid (HO3.out.below hb6)
  have HO5 := Lib.hid (HO5.out.below hb6)
  clear hb6
  go_wp2
  go_ret
  exact ⟨rfl, HB6.out⟩
end Go.Proofs.Ytpabfbaoibmnlaa
