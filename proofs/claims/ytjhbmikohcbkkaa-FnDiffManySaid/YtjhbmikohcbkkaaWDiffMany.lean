/-
  The walk of 'FnDiffMany'.
-/
import Derived.Test.YtjhbmikohcbkkaaDiffDraw2
namespace Go.Proofs.Ytjhbmikohcbkkaa
open Go.RowKit
set_option linter.unusedVariables false
set_option maxRecDepth 100000

theorem walkFnDiffMany (w : World) (A0a : Option Addr) (c0a : Nat) (l0 : List Int) (rd0 : RdB w w.heap.size A0a l0) (cap0 : l0.length ≤ c0a) :
    Calls Try.prog 6 #[.slice A0a l0.length c0a] w fun e w' => e = .returned (.bool true) ∧ Below w.heap.size w w' := by
  by_cases hbig0 : 1048576 < l0.length
  · go_enter Try.func6, Try.ntmps6
    go_wp2
    go_ret
    exact ⟨rfl, Below.refl _ _⟩
  go_enter Try.func6, Try.ntmps6
  go_wp2_with fail
  refine (DrawDiffMany_any A0a c0a l0 w rd0 cap0).mono ?_
  rintro e w1 ⟨A1, c1, dl, z, rfl, hD, hkd, hdl, hb1⟩
  have HB1 := Lib.hid hb1
  have hs1 := hb1.size
  have HD1 := Lib.hid hD
  clear hb1 hD rd0 cap0
  have hall := diff_all hkd
  have b0 := diffMany_bd dl 0
  have b1 := diffMany_bd dl 1
  have b2 := diffMany_bd dl 2
  have bz := diffMany_bd dl z
  clear hkd
  go_wp2_with fail
  refine (implDiffMany A1 c1 dl z w1 HD1.out.rd (by omega)).mono ?_
  rintro e w2 ⟨he, hb2⟩
  subst he
  have HB2 := Lib.hid (bthen HB1.out hb2)
  have hs2 : w1.heap.size ≤ w2.heap.size := hb2.size
  have HD2 := Lib.hid (HD1.out.below hb2)
  clear hb2
  go_wp2_with fail
  refine (specDiffMany A1 c1 dl z w2 HD2.out.rd (by omega)).mono ?_
  rintro e w3 ⟨he, hb3⟩
  subst he
  have HB3 := Lib.hid (bthen HB2.out hb3)
  have hs3 : w2.heap.size ≤ w3.heap.size := hb3.size
  have HD3 := Lib.hid (HD2.out.below hb3)
  clear hb3
  go_wp2_with fail
  refine (implDiffMany A1 c1 dl 0 w3 HD3.out.rd (by omega)).mono ?_
  rintro e w4 ⟨he, hb4⟩
  subst he
  have HB4 := Lib.hid (bthen HB3.out hb4)
  have hs4 : w3.heap.size ≤ w4.heap.size := hb4.size
  have HD4 := Lib.hid (HD3.out.below hb4)
  clear hb4
  go_wp2_with fail
  refine (implDiffMany A1 c1 dl 1 w4 HD4.out.rd (by omega)).mono ?_
  rintro e w5 ⟨he, hb5⟩
  subst he
  have HB5 := Lib.hid (bthen HB4.out hb5)
  have hs5 : w4.heap.size ≤ w5.heap.size := hb5.size
  have HD5 := Lib.hid (HD4.out.below hb5)
  clear hb5
  go_wp2_with fail
  refine (implDiffMany A1 c1 dl 2 w5 HD5.out.rd (by omega)).mono ?_
  rintro e w6 ⟨he, hb6⟩
  subst he
  have HB6 := Lib.hid (bthen HB5.out hb6)
  have hs6 : w5.heap.size ≤ w6.heap.size := hb6.size
  have HD6 := Lib.hid (HD5.out.below hb6)
  clear hb6
  generalize diffMany dl 0 = m0 at *
  generalize diffMany dl 1 = m1 at *
  generalize diffMany dl 2 = m2 at *
  have hsum : (m0 + m1 + m2 == (dl.length : Int)) = true := by simp; omega
  have hge : diffMany dl z ≥ 0 := bz.1
  clear hall
  go_wp2_with fail
  refine (alive_any w6).mono ?_
  rintro e w' ⟨rfl, rfl⟩
  go_wp2
  go_ret
  first | exact ⟨rfl, HB6.out⟩ | exact ⟨by simp; omega, HB6.out⟩
end Go.Proofs.Ytjhbmikohcbkkaa
