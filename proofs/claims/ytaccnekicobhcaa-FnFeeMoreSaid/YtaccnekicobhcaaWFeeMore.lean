/-
  The walk of 'FnFeeMore'.
-/
import Derived.Test.YtaccnekicobhcaaFeeDraw2
import Derived.Test.YtaccnekicobhcaaFeeC
namespace Go.Proofs.Ytaccnekicobhcaa
open Go.RowKit
set_option linter.unusedVariables false

theorem walkFnFeeMore (w : World) (A0a : Option Addr) (c0a : Nat) (l0 : List Int) (rd0 : RdB w w.heap.size A0a l0) (cap0 : l0.length ≤ c0a) :
    Calls Try.prog 11 #[.slice A0a l0.length c0a] w fun e w' => e = .returned (.bool true) ∧ Below w.heap.size w w' := by
  by_cases hbig0 : 1048576 < l0.length
  · go_enter Try.func11, Try.ntmps11
    go_wp2
    go_ret
    exact ⟨rfl, Below.refl _ _⟩
  go_enter Try.func11, Try.ntmps11
  go_wp2_with fail
  refine (DrawFeeMore_any A0a c0a l0 w rd0 cap0).mono ?_
  rintro e w1 ⟨A1, c1, l, f, bf, z, rfl, ho1, hhi, hf, hb, hz, hb1⟩
  have HO1 := Lib.hid ho1
  have HB1 := Lib.hid hb1
  clear ho1 hb1
  obtain ⟨hf0, hf1⟩ := hf
  obtain ⟨hbf0, hbf1⟩ := hb
  obtain ⟨hz0, hz1⟩ := hz
  go_wp2_with fail
  refine (implFeeMore A1 c1 l f bf z w1 HO1.out.rd (by omega)).mono ?_
  rintro e w2 ⟨he, hb2⟩
  subst he
  have HB2 := Lib.hid (bthen HB1.out hb2)
  have HO2 := Lib.hid (HO1.out.below hb2)
  have hs2 := HB2.out.size
  clear hb2
  go_wp2_with fail
  refine (specFeeMore A1 c1 l f bf z w2 HO2.out.rd (by omega)).mono ?_
  rintro e w3 ⟨he, hb3⟩
  subst he
  have HB3 := Lib.hid (bthen HB2.out hb3)
  have HO3 := Lib.hid (HO2.out.below hb3)
  have hs3 := HB3.out.size
  clear hb3
  by_cases hx : feeMore l f bf z < 0
  · have hm := feeMore_neg hx
    generalize feeMore l f bf z = x at *
    subst hm
    go_wp2_with fail
    refine (alive_any w3).mono ?_
    rintro e w' ⟨rfl, rfl⟩
    go_wp2
    go_ret
    first | exact ⟨rfl, HB3.out⟩ | exact ⟨by simp; omega, HB3.out⟩
  · obtain ⟨hle, hr, hw, hbb, hdd, hv⟩ := feeMore_pos (Int.not_lt.1 hx)
    obtain ⟨hbb0, hbb1⟩ := hbb
    obtain ⟨hdd0, hdd1⟩ := hdd
    obtain ⟨hh, hh1, hh2, hh3⟩ : ∃ h : Int, h = (bf + z) / 2 ∧ bf ≤ h ∧ h ≤ z := ⟨_, rfl, by omega, by omega⟩
    have et : Int.tdiv (bf + z) 2 = hh := by rw [Int.tdiv_eq_ediv_of_nonneg (by omega), hh1]
    have H1 : Hid (feeOf l f bf = feeN l f bf) := Lib.hid (feeOf_t hr hw (win_mk (by omega) (by omega)))
    have H2 : Hid (feeOf l f z = feeN l f z) := Lib.hid (feeOf_t hr hw (win_mk (by omega) (by omega)))
    have H3 : Hid (feeMore l f bf hh = feeN l f hh - feeN l f bf) := Lib.hid (feeMore_val hh2 hr hw (by omega) (by omega))
    have H4 : Hid (feeMore l f hh z = feeN l f z - feeN l f hh) := Lib.hid (feeMore_val hh3 hr hw (by omega) (by omega))
    obtain ⟨p0, p1⟩ := feeN_bd hr (free := f) (days := bf) hf0 (by omega)
    obtain ⟨q0, q1⟩ := feeN_bd hr (free := f) (days := z) hf0 (by omega)
    obtain ⟨r0, r1⟩ := feeN_bd hr (free := f) (days := hh) hf0 (by omega)
    have m1 := feeN_mono hr (free := f) hh2
    have m2 := feeN_mono hr (free := f) hh3
    simp only [hv] at *
    clear hr hw hv hh1
    go_wp2_with fail
    refine (implFeeOf A1 c1 l f bf w3 HO3.out.rd (by omega)).mono ?_
    rintro e w4 ⟨he, hb4⟩
    rw [H1.out] at he
    subst he
    have HB4 := Lib.hid (bthen HB3.out hb4)
    have HO4 := Lib.hid (HO3.out.below hb4)
    have hs4 := HB4.out.size
    clear hb4
    go_wp2_with fail
    refine (implFeeOf A1 c1 l f z w4 HO4.out.rd (by omega)).mono ?_
    rintro e w5 ⟨he, hb5⟩
    rw [H2.out] at he
    subst he
    have HB5 := Lib.hid (bthen HB4.out hb5)
    have HO5 := Lib.hid (HO4.out.below hb5)
    have hs5 := HB5.out.size
    clear hb5
    go_wp2_with fail
    refine (implFeeMore A1 c1 l f bf hh w5 HO5.out.rd (by omega)).mono ?_
    rintro e w6 ⟨he, hb6⟩
    rw [H3.out] at he
    subst he
    have HB6 := Lib.hid (bthen HB5.out hb6)
    have HO6 := Lib.hid (HO5.out.below hb6)
    have hs6 := HB6.out.size
    clear hb6
    go_wp2_with fail
    refine (implFeeMore A1 c1 l f hh z w6 HO6.out.rd (by omega)).mono ?_
    rintro e w7 ⟨he, hb7⟩
    rw [H4.out] at he
    subst he
    have HB7 := Lib.hid (bthen HB6.out hb7)
    have HO7 := Lib.hid (HO6.out.below hb7)
    have hs7 := HB7.out.size
    clear hb7
    go_wp2
    go_ret
    first | exact ⟨rfl, HB7.out⟩ | exact ⟨by simp; omega, HB7.out⟩
end Go.Proofs.Ytaccnekicobhcaa
