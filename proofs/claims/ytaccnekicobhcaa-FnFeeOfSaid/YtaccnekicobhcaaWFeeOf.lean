/-
  The walk of 'FnFeeOf'.
-/
import Derived.Test.YtaccnekicobhcaaFeeDraw2
import Derived.Test.YtaccnekicobhcaaFeeC
namespace Go.Proofs.Ytaccnekicobhcaa
open Go.RowKit
set_option linter.unusedVariables false

theorem walkFnFeeOf (w : World) (A0a : Option Addr) (c0a : Nat) (l0 : List Int) (rd0 : RdB w w.heap.size A0a l0) (cap0 : l0.length ≤ c0a) :
    Calls Try.prog 10 #[.slice A0a l0.length c0a] w fun e w' => e = .returned (.bool true) ∧ Below w.heap.size w w' := by
  by_cases hbig0 : 1048576 < l0.length
  · go_enter Try.func10, Try.ntmps10
    go_wp2
    go_ret
    exact ⟨rfl, Below.refl _ _⟩
  go_enter Try.func10, Try.ntmps10
  go_wp2_with fail
  refine (DrawFeeOf_any A0a c0a l0 w rd0 cap0).mono ?_
  rintro e w1 ⟨A1, c1, l, f, z, rfl, ho1, hhi, hf, hz, hb1⟩
  have HO1 := Lib.hid ho1
  have HB1 := Lib.hid hb1
  clear ho1 hb1
  obtain ⟨hf0, hf1⟩ := hf
  obtain ⟨hz0, hz1⟩ := hz
  obtain ⟨hb0, hb1⟩ := feeOf_bd l f z
  go_wp2_with fail
  refine (implFeeOf A1 c1 l f z w1 HO1.out.rd (by omega)).mono ?_
  rintro e w2 ⟨he, hb2⟩
  subst he
  have HB2 := Lib.hid (bthen HB1.out hb2)
  have HO2 := Lib.hid (HO1.out.below hb2)
  have hs2 := HB2.out.size
  clear hb2
  go_wp2_with fail
  refine (specFeeOf A1 c1 l f z w2 HO2.out.rd (by omega)).mono ?_
  rintro e w3 ⟨he, hb3⟩
  subst he
  have HB3 := Lib.hid (bthen HB2.out hb3)
  have HO3 := Lib.hid (HO2.out.below hb3)
  have hs3 := HB3.out.size
  clear hb3
  by_cases hx : feeOf l f z < 0
  · have hm := feeOf_neg hx
    generalize feeOf l f z = x at *
    subst hm
    go_wp2_with fail
    refine (alive_any w3).mono ?_
    rintro e w' ⟨rfl, rfl⟩
    go_wp2
    go_ret
    first | exact ⟨rfl, HB3.out⟩ | exact ⟨by simp; omega, HB3.out⟩
  · obtain ⟨hr, hw, hw2, hv⟩ := feeOf_pos (Int.not_lt.1 hx)
    obtain ⟨hd0, hd1⟩ := win_t hw2
    have Hok := Lib.hid hr
    have Hw := Lib.hid hw
    have Hv := Lib.hid hv
    have hfr : feeN l (f + 1) z ≤ feeN l f z := feeN_free hr (by omega)
    have Hfr : Hid (feeOf l (f + 1) z = feeN l (f + 1) z) := Lib.hid (feeOf_t hr (win_mk (by omega) (by omega)) hw2)
    have hnone : z ≤ f → feeN l f z = 0 := feeN_none
    have Hnone := Lib.hid hnone
    simp only [hv] at *
    clear hr hw hw2 hv hnone
    by_cases h99 : z = 99
    · subst h99
      go_wp2_with fail
      refine (implFeeOf A1 c1 l (f + 1) 99 w3 HO3.out.rd (by omega)).mono ?_
      rintro e w4 ⟨he, hb4⟩
      rw [Hfr.out] at he
      subst he
      have HB4 := Lib.hid (bthen HB3.out hb4)
      have HO4 := Lib.hid (HO3.out.below hb4)
      have hs4 := HB4.out.size
      clear hb4
      go_wp2
      go_ret
      first | exact ⟨rfl, HB4.out⟩ | exact ⟨by simp; omega, HB4.out⟩
    · have e99 : (z == 99) = false := by simp [h99]
      have hup : feeN l f z ≤ feeN l f (z + 1) := feeN_mono Hok.out (by omega)
      have Hup : Hid (feeOf l f (z + 1) = feeN l f (z + 1)) := Lib.hid (feeOf_t Hok.out Hw.out (win_mk (by omega) (by omega)))
      go_wp2_with fail
      refine (implFeeOf A1 c1 l f (z + 1) w3 HO3.out.rd (by omega)).mono ?_
      rintro e w4 ⟨he, hb4⟩
      rw [Hup.out] at he
      subst he
      have HB4 := Lib.hid (bthen HB3.out hb4)
      have HO4 := Lib.hid (HO3.out.below hb4)
      have hs4 := HB4.out.size
      clear hb4
      go_wp2_with fail
      refine (implFeeOf A1 c1 l (f + 1) z w4 HO4.out.rd (by omega)).mono ?_
      rintro e w5 ⟨he, hb5⟩
      rw [Hfr.out] at he
      subst he
      have HB5 := Lib.hid (bthen HB4.out hb5)
      have HO5 := Lib.hid (HO4.out.below hb5)
      have hs5 := HB5.out.size
      clear hb5
      by_cases hzf : f < z
      · skip
        go_wp2
        go_ret
        first | exact ⟨rfl, HB5.out⟩ | exact ⟨by simp; omega, HB5.out⟩
      · have h0 := Hnone.out (by omega)
        go_wp2
        go_ret
        first | exact ⟨rfl, HB5.out⟩ | exact ⟨by simp; omega, HB5.out⟩
end Go.Proofs.Ytaccnekicobhcaa
