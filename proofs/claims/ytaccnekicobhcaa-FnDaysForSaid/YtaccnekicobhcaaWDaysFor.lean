/-
  The walk of 'FnDaysFor'.
-/
import Derived.Test.YtaccnekicobhcaaFeeDraw2
import Derived.Test.YtaccnekicobhcaaFeeC
namespace Go.Proofs.Ytaccnekicobhcaa
open Go.RowKit
set_option linter.unusedVariables false

theorem walkFnDaysFor (w : World) (A0a : Option Addr) (c0a : Nat) (l0 : List Int) (rd0 : RdB w w.heap.size A0a l0) (cap0 : l0.length ≤ c0a) :
    Calls Try.prog 12 #[.slice A0a l0.length c0a] w fun e w' => e = .returned (.bool true) ∧ Below w.heap.size w w' := by
  by_cases hbig0 : 1048576 < l0.length
  · go_enter Try.func12, Try.ntmps12
    go_wp2
    go_ret
    exact ⟨rfl, Below.refl _ _⟩
  go_enter Try.func12, Try.ntmps12
  go_wp2_with fail
  refine (DrawDaysFor_any A0a c0a l0 w rd0 cap0).mono ?_
  rintro e w1 ⟨A1, c1, l, f, z, rfl, ho1, hhi, hf, hz, hb1⟩
  have HO1 := Lib.hid ho1
  have HB1 := Lib.hid hb1
  clear ho1 hb1
  obtain ⟨hf0, hf1⟩ := hf
  obtain ⟨hz0, hz1⟩ := hz
  go_wp2_with fail
  refine (implDaysFor A1 c1 l f z w1 HO1.out.rd (by omega)).mono ?_
  rintro e w2 ⟨he, hb2⟩
  subst he
  have HB2 := Lib.hid (bthen HB1.out hb2)
  have HO2 := Lib.hid (HO1.out.below hb2)
  have hs2 := HB2.out.size
  clear hb2
  go_wp2_with fail
  refine (specDaysFor A1 c1 l f z w2 HO2.out.rd (by omega)).mono ?_
  rintro e w3 ⟨he, hb3⟩
  subst he
  have HB3 := Lib.hid (bthen HB2.out hb3)
  have HO3 := Lib.hid (HO2.out.below hb3)
  have hs3 := HB3.out.size
  clear hb3
  by_cases hx : daysFor l f z < 0
  · have hm := daysFor_neg hx
    generalize daysFor l f z = x at *
    subst hm
    go_wp2_with fail
    refine (alive_any w3).mono ?_
    rintro e w' ⟨rfl, rfl⟩
    go_wp2
    go_ret
    first | exact ⟨rfl, HB3.out⟩ | exact ⟨by simp; omega, HB3.out⟩
  · obtain ⟨hr, hw, hs0, hv⟩ := daysFor_pos (Int.not_lt.1 hx)
    obtain ⟨f1, f2, f3⟩ := dfDown_facts (l := l) f z hs0 hf0 99
    have f4 := dfDown_free (l := l) f z hs0 hf0 (by omega)
    generalize hd : dfDown l f z 99 = d at *
    have H1 : Hid (feeOf l f (d : Int) = feeN l f (d : Int)) := Lib.hid (feeOf_t hr hw (win_mk (by omega) (by omega)))
    have F3 := Lib.hid f3
    have Hok := Lib.hid hr
    have Hw := Lib.hid hw
    simp only [hv] at *
    clear hr hw hv hd f3
    go_wp2_with fail
    refine (implFeeOf A1 c1 l f (d : Int) w3 HO3.out.rd (by omega)).mono ?_
    rintro e w4 ⟨he, hb4⟩
    rw [H1.out] at he
    subst he
    have HB4 := Lib.hid (bthen HB3.out hb4)
    have HO4 := Lib.hid (HO3.out.below hb4)
    have hs4 := HB4.out.size
    clear hb4
    by_cases h99 : d = 99
    · subst h99
      go_wp2
      go_ret
      first | exact ⟨rfl, HB4.out⟩ | exact ⟨by simp; omega, HB4.out⟩
    · have e99 : ((d : Int) == 99) = false := by simp; omega
      have f5 := F3.out (d + 1) (by omega) (by omega)
      rw [Int.natCast_add] at f5
      have H2 : Hid (feeOf l f ((d : Int) + 1) = feeN l f ((d : Int) + 1)) := Lib.hid (feeOf_t Hok.out Hw.out (win_mk (by omega) (by omega)))
      go_wp2_with fail
      refine (implFeeOf A1 c1 l f ((d : Int) + 1) w4 HO4.out.rd (by omega)).mono ?_
      rintro e w5 ⟨he, hb5⟩
      rw [H2.out] at he
      subst he
      have HB5 := Lib.hid (bthen HB4.out hb5)
      have HO5 := Lib.hid (HO4.out.below hb5)
      have hs5 := HB5.out.size
      clear hb5
      go_wp2
      go_ret
      first | exact ⟨rfl, HB5.out⟩ | exact ⟨by simp; omega, HB5.out⟩
end Go.Proofs.Ytaccnekicobhcaa
