/-
  The walk of 'FnRingLeft'.
-/
import Derived.Test.YtkgfcgdihnhflaaRingDraw2
namespace Go.Proofs.Ytkgfcgdihnhflaa
open Go.RowKit
set_option linter.unusedVariables false

theorem walkFnRingLeft (w : World) (A0a : Option Addr) (c0a : Nat) (l0 : List Int) (rd0 : RdB w w.heap.size A0a l0) (cap0 : l0.length ≤ c0a) :
    Calls Try.prog 9 #[.slice A0a l0.length c0a] w fun e w' => e = .returned (.bool true) ∧ Below w.heap.size w w' := by
  by_cases hbig0 : 1048576 < l0.length
  · go_enter Try.func9, Try.ntmps9
    go_wp2
    go_ret
    exact ⟨rfl, Below.refl _ _⟩
  go_enter Try.func9, Try.ntmps9
  go_wp2_with fail
  refine (DrawRingLeft_any A0a c0a l0 w rd0 cap0).mono ?_
  rintro e w1 ⟨A1, c1, l, rfl, ho1, hlo, hhi, hb1⟩
  have HO1 := Lib.hid ho1
  have HB1 := Lib.hid hb1
  clear ho1 hb1
  go_wp2_with fail
  refine (implRingLeft A1 c1 l w1 HO1.out.rd (by omega)).mono ?_
  rintro e w' ⟨rfl, rfl⟩
  go_wp2_with fail
  refine (specRingLeft A1 c1 l w1 HO1.out.rd (by omega)).mono ?_
  rintro e w' ⟨rfl, rfl⟩
  cases ho : ringOk l with
  | false =>
    have hm1 := many_f ho
    have hm2 := steps_f ho
    clear ho
    go_wp2_with fail
    refine (alive_any w1).mono ?_
    rintro e w' ⟨rfl, rfl⟩
    go_wp2
    go_ret
    exact ⟨rfl, HB1.out⟩
  | true =>
    have hm1 := many_t ho
    have hm2 := steps_t ho
    have h1 := cnt_nn l
    have h2 := cnt_stp l
    have h3 := cnt_le l
    have h4 : cnt l = 0 → stp l = 0 := stp_zero
    have H4 := Lib.hid h4
    clear ho h4
    by_cases hz : cnt l = 0
    · have hz2 := H4.out hz
      go_wp2
      go_ret
      exact ⟨rfl, HB1.out⟩
    · have e1 : (cnt l == 0) = false := by simp [hz]
      have e2 : (stp l == 0) = false := by simp; omega
      clear hz
      go_wp2
      go_ret
      exact ⟨rfl, HB1.out⟩
end Go.Proofs.Ytkgfcgdihnhflaa
