/-
  The walk of 'FnRingStep'.
-/
import Derived.Test.YtkgfcgdihnhflaaRingDraw2
namespace Go.Proofs.Ytkgfcgdihnhflaa
open Go.RowKit
set_option linter.unusedVariables false

theorem walkFnRingStep (w : World) (A0a : Option Addr) (c0a : Nat) (l0 : List Int) (rd0 : RdB w w.heap.size A0a l0) (cap0 : l0.length ≤ c0a) :
    Calls Try.prog 11 #[.slice A0a l0.length c0a] w fun e w' => e = .returned (.bool true) ∧ Below w.heap.size w w' := by
  by_cases hbig0 : 1048576 < l0.length
  · go_enter Try.func11, Try.ntmps11
    go_wp2
    go_ret
    exact ⟨rfl, Below.refl _ _⟩
  go_enter Try.func11, Try.ntmps11
  go_wp2_with fail
  refine (DrawRingStep_any A0a c0a l0 w rd0 cap0).mono ?_
  rintro e w1 ⟨A1, c1, l, z, rfl, ho1, hlo, hhi, hb1⟩
  have HO1 := Lib.hid ho1
  have HB1 := Lib.hid hb1
  clear ho1 hb1
  cases ho : ringOk l with
  | false =>
    have hI : ∀ w, RdI w A1 l → Calls Try.prog 22 #[.slice A1 l.length c1, vi z] w (NewI2 w [] (.bool false)) := fun w h => by
      have := implRingStep A1 c1 l z w h (by omega); rwa [stepL_f ho, stepB_f ho] at this
    have hS : ∀ w, RdI w A1 l → Calls Try.prog 21 #[.slice A1 l.length c1, vi z] w (NewI2 w [] (.bool false)) := fun w h => by
      have := specRingStep A1 c1 l z w h (by omega); rwa [stepL_f ho, stepB_f ho] at this
    have HI := Lib.hid hI
    have HS := Lib.hid hS
    have hsm := same_self []
    have hsn : same [] l = false := by
      unfold same
      exact decide_eq_false (fun e => by rw [← e] at hlo; simp at hlo)
    clear hI hS ho
    go_wp2_with fail
    refine (HI.out w1 HO1.out.rd).mono ?_
    rintro e w2 ⟨A2, c2, rfl, ho2, hb2⟩
    have HO2 := Lib.hid ho2
    have HB2 := Lib.hid (bthen HB1.out hb2)
    have HO1 := Lib.hid (HO1.out.below hb2)
    clear ho2 hb2
    go_wp2_with fail
    refine (HS.out w2 HO1.out.rd).mono ?_
    rintro e w3 ⟨A3, c3, rfl, ho3, hb3⟩
    have HO3 := Lib.hid ho3
    have HB3 := Lib.hid (bthen HB2.out hb3)
    have HO1 := Lib.hid (HO1.out.below hb3)
    have HO2 := Lib.hid (HO2.out.below hb3)
    clear ho3 hb3
    go_wp2_with fail
    refine (sameInts_any A2 A3 c2 c3 [] [] w3 HO2.out.rd HO3.out.rd (by simp) (by simp)).mono ?_
    rintro e w4 ⟨rfl, hd4⟩
    have hb4 := of_draws hd4
    have HB4 := Lib.hid (bthen HB3.out hb4)
    have HO1 := Lib.hid (HO1.out.below hb4)
    have HO2 := Lib.hid (HO2.out.below hb4)
    clear hd4 hb4
    go_wp2_with fail
    refine (sameInts_any A2 A1 c2 c1 [] l w4 HO2.out.rd HO1.out.rd (by simp) (by omega)).mono ?_
    rintro e w5 ⟨rfl, hd5⟩
    have hb5 := of_draws hd5
    have HB5 := Lib.hid (bthen HB4.out hb5)
    clear hd5 hb5
    go_wp2_with fail
    refine (alive_any w5).mono ?_
    rintro e w' ⟨rfl, rfl⟩
    go_wp2
    go_ret
    exact ⟨rfl, HB5.out⟩
  | true =>
    have Ho := Lib.hid ho
    cases hs : stepOk l z with
    | false =>
      have hI : ∀ w, RdI w A1 l → Calls Try.prog 22 #[.slice A1 l.length c1, vi z] w (NewI2 w l (.bool false)) := fun w h => by
        have := implRingStep A1 c1 l z w h (by omega); rwa [stepL_t ho, stepB_t ho, hs, stepTo_no hs] at this
      have hS : ∀ w, RdI w A1 l → Calls Try.prog 21 #[.slice A1 l.length c1, vi z] w (NewI2 w l (.bool false)) := fun w h => by
        have := specRingStep A1 c1 l z w h (by omega); rwa [stepL_t ho, stepB_t ho, hs, stepTo_no hs] at this
      have HI := Lib.hid hI
      have HS := Lib.hid hS
      have hsm := same_self l
      clear hI hS ho hs
      go_wp2_with fail
      refine (HI.out w1 HO1.out.rd).mono ?_
      rintro e w2 ⟨A2, c2, rfl, ho2, hb2⟩
      have HO2 := Lib.hid ho2
      have HB2 := Lib.hid (bthen HB1.out hb2)
      have HO1 := Lib.hid (HO1.out.below hb2)
      clear ho2 hb2
      go_wp2_with fail
      refine (HS.out w2 HO1.out.rd).mono ?_
      rintro e w3 ⟨A3, c3, rfl, ho3, hb3⟩
      have HO3 := Lib.hid ho3
      have HB3 := Lib.hid (bthen HB2.out hb3)
      have HO1 := Lib.hid (HO1.out.below hb3)
      have HO2 := Lib.hid (HO2.out.below hb3)
      clear ho3 hb3
      go_wp2_with fail
      refine (sameInts_any A2 A3 c2 c3 l l w3 HO2.out.rd HO3.out.rd (by omega) (by omega)).mono ?_
      rintro e w4 ⟨rfl, hd4⟩
      have hb4 := of_draws hd4
      have HB4 := Lib.hid (bthen HB3.out hb4)
      have HO1 := Lib.hid (HO1.out.below hb4)
      have HO2 := Lib.hid (HO2.out.below hb4)
      clear hd4 hb4
      go_wp2_with fail
      refine (sameInts_any A2 A1 c2 c1 l l w4 HO2.out.rd HO1.out.rd (by omega) (by omega)).mono ?_
      rintro e w5 ⟨rfl, hd5⟩
      have hb5 := of_draws hd5
      have HB5 := Lib.hid (bthen HB4.out hb5)
      clear hd5 hb5
      go_wp2_with fail
      refine (alive_any w5).mono ?_
      rintro e w' ⟨rfl, rfl⟩
      go_wp2
      go_ret
      exact ⟨rfl, HB5.out⟩
    | true =>
      have hI : ∀ w, RdI w A1 l → Calls Try.prog 22 #[.slice A1 l.length c1, vi z] w (NewI2 w (stepTo l z) (.bool true)) := fun w h => by
        have := implRingStep A1 c1 l z w h (by omega); rwa [stepL_t ho, stepB_t ho, hs] at this
      have hS : ∀ w, RdI w A1 l → Calls Try.prog 21 #[.slice A1 l.length c1, vi z] w (NewI2 w (stepTo l z) (.bool true)) := fun w h => by
        have := specRingStep A1 c1 l z w h (by omega); rwa [stepL_t ho, stepB_t ho, hs] at this
      have HI := Lib.hid hI
      have HS := Lib.hid hS
      have hsm := same_self (stepTo l z)
      have hlen := ringOk_len ho
      have hz := stepOk_t hs
      have hat := stepTo_at hlen.1 hs
      have hst := stp_step hlen.1 hs
      have hsn := stp_nn (stepTo l z)
      have hok2 := stepTo_ok z ho
      have hleft : ∀ w, RdI w A1 l → Calls Try.prog 20 #[.slice A1 l.length c1] w fun e w' => e = .returned (.tuple #[vi (cnt l), vi (stp (stepTo l z) + 1)]) ∧ w = w' := fun w h => by
        have := implRingLeft A1 c1 l w h (by omega); rw [many_t ho, steps_t ho] at this
        rwa [show stp l = stp (stepTo l z) + 1 by omega] at this
      have HL := Lib.hid hleft
      have hleft2 : ∀ w B d, RdI w B (stepTo l z) → Calls Try.prog 20 #[.slice B l.length d] w fun e w' => e = .returned (.tuple #[vi (cnt (stepTo l z)), vi (stp (stepTo l z))]) ∧ w = w' := fun w B d h => by
        have := implRingLeft B d (stepTo l z) w h (by rw [length_stepTo]; omega); rwa [many_t hok2, steps_t hok2, length_stepTo] at this
      have HL2 := Lib.hid hleft2
      have hval : ∀ w B d, RdI w B (stepTo l z) → Calls Try.prog 17 #[.slice B l.length d] w fun e w' => e = .returned (.bool true) ∧ w = w' := fun w B d h => by
        have := implRingValid B d (stepTo l z) w h (by rw [length_stepTo]; omega); rwa [hok2, length_stepTo] at this
      have HVV := Lib.hid hval
      have hsame : ∀ w B d C e, RdI w B (stepTo l z) → RdI w C (stepTo l z) → Calls Try.prog 35 #[.slice B l.length d, .slice C l.length e] w fun e w' => e = .returned (.bool true) ∧ ∃ n, w' = w.drewN n := fun w B d C e h h2 => by
        have := sameInts_any B C d e (stepTo l z) (stepTo l z) w h h2 (by rw [length_stepTo]; omega) (by rw [length_stepTo]; omega); rwa [hsm, length_stepTo] at this
      have HSM := Lib.hid hsame
      have hsb : stp (stepTo l z) ≤ 1000000 := by
        have := stp_le (stepTo l z) fun x hx => by
          obtain ⟨j, hj, rfl⟩ := List.getElem_of_mem hx
          have := ringOk_at hok2 j hj
          rw [nth_eq _ j hj] at this; omega
        have := length_stepTo l z
        omega
      have HAT := Lib.hid hat
      obtain ⟨q, rfl⟩ := Int.eq_ofNat_of_zero_le hz.1
      have hq : q < l.length := by omega
      clear hI hS ho hs hsm hleft hleft2 hval hsame hst hat hok2 hz
      go_wp2_with fail
      refine (HI.out w1 HO1.out.rd).mono ?_
      rintro e w2 ⟨A2, c2, rfl, ho2, hb2⟩
      rw [length_stepTo] at ho2
      rw [length_stepTo]
      have HO2 := Lib.hid ho2
      have HB2 := Lib.hid (bthen HB1.out hb2)
      have HO1 := Lib.hid (HO1.out.below hb2)
      clear ho2 hb2
      go_wp2_with fail
      refine (HS.out w2 HO1.out.rd).mono ?_
      rintro e w3 ⟨A3, c3, rfl, ho3, hb3⟩
      rw [length_stepTo] at ho3
      rw [length_stepTo]
      have HO3 := Lib.hid ho3
      have HB3 := Lib.hid (bthen HB2.out hb3)
      have HO1 := Lib.hid (HO1.out.below hb3)
      have HO2 := Lib.hid (HO2.out.below hb3)
      clear ho3 hb3
      go_wp2_with fail
      refine (HSM.out w3 A2 c2 A3 c3 HO2.out.rd HO3.out.rd).mono ?_
      rintro e w4 ⟨rfl, hd4⟩
      have hb4 := of_draws hd4
      have HB4 := Lib.hid (bthen HB3.out hb4)
      have HO1 := Lib.hid (HO1.out.below hb4)
      have HO2 := Lib.hid (HO2.out.below hb4)
      clear hd4 hb4
      go_wp2_with fail
      refine (HL.out w4 HO1.out.rd).mono ?_
      rintro e w' ⟨rfl, rfl⟩
      go_wp2_with fail
      refine (HL2.out w4 A2 c2 HO2.out.rd).mono ?_
      rintro e w' ⟨rfl, rfl⟩
      go_wp2_with fail
      refine (HVV.out w4 A2 c2 HO2.out.rd).mono ?_
      rintro e w' ⟨rfl, rfl⟩
      obtain ⟨b, o, rfl, hbl, hc⟩ := HO2.out.rd (by rw [length_stepTo]; omega)
      have hck := hc q (by rw [length_stepTo]; exact hq)
      rw [show nth (stepTo l (q : Int)) q = -1 from by simpa using HAT.out] at hck
      clear hc
      go_wp2
      go_ret
      exact ⟨rfl, HB4.out⟩
end Go.Proofs.Ytkgfcgdihnhflaa
