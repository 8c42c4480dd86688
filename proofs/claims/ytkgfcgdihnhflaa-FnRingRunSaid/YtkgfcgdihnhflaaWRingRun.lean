/-
  The walk of 'FnRingRun'.
-/
import Derived.Test.YtkgfcgdihnhflaaRingDraw2
namespace Go.Proofs.Ytkgfcgdihnhflaa
open Go.RowKit
set_option linter.unusedVariables false

theorem walkFnRingRun (w : World) (A0a : Option Addr) (c0a : Nat) (l0 : List Int) (rd0 : RdB w w.heap.size A0a l0) (cap0 : l0.length ≤ c0a) :
    Calls Try.prog 13 #[.slice A0a l0.length c0a] w fun e w' => e = .returned (.bool true) ∧ Below w.heap.size w w' := by
  by_cases hbig0 : 1048576 < l0.length
  · go_enter Try.func13, Try.ntmps13
    go_wp2
    go_ret
    exact ⟨rfl, Below.refl _ _⟩
  go_enter Try.func13, Try.ntmps13
  go_wp2_with fail
  refine (DrawRingRun_any A0a c0a l0 w rd0 cap0).mono ?_
  rintro e w1 ⟨A1, c1, l, B1, d1, zs, rfl, hr1, hz1, hlo, hhi, hb1⟩
  have HO1 := Lib.hid hr1
  have HO9 := Lib.hid hz1
  have HB1 := Lib.hid hb1
  clear hr1 hz1 hb1
  cases ho : ringOk l with
  | false =>
    have hI : ∀ w, RdI w A1 l → RdI w B1 zs → Calls Try.prog 28 #[.slice A1 l.length c1, .slice B1 zs.length d1] w (NewI2 w [] (vi 0)) := fun w h h2 => by
      have := implRingRun A1 B1 c1 d1 l zs w h h2 (by omega) (by omega); rwa [runL_f ho, runN_f ho] at this
    have hS : ∀ w, RdI w A1 l → RdI w B1 zs → Calls Try.prog 27 #[.slice A1 l.length c1, .slice B1 zs.length d1] w (NewI2 w [] (vi 0)) := fun w h h2 => by
      have := specRingRun A1 B1 c1 d1 l zs w h h2 (by omega) (by omega); rwa [runL_f ho, runN_f ho] at this
    have HV := Lib.hid (fun w h => specRingValid A1 c1 l w h (by omega))
    have HI := Lib.hid hI
    have HS := Lib.hid hS
    have hsm := same_self []
    clear hI hS
    go_wp2_with fail
    refine (HI.out w1 HO1.out HO9.out).mono ?_
    rintro e w2 ⟨A2, c2, rfl, ho2, hb2⟩
    have HO2 := Lib.hid ho2
    have HB2 := Lib.hid (bthen HB1.out hb2)
    have HO1 := Lib.hid (HO1.out.below hb2)
    have HO9 := Lib.hid (HO9.out.below hb2)
    clear ho2 hb2
    go_wp2_with fail
    refine (HS.out w2 HO1.out HO9.out).mono ?_
    rintro e w3 ⟨A3, c3, rfl, ho3, hb3⟩
    have HO3 := Lib.hid ho3
    have HB3 := Lib.hid (bthen HB2.out hb3)
    have HO1 := Lib.hid (HO1.out.below hb3)
    have HO2 := Lib.hid (HO2.out.below hb3)
    clear ho3 hb3
    go_wp2_with fail
    refine (sameInts_any A2 A3 c2 c3 [] [] w3 HO2.out.rd HO3.out.rd (by simp) (by simp)).mono ?_
    rintro e w4 ⟨rfl, hd4⟩
    have hb4 := of_draws hd4
    have HB4 := Lib.hid (bthen HB3.out hb4)
    have HO1 := Lib.hid (HO1.out.below hb4)
    clear hd4 hb4
    go_wp2_with fail
    refine (HV.out w4 HO1.out).mono ?_
    rintro e w' ⟨rfl, rfl⟩
    go_wp2_with fail
    refine (alive_any w4).mono ?_
    rintro e w' ⟨rfl, rfl⟩
    go_wp2
    go_ret
    exact ⟨rfl, HB4.out⟩
  | true =>
    obtain ⟨f1, f2, f3, f4, f5, f6⟩ := runTo_facts ho zs
    have g1 := cnt_nn (runTo l zs).1
    have g2 : stp l ≤ 104 := by
      have h1 := ringOk_len ho
      have h2 := stp_le l fun x hx => by
        obtain ⟨j, hj, rfl⟩ := List.getElem_of_mem hx
        have := ringOk_at ho j hj
        rw [nth_eq l j hj] at this; omega
      omega
    have g3 := stp_nn (runTo l zs).1
    have hI : ∀ w, RdI w A1 l → RdI w B1 zs → Calls Try.prog 28 #[.slice A1 l.length c1, .slice B1 zs.length d1] w (NewI2 w (runTo l zs).1 (vi (runTo l zs).2)) := fun w h h2 => by
      have := implRingRun A1 B1 c1 d1 l zs w h h2 (by omega) (by omega); rwa [runL_t ho, runN_t ho] at this
    have hS : ∀ w, RdI w A1 l → RdI w B1 zs → Calls Try.prog 27 #[.slice A1 l.length c1, .slice B1 zs.length d1] w (NewI2 w (runTo l zs).1 (vi (runTo l zs).2)) := fun w h h2 => by
      have := specRingRun A1 B1 c1 d1 l zs w h h2 (by omega) (by omega); rwa [runL_t ho, runN_t ho] at this
    have HV : Hid (∀ w, RdI w A1 l → Calls Try.prog 15 #[.slice A1 l.length c1] w fun e w' => e = .returned (.bool true) ∧ w = w') := Lib.hid (fun w h => by have := specRingValid A1 c1 l w h (by omega); rwa [ho] at this)
    have hleft : ∀ w, RdI w A1 l → Calls Try.prog 20 #[.slice A1 l.length c1] w fun e w' => e = .returned (.tuple #[vi (cnt l), vi (stp l)]) ∧ w = w' := fun w h => by
      have := implRingLeft A1 c1 l w h (by omega); rwa [many_t ho, steps_t ho] at this
    have HL := Lib.hid hleft
    generalize hm : (runTo l zs).1 = m at *
    generalize hk : (runTo l zs).2 = k at *
    have hlm : m.length ≤ 9 := by omega
    have HF2 := Lib.hid f2
    have hleft2 : ∀ w B d, RdI w B m → Calls Try.prog 20 #[.slice B l.length d] w fun e w' => e = .returned (.tuple #[vi (cnt m), vi (stp l - k)]) ∧ w = w' := fun w B d h => by
      have := implRingLeft B d m w h (by omega); rwa [many_t f1, steps_t f1, HF2.out, f3] at this
    have HL2 := Lib.hid hleft2
    have hval : ∀ w B d, RdI w B m → Calls Try.prog 17 #[.slice B l.length d] w fun e w' => e = .returned (.bool true) ∧ w = w' := fun w B d h => by
      have := implRingValid B d m w h (by omega); rwa [f1, HF2.out] at this
    have HVV := Lib.hid hval
    have hsame : ∀ w B d C e, RdI w B m → RdI w C m → Calls Try.prog 35 #[.slice B l.length d, .slice C l.length e] w fun e w' => e = .returned (.bool true) ∧ ∃ n, w' = w.drewN n := fun w B d C e h h2 => by
      have := sameInts_any B C d e m m w h h2 (by omega) (by omega); rwa [same_self, HF2.out] at this
    have HSM := Lib.hid hsame
    have HI := Lib.hid hI
    have HS := Lib.hid hS
    have g4 : 0 ≤ stp l - k := by omega
    clear hI hS hleft hleft2 hval hsame f1 f2 f3 ho hm hk
    go_wp2_with fail
    refine (HI.out w1 HO1.out HO9.out).mono ?_
    rintro e w2 ⟨A2, c2, rfl, ho2, hb2⟩
    rw [HF2.out] at ho2
    rw [HF2.out]
    have HO2 := Lib.hid ho2
    have HB2 := Lib.hid (bthen HB1.out hb2)
    have HO1 := Lib.hid (HO1.out.below hb2)
    have HO9 := Lib.hid (HO9.out.below hb2)
    clear ho2 hb2
    go_wp2_with fail
    refine (HS.out w2 HO1.out HO9.out).mono ?_
    rintro e w3 ⟨A3, c3, rfl, ho3, hb3⟩
    rw [HF2.out] at ho3
    rw [HF2.out]
    have HO3 := Lib.hid ho3
    have HB3 := Lib.hid (bthen HB2.out hb3)
    have HO1 := Lib.hid (HO1.out.below hb3)
    have HO2 := Lib.hid (HO2.out.below hb3)
    clear ho3 hb3
    go_wp2_with fail
    refine (HSM.out w3 A2 c2 A3 c3 HO2.out.rd HO3.out.rd).mono ?_
    rintro e w4 ⟨rfl, hd4⟩
    have hb4 := of_draws hd4
    have HB4 := Lib.hid (bthen HB3.out hb4)
    have HO1 := Lib.hid (HO1.out.below hb4)
    have HO2 := Lib.hid (HO2.out.below hb4)
    clear hd4 hb4
    go_wp2_with fail
    refine (HV.out w4 HO1.out).mono ?_
    rintro e w' ⟨rfl, rfl⟩
    go_wp2_with fail
    refine (HL.out w4 HO1.out).mono ?_
    rintro e w' ⟨rfl, rfl⟩
    go_wp2_with fail
    refine (HL2.out w4 A2 c2 HO2.out.rd).mono ?_
    rintro e w' ⟨rfl, rfl⟩
    go_wp2_with fail
    refine (HVV.out w4 A2 c2 HO2.out.rd).mono ?_
    rintro e w' ⟨rfl, rfl⟩
    go_wp2
    go_ret
    exact ⟨rfl, HB4.out⟩
end Go.Proofs.Ytkgfcgdihnhflaa
