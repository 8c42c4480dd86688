/-
  The walk of 'FnRingEmpty'.
-/
import Derived.Test.YtkgfcgdihnhflaaRingDraw2
namespace Go.Proofs.Ytkgfcgdihnhflaa
open Go.RowKit
set_option linter.unusedVariables false

theorem walkFnRingEmpty (w : World) (A0a : Option Addr) (c0a : Nat) (l0 : List Int) (rd0 : RdB w w.heap.size A0a l0) (cap0 : l0.length ≤ c0a) :
    Calls Try.prog 14 #[.slice A0a l0.length c0a] w fun e w' => e = .returned (.bool true) ∧ Below w.heap.size w w' := by
  by_cases hbig0 : 1048576 < l0.length
  · go_enter Try.func14, Try.ntmps14
    go_wp2
    go_ret
    exact ⟨rfl, Below.refl _ _⟩
  go_enter Try.func14, Try.ntmps14
  go_wp2_with fail
  refine (DrawRingEmpty_any A0a c0a l0 w rd0 cap0).mono ?_
  rintro e w1 ⟨A1, c1, l, rfl, ho1, hlo, hhi, hb1⟩
  have HO1 := Lib.hid ho1
  have HB1 := Lib.hid hb1
  clear ho1 hb1
  cases ho : ringOk l with
  | false =>
    have hb : emptyB l = false := by simp [emptyB, ho]
    have hi : ∀ w, RdI w A1 l → Calls Try.prog 33 #[.slice A1 l.length c1] w (NewI2 w ([]) (.bool false)) := fun w h => by
      have := implRingEmpty A1 c1 l w h (by omega); rwa [emptyL_f hb, hb] at this
    have HI := Lib.hid hi
    clear hi
    have hs : ∀ w, RdI w A1 l → Calls Try.prog 32 #[.slice A1 l.length c1] w (NewI2 w ([]) (.bool false)) := fun w h => by
      have := specRingEmpty A1 c1 l w h (by omega); rwa [emptyL_f hb, hb] at this
    have HS := Lib.hid hs
    clear hs
    have HV : Hid (∀ w, RdI w A1 l → Calls Try.prog 15 #[.slice A1 l.length c1] w fun e w' => e = .returned (.bool false) ∧ w = w') := Lib.hid (fun w h => by have := specRingValid A1 c1 l w h (by omega); rwa [ho] at this)
    have hsm := same_self []
    clear hb ho
    go_wp2_with fail
    refine (HI.out w1 HO1.out.rd).mono ?_
    rintro e w2 ⟨A2, c2, rfl, ho2, hb2⟩
    have HO2 := Lib.hid ho2
    have HB2 := Lib.hid (bthen HB1.out hb2)
    have HO1 := Lib.hid (HO1.out.below hb2)
    clear ho2 hb2
    go_wp2_with fail
    refine (HS.out w2 HO1.out.rd).mono ?_
    rintro e w3 ⟨A3, c3, rfl, ho3, hb3⟩
    have HO3 := Lib.hid ho3
    have HB3 := Lib.hid (bthen HB2.out hb3)
    have HO1 := Lib.hid (HO1.out.below hb3)
    have HO2 := Lib.hid (HO2.out.below hb3)
    clear ho3 hb3
    go_wp2_with fail
    refine (sameInts_any A2 A3 c2 c3 [] [] w3 HO2.out.rd HO3.out.rd (by simp) (by simp)).mono ?_
    rintro e w4 ⟨rfl, hd4⟩
    have hb4 := of_draws hd4
    have HB4 := Lib.hid (bthen HB3.out hb4)
    have HO1 := Lib.hid (HO1.out.below hb4)
    clear hd4 hb4
    go_wp2_with fail
    refine (HV.out w4 HO1.out.rd).mono ?_
    rintro e w' ⟨rfl, rfl⟩
    go_wp2_with fail
    refine (alive_any w4).mono ?_
    rintro e w' ⟨rfl, rfl⟩
    go_wp2
    go_ret
    exact ⟨rfl, HB4.out⟩
  | true =>
    cases hk : ringStuck l with
    | true =>
      have hb : emptyB l = false := by simp [emptyB, hk]
      have hi : ∀ w, RdI w A1 l → Calls Try.prog 33 #[.slice A1 l.length c1] w (NewI2 w ([]) (.bool false)) := fun w h => by
        have := implRingEmpty A1 c1 l w h (by omega); rwa [emptyL_f hb, hb] at this
      have HI := Lib.hid hi
      clear hi
      have hs : ∀ w, RdI w A1 l → Calls Try.prog 32 #[.slice A1 l.length c1] w (NewI2 w ([]) (.bool false)) := fun w h => by
        have := specRingEmpty A1 c1 l w h (by omega); rwa [emptyL_f hb, hb] at this
      have HS := Lib.hid hs
      clear hs
      have HV : Hid (∀ w, RdI w A1 l → Calls Try.prog 15 #[.slice A1 l.length c1] w fun e w' => e = .returned (.bool true) ∧ w = w') := Lib.hid (fun w h => by have := specRingValid A1 c1 l w h (by omega); rwa [ho] at this)
      have hsm := same_self []
      have HK : Hid (∀ w, RdI w A1 l → Calls Try.prog 30 #[.slice A1 l.length c1] w fun e w' => e = .returned (.bool true) ∧ Below w.heap.size w w') := Lib.hid (fun w h => by have := implRingStuck A1 c1 l w h (by omega); rwa [hk] at this)
      clear hb ho hk
      go_wp2_with fail
      refine (HI.out w1 HO1.out.rd).mono ?_
      rintro e w2 ⟨A2, c2, rfl, ho2, hb2⟩
      have HO2 := Lib.hid ho2
      have HB2 := Lib.hid (bthen HB1.out hb2)
      have HO1 := Lib.hid (HO1.out.below hb2)
      clear ho2 hb2
      go_wp2_with fail
      refine (HS.out w2 HO1.out.rd).mono ?_
      rintro e w3 ⟨A3, c3, rfl, ho3, hb3⟩
      have HO3 := Lib.hid ho3
      have HB3 := Lib.hid (bthen HB2.out hb3)
      have HO1 := Lib.hid (HO1.out.below hb3)
      have HO2 := Lib.hid (HO2.out.below hb3)
      clear ho3 hb3
      go_wp2_with fail
      refine (sameInts_any A2 A3 c2 c3 [] [] w3 HO2.out.rd HO3.out.rd (by simp) (by simp)).mono ?_
      rintro e w4 ⟨rfl, hd4⟩
      have hb4 := of_draws hd4
      have HB4 := Lib.hid (bthen HB3.out hb4)
      have HO1 := Lib.hid (HO1.out.below hb4)
      clear hd4 hb4
      go_wp2_with fail
      refine (HV.out w4 HO1.out.rd).mono ?_
      rintro e w' ⟨rfl, rfl⟩
      go_wp2_with fail
      refine (HK.out w4 HO1.out.rd).mono ?_
      rintro e w5 ⟨rfl, hb5⟩
      have HB5 := Lib.hid (bthen HB4.out hb5)
      clear hb5
      go_wp2
      go_ret
      exact ⟨rfl, HB5.out⟩
    | false =>
      have hb : emptyB l = true := by simp [emptyB, ho, hk]
      obtain ⟨q1, q2, q3⟩ := empty_run ho hk
      obtain ⟨f1, f2, f3, f4, f5, f6⟩ := runTo_facts ho (emptyZ l)
      have g2 := stp_le_ok ho
      have g3 := stp_nn l
      have hi : ∀ w, RdI w A1 l → Calls Try.prog 33 #[.slice A1 l.length c1] w (NewI2 w (emptyZ l) (.bool true)) := fun w h => by
        have := implRingEmpty A1 c1 l w h (by omega); rwa [emptyL_t hb, hb] at this
      have HI := Lib.hid hi
      clear hi
      have hs : ∀ w, RdI w A1 l → Calls Try.prog 32 #[.slice A1 l.length c1] w (NewI2 w (emptyZ l) (.bool true)) := fun w h => by
        have := specRingEmpty A1 c1 l w h (by omega); rwa [emptyL_t hb, hb] at this
      have HS := Lib.hid hs
      clear hs
      have HV : Hid (∀ w, RdI w A1 l → Calls Try.prog 15 #[.slice A1 l.length c1] w fun e w' => e = .returned (.bool true) ∧ w = w') := Lib.hid (fun w h => by have := specRingValid A1 c1 l w h (by omega); rwa [ho] at this)
      have HK : Hid (∀ w, RdI w A1 l → Calls Try.prog 30 #[.slice A1 l.length c1] w fun e w' => e = .returned (.bool false) ∧ Below w.heap.size w w') := Lib.hid (fun w h => by have := implRingStuck A1 c1 l w h (by omega); rwa [hk] at this)
      have hleft : ∀ w, RdI w A1 l → Calls Try.prog 20 #[.slice A1 l.length c1] w fun e w' => e = .returned (.tuple #[vi (cnt l), vi (emptyZ l).length]) ∧ w = w' := fun w h => by
        have := implRingLeft A1 c1 l w h (by omega); rwa [many_t ho, steps_t ho, ← q1] at this
      have HL := Lib.hid hleft
      have hrun : ∀ w B d, RdI w A1 l → RdI w B (emptyZ l) → Calls Try.prog 28 #[.slice A1 l.length c1, .slice B (emptyZ l).length d] w (NewI2 w (runTo l (emptyZ l)).1 (vi (emptyZ l).length)) := fun w B d h h2 => by
        have := implRingRun A1 B c1 d l (emptyZ l) w h h2 (by omega) (by omega); rwa [runL_t ho, runN_t ho, q2, ← q1] at this
      have HR := Lib.hid hrun
      generalize hm : (runTo l (emptyZ l)).1 = m at *
      generalize hz : emptyZ l = zs at *
      have hleft2 : ∀ w B d, RdI w B m → Calls Try.prog 20 #[.slice B m.length d] w fun e w' => e = .returned (.tuple #[vi 0, vi (steps m)]) ∧ w = w' := fun w B d h => by
        have := implRingLeft B d m w h (by omega); rwa [many_t f1, q3] at this
      have HL2 := Lib.hid hleft2
      have hzl : zs.length ≤ 200 := by omega
      have hsm := same_self zs
      clear hleft hrun hleft2 hb ho hk q1 q2 q3 f1 f2 f3 hm hz
      go_wp2_with fail
      refine (HI.out w1 HO1.out.rd).mono ?_
      rintro e w2 ⟨A2, c2, rfl, ho2, hb2⟩
      have HO2 := Lib.hid ho2
      have HB2 := Lib.hid (bthen HB1.out hb2)
      have HO1 := Lib.hid (HO1.out.below hb2)
      clear ho2 hb2
      go_wp2_with fail
      refine (HS.out w2 HO1.out.rd).mono ?_
      rintro e w3 ⟨A3, c3, rfl, ho3, hb3⟩
      have HO3 := Lib.hid ho3
      have HB3 := Lib.hid (bthen HB2.out hb3)
      have HO1 := Lib.hid (HO1.out.below hb3)
      have HO2 := Lib.hid (HO2.out.below hb3)
      clear ho3 hb3
      go_wp2_with fail
      refine (sameInts_any A2 A3 c2 c3 zs zs w3 HO2.out.rd HO3.out.rd (by omega) (by omega)).mono ?_
      rintro e w4 ⟨rfl, hd4⟩
      have hb4 := of_draws hd4
      have HB4 := Lib.hid (bthen HB3.out hb4)
      have HO1 := Lib.hid (HO1.out.below hb4)
      have HO2 := Lib.hid (HO2.out.below hb4)
      clear hd4 hb4
      go_wp2_with fail
      refine (HV.out w4 HO1.out.rd).mono ?_
      rintro e w' ⟨rfl, rfl⟩
      go_wp2_with fail
      refine (HL.out w4 HO1.out.rd).mono ?_
      rintro e w' ⟨rfl, rfl⟩
      go_wp2_with fail
      refine (HR.out w4 A2 c2 HO1.out.rd HO2.out.rd).mono ?_
      rintro e w5 ⟨A5, c5, rfl, ho5, hb5⟩
      have HO5 := Lib.hid ho5
      have HB5 := Lib.hid (bthen HB4.out hb5)
      have HO1 := Lib.hid (HO1.out.below hb5)
      clear ho5 hb5
      go_wp2_with fail
      refine (HL2.out w5 A5 c5 HO5.out.rd).mono ?_
      rintro e w' ⟨rfl, rfl⟩
      go_wp2_with fail
      refine (HK.out w5 HO1.out.rd).mono ?_
      rintro e w6 ⟨rfl, hb6⟩
      have HB6 := Lib.hid (bthen HB5.out hb6)
      clear hb6
      go_wp2
      go_ret
      exact ⟨rfl, HB6.out⟩
end Go.Proofs.Ytkgfcgdihnhflaa
