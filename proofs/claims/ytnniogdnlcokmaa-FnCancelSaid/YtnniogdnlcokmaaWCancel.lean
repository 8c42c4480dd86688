/-
  The walk of 'FnCancel'.
-/
import Derived.Test.YtnniogdnlcokmaaBookDraw2
import Derived.Test.YtnniogdnlcokmaaBkN
import Derived.Test.YtnniogdnlcokmaaBkP
import Derived.Test.YtnniogdnlcokmaaBkQ
import Derived.Test.YtnniogdnlcokmaaAlive
namespace Go.Proofs.Ytnniogdnlcokmaa
open Go.RowKit
set_option linter.unusedVariables false
set_option maxRecDepth 100000

set_option maxHeartbeats 4000000 in
theorem walkFnCancel (w : World) (A0a : Option Addr) (c0a : Nat) (l0 : List Int) (rd0 : RdB w w.heap.size A0a l0) (cap0 : l0.length ≤ c0a) :
    Calls Try.prog 6 #[.slice A0a l0.length c0a] w fun e w' => e = .returned (.bool true) ∧ Below w.heap.size w w' := by
  by_cases hbig0 : 1048576 < l0.length
  · go_enter Try.func6, Try.ntmps6
    go_wp2
    go_ret
    exact ⟨rfl, Below.refl _ _⟩
  go_enter Try.func6, Try.ntmps6
  go_wp2_with fail
  refine (DrawCancel_any A0a c0a l0 w rd0 cap0).mono ?_
  rintro e w1 ⟨A1, c1, l, room, t, rfl, ho1, hhi, ⟨hrm1, hrm2⟩, ⟨ht1, ht2⟩, hb1⟩
  have HO1 := Lib.hid ho1
  have HB1 := Lib.hid hb1
  have hs1 := hb1.size
  clear ho1 hb1 hbig0
  go_wp2_with fail
  refine (implCancel A1 c1 l room t w1 HO1.out.rd (by omega)).mono ?_
  rintro e w2 ⟨XA, Xc, rfl, ho2, hb2⟩
  have HB2 := Lib.hid (bthen HB1.out hb2)
  have HO2 := Lib.hid (HO1.out.below hb2)
  have X2 := Lib.hid ho2
  have hs2 := hb2.size
  clear hb2 ho2
  go_wp2_with fail
  refine (specCancel A1 c1 l room t w2 HO2.out.rd (by omega)).mono ?_
  rintro e w3 ⟨YA, Yc, rfl, ho3, hb3⟩
  have HB3 := Lib.hid (bthen HB2.out hb3)
  have HO3 := Lib.hid (HO2.out.below hb3)
  have X3 := Lib.hid (X2.out.below hb3)
  have Y3 := Lib.hid ho3
  have hs3 := hb3.size
  clear hb3 ho3
  have hlb := length_cancelL l room t
  go_wp2_with fail
  refine (sameEq_any XA Xc YA Yc (cancelL l room t) w3 X3.out.rd Y3.out.rd (by omega)).mono ?_
  rintro e w4 ⟨rfl, hd4⟩
  have hb4 := of_draws hd4
  have HB4 := Lib.hid (bthen HB3.out hb4)
  have HO4 := Lib.hid (HO3.out.below hb4)
  have X4 := Lib.hid (X3.out.below hb4)
  have hs4 := hb4.size
  clear hd4 hb4
  cases hb : cancelB l room t with
  | false =>
    rcases cancel_no hb with he | he
    · rw [he] at X4 ⊢
      go_wp2_with fail
      refine (sameEq_any XA Xc A1 c1 l w4 X4.out.rd HO4.out.rd (by omega)).mono ?_
      rintro e w5 ⟨rfl, hd5⟩
      have hb5 := of_draws hd5
      have HB5 := Lib.hid (bthen HB4.out hb5)
      have HO5 := Lib.hid (HO4.out.below hb5)
      have hs5 := hb5.size
      clear hd5 hb5
      go_wp2_with fail
      refine (alive_any w5).mono ?_
      rintro e w' ⟨rfl, rfl⟩
      go_wp2
      go_ret
      first | exact ⟨rfl, HB5.out⟩ | exact ⟨by simp; done, HB5.out⟩ | exact ⟨by simp; omega, HB5.out⟩
    · rw [he] at X4 ⊢
      by_cases h0 : l = []
      · subst h0
        have HE := Lib.hid (show Calls Try.prog 21 #[.slice XA ([] : List (Int × Int)).length Xc, .slice A1 ([] : List (Int × Int)).length c1] w4 fun e w' => e = .returned (.bool true) ∧ ∃ n, w' = w4.drewN n from sameEq_any XA Xc A1 c1 [] w4 Rd.nil_ Rd.nil_ (by simp))
        go_wp2_with fail
        refine (HE.out).mono ?_
        rintro e w5 ⟨rfl, hd5⟩
        have hb5 := of_draws hd5
        have HB5 := Lib.hid (bthen HB4.out hb5)
        have HO5 := Lib.hid (HO4.out.below hb5)
        have hs5 := hb5.size
        clear hd5 hb5
        go_wp2_with fail
        refine (alive_any w5).mono ?_
        rintro e w' ⟨rfl, rfl⟩
        go_wp2
        go_ret
        first | exact ⟨rfl, HB5.out⟩ | exact ⟨by simp; done, HB5.out⟩ | exact ⟨by simp; omega, HB5.out⟩
      · have hne : ¬ ([] : List (Int × Int)).length = l.length := fun e => h0 (List.eq_nil_of_length_eq_zero e.symm)
        have HE := Lib.hid (sameNo_any XA Xc A1 c1 ([] : List (Int × Int)).length l.length w4 hne)
        clear h0 hne
        go_wp2_with fail
        refine HE.out.mono ?_
        rintro e w' ⟨rfl, rfl⟩
        go_wp2_with fail
        refine (alive_any w4).mono ?_
        rintro e w' ⟨rfl, rfl⟩
        go_wp2
        go_ret
        first | exact ⟨rfl, HB4.out⟩ | exact ⟨by simp; done, HB4.out⟩ | exact ⟨by simp; omega, HB4.out⟩
  | true =>
    obtain ⟨k1, k2, k3, k4, k5⟩ := cancel_back hb
    rw [(cancel_yes hb).2.1] at X4 ⊢
    have K2 := Lib.hid k2
    have K3 := Lib.hid k3
    have K4 := Lib.hid k4
    have K5 := Lib.hid k5
    obtain ⟨p, hp⟩ : ∃ p, p = without l t := ⟨_, rfl⟩
    rw [← hp] at X4 K2 K3 K4 K5 k1 ⊢
    clear k2 k3 k4 k5 hlb hp hb
    go_wp2_with fail
    refine (implBookedHour A1 c1 l room t w4 HO4.out.rd (by omega)).mono ?_
    rintro e w5 ⟨he, hb5⟩
    subst he
    have HB5 := Lib.hid (bthen HB4.out hb5)
    have HO5 := Lib.hid (HO4.out.below hb5)
    have X5 := Lib.hid (X4.out.below hb5)
    have hs5 := hb5.size
    clear hb5
    obtain ⟨h, hh⟩ : ∃ h, h = hourOf l room t := ⟨_, rfl⟩
    rw [← hh] at K4 K5 ⊢
    clear hh
    go_wp2_with fail
    refine (implBook XA Xc p room t h w5 X5.out.rd (by omega)).mono ?_
    rintro e w6 ⟨ZA, Zc, he, ho6, hb6⟩
    rw [K4.out, K5.out] at he
    rw [K5.out] at ho6
    subst he
    have Z6 := Lib.hid ho6
    have HB6 := Lib.hid (bthen HB5.out hb6)
    have HO6 := Lib.hid (HO5.out.below hb6)
    have X6 := Lib.hid (X5.out.below hb6)
    have hs6 := hb6.size
    clear ho6 hb6
    have hl1 : (p.length : Int) = (l.length : Int) - 1 := by omega
    have hl2 : ((p.length : Int) == (l.length : Int) - 1) = true := by rw [hl1]; simp
    have hl3 : (p.length == l.length - 1) = true := by simp; omega
    have hl4 : IntKind.i64.wrap ((l.length : Int) - 1) = (l.length : Int) - 1 := by rw [IntKind.wrap_i64]; omega
    have hl5 : p.length ≤ 14 := by omega
    have HL1 := Lib.hid k1
    clear hl1 k1
    go_wp2_with fail
    refine (implBookingsValid XA Xc p room w6 X6.out.rd (by omega)).mono ?_
    rintro e w7 ⟨he, hb7⟩
    rw [K2.out] at he
    subst he
    have HB7 := Lib.hid (bthen HB6.out hb7)
    have HO7 := Lib.hid (HO6.out.below hb7)
    have X7 := Lib.hid (X6.out.below hb7)
    have Z7 := Lib.hid (Z6.out.below hb7)
    have hs7 := hb7.size
    clear hb7
    go_wp2_with fail
    refine (implBookedHour XA Xc p room t w7 X7.out.rd (by omega)).mono ?_
    rintro e w8 ⟨he, hb8⟩
    rw [K3.out] at he
    subst he
    have HB8 := Lib.hid (bthen HB7.out hb8)
    have HO8 := Lib.hid (HO7.out.below hb8)
    have Z8 := Lib.hid (Z7.out.below hb8)
    have hs8 := hb8.size
    clear hb8
    go_wp2_with fail
    refine (sameEq_any ZA Zc A1 c1 l w8 Z8.out.rd HO8.out.rd (by omega)).mono ?_
    rintro e w9 ⟨rfl, hd9⟩
    have hb9 := of_draws hd9
    have HB9 := Lib.hid (bthen HB8.out hb9)
    have HO9 := Lib.hid (HO8.out.below hb9)
    have hs9 := hb9.size
    clear hd9 hb9
    go_wp2
    go_ret
    first | exact ⟨rfl, HB9.out⟩ | exact ⟨by simp; done, HB9.out⟩ | exact ⟨by simp; omega, HB9.out⟩
end Go.Proofs.Ytnniogdnlcokmaa
