/-
  The walk of 'FnRateAt'.
-/
import Derived.Test.YtaccnekicobhcaaFeeDraw2
import Derived.Test.YtaccnekicobhcaaFeeC
namespace Go.Proofs.Ytaccnekicobhcaa
open Go.RowKit
set_option linter.unusedVariables false

theorem walkFnRateAt (w : World) (A0a : Option Addr) (c0a : Nat) (l0 : List Int) (rd0 : RdB w w.heap.size A0a l0) (cap0 : l0.length ≤ c0a) :
    Calls Try.prog 9 #[.slice A0a l0.length c0a] w fun e w' => e = .returned (.bool true) ∧ Below w.heap.size w w' := by
  by_cases hbig0 : 1048576 < l0.length
  · go_enter Try.func9, Try.ntmps9
    go_wp2
    go_ret
    exact ⟨rfl, Below.refl _ _⟩
  go_enter Try.func9, Try.ntmps9
  go_wp2_with fail
  refine (DrawRateAt_any A0a c0a l0 w rd0 cap0).mono ?_
  rintro e w1 ⟨A1, c1, l, z, rfl, ho1, hhi, hz, hb1⟩
  have HO1 := Lib.hid ho1
  have HB1 := Lib.hid hb1
  clear ho1 hb1
  obtain ⟨hz0, hz1⟩ := hz
  go_wp2_with fail
  refine (implRateAt A1 c1 l z w1 HO1.out.rd (by omega)).mono ?_
  rintro e w2 ⟨he, hb2⟩
  subst he
  have HB2 := Lib.hid (bthen HB1.out hb2)
  have HO2 := Lib.hid (HO1.out.below hb2)
  have hs2 := HB2.out.size
  clear hb2
  go_wp2_with fail
  refine (specRateAt A1 c1 l z w2 HO2.out.rd (by omega)).mono ?_
  rintro e w3 ⟨he, hb3⟩
  subst he
  have HB3 := Lib.hid (bthen HB2.out hb3)
  have HO3 := Lib.hid (HO2.out.below hb3)
  have hs3 := HB3.out.size
  clear hb3
  by_cases hx : rateV l z < 0
  · have hm := rateV_neg hx
    generalize rateV l z = x at *
    subst hm
    go_wp2_with fail
    refine (alive_any w3).mono ?_
    rintro e w' ⟨rfl, rfl⟩
    go_wp2
    go_ret
    first | exact ⟨rfl, HB3.out⟩ | exact ⟨by simp; omega, HB3.out⟩
  · obtain ⟨hr, hw⟩ := rateV_pos (Int.not_lt.1 hx)
    have hv := rateV_t hr hw
    obtain ⟨hw0, hw1⟩ := win_t hw
    obtain ⟨hb0, hb1⟩ := rateAt_bd hr z
    have Hok := Lib.hid hr
    have Hv := Lib.hid hv
    have H0 := Lib.hid (ratesOk_t hr).2.2
    have Hl := Lib.hid (ratesOk_t hr).2.1
    have Hp := Lib.hid (Int.not_lt.1 hx)
    rw [hv] at hx
    simp only [hv]
    clear hr hw hv
    go_wp2
    go_loop [6] (fun i => ∃ k : Nat, k ≤ l.length ∧ i = vi k ∧ ∀ j, j < k → (nth l j).1 ≠ z) (fun i => l.length - (intOf i).toNat)
    case atStart => exact ⟨0, Nat.zero_le _, rfl, fun j hj => absurd hj (by omega)⟩
    case round =>
      obtain ⟨k, hk, rfl, hj⟩ := hrel
      have Hj := Lib.hid hj
      clear hj
      by_cases hlt : k < l.length
      · obtain ⟨bb, o, rfl, hbl, _⟩ := HO3.out.rd (by omega)
        obtain ⟨hc1, hc2⟩ := HO3.out.rd.at2 k hlt
        by_cases he : (nth l k).1 = z
        · have Hq : Hid ((nth l k).2 = rateAt l z) := Lib.hid (by rw [← he]; exact (rateAt_begins Hok.out k hlt).symm)
          rw [Hq.out] at hc2
          rw [he] at hc1
          clear he
          go_wp2
          go_ret
          first | exact ⟨rfl, HB3.out⟩ | exact ⟨by simp; omega, HB3.out⟩
        · have e1 : ((nth l k).1 == z) = false := by simpa using he
          have He := Lib.hid he
          clear he
          go_wp2
          go_round
          case rel => exact ⟨k + 1, by omega, by go_num, fun j hj => by
            rcases Nat.lt_succ_iff_lt_or_eq.1 hj with h1 | h1
            · exact Hj.out j h1
            · subst h1; exact He.out⟩
          case measure => simp [intOf]; omega
      · obtain rfl : k = l.length := by omega
        have hz2 : 0 < z := by
          have h1 := Hj.out 0 (by have := Hl.out; omega)
          rw [H0.out] at h1
          omega
        have He : Hid (rateV l (z - 1) = rateAt l z) := Lib.hid (by rw [rateV_t Hok.out (win_mk (by omega) (by omega)), rateAt_goes z Hj.out])
        go_wp2_with fail
        refine (implRateAt A1 c1 l (z - 1) w3 HO3.out.rd (by omega)).mono ?_
        rintro e w4 ⟨he, hb4⟩
        rw [He.out] at he
        subst he
        have HB4 := Lib.hid (bthen HB3.out hb4)
        have HO4 := Lib.hid (HO3.out.below hb4)
        have hs4 := HB4.out.size
        clear hb4
        go_wp2
        go_ret
        first | exact ⟨rfl, HB4.out⟩ | exact ⟨by simp; omega, HB4.out⟩
end Go.Proofs.Ytaccnekicobhcaa
