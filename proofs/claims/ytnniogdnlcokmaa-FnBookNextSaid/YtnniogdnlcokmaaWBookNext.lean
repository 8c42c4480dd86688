/-
  The walk of 'FnBookNext'.
-/
import Derived.Test.YtnniogdnlcokmaaBookDraw2
import Derived.Test.YtnniogdnlcokmaaBkN
import Derived.Test.YtnniogdnlcokmaaBkP
import Derived.Test.YtnniogdnlcokmaaBkQ
import Derived.Test.YtnniogdnlcokmaaAlive
namespace Go.Proofs.Ytnniogdnlcokmaa
open Go.RowKit
set_option linter.unusedVariables false
set_option maxRecDepth 100000

set_option maxHeartbeats 4000000 in
theorem walkFnBookNext (w : World) (A0a : Option Addr) (c0a : Nat) (l0 : List Int) (rd0 : RdB w w.heap.size A0a l0) (cap0 : l0.length ≤ c0a) :
    Calls Try.prog 5 #[.slice A0a l0.length c0a] w fun e w' => e = .returned (.bool true) ∧ Below w.heap.size w w' := by
  by_cases hbig0 : 1048576 < l0.length
  · go_enter Try.func5, Try.ntmps5
    go_wp2
    go_ret
    exact ⟨rfl, Below.refl _ _⟩
  go_enter Try.func5, Try.ntmps5
  go_wp2_with fail
  refine (DrawBookNext_any A0a c0a l0 w rd0 cap0).mono ?_
  rintro e w1 ⟨A1, c1, l, room, t, h, rfl, ho1, hhi, ⟨hrm1, hrm2⟩, ⟨ht1, ht2⟩, ⟨hh1, hh2⟩, hb1⟩
  have HO1 := Lib.hid ho1
  have HB1 := Lib.hid hb1
  have hs1 := hb1.size
  clear ho1 hb1 hbig0
  go_wp2_with fail
  refine (implBookNext A1 c1 l room t h w1 HO1.out.rd (by omega)).mono ?_
  rintro e w2 ⟨r2, hx2, rfl, hb2⟩
  have HB2 := Lib.hid (bthen HB1.out hb2)
  have HO2 := Lib.hid (HO1.out.below hb2)
  have hs2 := hb2.size
  clear hb2
  go_wp2_with fail
  refine (specBookNext A1 c1 l room t h w2 HO2.out.rd (by omega)).mono ?_
  rintro e w3 ⟨r3, hx3, rfl, hb3⟩
  have HB3 := Lib.hid (bthen HB2.out hb3)
  have HO3 := Lib.hid (HO2.out.below hb3)
  have hs3 := hb3.size
  clear hb3
  obtain rfl := hx2.uniq hx3
  have HX := Lib.hid hx2
  clear hx2 hx3
  obtain ⟨r, hr⟩ : ∃ r, r = r2 := ⟨r2, rfl⟩
  subst hr
  go_wp2
  go_loopw [8] (fun q wr => ∃ k : Int, h ≤ k ∧ q = vi k ∧ (0 ≤ h → k ≤ 24 ∨ 23 < h) ∧ (0 ≤ h → ∀ j, h ≤ j → j < k → bookB l room t j = false ∧ j ≠ r) ∧ Below w3.heap.size w3 wr) (fun q _ => (24 - intOf q).toNat)
  case atStart => exact ⟨h, by omega, rfl, fun _ => by omega, fun _ j h1 h2 => absurd h1 (by omega), Below.refl _ _⟩
  case round =>
    obtain ⟨k, hk, rfl, hk24, hall, hbr⟩ := hrel
    have HAL := Lib.hid hall
    have HBR := Lib.hid hbr
    have HBr := Lib.hid (bthen HB3.out hbr)
    have HOr := Lib.hid (HO3.out.below hbr)
    have HK24 := Lib.hid hk24
    clear hall hbr hk24
    by_cases hgo : k ≤ 23 ∧ 0 ≤ h
    · obtain ⟨hlt, h0⟩ := hgo
      have hk0 : 0 ≤ k := by omega
      go_wp2_with fail
      refine (implBook A1 c1 l room t k wr HOr.out.rd (by omega)).mono ?_
      rintro e w5 ⟨XA, Xc, rfl, ho5, hb5⟩
      have HB5 := Lib.hid (bthen HBr.out hb5)
      have HZ := Lib.hid (bthen HBR.out hb5)
      clear ho5 hb5
      by_cases hkx : k = r
      · have hbt : bookB l room t k = true := by
          rcases HX.out with ⟨_, _, _, h1, _⟩ | ⟨h1, _⟩
          · rw [hkx]; exact h1
          · omega
        have f1 : (k == r) = true := by simp [hkx]
        have HBT := Lib.hid hbt
        rw [hbt]
        clear hkx hbt
        go_wp2
        go_ret
        first | exact ⟨rfl, HB5.out⟩ | exact ⟨by simp; done, HB5.out⟩ | exact ⟨by simp; omega, HB5.out⟩
      · have hbf : bookB l room t k = false := by
          rcases HX.out with ⟨_, h1, h2, h3, h4⟩ | ⟨h1, h2 | h2⟩
          · rcases Int.lt_or_le k r with h5 | h5
            · exact h4 k (by omega) h5
            · exact absurd rfl ((HAL.out h0 r h1 (by omega)).2)
          · omega
          · exact h2 k (by omega) (by omega)
        have f1 : (k == r) = false := by simp [hkx]
        have HBF := Lib.hid hbf
        have HKX := Lib.hid hkx
        rw [hbf]
        clear hkx hbf
        go_wp2
        go_roundw
        case rel => exact ⟨k + 1, by omega, by go_num, fun _ => by omega, fun _ j h1 h2 => by
          rcases Int.lt_or_le j k with h3 | h3
          · exact HAL.out h0 j h1 h3
          · obtain rfl : j = k := by omega
            exact ⟨HBF.out, HKX.out⟩, HZ.out⟩
        case measure => simp [intOf]; omega
    · have hr1 : r = -1 := by
        rcases HX.out with ⟨h1, h2, h3, h4, h5⟩ | ⟨h1, _⟩
        · rcases HK24.out h1 with h6 | h6
          · exact absurd rfl ((HAL.out h1 r h2 (by omega)).2)
          · omega
        · exact h1
      subst hr1
      by_cases h23 : k ≤ 23
      · have hh0 : h < 0 := by omega
        have hd0 : decide (0 ≤ h) = false := by simpa using hh0
        have hd1 : decide (h ≥ 0) = false := by simpa using hh0
        clear hgo
        by_cases hk0 : 0 ≤ k
        · skip
          go_wp2_with fail
          refine (alive_any wr).mono ?_
          rintro e w' ⟨rfl, rfl⟩
          go_wp2
          go_ret
          first | exact ⟨rfl, HBr.out⟩ | exact ⟨by simp; done, HBr.out⟩ | exact ⟨by simp; omega, HBr.out⟩
        · skip
          go_wp2_with fail
          refine (alive_any wr).mono ?_
          rintro e w' ⟨rfl, rfl⟩
          go_wp2
          go_ret
          first | exact ⟨rfl, HBr.out⟩ | exact ⟨by simp; done, HBr.out⟩ | exact ⟨by simp; omega, HBr.out⟩
      · clear hgo
        go_wp2_with fail
        refine (alive_any wr).mono ?_
        rintro e w' ⟨rfl, rfl⟩
        go_wp2
        go_ret
        first | exact ⟨rfl, HBr.out⟩ | exact ⟨by simp; done, HBr.out⟩ | exact ⟨by simp; omega, HBr.out⟩
end Go.Proofs.Ytnniogdnlcokmaa
