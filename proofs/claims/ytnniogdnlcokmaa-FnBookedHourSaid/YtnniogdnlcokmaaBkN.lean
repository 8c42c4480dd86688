/-
  Contracts: the next hour that can be booked.
-/
import Derived.Test.YtnniogdnlcokmaaBkI
import Derived.Test.YtnniogdnlcokmaaBkH
namespace Go.Proofs.Ytnniogdnlcokmaa
open Go.RowKit
set_option linter.unusedVariables false
set_option maxRecDepth 100000

def NextPost (w : World) (l : List (Int × Int)) (room t h : Int) (e : Ending) (w' : World) : Prop :=
  ∃ r, NextAt l room t h r ∧ e = .returned (vi r) ∧ Below w.heap.size w w'

set_option maxHeartbeats 2000000 in
theorem implBookNext (A : Option Addr) (c : Nat) (l : List (Int × Int)) (room t h : Int) (w : World) (hr : Rd encP w A l) (hl : l.length ≤ 10000000) :
    Calls Try.prog 25 #[.slice A l.length c, vi room, vi t, vi h] w (NextPost w l room t h) := by
  have HR := Lib.hid hr
  clear hr
  cases hw : win h 0 23 with
  | false =>
    have hb := win_f hw
    go_enter Try.func25, Try.ntmps25
    go_wp2_with fail
    refine (isDayHour_any _ _).mono ?_
    rintro e w' ⟨rfl, rfl⟩
    go_wp2
    go_ret
    exact ⟨-1, .inr ⟨rfl, .inl (by omega)⟩, rfl, Below.refl _ _⟩
  | true =>
    have hb := win_t hw
    obtain ⟨hb1, hb2⟩ := hb
    go_enter Try.func25, Try.ntmps25
    go_wp2_with fail
    refine (isDayHour_any _ _).mono ?_
    rintro e w' ⟨rfl, rfl⟩
    go_wp2
    go_loopw [3] (fun i wr => ∃ k : Int, h ≤ k ∧ k ≤ 24 ∧ i = vi k ∧ (∀ j, h ≤ j → j < k → bookB l room t j = false) ∧ Below w.heap.size w wr) (fun i _ => (24 - intOf i).toNat)
    case atStart => exact ⟨h, by omega, by omega, rfl, fun j h1 h2 => absurd h1 (by omega), Below.refl _ _⟩
    case round =>
      obtain ⟨k, hk1, hk2, rfl, hall, hb⟩ := hrel
      have HAL := Lib.hid hall
      have HB := Lib.hid hb
      clear hall hb
      by_cases hlt : k < 24
      · go_wp2_with fail
        refine (implBook A c l room t k wr (HR.out.below HB.out) (by omega)).mono ?_
        rintro e w2 ⟨A2, c2, rfl, ho2, hb2⟩
        have HB2 := Lib.hid (bthen HB.out hb2)
        clear ho2 hb2
        cases hv : bookB l room t k with
        | true =>
          have HV := Lib.hid hv
          go_wp2
          go_ret
          exact ⟨k, .inl ⟨hb1, hk1, by omega, HV.out, HAL.out⟩, rfl, HB2.out⟩
        | false =>
          have HV := Lib.hid hv
          go_wp2
          go_roundw
          case rel => exact ⟨k + 1, by omega, by omega, by go_num, fun j h1 h2 => by
            rcases Int.lt_or_le j k with h3 | h3
            · exact HAL.out j h1 h3
            · obtain rfl : j = k := by omega
              exact HV.out, HB2.out⟩
          case measure => simp [intOf]; omega
      · go_wp2
        go_ret
        exact ⟨-1, .inr ⟨rfl, .inr (fun j h1 h2 => HAL.out j h1 (by omega))⟩, rfl, HB.out⟩

set_option maxHeartbeats 2000000 in
theorem specBookNext (A : Option Addr) (c : Nat) (l : List (Int × Int)) (room t h : Int) (w : World) (hr : Rd encP w A l) (hl : l.length ≤ 10000000) :
    Calls Try.prog 26 #[.slice A l.length c, vi room, vi t, vi h] w (NextPost w l room t h) := by
  have HR := Lib.hid hr
  clear hr
  cases hw : win h 0 23 with
  | false =>
    have hb := win_f hw
    by_cases h23 : h ≤ 23
    · go_enter Try.func26, Try.ntmps26
      go_wp2
      go_loopw [9] (fun i wr => i = vi h ∧ Below w.heap.size w wr) (fun i _ => 0)
      case atStart => exact ⟨rfl, Below.refl _ _⟩
      case round =>
        obtain ⟨rfl, hb2⟩ := hrel
        have HB := Lib.hid hb2
        clear hb2
        go_wp2_with fail
        refine (l1In_any _ _ _ _).mono ?_
        rintro e w' ⟨rfl, rfl⟩
        go_wp2
        go_ret
        exact ⟨-1, .inr ⟨rfl, .inl (by omega)⟩, rfl, HB.out⟩
    · go_enter Try.func26, Try.ntmps26
      go_wp2
      go_loopw [9] (fun i wr => i = vi h ∧ Below w.heap.size w wr) (fun i _ => 0)
      case atStart => exact ⟨rfl, Below.refl _ _⟩
      case round =>
        obtain ⟨rfl, hb2⟩ := hrel
        have HB := Lib.hid hb2
        clear hb2
        go_wp2
        go_ret
        exact ⟨-1, .inr ⟨rfl, .inl (by omega)⟩, rfl, HB.out⟩
  | true =>
    have hb := win_t hw
    obtain ⟨hb1, hb2⟩ := hb
    go_enter Try.func26, Try.ntmps26
    go_wp2
    go_loopw [9] (fun i wr => ∃ k : Int, h ≤ k ∧ k ≤ 24 ∧ i = vi k ∧ (∀ j, h ≤ j → j < k → bookB l room t j = false) ∧ Below w.heap.size w wr) (fun i _ => (24 - intOf i).toNat)
    case atStart => exact ⟨h, by omega, by omega, rfl, fun j h1 h2 => absurd h1 (by omega), Below.refl _ _⟩
    case round =>
      obtain ⟨k, hk1, hk2, rfl, hall, hb⟩ := hrel
      have HAL := Lib.hid hall
      have HB := Lib.hid hb
      clear hall hb
      by_cases hlt : k ≤ 23
      · go_wp2_with fail
        refine (l1In_any _ _ _ _).mono ?_
        rintro e w' ⟨rfl, rfl⟩
        go_wp2_with fail
        refine (specBook A c l room t k wr (HR.out.below HB.out) (by omega)).mono ?_
        rintro e w2 ⟨A2, c2, rfl, ho2, hb2⟩
        have HB2 := Lib.hid (bthen HB.out hb2)
        clear ho2 hb2
        cases hv : bookB l room t k with
        | true =>
          have HV := Lib.hid hv
          go_wp2
          go_ret
          exact ⟨k, .inl ⟨hb1, hk1, by omega, HV.out, HAL.out⟩, rfl, HB2.out⟩
        | false =>
          have HV := Lib.hid hv
          go_wp2
          go_roundw
          case rel => exact ⟨k + 1, by omega, by omega, by go_num, fun j h1 h2 => by
            rcases Int.lt_or_le j k with h3 | h3
            · exact HAL.out j h1 h3
            · obtain rfl : j = k := by omega
              exact HV.out, HB2.out⟩
          case measure => simp [intOf]; omega
      · go_wp2
        go_ret
        exact ⟨-1, .inr ⟨rfl, .inr (fun j h1 h2 => HAL.out j h1 (by omega))⟩, rfl, HB.out⟩
end Go.Proofs.Ytnniogdnlcokmaa
