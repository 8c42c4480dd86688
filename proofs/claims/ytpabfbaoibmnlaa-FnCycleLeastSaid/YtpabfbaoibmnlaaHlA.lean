/-
  Contracts: costs are valid; what hauls cost.
-/
import Derived.Test.YtpabfbaoibmnlaaMatA
import Derived.Test.YtpabfbaoibmnlaaHl
import Derived.Test.YtpabfbaoibmnlaaHas
namespace Go.Proofs.Ytpabfbaoibmnlaa
open Go.RowKit
set_option linter.unusedVariables false
set_option maxRecDepth 100000

set_option maxHeartbeats 1000000 in
theorem specCostsValid (A : Option Addr) (c : Nat) (L : List (List Int)) (w : World) (h : RdM w A L) (hl : Small L) :
    Calls Try.prog 14 #[.slice A L.length c] w fun e w' => e = .returned (.bool (costsOk L)) ∧ w = w' := by
  obtain ⟨hl1, hl2⟩ := hl
  have HL2 := Lib.hid hl2
  clear hl2
  go_enter Try.func14, Try.ntmps14
  go_wp2
  go_loop [3] (fun i => ∃ k : Nat, k ≤ L.length ∧ i = vi k ∧ ∀ j, j < k → rowOk L j = true) (fun i => L.length - (intOf i).toNat)
  case atStart => exact ⟨0, Nat.zero_le _, rfl, fun j hj => absurd hj (by omega)⟩
  case round =>
    obtain ⟨k, hk, rfl, hall⟩ := hrel
    have HAL := Lib.hid hall
    clear hall
    by_cases hlt : k < L.length
    · have hlk := HL2.out k hlt
      obtain ⟨b, o, B, cc, rfl, hb, hc, hri⟩ := h.at_ hlt
      have HRI := Lib.hid hri
      clear hri h
      by_cases hne : (nth L k).length = L.length
      · have h1 : ((nth L k).length != L.length) = false := by simp [hne]
        have h2 : (((nth L k).length : Int) != (L.length : Int)) = false := by simp [hne]
        have HNE := Lib.hid hne
        clear hne
        go_wp2
        go_loop [4] (fun i => ∃ m : Nat, m ≤ (nth L k).length ∧ i = vi m ∧ ∀ j, j < m → win (nth (nth L k) j) 0 99 = true) (fun i => (nth L k).length - (intOf i).toNat)
        case atStart => exact ⟨0, Nat.zero_le _, rfl, fun j hj => absurd hj (by omega)⟩
        case round =>
          obtain ⟨m, hm, rfl, hin⟩ := hrel
          have HIN := Lib.hid hin
          clear hin
          by_cases hml : m < (nth L k).length
          · obtain ⟨b2, o2, rfl, hb2, hcc⟩ := HRI.out (by omega)
            have hcm := hcc m hml
            clear hcc
            cases hw : win (nth (nth L k) m) 0 99 with
            | false =>
              have Hr := Lib.hid (costsOk_no hlt (rowOk_f2 hml hw))
              go_wp2_with (go_at_call 43; refine (l1In_any _ _ _ _).mono ?_; rintro e w' ⟨rfl, rfl⟩)
              go_ret
              exact ⟨by rw [Hr.out]; rfl, rfl⟩
            | true =>
              have HW := Lib.hid hw
              go_wp2_with (go_at_call 43; refine (l1In_any _ _ _ _).mono ?_; rintro e w' ⟨rfl, rfl⟩)
              go_round
              case rel => exact ⟨m + 1, by omega, by go_num, fun j hj => by
                rcases Nat.lt_succ_iff_lt_or_eq.1 hj with h1 | h1
                · exact HIN.out j h1
                · subst h1; exact HW.out⟩
              case measure => simp [intOf]; omega
          · obtain rfl : m = (nth L k).length := by omega
            have Hk := Lib.hid (rowOk_mk HNE.out HIN.out)
            go_wp2
            go_round
            case rel => exact ⟨k + 1, by omega, by go_num, fun j hj => by
              rcases Nat.lt_succ_iff_lt_or_eq.1 hj with h1 | h1
              · exact HAL.out j h1
              · subst h1; exact Hk.out⟩
            case measure => simp [intOf]; omega
      · have h1 : ((nth L k).length != L.length) = true := by simp [hne]
        have h2 : (((nth L k).length : Int) != (L.length : Int)) = true := by simp; omega
        have Hr := Lib.hid (costsOk_no hlt (rowOk_f1 hne))
        clear hne
        go_wp2
        go_ret
        exact ⟨by rw [Hr.out]; rfl, rfl⟩
    · obtain rfl : k = L.length := by omega
      have Hr := Lib.hid (costsOk_mk HAL.out)
      go_wp2
      go_ret
      exact ⟨by rw [Hr.out]; first | rfl | (simp; done) | (simp; omega), rfl⟩

set_option maxHeartbeats 1000000 in
theorem implCostsValid (A : Option Addr) (c : Nat) (L : List (List Int)) (w : World) (h : RdM w A L) (hl : Small L) :
    Calls Try.prog 16 #[.slice A L.length c] w fun e w' => e = .returned (.bool (costsOk L)) ∧ w = w' := by
  obtain ⟨hl1, hl2⟩ := hl
  have HL2 := Lib.hid hl2
  clear hl2
  go_enter Try.func16, Try.ntmps16
  go_wp2
  go_loop [9] (fun i => ∃ k : Nat, k ≤ L.length ∧ i = vi k ∧ ∀ j, j < k → rowOk L j = true) (fun i => L.length - (intOf i).toNat)
  case atStart => exact ⟨0, Nat.zero_le _, rfl, fun j hj => absurd hj (by omega)⟩
  case round =>
    obtain ⟨k, hk, rfl, hall⟩ := hrel
    have HAL := Lib.hid hall
    clear hall
    by_cases hlt : k < L.length
    · have hlk := HL2.out k hlt
      obtain ⟨b, o, B, cc, rfl, hb, hc, hri⟩ := h.at_ hlt
      have HRI := Lib.hid hri
      clear hri h
      by_cases hne : (nth L k).length = L.length
      · have h1 : ((nth L k).length != L.length) = false := by simp [hne]
        have h2 : (((nth L k).length : Int) != (L.length : Int)) = false := by simp [hne]
        have HNE := Lib.hid hne
        clear hne
        go_wp2
        go_loop [20] (fun i => ∃ m : Nat, m ≤ (nth L k).length ∧ i = vi m ∧ ∀ j, j < m → win (nth (nth L k) j) 0 99 = true) (fun i => (nth L k).length - (intOf i).toNat)
        case atStart => exact ⟨0, Nat.zero_le _, rfl, fun j hj => absurd hj (by omega)⟩
        case round =>
          obtain ⟨m, hm, rfl, hin⟩ := hrel
          have HIN := Lib.hid hin
          clear hin
          by_cases hml : m < (nth L k).length
          · obtain ⟨b2, o2, rfl, hb2, hcc⟩ := HRI.out (by omega)
            have hcm := hcc m hml
            clear hcc
            cases hw : win (nth (nth L k) m) 0 99 with
            | false =>
              have Hr := Lib.hid (costsOk_no hlt (rowOk_f2 hml hw))
              go_wp2_with (go_at_call 44; refine (within_any _ _ _ _).mono ?_; rintro e w' ⟨rfl, rfl⟩)
              go_ret
              exact ⟨by rw [Hr.out]; rfl, rfl⟩
            | true =>
              have HW := Lib.hid hw
              go_wp2_with (go_at_call 44; refine (within_any _ _ _ _).mono ?_; rintro e w' ⟨rfl, rfl⟩)
              go_round
              case rel => exact ⟨m + 1, by omega, by go_num, fun j hj => by
                rcases Nat.lt_succ_iff_lt_or_eq.1 hj with h1 | h1
                · exact HIN.out j h1
                · subst h1; exact HW.out⟩
              case measure => simp [intOf]; omega
          · obtain rfl : m = (nth L k).length := by omega
            have Hk := Lib.hid (rowOk_mk HNE.out HIN.out)
            go_wp2
            go_round
            case rel => exact ⟨k + 1, by omega, by go_num, fun j hj => by
              rcases Nat.lt_succ_iff_lt_or_eq.1 hj with h1 | h1
              · exact HAL.out j h1
              · subst h1; exact Hk.out⟩
            case measure => simp [intOf]; omega
      · have h1 : ((nth L k).length != L.length) = true := by simp [hne]
        have h2 : (((nth L k).length : Int) != (L.length : Int)) = true := by simp; omega
        have Hr := Lib.hid (costsOk_no hlt (rowOk_f1 hne))
        clear hne
        go_wp2
        go_ret
        exact ⟨by rw [Hr.out]; rfl, rfl⟩
    · obtain rfl : k = L.length := by omega
      have Hr := Lib.hid (costsOk_mk HAL.out)
      go_wp2
      go_ret
      exact ⟨by rw [Hr.out]; first | rfl | (simp; done) | (simp; omega), rfl⟩
end Go.Proofs.Ytpabfbaoibmnlaa
