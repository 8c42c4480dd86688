/-
  Contracts: lists of bookings are compared; those of an hour are counted.
-/
import Derived.Test.YtnniogdnlcokmaaBkA
import Derived.Laws.StructEq
namespace Go.Proofs.Ytnniogdnlcokmaa
open Go.RowKit
set_option linter.unusedVariables false
set_option maxRecDepth 100000

/-- A comparison of two lists that are one. -/
theorem sameEq_any (A : Option Addr) (c : Nat) (C : Option Addr) (d : Nat) (l : List (Int × Int)) (w : World) (h : Rd encP w A l) (hm : Rd encP w C l) (hl : l.length ≤ 1000000000) :
    Calls Try.prog 21 #[.slice A l.length c, .slice C l.length d] w fun e w' => e = .returned (.bool true) ∧ ∃ n, w' = w.drewN n := by
  go_enter Try.func21, Try.ntmps21
  go_wp2
  go_loopw [5] (fun i wr => ∃ k : Nat, k ≤ l.length ∧ i = vi k ∧ ∃ n, wr = w.drewN n) (fun i _ => l.length - (intOf i).toNat)
  case atStart => exact ⟨0, Nat.zero_le _, rfl, 0, rfl⟩
  case round =>
    obtain ⟨k, hk, rfl, n, rfl⟩ := hrel
    by_cases hlt : k < l.length
    · obtain ⟨b, o, rfl, hbl, _⟩ := h (by omega)
      obtain ⟨b2, o2, rfl, hbl2, _⟩ := hm (by omega)
      obtain ⟨hc1, hc2⟩ := h.at2 k hlt
      obtain ⟨hd1, hd2⟩ := hm.at2 k hlt
      clear h hm
      go_wp2
      go_quiet (fail)
      go_wp2
      go_roundw
      case rel => exact ⟨k + 1, by omega, by go_num, _, rfl⟩
      case measure => simp [intOf]; omega
    · go_wp2
      go_ret
      exact ⟨rfl, _, rfl⟩
/-- .. of two lists of which one is longer. -/
theorem sameNo_any (A : Option Addr) (c : Nat) (C : Option Addr) (d n m : Nat) (w : World) (hne : n ≠ m) :
    Calls Try.prog 21 #[.slice A n c, .slice C m d] w fun e w' => e = .returned (.bool false) ∧ w = w' := by
  have h1 : ((n : Int) != (m : Int)) = true := by simp; omega
  have h2 : (n != m) = true := by simp [hne]
  clear hne
  go_enter Try.func21, Try.ntmps21
  go_wp2
  go_ret
  exact ⟨rfl, rfl⟩

theorem inHour_any (A : Option Addr) (c : Nat) (l : List (Int × Int)) (x : Int) (w : World) (h : Rd encP w A l) (hl : l.length ≤ 1000000000) :
    Calls Try.prog 32 #[.slice A l.length c, vi x] w fun e w' => e = .returned (vi (many l x : Int)) ∧ w = w' := by
  go_enter Try.func32, Try.ntmps32
  go_wp2
  go_loop [5, 6] (fun m i => ∃ k : Nat, k ≤ l.length ∧ i = vi k ∧ m = vi (many (l.take k) x : Int)) (fun _ i => l.length - (intOf i).toNat)
  case atStart => exact ⟨0, Nat.zero_le _, rfl, by rw [many_zero]; rfl⟩
  case round =>
    obtain ⟨k, hk, rfl, rfl⟩ := hrel
    have hmk := many_le l x k
    by_cases hlt : k < l.length
    · obtain ⟨b, o, rfl, hbl, _⟩ := h (by omega)
      obtain ⟨hc1, hc2⟩ := h.at2 k hlt
      clear h
      by_cases he : (nth l k).2 = x
      · have he1 : ((nth l k).2 == x) = true := by simp [he]
        have Hs := Lib.hid (many_yes l x k hlt he)
        clear he
        go_wp2
        go_round
        case rel => exact ⟨k + 1, by omega, by go_num, by rw [Hs.out]; go_num⟩
        case measure => simp [intOf]; omega
      · have he1 : ((nth l k).2 == x) = false := by simp [he]
        have Hs := Lib.hid (many_no l x k hlt he)
        clear he
        go_wp2
        go_round
        case rel => exact ⟨k + 1, by omega, by go_num, by rw [Hs.out]⟩
        case measure => simp [intOf]; omega
    · obtain rfl : k = l.length := by omega
      have Hl := Lib.hid (List.take_length (l := l))
      go_wp2
      go_ret
      exact ⟨by first | rfl | rw [Hl.out], rfl⟩
end Go.Proofs.Ytnniogdnlcokmaa
