/-
  Contracts: a list has a number.
-/
import Derived.Test.YtjhbmikohcbkkaaBase
import Derived.Test.YtjhbmikohcbkkaaPap
namespace Go.Proofs.Ytjhbmikohcbkkaa
open Go.RowKit
set_option linter.unusedVariables false
set_option maxRecDepth 100000

theorem l1Has_any (A : Option Addr) (c : Nat) (l : List Int) (x : Int) (w : World) (h : RdI w A l) (hl : l.length ≤ 1000000000) :
    Calls Try.prog 41 #[.slice A l.length c, vi x] w fun e w' => e = .returned (.bool (hasI l x)) ∧ w = w' := by
  go_enter Try.func41, Try.ntmps41
  go_wp2
  go_loop [5] (fun i => ∃ k : Nat, k ≤ l.length ∧ i = vi k ∧ ∀ j, j < k → ¬ nth l j = x) (fun i => l.length - (intOf i).toNat)
  case atStart => exact ⟨0, Nat.zero_le _, rfl, fun j hj => absurd hj (by omega)⟩
  case round =>
    obtain ⟨k, hk, rfl, hj⟩ := hrel
    have Hj := Lib.hid hj
    clear hj
    by_cases hlt : k < l.length
    · obtain ⟨b, o, rfl, hbl, hc⟩ := h (by omega)
      have hck := hc k hlt
      clear h hc
      by_cases he : nth l k = x
      · have he1 : (nth l k == x) = true := by simp [he]
        have Hr := Lib.hid (hasI_hit hlt he)
        clear he
        go_wp2
        go_ret
        exact ⟨by rw [Hr.out]; rfl, rfl⟩
      · have he1 : (nth l k == x) = false := by simp [he]
        have He := Lib.hid he
        clear he
        go_wp2
        go_round
        case rel => exact ⟨k + 1, by omega, by go_num, fun j hj => by
          rcases Nat.lt_succ_iff_lt_or_eq.1 hj with h1 | h1
          · exact Hj.out j h1
          · subst h1; exact He.out⟩
        case measure => simp [intOf]; omega
    · obtain rfl : k = l.length := by omega
      have Hr := Lib.hid (hasI_miss Hj.out)
      go_wp2
      go_ret
      exact ⟨by rw [Hr.out]; rfl, rfl⟩

theorem hasInt_any (A : Option Addr) (c : Nat) (l : List Int) (x : Int) (w : World) (h : RdI w A l) (hl : l.length ≤ 1000000000) :
    Calls Try.prog 24 #[.slice A l.length c, vi x] w fun e w' => e = .returned (.bool (hasI l x)) ∧ w = w' := by
  go_enter Try.func24, Try.ntmps24
  go_wp2
  go_loop [5] (fun i => ∃ k : Nat, k ≤ l.length ∧ i = vi k ∧ ∀ j, j < k → ¬ nth l j = x) (fun i => l.length - (intOf i).toNat)
  case atStart => exact ⟨0, Nat.zero_le _, rfl, fun j hj => absurd hj (by omega)⟩
  case round =>
    obtain ⟨k, hk, rfl, hj⟩ := hrel
    have Hj := Lib.hid hj
    clear hj
    by_cases hlt : k < l.length
    · obtain ⟨b, o, rfl, hbl, hc⟩ := h (by omega)
      have hck := hc k hlt
      clear h hc
      by_cases he : nth l k = x
      · have he1 : (nth l k == x) = true := by simp [he]
        have Hr := Lib.hid (hasI_hit hlt he)
        clear he
        go_wp2
        go_ret
        exact ⟨by rw [Hr.out]; rfl, rfl⟩
      · have he1 : (nth l k == x) = false := by simp [he]
        have He := Lib.hid he
        clear he
        go_wp2
        go_round
        case rel => exact ⟨k + 1, by omega, by go_num, fun j hj => by
          rcases Nat.lt_succ_iff_lt_or_eq.1 hj with h1 | h1
          · exact Hj.out j h1
          · subst h1; exact He.out⟩
        case measure => simp [intOf]; omega
    · obtain rfl : k = l.length := by omega
      have Hr := Lib.hid (hasI_miss Hj.out)
      go_wp2
      go_ret
      exact ⟨by rw [Hr.out]; rfl, rfl⟩

theorem index_any (A : Option Addr) (c : Nat) (l : List Int) (x : Int) (w : World) (h : RdI w A l) (hl : l.length ≤ 1000000000) :
    Calls Try.prog 57 #[.slice A l.length c, vi x] w fun e w' => (∃ i : Int, e = .returned (vi i) ∧ (hasI l x = true → 0 ≤ i) ∧ (hasI l x = false → i < 0)) ∧ w = w' := by
  go_enter Try.func57, Try.ntmps57
  go_wp2
  go_loop [5, 8] (fun _ i => ∃ k : Nat, k ≤ l.length ∧ i = vi k ∧ ∀ j, j < k → ¬ nth l j = x) (fun _ i => l.length - (intOf i).toNat)
  case atStart => exact ⟨0, Nat.zero_le _, rfl, fun j hj => absurd hj (by omega)⟩
  case round =>
    obtain ⟨k, hk, rfl, hj⟩ := hrel
    have Hj := Lib.hid hj
    clear hj
    by_cases hlt : k < l.length
    · obtain ⟨b, o, rfl, hbl, hc⟩ := h (by omega)
      have hck := hc k hlt
      clear h hc
      by_cases he : nth l k = x
      · have he1 : (nth l k == x) = true := by simp [he]
        have he2 : (x == nth l k) = true := by simp [he]
        have Hr := Lib.hid (hasI_hit hlt he)
        clear he
        go_wp2
        go_ret
        exact ⟨⟨_, rfl, fun _ => by omega, (fun h => by rw [Hr.out] at h; cases h)⟩, rfl⟩
      · have he1 : (nth l k == x) = false := by simp [he]
        have he2 : (x == nth l k) = false := by simp; exact fun e => he e.symm
        have He := Lib.hid he
        clear he
        go_wp2
        go_round
        case rel => exact ⟨k + 1, by omega, by go_num, fun j hj => by
          rcases Nat.lt_succ_iff_lt_or_eq.1 hj with h1 | h1
          · exact Hj.out j h1
          · subst h1; exact He.out⟩
        case measure => simp [intOf]; omega
    · obtain rfl : k = l.length := by omega
      have Hr := Lib.hid (hasI_miss Hj.out)
      go_wp2
      go_ret
      exact ⟨⟨_, rfl, (fun h => by rw [Hr.out] at h; cases h), fun _ => by omega⟩, rfl⟩
theorem contains_any (A : Option Addr) (c : Nat) (l : List Int) (x : Int) (w : World) (h : RdI w A l) (hl : l.length ≤ 1000000000) :
    Calls Try.prog 43 #[.slice A l.length c, vi x] w fun e w' => e = .returned (.bool (hasI l x)) ∧ w = w' := by
  go_enter Try.func43, Try.ntmps43
  go_wp2_with fail
  refine (index_any A c l x w h hl).mono ?_
  rintro e w' ⟨⟨i, rfl, h1, h2⟩, rfl⟩
  cases hh : hasI l x with
  | true =>
    have hi := h1 hh
    clear h1 h2
    go_wp2
    go_ret
    exact ⟨by rw [hh]; first | rfl | (simp; omega), rfl⟩
  | false =>
    have hi := h2 hh
    clear h1 h2
    go_wp2
    go_ret
    exact ⟨by rw [hh]; first | rfl | (simp; omega), rfl⟩
end Go.Proofs.Ytjhbmikohcbkkaa
