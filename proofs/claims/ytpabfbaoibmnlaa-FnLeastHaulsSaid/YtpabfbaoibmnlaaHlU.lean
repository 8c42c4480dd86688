/-
  Contracts: two lists of numbers are compared.
-/
import Derived.Test.YtpabfbaoibmnlaaBase
namespace Go.Proofs.Ytpabfbaoibmnlaa
open Go.RowKit
set_option linter.unusedVariables false
set_option maxRecDepth 100000

/-- A comparison of two lists that are one. -/
theorem sameIntsEq_any (A : Option Addr) (c : Nat) (C : Option Addr) (d : Nat) (l : List Int) (w : World) (h : RdI w A l) (hm : RdI w C l) (hl : l.length ≤ 1000000000) :
    Calls Try.prog 33 #[.slice A l.length c, .slice C l.length d] w fun e w' => e = .returned (.bool true) ∧ ∃ n, w' = w.drewN n := by
  go_enter Try.func33, Try.ntmps33
  go_wp2
  go_loopw [5] (fun i wr => ∃ k : Nat, k ≤ l.length ∧ i = vi k ∧ ∃ n, wr = w.drewN n) (fun i _ => l.length - (intOf i).toNat)
  case atStart => exact ⟨0, Nat.zero_le _, rfl, 0, rfl⟩
  case round =>
    obtain ⟨k, hk, rfl, n, rfl⟩ := hrel
    by_cases hlt : k < l.length
    · obtain ⟨b, o, rfl, hbl, hc⟩ := h (by omega)
      obtain ⟨b2, o2, rfl, hbl2, hd⟩ := hm (by omega)
      have hc1 := hc k hlt
      have hd1 := hd k hlt
      clear h hm hc hd
      go_wp2
      go_quiet (fail)
      go_wp2
      go_roundw
      case rel => exact ⟨k + 1, by omega, by go_num, _, rfl⟩
      case measure => simp [intOf]; omega
    · go_wp2
      go_ret
      exact ⟨rfl, _, rfl⟩
end Go.Proofs.Ytpabfbaoibmnlaa
