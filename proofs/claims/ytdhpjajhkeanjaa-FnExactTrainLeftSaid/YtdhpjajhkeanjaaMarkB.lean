/-
  Contracts: marks laid into lists of boxes.
-/
import Derived.Test.YtdhpjajhkeanjaaMark
import Derived.Test.YtdhpjajhkeanjaaBoxS
namespace Go.Proofs.Ytdhpjajhkeanjaa
open Go.RowKit
set_option linter.unusedVariables false

theorem markBoxS_any (A : Option Addr) (n c base : Nat) (l : List Bx) (k : Int) (w : World) (h : Own encB 52 w base A n c l) (hn : n ≤ 1000000000) (hk0 : 0 ≤ k) (hk : k ≤ 1000000000000) :
    Calls Try.prog 34 #[.slice A n c, vi k] w (MarkAny encB 52 w base A n c (k + 5 * n)) := by
  go_enter Try.func34, Try.ntmps34
  go_wp2
  go_loopw [1, 5] (fun m i wr => ∃ (j : Nat) (l' : List Bx), j ≤ n ∧ i = vi j ∧ m = vi (k + 5 * j) ∧ Own encB 52 wr base A n c l' ∧ w.grownBy wr (blk A))
    (fun _ i _ => n - (intOf i).toNat)
  case atStart => exact ⟨0, l, Nat.zero_le _, rfl, by go_num, h, World.grownBy.refl _ _⟩
  case round =>
    obtain ⟨j, l', hj, rfl, rfl, hown, hg⟩ := hrel
    clear h
    by_cases hlt : j < n
    · rcases hown.form with ⟨_, e⟩ | ⟨g, rfl, hgb, hgs⟩
      · have := hown.len; rw [e] at this; simp at this; omega
      obtain ⟨hq1, hq2, hq3, hq4, hq5⟩ := hown.cell5 j hlt
      have hf1 := hown.frozen (j * 5)
      have hf2 := hown.frozen (j * 5 + 1)
      have hf3 := hown.frozen (j * 5 + 2)
      have hf4 := hown.frozen (j * 5 + 3)
      have hf5 := hown.frozen (j * 5 + 4)
      have HP := Lib.hid (fun b => hown.put5 j hlt ⟨k + 5 * j, k + 5 * j + 1, k + 5 * j + 1 + 1, k + 5 * j + 1 + 1 + 1, b⟩)
      clear hown
      go_wp2
      go_roundw
      case rel => exact ⟨j + 1, _, by omega, by go_num, by go_num, HP.out _, hg.trans (grown5 _ _ _ _ _ _ _ _ _ _ _ _)⟩
      case measure => simp [intOf]; omega
    · obtain rfl : j = n := by omega
      go_wp2
      go_ret
      exact ⟨rfl, ⟨l', hown⟩, hg⟩
end Go.Proofs.Ytdhpjajhkeanjaa
