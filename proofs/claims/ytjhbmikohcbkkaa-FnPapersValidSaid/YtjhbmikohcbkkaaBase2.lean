/-
  Contracts: marks laid and looked for, lists compared, a clone.
-/
import Derived.Test.YtjhbmikohcbkkaaBase
namespace Go.Proofs.Ytjhbmikohcbkkaa
open Go.RowKit
set_option linter.unusedVariables false
set_option maxRecDepth 100000

/-- k, k+1, .., n of them -/
def marks (k : Int) (n : Nat) : List Int := (List.range n).map fun (i : Nat) => k + (i : Int)
theorem length_marks (k : Int) (n : Nat) : (marks k n).length = n := by simp [marks]
theorem nth_marks (k : Int) (n i : Nat) (h : i < n) : nth (marks k n) i = k + i := by
  rw [nth_eq _ _ (by simpa [marks] using h)]; simp [marks]

/-- The first i of l replaced by marks. -/
def marked (l : List Int) (k : Int) (i : Nat) : List Int := marks k i ++ l.drop i
theorem marked_set (l : List Int) (k : Int) (i : Nat) (h : i < l.length) : (marked l k i).set i (k + i) = marked l k (i + 1) := by
  unfold marked
  rw [List.set_append_right _ _ (by simp [marks]), length_marks, Nat.sub_self, List.drop_eq_getElem_cons h, List.set_cons_zero]
  simp [marks, List.range_succ]
theorem marked_all (l : List Int) (k : Int) : marked l k l.length = marks k l.length := by simp [marked]
theorem marked_zero (l : List Int) (k : Int) : marked l k 0 = l := by simp [marked, marks]

/-- A call that overwrites a slice of its caller's with marks. -/
def MarkI (w : World) (base : Nat) (A : Option Addr) (n c : Nat) (k : Int) (e : Ending) (w' : World) : Prop :=
  e = .returned (vi (k + n)) ∧ OwnI w' base A n c (marks k n) ∧ w.grownBy w' (blk A)

theorem markIntS_any (A : Option Addr) (n c base : Nat) (l : List Int) (k : Int) (w : World) (h : OwnI w base A n c l) (hn : n ≤ 1000000000) (hk0 : 0 ≤ k) (hk : k ≤ 1000000000000) :
    Calls Try.prog 52 #[.slice A n c, vi k] w (MarkI w base A n c k) := by
  have hlen := h.len
  go_enter Try.func52, Try.ntmps52
  go_wp2
  go_loopw [1, 5] (fun m i wr => ∃ j : Nat, j ≤ n ∧ i = vi j ∧ m = vi (k + j) ∧ OwnI wr base A n c (marked l k j) ∧ w.grownBy wr (blk A))
    (fun _ i _ => n - (intOf i).toNat)
  case atStart => exact ⟨0, Nat.zero_le _, rfl, by go_num, by rw [marked_zero]; exact h, World.grownBy.refl _ _⟩
  case round =>
    obtain ⟨j, hj, rfl, rfl, hown, hg⟩ := hrel
    clear h
    by_cases hlt : j < n
    · rcases hown.form with ⟨_, e⟩ | ⟨g, rfl, hgb, hgs⟩
      · have := hown.len; rw [e] at this; simp at this; omega
      have hcd := hown.cell j hlt
      have hcf := hown.frozen j
      have Hown := Lib.hid hown
      have Hlen := Lib.hid hlen
      clear hown hlen
      go_wp2
      go_roundw
      case rel => exact ⟨j + 1, by omega, by go_num, by go_num, by rw [← marked_set l k j (by rw [Hlen.out]; exact hlt)]; exact (Hown.out.put j _).1, hg.trans (Hown.out.put j _).2⟩
      case measure => simp [intOf]; omega
    · obtain rfl : j = n := by omega
      rw [← hlen, marked_all, hlen] at hown
      clear hlen
      go_wp2
      go_ret
      exact ⟨rfl, hown, hg⟩



end Go.Proofs.Ytjhbmikohcbkkaa
