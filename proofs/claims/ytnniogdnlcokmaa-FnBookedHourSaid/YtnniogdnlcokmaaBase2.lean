/-
  Contracts: marks laid and looked for, lists compared, a clone.
-/
import Derived.Test.YtnniogdnlcokmaaBase
namespace Go.Proofs.Ytnniogdnlcokmaa
open Go.RowKit
set_option linter.unusedVariables false
set_option maxRecDepth 100000

/-- k, k+1, .., n of them -/
def marks (k : Int) (n : Nat) : List Int := (List.range n).map fun (i : Nat) => k + (i : Int)
theorem length_marks (k : Int) (n : Nat) : (marks k n).length = n := by simp [marks]
theorem nth_marks (k : Int) (n i : Nat) (h : i < n) : nth (marks k n) i = k + i := by
  rw [nth_eq _ _ (by simpa [marks] using h)]; simp [marks]

/-- The first i of l replaced by marks. -/
def marked (l : List Int) (k : Int) (i : Nat) : List Int := marks k i ++ l.drop i
theorem marked_set (l : List Int) (k : Int) (i : Nat) (h : i < l.length) : (marked l k i).set i (k + i) = marked l k (i + 1) := by
  unfold marked
  rw [List.set_append_right _ _ (by simp [marks]), length_marks, Nat.sub_self, List.drop_eq_getElem_cons h, List.set_cons_zero]
  simp [marks, List.range_succ]
theorem marked_all (l : List Int) (k : Int) : marked l k l.length = marks k l.length := by simp [marked]
theorem marked_zero (l : List Int) (k : Int) : marked l k 0 = l := by simp [marked, marks]

/-- A call that overwrites a slice of its caller's with marks. -/
def MarkI (w : World) (base : Nat) (A : Option Addr) (n c : Nat) (k : Int) (e : Ending) (w' : World) : Prop :=
  e = .returned (vi (k + n)) ∧ OwnI w' base A n c (marks k n) ∧ w.grownBy w' (blk A)




end Go.Proofs.Ytnniogdnlcokmaa
