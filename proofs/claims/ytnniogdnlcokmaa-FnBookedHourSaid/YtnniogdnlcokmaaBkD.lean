/-
  The plain mathematics of cancelling. No program is named here.
-/
import Derived.Test.YtnniogdnlcokmaaBkS
namespace Go.Proofs.Ytnniogdnlcokmaa

/-- Without those of a truck. -/
def without (l : List (Int × Int)) (t : Int) : List (Int × Int) := l.filter fun p => !(p.1 == t)
def cancelL (l : List (Int × Int)) (room t : Int) : List (Int × Int) := if booksOk l room then without l t else []
def cancelB (l : List (Int × Int)) (room t : Int) : Bool := booksOk l room && decide ((without l t).length < l.length)
section
variable {l : List (Int × Int)} {t room : Int} {k i : Nat}
theorem without_none (hn : ∀ j, j < l.length → ¬ (nth l j).1 = t) : without l t = l := by
  unfold without
  rw [List.filter_eq_self]
  intro p hp
  obtain ⟨k, hk, rfl⟩ := List.getElem_of_mem hp
  have := hn k hk
  rw [nth_eq _ _ hk] at this
  simpa using this
theorem without_take_yes (hk : k < l.length) (h : (nth l k).1 = t) : without (l.take (k + 1)) t = without (l.take k) t := by
  rw [take_snoc l k hk]; simp [without, List.filter_append, h]
theorem without_take_no (hk : k < l.length) (h : ¬ (nth l k).1 = t) : without (l.take (k + 1)) t = without (l.take k) t ++ [nth l k] := by
  rw [take_snoc l k hk]; simp [without, List.filter_append, h]
theorem length_without (l : List (Int × Int)) (t : Int) : (without l t).length ≤ l.length := List.length_filter_le _ _
theorem without_at (hi : i < l.length) (h : (nth l i).1 = t) (hn : ∀ j, j < l.length → j ≠ i → ¬ (nth l j).1 = t) : without l t = l.take i ++ l.drop (i + 1) := by
  have h1 : without (l.take i) t = l.take i := without_none fun j hj => by
    have hj' : j < i := by simp at hj; omega
    rw [nth_take l j i hj']
    exact hn j (by omega) (by omega)
  have h2 : without (l.drop (i + 1)) t = l.drop (i + 1) := without_none fun j hj => by
    rw [nth_drop]
    exact hn _ (by simp at hj; omega) (by omega)
  have h3 : l = l.take (i + 1) ++ l.drop (i + 1) := (List.take_append_drop _ _).symm
  have h4 : without l t = without (l.take (i + 1)) t ++ without (l.drop (i + 1)) t := by
    conv => lhs; rw [h3]
    exact List.filter_append _ _
  rw [h4, h2, without_take_yes hi h, h1]
end
end Go.Proofs.Ytnniogdnlcokmaa
