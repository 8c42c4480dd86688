/-
  The plain mathematics of free deeds. No program is named here.
-/
import Derived.Test.YtjhbmikohcbkkaaPap
import Derived.Test.YtjhbmikohcbkkaaTrip
namespace Go.Proofs.Ytjhbmikohcbkkaa

def bit (m : Int) (k : Nat) : Bool := decide (m / 2 ^ k % 2 = 1)
def deedsTo (m id : Int) : Nat → List (Int × Int × Int)
  | 0 => []
  | k + 1 => deedsTo m id k ++ (if bit m k then [(1, id, (k : Int))] else [])
def freeDeeds (hl : List (Int × Int)) (ll : List Int) (id : Int) : List (Int × Int × Int) := if papersOk hl ll then deedsTo (marksOf hl id) id 3 else []
theorem deedsTo_yes {m id : Int} {k : Nat} (h : bit m k = true) : deedsTo m id (k + 1) = deedsTo m id k ++ [(1, id, (k : Int))] := by simp [deedsTo, h]
theorem deedsTo_no {m id : Int} {k : Nat} (h : bit m k = false) : deedsTo m id (k + 1) = deedsTo m id k := by simp [deedsTo, h]
theorem length_deedsTo (m id : Int) (k : Nat) : (deedsTo m id k).length ≤ k := by
  induction k with
  | zero => simp [deedsTo]
  | succ k ih => simp only [deedsTo, List.length_append]; split <;> simp <;> omega
theorem length_freeDeeds (hl : List (Int × Int)) (ll : List Int) (id : Int) : (freeDeeds hl ll id).length ≤ 3 := by
  unfold freeDeeds; split
  · exact length_deedsTo _ _ _
  · simp
theorem marksOf_range {hl : List (Int × Int)} {ll : List Int} (id : Int) (h : papersOk hl ll = true) : 0 ≤ marksOf hl id ∧ marksOf hl id ≤ 7 := by
  by_cases hx : ∃ k, k < hl.length ∧ (nth hl k).1 = id
  · obtain ⟨k, hk, e, hn⟩ : ∃ k, k < hl.length ∧ (nth hl k).1 = id ∧ ∀ j, j < k → ¬ (nth hl j).1 = id := by
      obtain ⟨k, hk, e⟩ := hx
      induction k using Nat.strongRecOn with
      | ind k ih =>
        by_cases hj : ∃ j, j < k ∧ (nth hl j).1 = id
        · obtain ⟨j, h1, h2⟩ := hj
          exact ih j h1 (by omega) h2
        · exact ⟨k, hk, e, fun j h1 h2 => hj ⟨j, h1, h2⟩⟩
    rw [marksOf_hit hk e hn]
    have := win_t (hdOk_t ((papersOk_t h).1 k hk)).2.1
    omega
  · rw [marksOf_miss (fun j hj e => hx ⟨j, hj, e⟩)]; omega
end Go.Proofs.Ytjhbmikohcbkkaa
