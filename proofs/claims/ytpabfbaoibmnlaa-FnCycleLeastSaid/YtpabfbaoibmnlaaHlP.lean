/-
  The plain mathematics of the best hauls: two ways to the first of the least. No program is named here.
-/
import Derived.Test.YtpabfbaoibmnlaaHl
namespace Go.Proofs.Ytpabfbaoibmnlaa

def upsI (m : Nat) : List Int := (List.range m).map fun (i : Nat) => (i : Int)
/-- What the reference keeps: the first of the least behind a beginning. -/
def best22 (L : List (List Int)) : Nat → List Int → List Int
  | 0, p => p
  | f + 1, p => (upsI L.length).foldl (fun b k => if hasI p k then b else if b.length = 0 ∨ haulCost L (best22 L f (p ++ [k])) < haulCost L b then best22 L f (p ++ [k]) else b) []
/-- One more number tried. -/
def step22 (L : List (List Int)) (f : Nat) (p : List Int) (b : List Int) (k : Int) : List Int :=
  if hasI p k then b else if b.length = 0 ∨ haulCost L (best22 L f (p ++ [k])) < haulCost L b then best22 L f (p ++ [k]) else b
def fold22 (L : List (List Int)) (f : Nat) (p : List Int) (k : Nat) : List Int := ((upsI L.length).take k).foldl (step22 L f p) []
section
variable {L : List (List Int)} {f k : Nat} {p : List Int}
theorem upsI_length (m : Nat) : (upsI m).length = m := by simp [upsI]
theorem upsI_nth (m k : Nat) (h : k < m) : nth (upsI m) k = k := by rw [nth_eq _ _ (by simpa [upsI] using h)]; simp [upsI]
theorem fold22_zero : fold22 L f p 0 = [] := by simp [fold22]
theorem fold22_succ (hk : k < L.length) : fold22 L f p (k + 1) = step22 L f p (fold22 L f p k) k := by
  unfold fold22
  rw [take_snoc _ _ (by rw [upsI_length]; exact hk), upsI_nth _ _ hk, List.foldl_append]
  rfl
theorem fold22_all : fold22 L f p L.length = best22 L (f + 1) p := by
  unfold fold22
  rw [List.take_of_length_le (by rw [upsI_length]; exact Nat.le_refl _)]
  rfl
theorem best22_len (L : List (List Int)) (f : Nat) : ∀ p : List Int, (best22 L f p).length ≤ p.length + f := by
  induction f with
  | zero => intro p; simp [best22]
  | succ f ih =>
    intro p
    have : ∀ k, (fold22 L f p k).length ≤ p.length + (f + 1) := by
      intro k
      unfold fold22
      generalize (upsI L.length).take k = l
      suffices ∀ b : List Int, b.length ≤ p.length + (f + 1) → (l.foldl (step22 L f p) b).length ≤ p.length + (f + 1) from this [] (by simp)
      induction l with
      | nil => intro b hb; exact hb
      | cons x t iht =>
        intro b hb
        refine iht _ ?_
        unfold step22
        split
        · exact hb
        · split
          · have := ih (p ++ [x]); simp at this; omega
          · exact hb
    rw [← fold22_all]; exact this _
end
end Go.Proofs.Ytpabfbaoibmnlaa
