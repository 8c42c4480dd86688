/-
  The plain mathematics of dearer hauls, row by row. No program is named here.
-/
import Derived.Test.YtpabfbaoibmnlaaHlR
namespace Go.Proofs.Ytpabfbaoibmnlaa

/-- The least of the first j numbers, and 99. -/
def mn (r : List Int) : Nat → Int
  | 0 => 99
  | j + 1 => min (mn r j) (nth r j)
theorem mn_le {r : List Int} : ∀ {n j : Nat}, j < n → mn r n ≤ nth r j
  | n + 1, j, h => by
    simp only [mn]
    by_cases e : j = n
    · subst e; omega
    · have := mn_le (r := r) (show j < n by omega); omega
theorem mn_bd {r : List Int} (h : ∀ j, j < r.length → 0 ≤ nth r j ∧ nth r j ≤ 99) : ∀ {n : Nat}, n ≤ r.length → 0 ≤ mn r n ∧ mn r n ≤ 99
  | 0, _ => by simp [mn]
  | n + 1, hn => by
    have := mn_bd h (show n ≤ r.length by omega)
    have := h n (by omega)
    simp only [mn]; omega
/-- The first row is dearer by one. -/
def dr (i : Nat) (r : List Int) : List Int := if i = 0 then r.map (· + 1) else r
theorem dr_len (i : Nat) (r : List Int) : (dr i r).length = r.length := by unfold dr; split <;> simp
theorem dr_nth0 (r : List Int) (j : Nat) (h : j < r.length) : nth (dr 0 r) j = nth r j + 1 := by
  rw [nth_eq _ _ (by rw [dr_len]; exact h), nth_eq _ _ h]; simp [dr]
theorem dr_nth (i : Nat) (hi : i ≠ 0) (r : List Int) : dr i r = r := if_neg hi
def dear (L : List (List Int)) (k : Nat) : List (List Int) := (List.range k).map fun i => dr i (nth L i)
theorem dear_len (L : List (List Int)) (k : Nat) : (dear L k).length = k := by simp [dear]
theorem dear_nth (L : List (List Int)) (k i : Nat) (h : i < k) : nth (dear L k) i = dr i (nth L i) := by rw [nth_eq _ _ (by rw [dear_len]; exact h)]; simp [dear]
theorem dear_snoc (L : List (List Int)) (k : Nat) : dear L (k + 1) = dear L k ++ [dr k (nth L k)] := by simp [dear, List.range_succ]
theorem sumN_bd {m : Nat → Int} : ∀ {n : Nat}, (∀ i, i < n → 0 ≤ m i ∧ m i ≤ 99) → 0 ≤ sumN m n ∧ sumN m n ≤ 99 * n
  | 0, _ => by simp [sumN]
  | n + 1, h => by
    have := sumN_bd (n := n) (fun i hi => h i (by omega))
    have := h n (by omega)
    simp only [sumN]; omega
section
variable {L : List (List Int)}
theorem dear_small (hc : costsOk L = true) : Small (dear L L.length) := by
  have := (costsOk_t hc).2
  refine ⟨by rw [dear_len]; omega, fun k hk => ?_⟩
  rw [dear_len] at hk
  rw [dear_nth _ _ _ hk, dr_len, (rowOk_t ((costsOk_t hc).1 k hk)).1]; omega
theorem dear_least (hc : costsOk L = true) (h0 : 0 < L.length) (hd : costsOk (dear L L.length) = true) : leastV (dear L L.length) = leastV L + 1 := by
  refine least_dear hc hd (dear_len _ _) h0 (fun j hj => ?_) (fun i hi hne => ?_)
  · rw [dear_nth _ _ _ h0, dr_nth0 _ _ (by rw [(rowOk_t ((costsOk_t hc).1 0 h0)).1]; exact hj)]
  · rw [dear_nth _ _ _ hi, dr_nth _ hne]
theorem least_row (hc : costsOk L = true) : sumN (fun i => mn (nth L i) L.length) L.length ≤ leastV L :=
  least_ge hc fun _ _ _ hj => mn_le hj
theorem least_bd (hc : costsOk L = true) : 0 ≤ leastV L ∧ leastV L ≤ 495 := by
  obtain ⟨h1, _⟩ := bestL_least hc
  obtain ⟨h2, h3⟩ := least_le hc h1
  rw [haulCost_ok hc h1] at h3
  have h4 := (hsum_bd hc (isPerm_t h1).2 (Nat.le_refl _) (isPerm_t h1).1).2
  have := (costsOk_t hc).2
  have := (isPerm_t h1).2
  exact ⟨h2, by omega⟩
theorem mnrow_bd (hc : costsOk L = true) {i : Nat} (hi : i < L.length) {j : Nat} (hj : j ≤ L.length) : 0 ≤ mn (nth L i) j ∧ mn (nth L i) j ≤ 99 := by
  have hr := (rowOk_t ((costsOk_t hc).1 i hi)).1
  exact mn_bd (fun k hk => cost_bd hc hi (by omega)) (by omega)
end
end Go.Proofs.Ytpabfbaoibmnlaa
