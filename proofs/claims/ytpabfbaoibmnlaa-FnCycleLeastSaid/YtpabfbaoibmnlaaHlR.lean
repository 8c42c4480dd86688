/-
  The plain mathematics of exchanged hauls, and of dearer ones. No program is named here.
-/
import Derived.Test.YtpabfbaoibmnlaaHlQ
namespace Go.Proofs.Ytpabfbaoibmnlaa

def sumN (g : Nat → Int) : Nat → Int
  | 0 => 0
  | k + 1 => sumN g k + g k
theorem sumN_congr {g h : Nat → Int} : ∀ {n : Nat}, (∀ i, i < n → h i = g i) → sumN h n = sumN g n
  | 0, _ => rfl
  | n + 1, e => by simp only [sumN]; rw [sumN_congr (fun i hi => e i (by omega)), e n (by omega)]
theorem sumN_upd {g h : Nat → Int} {a : Nat} : ∀ {n : Nat}, a < n → (∀ i, i < n → i ≠ a → h i = g i) → sumN h n = sumN g n - g a + h a
  | 0, ha, _ => by omega
  | n + 1, ha, e => by
    simp only [sumN]
    by_cases han : a = n
    · subst han
      rw [sumN_congr (g := g) (h := h) (fun i hi => e i (by omega) (by omega))]; omega
    · rw [sumN_upd (by omega) (fun i hi hne => e i (by omega) hne), e n (by omega) (fun e => han e.symm)]; omega
theorem sumN_upd2 {g h : Nat → Int} {a b n : Nat} (ha : a < n) (hb : b < n) (hab : a ≠ b) (e : ∀ i, i < n → i ≠ a → i ≠ b → h i = g i) : sumN h n = sumN g n - g a - g b + h a + h b := by
  have h1 := sumN_upd (g := g) (h := fun i => if i = a then h a else g i) ha (fun i hi hne => if_neg hne)
  have h2 := sumN_upd (g := fun i => if i = a then h a else g i) (h := h) hb (fun i hi hne => by
    by_cases hia : i = a
    · subst hia; simp
    · simp only [if_neg hia]; exact e i hi hia hne)
  simp only [if_true] at h1
  rw [if_neg (fun e => hab e.symm)] at h2
  omega
section
variable {L M : List (List Int)} {who : List Int} {n a b k : Nat}
theorem hsum_sumN (L : List (List Int)) (who : List Int) (k : Nat) : hsum L who k = sumN (fun i => nth (nth L i) (nth who i).toNat) k := by
  induction k with
  | zero => rfl
  | succ k ih => simp only [hsum, sumN, ih]
theorem isPerm_iff : isPerm who n = true ↔ who.length = n ∧ (∀ i, i < n → 0 ≤ nth who i ∧ nth who i < n) ∧ ∀ i j, i < j → j < n → nth who i ≠ nth who j := by
  constructor
  · intro h
    obtain ⟨h1, h2⟩ := isPerm_t h
    refine ⟨h2, fun i hi => by have := (permOk_t (h1 i (by omega))).1; omega, fun i j hij hj e => ?_⟩
    have h3 := (permOk_t (h1 j (by omega))).2
    have := hasI_f h3 i (by simp; omega)
    rw [nth_take _ _ _ hij] at this
    exact this e
  · rintro ⟨h1, h2, h3⟩
    rw [isPerm_mk (fun k hk => permOk_mk (win_mk (h2 k (by omega)).1 (by have := (h2 k (by omega)).2; omega)) (hasI_miss fun j hj e => ?_))]
    · simp [h1]
    · simp at hj
      rw [nth_take _ _ _ (by omega)] at e
      exact h3 j k (by omega) (by omega) e
def swap (who : List Int) (a b : Nat) : List Int := (who.set a (nth who b)).set b (nth who a)
theorem swap_len : (swap who a b).length = who.length := by simp [swap]
theorem swap_nth (ha : a < who.length) (hb : b < who.length) (i : Nat) : nth (swap who a b) i = if i = b then nth who a else if i = a then nth who b else nth who i := by
  unfold swap
  rw [nth_set _ _ _ _ (by simpa using hb), nth_set _ _ _ _ ha]
  by_cases h1 : b = i
  · rw [if_pos h1, if_pos h1.symm]
  · rw [if_neg h1, if_neg (fun e : i = b => h1 e.symm)]
    by_cases h2 : a = i
    · rw [if_pos h2, if_pos h2.symm]
    · rw [if_neg h2, if_neg (fun e : i = a => h2 e.symm)]
theorem swap_perm (h : isPerm who n = true) (ha : a < n) (hb : b < n) : isPerm (swap who a b) n = true := by
  obtain ⟨h1, h2, h3⟩ := isPerm_iff.1 h
  have hd : ∀ i j, i < n → j < n → i ≠ j → nth who i ≠ nth who j := fun i j hi hj hne e => by
    rcases Nat.lt_or_ge i j with h4 | h4
    · exact h3 i j h4 hj e
    · exact h3 j i (by omega) hi e.symm
  refine isPerm_iff.2 ⟨by rw [swap_len, h1], fun i hi => ?_, fun i j hij hj => ?_⟩
  · rw [swap_nth (by omega) (by omega)]
    split
    · exact h2 a ha
    · split
      · exact h2 b hb
      · exact h2 i hi
  · have e : ∀ i, nth (swap who a b) i = nth who (if i = b then a else if i = a then b else i) := fun i => by
      rw [swap_nth (by omega) (by omega)]
      split
      · rfl
      · split <;> rfl
    rw [e, e]
    refine hd _ _ ?_ ?_ ?_
    · split
      · exact ha
      · split
        · exact hb
        · omega
    · split
      · exact ha
      · split
        · exact hb
        · exact hj
    · split <;> split <;> (try split) <;> (try split) <;> omega
theorem swap_cost (hc : costsOk L = true) (h : isPerm who L.length = true) (ha : a < L.length) (hb : b < L.length) (hab : a ≠ b) :
    haulCost L (swap who a b) = haulCost L who - nth (nth L a) (nth who a).toNat - nth (nth L b) (nth who b).toNat + nth (nth L a) (nth who b).toNat + nth (nth L b) (nth who a).toNat := by
  have hl := (isPerm_t h).2
  rw [haulCost_ok hc (swap_perm h ha hb), haulCost_ok hc h, swap_len, hl, hsum_sumN, hsum_sumN]
  have := sumN_upd2 (g := fun i => nth (nth L i) (nth who i).toNat) (h := fun i => nth (nth L i) (nth (swap who a b) i).toNat) ha hb hab (fun i hi h1 h2 => by
    show nth (nth L i) (nth (swap who a b) i).toNat = nth (nth L i) (nth who i).toNat
    rw [swap_nth (by omega) (by omega), if_neg h2, if_neg h1])
  rw [this, swap_nth (by omega) (by omega), swap_nth (by omega) (by omega), if_neg hab, if_pos rfl, if_pos rfl]
theorem cost_yes (h : 0 ≤ haulCost L who) : costsOk L = true ∧ isPerm who L.length = true := by
  unfold haulCost at h
  split at h
  · rename_i h1; simpa using h1
  · omega
theorem cost_neg (h : haulCost L who < 0) : haulCost L who = -1 := by
  by_cases h1 : costsOk L = true ∧ isPerm who L.length = true
  · have := cost_nonneg h1.1 h1.2; omega
  · unfold haulCost; rw [if_neg (by simpa using h1)]
theorem least_le (hc : costsOk L = true) (h : isPerm who L.length = true) : 0 ≤ leastV L ∧ leastV L ≤ haulCost L who := by
  obtain ⟨h1, h2⟩ := bestL_least hc
  rw [leastV, if_pos hc]
  exact ⟨cost_nonneg hc h1, h2 who h⟩
theorem least_yes (h : 0 ≤ leastV L) : costsOk L = true := by
  unfold leastV at h
  split at h
  · assumption
  · omega
theorem least_neg (h : leastV L < 0) : leastV L = -1 ∧ costsOk L = false := by
  cases hc : costsOk L with
  | false => exact ⟨by simp [leastV, hc], rfl⟩
  | true => have := (least_le hc (bestL_least hc).1).1; omega
/-- No two can exchange their hauls so that it costs less. -/
theorem best_swap (hc : costsOk L = true) (ha : a < L.length) (hb : b < L.length) (hab : a ≠ b) :
    nth (nth L a) (nth (bestL L) a).toNat + nth (nth L b) (nth (bestL L) b).toNat ≤ nth (nth L a) (nth (bestL L) b).toNat + nth (nth L b) (nth (bestL L) a).toNat := by
  obtain ⟨h1, h2⟩ := bestL_least hc
  have h3 := h2 _ (swap_perm h1 ha hb)
  have h4 := swap_cost hc h1 ha hb hab
  omega
/-- A lower bound for each haul. -/
theorem least_ge (hc : costsOk L = true) {m : Nat → Int} (hm : ∀ i, i < L.length → ∀ j, j < L.length → m i ≤ nth (nth L i) j) : sumN m L.length ≤ leastV L := by
  obtain ⟨h1, _⟩ := bestL_least hc
  rw [leastV, if_pos hc, haulCost_ok hc h1, (isPerm_t h1).2, hsum_sumN]
  obtain ⟨_, h3, _⟩ := isPerm_iff.1 h1
  have : ∀ k, k ≤ L.length → sumN m k ≤ sumN (fun i => nth (nth L i) (nth (bestL L) i).toNat) k := by
    intro k
    induction k with
    | zero => intro _; exact Int.le_refl _
    | succ k ih =>
      intro hk
      have := ih (by omega)
      have h4 := hm k (by omega) (nth (bestL L) k).toNat (by have := h3 k (by omega); omega)
      simp only [sumN]; omega
  exact this _ (Nat.le_refl _)
/-- All costs of the first haul greater by one. -/
theorem least_dear (hc : costsOk L = true) (hd : costsOk M = true) (hl : M.length = L.length) (h0 : 0 < L.length) (h1 : ∀ j, j < L.length → nth (nth M 0) j = nth (nth L 0) j + 1) (h2 : ∀ i, i < L.length → i ≠ 0 → nth M i = nth L i) : leastV M = leastV L + 1 := by
  have key : ∀ x, isPerm x L.length = true → haulCost M x = haulCost L x + 1 := fun x hx => by
    obtain ⟨p1, p2, _⟩ := isPerm_iff.1 hx
    rw [haulCost_ok hd (by rw [hl]; exact hx), haulCost_ok hc hx, p1, hsum_sumN, hsum_sumN]
    have := sumN_upd (g := fun i => nth (nth L i) (nth x i).toNat) (h := fun i => nth (nth M i) (nth x i).toNat) h0 (fun i hi hne => by
      show nth (nth M i) _ = nth (nth L i) _
      rw [h2 i hi hne])
    rw [this, h1 _ (by have := p2 0 h0; omega)]
    omega
  obtain ⟨a1, a2⟩ := bestL_least hc
  obtain ⟨b1, b2⟩ := bestL_least hd
  rw [hl] at b1
  rw [leastV, if_pos hd, leastV, if_pos hc]
  have e1 := key _ a1
  have e2 := key _ b1
  have e3 := a2 _ b1
  have e4 := b2 _ (by rw [hl]; exact a1)
  omega
end
end Go.Proofs.Ytpabfbaoibmnlaa
