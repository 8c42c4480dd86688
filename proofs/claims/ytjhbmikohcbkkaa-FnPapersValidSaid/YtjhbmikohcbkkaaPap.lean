/-
  The plain mathematics of papers: holds are pairs (id, marks). No program is named here.
-/
import Derived.Test.YtjhbmikohcbkkaaEnc
namespace Go.Proofs.Ytjhbmikohcbkkaa

def hasI (l : List Int) (x : Int) : Bool := l.any fun y => y == x
theorem hasI_hit {l : List Int} {x : Int} {k : Nat} (hk : k < l.length) (h : nth l k = x) : hasI l x = true := any_nth k hk (by simp [h])
theorem hasI_miss {l : List Int} {x : Int} (h : ∀ k, k < l.length → ¬ nth l k = x) : hasI l x = false := any_no fun k hk => by simpa using h k hk
theorem hasI_f {l : List Int} {x : Int} (h : hasI l x = false) (k : Nat) (hk : k < l.length) : ¬ nth l k = x := fun e => by
  rw [hasI_hit hk e] at h; cases h
theorem hasI_nil (x : Int) : hasI [] x = false := rfl

/-- The marks that the first hold with the id tells, or 0. -/
def marksOf : List (Int × Int) → Int → Int
  | [], _ => 0
  | p :: t, i => if p.1 = i then p.2 else marksOf t i
theorem marksOf_hit {l : List (Int × Int)} {i : Int} {k : Nat} (hk : k < l.length) (h : (nth l k).1 = i) (hn : ∀ j, j < k → ¬ (nth l j).1 = i) : marksOf l i = (nth l k).2 := by
  induction l generalizing k with
  | nil => simp at hk
  | cons p t ih =>
    cases k with
    | zero =>
      have : nth (p :: t) 0 = p := by simp [nth, List.getD]
      rw [this] at h ⊢
      simp [marksOf, h]
    | succ k =>
      have e : ∀ j, nth (p :: t) (j + 1) = nth t j := fun j => by simp [nth, List.getD]
      have h0 := hn 0 (by omega)
      have e0 : nth (p :: t) 0 = p := by simp [nth, List.getD]
      rw [e0] at h0
      rw [e] at h ⊢
      simp only [marksOf, if_neg h0]
      exact ih (by simpa using hk) h fun j hj => by have := hn (j + 1) (by omega); rwa [e] at this
theorem marksOf_miss {l : List (Int × Int)} {i : Int} (hn : ∀ j, j < l.length → ¬ (nth l j).1 = i) : marksOf l i = 0 := by
  induction l with
  | nil => rfl
  | cons p t ih =>
    have h0 := hn 0 (by simp)
    have e0 : nth (p :: t) 0 = p := by simp [nth, List.getD]
    rw [e0] at h0
    simp only [marksOf, if_neg h0]
    exact ih fun j hj => by have := hn (j + 1) (by simpa using hj); rwa [show nth (p :: t) (j + 1) = nth t j by simp [nth, List.getD]] at this

def hdOk (hl : List (Int × Int)) (ll : List Int) (k : Nat) : Bool :=
  win (nth hl k).1 1 999 && win (nth hl k).2 1 7 && !(decide (0 < k) && decide ((nth hl k).1 ≤ (nth hl (k - 1)).1)) && !hasI ll (nth hl k).1
def lfOk (ll : List Int) (k : Nat) : Bool := win (nth ll k) 1 999 && !(decide (0 < k) && decide (nth ll k ≤ nth ll (k - 1)))
def papersOk (hl : List (Int × Int)) (ll : List Int) : Bool :=
  (List.range hl.length).all (hdOk hl ll) && (List.range ll.length).all (lfOk ll) && (decide (hl.length ≤ 12) && decide (ll.length ≤ 12))
section
variable {hl : List (Int × Int)} {ll : List Int} {k : Nat}
theorem hdOk_f1 (h : win (nth hl k).1 1 999 = false) : hdOk hl ll k = false := by simp [hdOk, h]
theorem hdOk_f2 (h : win (nth hl k).2 1 7 = false) : hdOk hl ll k = false := by simp [hdOk, h]
theorem hdOk_f3 (hk : 0 < k) (h : (nth hl k).1 ≤ (nth hl (k - 1)).1) : hdOk hl ll k = false := by simp [hdOk, hk, h]
theorem hdOk_f4 (h : hasI ll (nth hl k).1 = true) : hdOk hl ll k = false := by simp [hdOk, h]
theorem hdOk_mk (h1 : win (nth hl k).1 1 999 = true) (h2 : win (nth hl k).2 1 7 = true) (h3 : 0 < k → ¬ (nth hl k).1 ≤ (nth hl (k - 1)).1) (h4 : hasI ll (nth hl k).1 = false) : hdOk hl ll k = true := by
  simp only [hdOk, h1, h2, h4, Bool.true_and, Bool.not_false, Bool.and_true, Bool.not_eq_true', Bool.and_eq_false_iff, decide_eq_false_iff_not]
  by_cases hk : 0 < k
  · exact .inr (h3 hk)
  · exact .inl hk
theorem hdOk_t (h : hdOk hl ll k = true) : win (nth hl k).1 1 999 = true ∧ win (nth hl k).2 1 7 = true ∧ (0 < k → ¬ (nth hl k).1 ≤ (nth hl (k - 1)).1) ∧ hasI ll (nth hl k).1 = false := by
  simp only [hdOk, Bool.and_eq_true, Bool.not_eq_true', Bool.and_eq_false_iff, decide_eq_false_iff_not] at h
  exact ⟨h.1.1.1, h.1.1.2, fun hk => h.1.2.resolve_left (by omega), h.2⟩
theorem lfOk_f1 (h : win (nth ll k) 1 999 = false) : lfOk ll k = false := by simp [lfOk, h]
theorem lfOk_f2 (hk : 0 < k) (h : nth ll k ≤ nth ll (k - 1)) : lfOk ll k = false := by simp [lfOk, hk, h]
theorem lfOk_mk (h1 : win (nth ll k) 1 999 = true) (h3 : 0 < k → ¬ nth ll k ≤ nth ll (k - 1)) : lfOk ll k = true := by
  simp only [lfOk, h1, Bool.true_and, Bool.not_eq_true', Bool.and_eq_false_iff, decide_eq_false_iff_not]
  by_cases hk : 0 < k
  · exact .inr (h3 hk)
  · exact .inl hk
theorem papersOk_no1 (hk : k < hl.length) (h : hdOk hl ll k = false) : papersOk hl ll = false := by
  have : (List.range hl.length).all (hdOk hl ll) = false := by
    rw [List.all_eq_false]; exact ⟨k, List.mem_range.2 hk, by simp [h]⟩
  simp [papersOk, this]
theorem papersOk_no2 (hk : k < ll.length) (h : lfOk ll k = false) : papersOk hl ll = false := by
  have : (List.range ll.length).all (lfOk ll) = false := by
    rw [List.all_eq_false]; exact ⟨k, List.mem_range.2 hk, by simp [h]⟩
  simp [papersOk, this]
theorem papersOk_mk (h1 : ∀ k, k < hl.length → hdOk hl ll k = true) (h2 : ∀ k, k < ll.length → lfOk ll k = true) : papersOk hl ll = (decide ((hl.length : Int) ≤ 12) && decide ((ll.length : Int) ≤ 12)) := by
  have e1 : (List.range hl.length).all (hdOk hl ll) = true := by
    rw [List.all_eq_true]; intro k hk; exact h1 k (List.mem_range.1 hk)
  have e2 : (List.range ll.length).all (lfOk ll) = true := by
    rw [List.all_eq_true]; intro k hk; exact h2 k (List.mem_range.1 hk)
  simp only [papersOk, e1, e2, Bool.true_and]
  congr 1 <;> rw [decide_eq_decide] <;> omega
theorem papersOk_t (h : papersOk hl ll = true) : (∀ k, k < hl.length → hdOk hl ll k = true) ∧ (∀ k, k < ll.length → lfOk ll k = true) ∧ hl.length ≤ 12 ∧ ll.length ≤ 12 := by
  simp only [papersOk, Bool.and_eq_true, List.all_eq_true, List.mem_range, decide_eq_true_eq] at h
  exact ⟨h.1.1, h.1.2, h.2.1, h.2.2⟩
/-- Without holds, and without those that have left. -/
theorem papersOk_left (h : papersOk hl ll = true) : papersOk [] ll = true := by
  obtain ⟨_, h2, _, h4⟩ := papersOk_t h
  rw [papersOk_mk (fun k hk => absurd hk (by simp)) h2]; simp; omega
theorem papersOk_holds (h : papersOk hl ll = true) : papersOk hl [] = true := by
  obtain ⟨h1, _, h3, _⟩ := papersOk_t h
  rw [papersOk_mk (fun k hk => ?_) (fun k hk => absurd hk (by simp))]
  · simp; omega
  · obtain ⟨a, b, c, _⟩ := hdOk_t (h1 k hk)
    exact hdOk_mk a b c (hasI_nil _)
theorem papersOk_nil : papersOk [] [] = true := by decide
end
end Go.Proofs.Ytjhbmikohcbkkaa
