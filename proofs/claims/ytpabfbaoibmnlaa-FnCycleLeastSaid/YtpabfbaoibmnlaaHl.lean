/-
  The plain mathematics of hauls: costs, who does what. No program is named here.
-/
import Derived.Test.YtpabfbaoibmnlaaMem
import Derived.Test.YtpabfbaoibmnlaaPap
namespace Go.Proofs.Ytpabfbaoibmnlaa

section
variable {α : Type} [Inhabited α]
theorem nth_app_lt (l m : List α) (k : Nat) (h : k < l.length) : nth (l ++ m) k = nth l k := by simp only [nth, List.getD]; rw [List.getElem?_append_left h]
theorem nth_app_here (l : List α) (x : α) (k : Nat) (h : k = l.length) : nth (l ++ [x]) k = x := by subst h; simp [nth, List.getD]
end
def rowOk (L : List (List Int)) (k : Nat) : Bool := decide ((nth L k).length = L.length) && (nth L k).all fun n => win n 0 99
def costsOk (L : List (List Int)) : Bool := (List.range L.length).all (rowOk L) && decide (L.length ≤ 5)
def permOk (who : List Int) (n : Nat) (k : Nat) : Bool := win (nth who k) 0 ((n : Int) - 1) && !hasI (who.take k) (nth who k)
/-- Each of 0 .. n - 1 once. -/
def isPerm (who : List Int) (n : Nat) : Bool := (List.range who.length).all (permOk who n) && decide (who.length = n)
def hsum (L : List (List Int)) (who : List Int) : Nat → Int
  | 0 => 0
  | k + 1 => hsum L who k + nth (nth L k) (nth who k).toNat
def haulCost (L : List (List Int)) (who : List Int) : Int := if costsOk L && isPerm who L.length then hsum L who who.length else -1
section
variable {L : List (List Int)} {who : List Int} {k n : Nat}
theorem rowOk_f1 (h : ¬ (nth L k).length = L.length) : rowOk L k = false := by simp [rowOk, h]
theorem rowOk_f2 {j : Nat} (hj : j < (nth L k).length) (h : win (nth (nth L k) j) 0 99 = false) : rowOk L k = false := by
  have := all_no (p := fun n => win n 0 99) j hj h
  simp [rowOk, this]
theorem rowOk_mk (h1 : (nth L k).length = L.length) (h2 : ∀ j, j < (nth L k).length → win (nth (nth L k) j) 0 99 = true) : rowOk L k = true := by
  have := all_nth (p := fun n => win n 0 99) h2
  simp only [rowOk, h1, this, decide_true, Bool.and_true]
theorem rowOk_t (h : rowOk L k = true) : (nth L k).length = L.length ∧ ∀ j, j < L.length → win (nth (nth L k) j) 0 99 = true := by
  simp only [rowOk, Bool.and_eq_true, decide_eq_true_eq] at h
  exact ⟨h.1, fun j hj => all_nth_inv (p := fun n => win n 0 99) h.2 j (by omega)⟩
theorem costsOk_no (hk : k < L.length) (h : rowOk L k = false) : costsOk L = false := by
  have : (List.range L.length).all (rowOk L) = false := by
    rw [List.all_eq_false]; exact ⟨k, List.mem_range.2 hk, by simp [h]⟩
  simp [costsOk, this]
theorem costsOk_mk (h : ∀ k, k < L.length → rowOk L k = true) : costsOk L = decide ((L.length : Int) ≤ 5) := by
  have : (List.range L.length).all (rowOk L) = true := by
    rw [List.all_eq_true]; intro k hk; exact h k (List.mem_range.1 hk)
  simp only [costsOk, this, Bool.true_and]
  rw [decide_eq_decide]; omega
theorem costsOk_t (h : costsOk L = true) : (∀ k, k < L.length → rowOk L k = true) ∧ L.length ≤ 5 := by
  simp only [costsOk, Bool.and_eq_true, List.all_eq_true, List.mem_range, decide_eq_true_eq] at h
  exact h
theorem cost_bd (h : costsOk L = true) {i j : Nat} (hi : i < L.length) (hj : j < L.length) : 0 ≤ nth (nth L i) j ∧ nth (nth L i) j ≤ 99 :=
  win_t ((rowOk_t ((costsOk_t h).1 i hi)).2 j hj)
theorem permOk_f1 (h : win (nth who k) 0 ((n : Int) - 1) = false) : permOk who n k = false := by simp [permOk, h]
theorem permOk_f2 (h : hasI (who.take k) (nth who k) = true) : permOk who n k = false := by simp [permOk, h]
theorem permOk_mk (h1 : win (nth who k) 0 ((n : Int) - 1) = true) (h2 : hasI (who.take k) (nth who k) = false) : permOk who n k = true := by simp [permOk, h1, h2]
theorem permOk_t (h : permOk who n k = true) : (0 ≤ nth who k ∧ nth who k ≤ (n : Int) - 1) ∧ hasI (who.take k) (nth who k) = false := by
  simp only [permOk, Bool.and_eq_true, Bool.not_eq_true'] at h
  exact ⟨win_t h.1, h.2⟩
theorem isPerm_no (hk : k < who.length) (h : permOk who n k = false) : isPerm who n = false := by
  have : (List.range who.length).all (permOk who n) = false := by
    rw [List.all_eq_false]; exact ⟨k, List.mem_range.2 hk, by simp [h]⟩
  simp [isPerm, this]
theorem isPerm_mk (h : ∀ k, k < who.length → permOk who n k = true) : isPerm who n = decide (who.length = n) := by
  have : (List.range who.length).all (permOk who n) = true := by
    rw [List.all_eq_true]; intro k hk; exact h k (List.mem_range.1 hk)
  simp only [isPerm, this, Bool.true_and]
theorem isPerm_t (h : isPerm who n = true) : (∀ k, k < who.length → permOk who n k = true) ∧ who.length = n := by
  simp only [isPerm, Bool.and_eq_true, List.all_eq_true, List.mem_range, decide_eq_true_eq] at h
  exact h
theorem isPerm_len (h : ¬ who.length = n) : isPerm who n = false := by simp [isPerm, h]
theorem hsum_bd (hc : costsOk L = true) (hl : who.length = L.length) (hk : k ≤ who.length) (hp : ∀ j, j < k → permOk who L.length j = true) : 0 ≤ hsum L who k ∧ hsum L who k ≤ 99 * k := by
  induction k with
  | zero => simp [hsum]
  | succ k ih =>
    have h1 := ih (by omega) fun j hj => hp j (by omega)
    have h2 := (permOk_t (hp k (by omega))).1
    have h3 := cost_bd hc (i := k) (j := (nth who k).toNat) (by omega) (by omega)
    simp only [hsum]; omega
theorem haulCost_c (h : costsOk L = false) : haulCost L who = -1 := by simp [haulCost, h]
theorem haulCost_p (h : isPerm who L.length = false) : haulCost L who = -1 := by simp [haulCost, h]
theorem haulCost_ok (h1 : costsOk L = true) (h2 : isPerm who L.length = true) : haulCost L who = hsum L who who.length := by simp [haulCost, h1, h2]
end
end Go.Proofs.Ytpabfbaoibmnlaa
