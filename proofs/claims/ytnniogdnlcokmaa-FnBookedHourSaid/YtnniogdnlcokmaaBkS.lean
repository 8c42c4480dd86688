/-
  The plain mathematics of looking a booking up. No program is named here.
-/
import Derived.Test.YtnniogdnlcokmaaBk
namespace Go.Proofs.Ytnniogdnlcokmaa

/-- Where a truck is, or would be. -/
def BsAt (l : List (Int × Int)) (t : Int) (i : Nat) : Prop := i ≤ l.length ∧ (0 < i → (nth l (i - 1)).1 < t) ∧ (i < l.length → t ≤ (nth l i).1)
def found (l : List (Int × Int)) (t : Int) (i : Nat) : Bool := decide (i < l.length) && decide ((nth l i).1 = t)
/-- The hour of the first booking of a truck, or -1. -/
def hourIn : List (Int × Int) → Int → Int
  | [], _ => -1
  | p :: r, t => if p.1 = t then p.2 else hourIn r t
def hourOf (l : List (Int × Int)) (room t : Int) : Int := if booksOk l room then hourIn l t else -1
section
variable {l : List (Int × Int)} {t room : Int} {k i : Nat}
theorem hourIn_hit (hk : k < l.length) (h : (nth l k).1 = t) (hn : ∀ j, j < k → ¬ (nth l j).1 = t) : hourIn l t = (nth l k).2 := by
  induction l generalizing k with
  | nil => simp at hk
  | cons p r ih =>
    cases k with
    | zero =>
      have : nth (p :: r) 0 = p := by simp [nth, List.getD]
      rw [this] at h ⊢
      simp [hourIn, h]
    | succ k =>
      have e : ∀ j, nth (p :: r) (j + 1) = nth r j := fun j => by simp [nth, List.getD]
      have h0 := hn 0 (by omega)
      have e0 : nth (p :: r) 0 = p := by simp [nth, List.getD]
      rw [e0] at h0
      rw [e] at h ⊢
      simp only [hourIn, if_neg h0]
      exact ih (by simpa using hk) h fun j hj => by have := hn (j + 1) (by omega); rwa [e] at this
theorem hourIn_miss (hn : ∀ j, j < l.length → ¬ (nth l j).1 = t) : hourIn l t = -1 := by
  induction l with
  | nil => rfl
  | cons p r ih =>
    have h0 := hn 0 (by simp)
    have e0 : nth (p :: r) 0 = p := by simp [nth, List.getD]
    rw [e0] at h0
    simp only [hourIn, if_neg h0]
    exact ih fun j hj => by have := hn (j + 1) (by simpa using hj); rwa [show nth (p :: r) (j + 1) = nth r j by simp [nth, List.getD]] at this
/-- Strictly ascending. -/
def Asc (l : List (Int × Int)) : Prop := ∀ i j, i < j → j < l.length → (nth l i).1 < (nth l j).1
theorem asc_of (h : ∀ k, k < l.length → bkOk l k = true) : Asc l := by
  intro i j hij hj
  induction j with
  | zero => omega
  | succ j ih =>
    have h1 := (bkOk_t (h (j + 1) hj)).2.2 (by omega)
    rw [Nat.add_sub_cancel] at h1
    rcases Nat.lt_or_ge i j with h2 | h2
    · have := ih h2 (by omega); omega
    · obtain rfl : i = j := by omega
      omega
theorem asc_books (h : booksOk l room = true) : Asc l := asc_of (booksOk_t h).1
theorem found_hit (hs : Asc l) (_hb : BsAt l t i) (hf : found l t i = true) : i < l.length ∧ (nth l i).1 = t ∧ ∀ j, j < l.length → j ≠ i → ¬ (nth l j).1 = t := by
  simp only [found, Bool.and_eq_true, decide_eq_true_eq] at hf
  refine ⟨hf.1, hf.2, fun j hj hne e => ?_⟩
  rcases Nat.lt_or_ge j i with h | h
  · have := hs j i h hf.1; omega
  · have := hs i j (by omega) hj; omega
theorem found_miss (hs : Asc l) (hb : BsAt l t i) (hf : found l t i = false) : (∀ j, j < l.length → ¬ (nth l j).1 = t) ∧ (∀ j, j < i → (nth l j).1 < t) ∧ (∀ j, i ≤ j → j < l.length → t < (nth l j).1) := by
  simp only [found, Bool.and_eq_false_iff, decide_eq_false_iff_not] at hf
  have h1 : ∀ j, j < i → (nth l j).1 < t := fun j hj => by
    have := hb.2.1 (by omega)
    have hl := hb.1
    rcases Nat.lt_or_ge j (i - 1) with h | h
    · have := hs j (i - 1) h (by omega); omega
    · obtain rfl : j = i - 1 := by omega
      exact this
  have h2 : ∀ j, i ≤ j → j < l.length → t < (nth l j).1 := fun j hj hl => by
    have h0 := hb.2.2 (by omega)
    have h3 : ¬ (nth l i).1 = t := hf.resolve_left (by omega)
    rcases Nat.lt_or_ge i j with h | h
    · have := hs i j h hl; omega
    · obtain rfl : j = i := by omega
      omega
  refine ⟨fun j hj e => ?_, h1, h2⟩
  rcases Nat.lt_or_ge j i with h | h
  · have := h1 j h; omega
  · have := h2 j h hj; omega
theorem hourOf_found (hk : booksOk l room = true) (hb : BsAt l t i) (hf : found l t i = true) : hourOf l room t = (nth l i).2 := by
  obtain ⟨h1, h2, h3⟩ := found_hit (asc_books hk) hb hf
  simp only [hourOf, if_pos hk]
  exact hourIn_hit h1 h2 fun j hj => h3 j (by omega) (by omega)
theorem hourOf_miss (hk : booksOk l room = true) (hn : ∀ j, j < l.length → ¬ (nth l j).1 = t) : hourOf l room t = -1 := by
  simp only [hourOf, if_pos hk]
  exact hourIn_miss hn
theorem hourOf_bad (hk : booksOk l room = false) : hourOf l room t = -1 := by simp [hourOf, hk]
end
end Go.Proofs.Ytnniogdnlcokmaa
