/-
  The plain mathematics of booking an hour. No program is named here.
-/
import Derived.Test.YtnniogdnlcokmaaBkD
namespace Go.Proofs.Ytnniogdnlcokmaa

/-- Before which place a truck belongs. -/
def CutAt (l : List (Int × Int)) (t : Int) (n : Nat) : Prop := n ≤ l.length ∧ (∀ j, j < n → (nth l j).1 < t) ∧ (n < l.length → ¬ (nth l n).1 < t)
def cutN (l : List (Int × Int)) (t : Int) : Nat := (l.takeWhile fun p => decide (p.1 < t)).length
/-- In place of the one it had. -/
def placeL (l : List (Int × Int)) (t h : Int) : List (Int × Int) := (without l t).take (cutN (without l t) t) ++ (t, h) :: (without l t).drop (cutN (without l t) t)
def bookB (l : List (Int × Int)) (room t h : Int) : Bool := booksOk l room && booksOk (placeL l t h) room
def bookL (l : List (Int × Int)) (room t h : Int) : List (Int × Int) := if booksOk l room then (if booksOk (placeL l t h) room then placeL l t h else l) else []
/-- The first hour that can be booked. -/
def NextAt (l : List (Int × Int)) (room t h r : Int) : Prop :=
  (0 ≤ h ∧ h ≤ r ∧ r ≤ 23 ∧ bookB l room t r = true ∧ ∀ j, h ≤ j → j < r → bookB l room t j = false) ∨
  (r = -1 ∧ ((h < 0 ∨ 23 < h) ∨ ∀ j, h ≤ j → j ≤ 23 → bookB l room t j = false))
section
variable {l : List (Int × Int)} {t h room r r' : Int} {k i n m : Nat}
theorem CutAt.uniq (a : CutAt l t n) (b : CutAt l t m) : n = m := by
  rcases Nat.lt_trichotomy n m with h1 | h1 | h1
  · exact absurd (b.2.1 n h1) (a.2.2 (by have := b.1; omega))
  · exact h1
  · exact absurd (a.2.1 m h1) (b.2.2 (by have := a.1; omega))
theorem cutN_at (l : List (Int × Int)) (t : Int) : CutAt l t (cutN l t) := by
  induction l with
  | nil => exact ⟨by simp [cutN], fun j hj => by simp [cutN] at hj, fun h => by simp at h⟩
  | cons p r ih =>
    have e0 : nth (p :: r) 0 = p := by simp [nth, List.getD]
    have es : ∀ j, nth (p :: r) (j + 1) = nth r j := fun j => by simp [nth, List.getD]
    by_cases hp : p.1 < t
    · have e : cutN (p :: r) t = cutN r t + 1 := by simp [cutN, hp]
      rw [e]
      refine ⟨by have := ih.1; simp; omega, fun j hj => ?_, fun hl => ?_⟩
      · cases j with
        | zero => rw [e0]; exact hp
        | succ j => rw [es]; exact ih.2.1 j (by omega)
      · rw [es]; exact ih.2.2 (by simpa using hl)
    · have e : cutN (p :: r) t = 0 := by simp [cutN, hp]
      rw [e]
      exact ⟨by simp, fun j hj => by omega, fun _ => by rw [e0]; exact hp⟩
theorem placeL_at (hc : CutAt (without l t) t n) : placeL l t h = (without l t).take n ++ (t, h) :: (without l t).drop n := by
  rw [placeL, hc.uniq (cutN_at _ _)]
theorem length_placeL (l : List (Int × Int)) (t h : Int) : (placeL l t h).length = (without l t).length + 1 := by
  have := (cutN_at (without l t) t).1
  simp [placeL]; omega
theorem length_placeL_le (l : List (Int × Int)) (t h : Int) : (placeL l t h).length ≤ l.length + 1 := by
  have := length_without l t
  rw [length_placeL]; omega
theorem length_bookL (l : List (Int × Int)) (room t h : Int) : (bookL l room t h).length ≤ l.length + 1 := by
  have := length_placeL_le l t h
  unfold bookL
  split
  · split
    · exact this
    · omega
  · simp
theorem length_cancelL (l : List (Int × Int)) (room t : Int) : (cancelL l room t).length ≤ l.length := by
  have := length_without l t
  unfold cancelL
  split
  · exact this
  · simp
theorem place_hit (hs : Asc l) (hb : BsAt l t i) (hf : found l t i = true) : placeL l t h = l.set i ((nth l i).1, h) := by
  obtain ⟨hi, ht, hn⟩ := found_hit hs hb hf
  have hw := without_at hi ht hn
  have hlen : (l.take i).length = i := by simp; omega
  have hc : CutAt (without l t) t i := by
    rw [hw]
    refine ⟨by simp; omega, fun j hj => ?_, fun hl => ?_⟩
    · have e : nth (l.take i ++ l.drop (i + 1)) j = nth l j := by
        simp only [nth, List.getD]
        rw [List.getElem?_append_left (by omega), List.getElem?_take_of_lt hj]
      rw [e, ← ht]; exact hs j i hj hi
    · have e : nth (l.take i ++ l.drop (i + 1)) i = nth l (i + 1) := by
        simp only [nth, List.getD]
        rw [List.getElem?_append_right (by omega), hlen, Nat.sub_self, List.getElem?_drop, Nat.add_zero]
      have hl' : i + 1 < l.length := by simp at hl; omega
      have := hs i (i + 1) (by omega) hl'
      rw [e]; omega
  rw [placeL_at hc, hw, List.take_append_of_le_length (by omega), List.drop_append_of_le_length (by omega), List.take_take, Nat.min_self, List.drop_eq_nil_of_le (by omega : (l.take i).length ≤ i), List.nil_append,
    List.set_eq_take_append_cons_drop, if_pos hi, ht]
theorem place_miss (hs : Asc l) (hb : BsAt l t i) (hf : found l t i = false) : placeL l t h = l.take i ++ (t, h) :: l.drop i := by
  obtain ⟨hn, h1, h2⟩ := found_miss hs hb hf
  have hw := without_none hn
  have hc : CutAt (without l t) t i := by
    rw [hw]
    exact ⟨hb.1, h1, fun hl => by have := h2 i (Nat.le_refl _) hl; omega⟩
  rw [placeL_at hc, hw]
theorem NextAt.uniq (a : NextAt l room t h r) (b : NextAt l room t h r') : r = r' := by
  rcases a with ⟨a0, a1, a2, a3, a4⟩ | ⟨rfl, a⟩
  · rcases b with ⟨b0, b1, b2, b3, b4⟩ | ⟨rfl, b⟩
    · rcases Int.lt_trichotomy r r' with c | c | c
      · rw [b4 r a1 c] at a3; cases a3
      · exact c
      · rw [a4 r' b1 c] at b3; cases b3
    · rcases b with b | b
      · omega
      · rw [b r a1 a2] at a3; cases a3
  · rcases b with ⟨b0, b1, b2, b3, b4⟩ | ⟨rfl, b⟩
    · rcases a with a | a
      · omega
      · rw [a r' b1 b2] at b3; cases b3
    · rfl
end
end Go.Proofs.Ytnniogdnlcokmaa
