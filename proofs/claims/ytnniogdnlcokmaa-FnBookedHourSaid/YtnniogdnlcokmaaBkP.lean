/-
  The plain mathematics of the other laws on bookings. No program is named here.
-/
import Derived.Test.YtnniogdnlcokmaaBkF
namespace Go.Proofs.Ytnniogdnlcokmaa

/-- Bookings are valid, told without places. -/
def BooksOk (l : List (Int × Int)) (room : Int) : Prop :=
  l.Pairwise (fun p q => p.1 < q.1) ∧ (∀ p ∈ l, win p.1 0 99 = true ∧ win p.2 0 23 = true) ∧ l.length ≤ 10 ∧ win room 1 3 = true ∧ ∀ h, (many l h : Int) ≤ room
section
variable {l m : List (Int × Int)} {t h room r : Int} {k i n : Nat}
theorem asc_pairwise (hs : Asc l) : l.Pairwise (fun p q => p.1 < q.1) := by
  rw [List.pairwise_iff_getElem]
  intro i j hi hj hij
  have := hs i j hij hj
  rwa [nth_eq _ _ hi, nth_eq _ _ hj] at this
theorem books_of (hk : booksOk l room = true) : BooksOk l room := by
  obtain ⟨h1, h2, h3, h4⟩ := booksOk_t hk
  refine ⟨asc_pairwise (asc_of h1), fun p hp => ?_, h2, h3, fun h => ?_⟩
  · obtain ⟨k, hk, rfl⟩ := List.getElem_of_mem hp
    have := bkOk_t (h1 k hk)
    rw [nth_eq _ _ hk] at this
    exact ⟨this.1, this.2.1⟩
  · by_cases hx : ∃ k, k < l.length ∧ (nth l k).2 = h
    · obtain ⟨k, hk, e⟩ := hx
      have := h4 k hk
      rwa [e] at this
    · rw [many_none l h (fun k hk e => hx ⟨k, hk, e⟩)]
      have := win_t h3; omega
theorem of_books (hb : BooksOk l room) : booksOk l room = true := by
  obtain ⟨h1, h2, h3, h4, h5⟩ := hb
  rw [List.pairwise_iff_getElem] at h1
  have hk : ∀ k, k < l.length → bkOk l k = true := fun k hk => by
    have hm := h2 _ (List.getElem_mem hk)
    refine bkOk_mk (by rw [nth_eq _ _ hk]; exact hm.1) (by rw [nth_eq _ _ hk]; exact hm.2) fun h0 => ?_
    have := h1 (k - 1) k (by omega) hk (by omega)
    rw [nth_eq _ _ hk, nth_eq _ _ (by omega)]
    omega
  rw [booksOk_mk hk, roomy_mk (fun k _ => h5 _), h4, Bool.and_true, Bool.and_true, decide_eq_true_eq]
  omega
theorem books_sub (hs : m.Sublist l) (hk : booksOk l room = true) : booksOk m room = true := by
  obtain ⟨h1, h2, h3, h4, h5⟩ := books_of hk
  refine of_books ⟨h1.sublist hs, fun p hp => h2 p (hs.subset hp), Nat.le_trans hs.length_le h3, h4, fun h => ?_⟩
  have h6 : many m h ≤ many l h := hs.countP_le
  have := h5 h
  omega
theorem books_many (hk : booksOk l room = true) (h : Int) : (many l h : Int) ≤ room := (books_of hk).2.2.2.2 h
theorem books_drop (hk : booksOk l room = true) : booksOk (l.drop 1) room = true := books_sub (List.drop_sublist _ _) hk
theorem books_without (hk : booksOk l room = true) (t : Int) : booksOk (without l t) room = true := books_sub List.filter_sublist hk
theorem books_nil : booksOk [] 1 = true := rfl

theorem hourIn_mem (hp : l.Pairwise (fun p q => p.1 < q.1)) {p : Int × Int} (hm : p ∈ l) : hourIn l p.1 = p.2 := by
  induction l with
  | nil => simp at hm
  | cons q r ih =>
    rw [List.pairwise_cons] at hp
    rcases List.mem_cons.1 hm with rfl | h1
    · simp [hourIn]
    · have := hp.1 p h1
      rw [hourIn, if_neg (by omega)]
      exact ih hp.2 h1
theorem hourIn_cases (l : List (Int × Int)) (t : Int) : (hourIn l t = -1 ∧ ∀ p ∈ l, p.1 ≠ t) ∨ (t, hourIn l t) ∈ l := by
  induction l with
  | nil => exact .inl ⟨rfl, by simp⟩
  | cons q r ih =>
    rw [hourIn]
    by_cases hq : q.1 = t
    · rw [if_pos hq]
      refine .inr (List.mem_cons.2 (.inl ?_))
      rw [← hq]
    · rw [if_neg hq]
      rcases ih with ⟨h1, h2⟩ | h1
      · refine .inl ⟨h1, fun p hp => ?_⟩
        rcases List.mem_cons.1 hp with rfl | hp
        · exact hq
        · exact h2 p hp
      · exact .inr (List.mem_cons_of_mem _ h1)
theorem hourOf_mem (hk : booksOk l room = true) {p : Int × Int} (hm : p ∈ l) : hourOf l room p.1 = p.2 := by
  rw [hourOf, if_pos hk]; exact hourIn_mem (books_of hk).1 hm
theorem without_self (hn : ∀ p ∈ l, p.1 ≠ t) : without l t = l := by
  unfold without
  rw [List.filter_eq_self]
  intro p hp
  simpa using hn p hp
theorem without_less (hm : (t, h) ∈ l) : (without l t).length < l.length := by
  unfold without
  rw [List.length_filter_lt_length_iff_exists]
  exact ⟨_, hm, by simp⟩
/-- A truck has an hour, or it has none, and then there is none to cancel. -/
theorem hour_no (hx : hourOf l room t < 0) : hourOf l room t = -1 ∧ cancelB l room t = false := by
  cases hk : booksOk l room with
  | false => exact ⟨hourOf_bad hk, by simp [cancelB, hk]⟩
  | true =>
    have e : hourOf l room t = hourIn l t := by rw [hourOf, if_pos hk]
    rw [e] at hx
    rcases hourIn_cases l t with ⟨h1, h2⟩ | h1
    · exact ⟨by rw [e]; exact h1, by simp [cancelB, without_self h2]⟩
    · have := (books_of hk).2.1 _ h1
      have := win_t this.2
      simp at this
      omega
theorem hour_yes (hx : 0 ≤ hourOf l room t) : booksOk l room = true ∧ (t, hourOf l room t) ∈ l ∧ cancelB l room t = true := by
  cases hk : booksOk l room with
  | false => rw [hourOf_bad hk] at hx; omega
  | true =>
    have e : hourOf l room t = hourIn l t := by rw [hourOf, if_pos hk]
    rw [e] at hx ⊢
    rcases hourIn_cases l t with ⟨h1, h2⟩ | h1
    · omega
    · exact ⟨rfl, h1, by simp [cancelB, hk, without_less h1]⟩
/-- It stands in the list. -/
theorem mem_nth {p : Int × Int} (hm : p ∈ l) : ∃ i, i < l.length ∧ nth l i = p := by
  obtain ⟨i, hi, e⟩ := List.getElem_of_mem hm
  exact ⟨i, hi, by rw [nth_eq _ _ hi]; exact e⟩
theorem cancel_yes (hc : cancelB l room t = true) : booksOk l room = true ∧ cancelL l room t = without l t ∧ ∃ i, i < l.length ∧ (nth l i).1 = t ∧ hourOf l room t = (nth l i).2 ∧ (∀ j, j < l.length → j ≠ i → ¬ (nth l j).1 = t) := by
  simp only [cancelB, Bool.and_eq_true, decide_eq_true_eq] at hc
  obtain ⟨hk, hl⟩ := hc
  refine ⟨hk, by simp [cancelL, hk], ?_⟩
  unfold without at hl
  rw [List.length_filter_lt_length_iff_exists] at hl
  obtain ⟨p, hp, hpt⟩ := hl
  obtain ⟨i, hi, rfl⟩ := mem_nth hp
  have hpt : (nth l i).1 = t := by simpa using hpt
  have hs := asc_books hk
  refine ⟨i, hi, hpt, by rw [← hpt]; exact hourOf_mem hk hp, fun j hj hne e => ?_⟩
  rcases Nat.lt_or_ge j i with h1 | h1
  · have := hs j i h1 hi; omega
  · have := hs i j (by omega) hj; omega
/-- What was cancelled can be booked again. -/
theorem cancel_back (hc : cancelB l room t = true) :
    (without l t).length + 1 = l.length ∧ booksOk (without l t) room = true ∧ hourOf (without l t) room t = -1 ∧ bookB (without l t) room t (hourOf l room t) = true ∧ bookL (without l t) room t (hourOf l room t) = l := by
  obtain ⟨hk, _, i, hi, ht, hh, hn⟩ := cancel_yes hc
  have hs := asc_books hk
  have hw := without_at hi ht hn
  have hlen : (l.take i).length = i := by simp; omega
  have hkw := books_without hk t
  have hnone : ∀ p ∈ without l t, p.1 ≠ t := fun p hp => by
    have := (List.mem_filter.1 hp).2
    simpa using this
  have hww : without (without l t) t = without l t := without_self hnone
  have hc : CutAt (without (without l t) t) t i := by
    rw [hww, hw]
    refine ⟨by simp; omega, fun j hj => ?_, fun hl => ?_⟩
    · have e : nth (l.take i ++ l.drop (i + 1)) j = nth l j := by
        simp only [nth, List.getD]
        rw [List.getElem?_append_left (by omega), List.getElem?_take_of_lt hj]
      rw [e, ← ht]; exact hs j i hj hi
    · have e : nth (l.take i ++ l.drop (i + 1)) i = nth l (i + 1) := by
        simp only [nth, List.getD]
        rw [List.getElem?_append_right (by omega), hlen, Nat.sub_self, List.getElem?_drop, Nat.add_zero]
      have hl' : i + 1 < l.length := by simp at hl; omega
      have := hs i (i + 1) (by omega) hl'
      rw [e]; omega
  have hp : placeL (without l t) t (hourOf l room t) = l := by
    rw [placeL_at hc, hww, hw, List.take_append_of_le_length (by omega), List.drop_append_of_le_length (by omega), List.take_take, Nat.min_self, List.drop_eq_nil_of_le (by omega : (l.take i).length ≤ i), List.nil_append, hh, ← ht]
    have : l = l.take i ++ nth l i :: l.drop (i + 1) := by
      rw [nth_eq _ _ hi]
      have h1 := List.take_append_drop i l
      rw [List.drop_eq_getElem_cons hi] at h1
      exact h1.symm
    exact this.symm
  refine ⟨by rw [hw]; simp; omega, hkw, ?_, by simp [bookB, hkw, hp, hk], by simp [bookL, hkw, hp, hk]⟩
  rw [hourOf, if_pos hkw]
  rcases hourIn_cases (without l t) t with ⟨h1, _⟩ | h1
  · exact h1
  · exact absurd rfl (hnone _ h1)
theorem mem_place {p : Int × Int} (hm : p ∈ l) (hne : p.1 ≠ t) : p ∈ placeL l t h := by
  have h1 : p ∈ without l t := List.mem_filter.2 ⟨hm, by simpa using hne⟩
  unfold placeL
  rw [← List.take_append_drop (cutN (without l t) t) (without l t)] at h1
  rcases List.mem_append.1 h1 with h2 | h2
  · exact List.mem_append.2 (.inl h2)
  · exact List.mem_append.2 (.inr (List.mem_cons_of_mem _ h2))
theorem book_yes (hb : bookB l room t h = true) :
    bookL l room t h = placeL l t h ∧ booksOk (placeL l t h) room = true ∧ hourOf (placeL l t h) room t = h ∧ (∀ k, k < l.length → (nth l k).1 ≠ t → hourOf (placeL l t h) room (nth l k).1 = (nth l k).2) ∧ (placeL l t h).length ≤ l.length + 1 := by
  simp only [bookB, Bool.and_eq_true] at hb
  obtain ⟨h1, h2⟩ := hb
  refine ⟨by simp [bookL, h1, h2], h2, ?_, fun k hk hne => hourOf_mem h2 (mem_place (nth_mem l k hk) hne), length_placeL_le l t h⟩
  exact hourOf_mem (p := (t, h)) h2 (by simp [placeL])
theorem book_no (hb : bookB l room t h = false) : bookL l room t h = l ∨ bookL l room t h = [] := by
  unfold bookL
  split
  · rename_i h1
    have h2 : booksOk (placeL l t h) room = false := by
      cases e : booksOk (placeL l t h) room
      · rfl
      · simp [bookB, h1, e] at hb
    simp [h2]
  · exact .inr rfl
theorem cancel_no (hc : cancelB l room t = false) : cancelL l room t = l ∨ cancelL l room t = [] := by
  unfold cancelL
  split
  · rename_i h1
    simp only [cancelB, h1, Bool.true_and, decide_eq_false_iff_not] at hc
    left
    have h3 := length_without l t
    exact List.Sublist.eq_of_length List.filter_sublist (by unfold without at hc h3; unfold without; omega)
  · exact .inr rfl
end
end Go.Proofs.Ytnniogdnlcokmaa
