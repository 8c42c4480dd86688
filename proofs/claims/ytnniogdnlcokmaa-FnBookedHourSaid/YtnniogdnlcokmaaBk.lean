/-
  The plain mathematics of bookings: pairs (truck, hour). No program is named here.
-/
import Derived.Test.YtnniogdnlcokmaaEnc
import Derived.Test.YtnniogdnlcokmaaBase
namespace Go.Proofs.Ytnniogdnlcokmaa

/-- How many bookings are for an hour. -/
def many (l : List (Int × Int)) (h : Int) : Nat := l.countP fun p => p.2 == h
theorem many_zero (l : List (Int × Int)) (h : Int) : many (l.take 0) h = 0 := by simp [many]
theorem many_yes (l : List (Int × Int)) (h : Int) (k : Nat) (hk : k < l.length) (e : (nth l k).2 = h) : many (l.take (k + 1)) h = many (l.take k) h + 1 := by
  rw [take_snoc l k hk]; simp [many, List.countP_append, e]
theorem many_no (l : List (Int × Int)) (h : Int) (k : Nat) (hk : k < l.length) (e : ¬ (nth l k).2 = h) : many (l.take (k + 1)) h = many (l.take k) h := by
  rw [take_snoc l k hk]; simp [many, List.countP_append, e]
theorem many_le (l : List (Int × Int)) (h : Int) (k : Nat) : many (l.take k) h ≤ k := Nat.le_trans (List.countP_le_length) (List.length_take_le _ _)
theorem many_none (l : List (Int × Int)) (h : Int) (hn : ∀ k, k < l.length → ¬ (nth l k).2 = h) : many l h = 0 := by
  unfold many
  rw [List.countP_eq_zero]
  intro p hp
  obtain ⟨k, hk, rfl⟩ := List.getElem_of_mem hp
  have := hn k hk
  rw [nth_eq _ _ hk] at this
  simpa using this

def bkOk (l : List (Int × Int)) (k : Nat) : Bool := win (nth l k).1 0 99 && win (nth l k).2 0 23 && !(decide (0 < k) && decide ((nth l k).1 ≤ (nth l (k - 1)).1))
/-- No hour has more than the room. -/
def roomy (l : List (Int × Int)) (room : Int) : Bool := (List.range l.length).all fun k => decide ((many l (nth l k).2 : Int) ≤ room)
def booksOk (l : List (Int × Int)) (room : Int) : Bool :=
  (List.range l.length).all (bkOk l) && (decide (l.length ≤ 10) && win room 1 3) && roomy l room
section
variable {l : List (Int × Int)} {k : Nat} {room : Int}
theorem bkOk_f1 (h : win (nth l k).1 0 99 = false) : bkOk l k = false := by simp [bkOk, h]
theorem bkOk_f2 (h : win (nth l k).2 0 23 = false) : bkOk l k = false := by simp [bkOk, h]
theorem bkOk_f3 (hk : 0 < k) (h : (nth l k).1 ≤ (nth l (k - 1)).1) : bkOk l k = false := by simp [bkOk, hk, h]
theorem bkOk_mk (h1 : win (nth l k).1 0 99 = true) (h2 : win (nth l k).2 0 23 = true) (h3 : 0 < k → ¬ (nth l k).1 ≤ (nth l (k - 1)).1) : bkOk l k = true := by
  simp only [bkOk, h1, h2, Bool.true_and, Bool.not_eq_true', Bool.and_eq_false_iff, decide_eq_false_iff_not]
  by_cases hk : 0 < k
  · exact .inr (h3 hk)
  · exact .inl hk
theorem bkOk_t (h : bkOk l k = true) : win (nth l k).1 0 99 = true ∧ win (nth l k).2 0 23 = true ∧ (0 < k → ¬ (nth l k).1 ≤ (nth l (k - 1)).1) := by
  simp only [bkOk, Bool.and_eq_true, Bool.not_eq_true', Bool.and_eq_false_iff, decide_eq_false_iff_not] at h
  exact ⟨h.1.1, h.1.2, fun hk => h.2.resolve_left (by omega)⟩
theorem booksOk_no (hk : k < l.length) (h : bkOk l k = false) : booksOk l room = false := by
  have : (List.range l.length).all (bkOk l) = false := by
    rw [List.all_eq_false]; exact ⟨k, List.mem_range.2 hk, by simp [h]⟩
  simp [booksOk, this]
theorem roomy_no (hk : k < l.length) (h : room < (many l (nth l k).2 : Int)) : booksOk l room = false := by
  have : roomy l room = false := by
    unfold roomy
    rw [List.all_eq_false]; exact ⟨k, List.mem_range.2 hk, by simpa using h⟩
  simp [booksOk, this]
theorem booksOk_mk (h1 : ∀ k, k < l.length → bkOk l k = true) : booksOk l room = ((decide ((l.length : Int) ≤ 10) && win room 1 3) && roomy l room) := by
  have e1 : (List.range l.length).all (bkOk l) = true := by
    rw [List.all_eq_true]; intro k hk; exact h1 k (List.mem_range.1 hk)
  simp only [booksOk, e1, Bool.true_and]
  congr 2
  rw [decide_eq_decide]; omega
theorem roomy_mk (h : ∀ k, k < l.length → (many l (nth l k).2 : Int) ≤ room) : roomy l room = true := by
  unfold roomy
  rw [List.all_eq_true]; intro k hk; simp; have := h k (List.mem_range.1 hk); omega
theorem booksOk_t (h : booksOk l room = true) : (∀ k, k < l.length → bkOk l k = true) ∧ l.length ≤ 10 ∧ win room 1 3 = true ∧ ∀ k, k < l.length → (many l (nth l k).2 : Int) ≤ room := by
  simp only [booksOk, roomy, Bool.and_eq_true, List.all_eq_true, List.mem_range, decide_eq_true_eq] at h
  exact ⟨h.1.1, h.1.2.1, h.1.2.2, h.2⟩

/-- What is counted after the first k. -/
def cnts (l : List (Int × Int)) (k : Nat) : List Int := (List.range 24).map fun (h : Nat) => (many (l.take k) (h : Int) : Int)
theorem cnts_length (l : List (Int × Int)) (k : Nat) : (cnts l k).length = 24 := by simp [cnts]
theorem cnts_nth (l : List (Int × Int)) (k j : Nat) (hj : j < 24) : nth (cnts l k) j = (many (l.take k) (j : Int) : Int) := by
  rw [nth_eq _ _ (by simpa [cnts] using hj)]; simp [cnts]
theorem cnts_zero (l : List (Int × Int)) : cnts l 0 = List.replicate 24 0 := by
  apply List.ext_getElem?
  intro j
  rcases Nat.lt_or_ge j 24 with h | h
  · rw [List.getElem?_replicate, if_pos h]
    simp [cnts, h, many]
  · simp [cnts, h]
theorem cnts_step (l : List (Int × Int)) (k j : Nat) (hk : k < l.length) (hj : j < 24) (e : (nth l k).2 = (j : Int)) : (cnts l k).set j (nth (cnts l k) j + 1) = cnts l (k + 1) := by
  apply List.ext_getElem?
  intro i
  rw [List.getElem?_set]
  rcases Nat.lt_or_ge i 24 with h | h
  · by_cases hij : j = i
    · subst hij
      rw [if_pos rfl, if_pos (by rw [cnts_length]; exact h), cnts_nth _ _ _ h]
      simp [cnts, h, many_yes l j k hk e]
    · rw [if_neg hij]
      have hne : ¬ (nth l k).2 = (i : Int) := by rw [e]; omega
      simp [cnts, h, many_no l i k hk hne]
  · rw [List.getElem?_eq_none (by rw [cnts_length]; exact h), List.getElem?_eq_none (by rw [cnts_length]; exact h)]
    split
    · rename_i h2; subst h2; rw [if_neg (by rw [cnts_length]; omega)]
    · rfl
/-- The greatest of the first k + 1. -/
def mx (l : List Int) : Nat → Int
  | 0 => nth l 0
  | k + 1 => if mx l k < nth l (k + 1) then nth l (k + 1) else mx l k
theorem mx_le {l : List Int} {n : Nat} {r : Int} : mx l n ≤ r ↔ ∀ k, k ≤ n → nth l k ≤ r := by
  induction n with
  | zero => exact ⟨fun h k hk => by obtain rfl : k = 0 := by omega
                                    exact h, fun h => h 0 (by omega)⟩
  | succ n ih =>
    have e : mx l (n + 1) ≤ r ↔ mx l n ≤ r ∧ nth l (n + 1) ≤ r := by
      simp only [mx]; split <;> omega
    rw [e, ih]
    exact ⟨fun h k hk => by
      rcases Nat.lt_or_ge k (n + 1) with h1 | h1
      · exact h.1 k (by omega)
      · obtain rfl : k = n + 1 := by omega
        exact h.2, fun h => ⟨fun k hk => h k (by omega), h _ (by omega)⟩⟩
/-- The counts tell what the law says. -/
theorem mx_roomy (h1 : ∀ k, k < l.length → bkOk l k = true) (hr : 0 ≤ room) : decide (mx (cnts l l.length) 23 ≤ room) = roomy l room := by
  unfold roomy
  rw [Bool.eq_iff_iff, decide_eq_true_eq, mx_le, List.all_eq_true]
  constructor
  · intro h k hk
    have hk := List.mem_range.1 hk
    obtain ⟨_, hw, _⟩ := bkOk_t (h1 k hk)
    simp [win] at hw
    have := h (nth l k).2.toNat (by omega)
    rw [cnts_nth _ _ _ (by omega), List.take_length, Int.toNat_of_nonneg hw.1] at this
    simpa using this
  · intro h j hj
    rw [cnts_nth _ _ _ (by omega), List.take_length]
    by_cases hx : ∃ k, k < l.length ∧ (nth l k).2 = (j : Int)
    · obtain ⟨k, hk, e⟩ := hx
      have := h k (List.mem_range.2 hk)
      rw [e] at this
      simpa using this
    · rw [many_none l j (fun k hk e => hx ⟨k, hk, e⟩)]; simpa using hr
end
end Go.Proofs.Ytnniogdnlcokmaa
