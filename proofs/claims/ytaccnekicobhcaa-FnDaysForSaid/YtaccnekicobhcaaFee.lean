/-
  The plain mathematics of rates and fees. No program is named here. A rate is a pair: from which day on, and its price.
-/
import Derived.Test.YtaccnekicobhcaaEnc
namespace Go.Proofs.Ytaccnekicobhcaa

def rOk (l : List (Int × Int)) (k : Nat) : Bool := win (nth l k).1 0 99 && win (nth l k).2 0 99 && (decide (k = 0) || decide ((nth l (k - 1)).1 < (nth l k).1))
def ratesOk (l : List (Int × Int)) : Bool := (List.range l.length).all (rOk l) && win l.length 1 5 && decide ((nth l 0).1 = 0)

theorem rOk_t {l : List (Int × Int)} {k : Nat} (h : rOk l k = true) : (0 ≤ (nth l k).1 ∧ (nth l k).1 ≤ 99) ∧ (0 ≤ (nth l k).2 ∧ (nth l k).2 ≤ 99) ∧ (0 < k → (nth l (k - 1)).1 < (nth l k).1) := by
  simp only [rOk, Bool.and_eq_true, Bool.or_eq_true, decide_eq_true_eq] at h
  exact ⟨win_t h.1.1, win_t h.1.2, fun hk => by rcases h.2 with h | h <;> omega⟩
theorem rOk_mk {l : List (Int × Int)} {k : Nat} (h1 : win (nth l k).1 0 99 = true) (h2 : win (nth l k).2 0 99 = true) (h3 : 0 < k → (nth l (k - 1)).1 < (nth l k).1) : rOk l k = true := by
  simp only [rOk, Bool.and_eq_true, Bool.or_eq_true, decide_eq_true_eq]
  exact ⟨⟨h1, h2⟩, by
    rcases Nat.eq_zero_or_pos k with h | h
    · exact .inl h
    · exact .inr (h3 h)⟩
theorem rOk_f1 {l : List (Int × Int)} {k : Nat} (h : win (nth l k).1 0 99 = false) : rOk l k = false := by simp [rOk, h]
theorem rOk_f2 {l : List (Int × Int)} {k : Nat} (h : win (nth l k).2 0 99 = false) : rOk l k = false := by simp [rOk, h]
theorem rOk_f3 {l : List (Int × Int)} {k : Nat} (hk : 0 < k) (h : (nth l k).1 ≤ (nth l (k - 1)).1) : rOk l k = false := by
  simp only [rOk, Bool.and_eq_false_iff, Bool.or_eq_false_iff, decide_eq_false_iff_not]; right; omega
theorem ratesOk_no {l : List (Int × Int)} (k : Nat) (hk : k < l.length) (h : rOk l k = false) : ratesOk l = false := by
  have : (List.range l.length).all (rOk l) = false := by
    rw [List.all_eq_false]; exact ⟨k, List.mem_range.2 hk, by simp [h]⟩
  simp [ratesOk, this]
theorem ratesOk_first {l : List (Int × Int)} (h : (nth l 0).1 ≠ 0) : ratesOk l = false := by simp [ratesOk, h]
theorem ratesOk_mk {l : List (Int × Int)} (h : ∀ k, k < l.length → rOk l k = true) : ratesOk l = (win l.length 1 5 && decide ((nth l 0).1 = 0)) := by
  have : (List.range l.length).all (rOk l) = true := by
    rw [List.all_eq_true]; intro k hk; exact h k (List.mem_range.1 hk)
  simp [ratesOk, this]
theorem ratesOk_t {l : List (Int × Int)} (h : ratesOk l = true) : (∀ k, k < l.length → rOk l k = true) ∧ (1 ≤ l.length ∧ l.length ≤ 5) ∧ (nth l 0).1 = 0 := by
  simp only [ratesOk, Bool.and_eq_true, decide_eq_true_eq, List.all_eq_true, List.mem_range] at h
  have := win_t h.1.2
  exact ⟨h.1.1, by omega, h.2⟩
theorem rates_asc {l : List (Int × Int)} (h : ratesOk l = true) {i j : Nat} (hij : i < j) (hj : j < l.length) : (nth l i).1 < (nth l j).1 := by
  induction j with
  | zero => omega
  | succ j ih =>
    have h1 := (rOk_t ((ratesOk_t h).1 (j + 1) hj)).2.2 (by omega)
    rw [Nat.add_sub_cancel] at h1
    rcases Nat.lt_succ_iff_lt_or_eq.1 hij with h2 | h2
    · have := ih h2 (by omega); omega
    · subst h2; exact h1

def rateTo (l : List (Int × Int)) (day : Int) : Nat → Int
  | 0 => 0
  | k + 1 => if (nth l k).1 ≤ day then (nth l k).2 else rateTo l day k
def rateAt (l : List (Int × Int)) (day : Int) : Int := rateTo l day l.length
theorem rateTo_yes {l : List (Int × Int)} {day : Int} {k : Nat} (h : (nth l k).1 ≤ day) : rateTo l day (k + 1) = (nth l k).2 := by simp [rateTo, h]
theorem rateTo_nope {l : List (Int × Int)} {day : Int} {k : Nat} (h : ¬ (nth l k).1 ≤ day) : rateTo l day (k + 1) = rateTo l day k := by simp [rateTo, h]
theorem rateTo_stop {l : List (Int × Int)} {day : Int} (h : ratesOk l = true) {k : Nat} (hd : day < (nth l k).1) : ∀ m, k ≤ m → m ≤ l.length → rateTo l day m = rateTo l day k := by
  intro m
  induction m with
  | zero => intro h1 _; obtain rfl : k = 0 := by omega
            rfl
  | succ m ih =>
    intro h1 h2
    rcases Nat.eq_or_lt_of_le h1 with e | e
    · rw [e]
    · rw [rateTo_nope, ih (by omega) (by omega)]
      rcases Nat.eq_or_lt_of_le (show k ≤ m by omega) with e2 | e2
      · rw [← e2]; omega
      · have := rates_asc h e2 (by omega); omega
theorem rateTo_bd {l : List (Int × Int)} {day : Int} (h : ratesOk l = true) : ∀ m, m ≤ l.length → 0 ≤ rateTo l day m ∧ rateTo l day m ≤ 99 := by
  intro m
  induction m with
  | zero => intro _; simp [rateTo]
  | succ m ih =>
    intro h1
    have := (rOk_t ((ratesOk_t h).1 m (by omega))).2.1
    unfold rateTo
    split
    · exact this
    · exact ih (by omega)
theorem rateAt_bd {l : List (Int × Int)} (h : ratesOk l = true) (day : Int) : 0 ≤ rateAt l day ∧ rateAt l day ≤ 99 := rateTo_bd h _ (Nat.le_refl _)
/-- The rate that begins with the day. -/
theorem rateAt_begins {l : List (Int × Int)} (h : ratesOk l = true) (k : Nat) (hk : k < l.length) : rateAt l (nth l k).1 = (nth l k).2 := by
  have h1 : rateTo l (nth l k).1 (k + 1) = (nth l k).2 := rateTo_yes (Int.le_refl _)
  rw [← h1]
  rcases Nat.eq_or_lt_of_le (show k + 1 ≤ l.length from hk) with e | e
  · unfold rateAt; rw [← e]
  · exact rateTo_stop h (rates_asc h (Nat.lt_succ_self k) e) _ hk (Nat.le_refl _)
/-- No rate begins with the day. -/
theorem rateAt_goes {l : List (Int × Int)} (day : Int) (hn : ∀ k, k < l.length → (nth l k).1 ≠ day) : rateAt l (day - 1) = rateAt l day := by
  unfold rateAt
  have key : ∀ m, m ≤ l.length → rateTo l (day - 1) m = rateTo l day m := by
    intro m
    induction m with
    | zero => intro _; rfl
    | succ m ih =>
      intro h1
      have := hn m (by omega)
      by_cases hd : (nth l m).1 ≤ day
      · rw [rateTo_yes hd, rateTo_yes (by omega)]
      · rw [rateTo_nope hd, rateTo_nope (by omega), ih (by omega)]
  exact key _ (Nat.le_refl _)

def rateV (l : List (Int × Int)) (day : Int) : Int := if (ratesOk l && win day 0 99) = true then rateAt l day else -1
theorem rateV_t {l : List (Int × Int)} {day : Int} (h : ratesOk l = true) (h2 : win day 0 99 = true) : rateV l day = rateAt l day := by simp [rateV, h, h2]
theorem rateV_f1 {l : List (Int × Int)} {day : Int} (h : ratesOk l = false) : rateV l day = -1 := by simp [rateV, h]
theorem rateV_f2 {l : List (Int × Int)} {day : Int} (h : win day 0 99 = false) : rateV l day = -1 := by simp [rateV, h]

/-! ### Fees -/
def feeSum (l : List (Int × Int)) : Nat → Int
  | 0 => 0
  | n + 1 => feeSum l n + rateAt l n
theorem feeSum_bd {l : List (Int × Int)} (h : ratesOk l = true) (n : Nat) : 0 ≤ feeSum l n ∧ feeSum l n ≤ 99 * n := by
  induction n with
  | zero => simp [feeSum]
  | succ n ih => have := rateAt_bd h n; unfold feeSum; omega
theorem feeSum_mono {l : List (Int × Int)} (h : ratesOk l = true) {m n : Nat} (hmn : m ≤ n) : feeSum l m ≤ feeSum l n := by
  induction n with
  | zero => obtain rfl : m = 0 := by omega
            exact Int.le_refl _
  | succ n ih =>
    rcases Nat.eq_or_lt_of_le hmn with e | e
    · rw [e]; exact Int.le_refl _
    · have := ih (by omega); have := rateAt_bd h n
      have e2 : feeSum l (n + 1) = feeSum l n + rateAt l n := rfl
      omega
/-- The sum for so many days, when some are free. -/
def feeN (l : List (Int × Int)) (free days : Int) : Int := feeSum l (days - free).toNat
def feeOf (l : List (Int × Int)) (free days : Int) : Int := if (ratesOk l && win free 0 99 && win days 0 99) = true then feeN l free days else -1
theorem feeOf_t {l : List (Int × Int)} {free days : Int} (h : ratesOk l = true) (h2 : win free 0 99 = true) (h3 : win days 0 99 = true) : feeOf l free days = feeN l free days := by simp [feeOf, h, h2, h3]
theorem feeOf_f1 {l : List (Int × Int)} {free days : Int} (h : ratesOk l = false) : feeOf l free days = -1 := by simp [feeOf, h]
theorem feeOf_f2 {l : List (Int × Int)} {free days : Int} (h : win free 0 99 = false) : feeOf l free days = -1 := by simp [feeOf, h]
theorem feeOf_f3 {l : List (Int × Int)} {free days : Int} (h : win days 0 99 = false) : feeOf l free days = -1 := by simp [feeOf, h]
theorem feeN_bd {l : List (Int × Int)} (h : ratesOk l = true) {free days : Int} (h2 : 0 ≤ free) (h3 : days ≤ 99) : 0 ≤ feeN l free days ∧ feeN l free days ≤ 9801 := by
  have := feeSum_bd h (days - free).toNat
  unfold feeN; omega
theorem feeN_mono {l : List (Int × Int)} (h : ratesOk l = true) {free d1 d2 : Int} (hd : d1 ≤ d2) : feeN l free d1 ≤ feeN l free d2 := feeSum_mono h (by omega)
theorem feeN_free {l : List (Int × Int)} (h : ratesOk l = true) {f1 f2 days : Int} (hd : f1 ≤ f2) : feeN l f2 days ≤ feeN l f1 days := feeSum_mono h (by omega)
theorem feeN_none {l : List (Int × Int)} {free days : Int} (h : days ≤ free) : feeN l free days = 0 := by
  unfold feeN; rw [show (days - free).toNat = 0 by omega]; rfl
theorem feeOf_cases (l : List (Int × Int)) (free days : Int) : (ratesOk l = true ∧ win free 0 99 = true ∧ win days 0 99 = true ∧ feeOf l free days = feeN l free days) ∨
    ((ratesOk l = false ∨ win free 0 99 = false ∨ win days 0 99 = false) ∧ feeOf l free days = -1) := by
  cases h1 : ratesOk l with
  | false => exact .inr ⟨.inl rfl, feeOf_f1 h1⟩
  | true =>
    cases h2 : win free 0 99 with
    | false => exact .inr ⟨.inr (.inl rfl), feeOf_f2 h2⟩
    | true =>
      cases h3 : win days 0 99 with
      | false => exact .inr ⟨.inr (.inr rfl), feeOf_f3 h3⟩
      | true => exact .inl ⟨rfl, rfl, rfl, feeOf_t h1 h2 h3⟩
theorem feeOf_bd (l : List (Int × Int)) (free days : Int) : -1 ≤ feeOf l free days ∧ feeOf l free days ≤ 9801 := by
  rcases feeOf_cases l free days with ⟨h1, h2, h3, e⟩ | ⟨_, e⟩
  · have := feeN_bd h1 (win_t h2).1 (win_t h3).2
    omega
  · omega

def feeMore (l : List (Int × Int)) (free before days : Int) : Int :=
  if days < before ∨ feeOf l free before < 0 ∨ feeOf l free days < 0 then -1 else feeOf l free days - feeOf l free before
theorem feeMore_no {l : List (Int × Int)} {free before days : Int} (h : days < before ∨ feeOf l free before < 0 ∨ feeOf l free days < 0) : feeMore l free before days = -1 := if_pos h
theorem feeMore_yes {l : List (Int × Int)} {free before days : Int} (h1 : ¬ days < before) (h2 : ¬ feeOf l free before < 0) (h3 : ¬ feeOf l free days < 0) :
    feeMore l free before days = feeOf l free days - feeOf l free before := if_neg (by omega)

/-- The greatest number of days up to n for which the fee is at most a sum. -/
def dfDown (l : List (Int × Int)) (free sum : Int) : Nat → Nat
  | 0 => 0
  | n + 1 => if sum < feeN l free ((n + 1 : Nat) : Int) then dfDown l free sum n else n + 1
theorem dfDown_spec (l : List (Int × Int)) (free sum : Int) (d : Nat) (h1 : d = 0 ∨ feeN l free (d : Int) ≤ sum) : ∀ n, d ≤ n → (∀ k, d < k → k ≤ n → sum < feeN l free (k : Int)) → dfDown l free sum n = d := by
  intro n
  induction n with
  | zero => intro h _; obtain rfl : d = 0 := by omega
            rfl
  | succ n ih =>
    intro h2 h3
    unfold dfDown
    rcases Nat.eq_or_lt_of_le h2 with e | e
    · rw [if_neg (by
        rcases h1 with h | h
        · omega
        · rw [← e]; omega), e]
    · rw [if_pos (h3 (n + 1) e (Nat.le_refl _))]
      exact ih (by omega) fun k hk hk2 => h3 k hk (by omega)
def daysFor (l : List (Int × Int)) (free sum : Int) : Int := if (ratesOk l && win free 0 99 && decide (0 ≤ sum)) = true then (dfDown l free sum 99 : Nat) else -1
theorem daysFor_t {l : List (Int × Int)} {free sum : Int} (h : ratesOk l = true) (h2 : win free 0 99 = true) (h3 : 0 ≤ sum) : daysFor l free sum = (dfDown l free sum 99 : Nat) := by simp [daysFor, h, h2, h3]
theorem daysFor_f1 {l : List (Int × Int)} {free sum : Int} (h : ratesOk l = false) : daysFor l free sum = -1 := by simp [daysFor, h]
theorem daysFor_f2 {l : List (Int × Int)} {free sum : Int} (h : win free 0 99 = false) : daysFor l free sum = -1 := by simp [daysFor, h]
theorem daysFor_f3 {l : List (Int × Int)} {free sum : Int} (h : sum < 0) : daysFor l free sum = -1 := by
  unfold daysFor; rw [if_neg]; simp; omega
theorem dfDown_facts {l : List (Int × Int)} (free sum : Int) (h0 : 0 ≤ sum) (hz : 0 ≤ free) (n : Nat) : dfDown l free sum n ≤ n ∧ feeN l free (dfDown l free sum n : Nat) ≤ sum ∧ ∀ k, dfDown l free sum n < k → k ≤ n → sum < feeN l free (k : Int) := by
  induction n with
  | zero => exact ⟨Nat.le_refl _, by unfold dfDown; rw [feeN_none (by omega)]; exact h0, fun k h1 h2 => by omega⟩
  | succ n ih =>
    unfold dfDown
    split
    · rename_i h
      refine ⟨by omega, ih.2.1, fun k h1 h2 => ?_⟩
      rcases Nat.eq_or_lt_of_le h2 with e | e
      · rw [e]; exact h
      · exact ih.2.2 k h1 (by omega)
    · exact ⟨Nat.le_refl _, by omega, fun k h1 h2 => by omega⟩
theorem dfDown_free {l : List (Int × Int)} (free sum : Int) (h0 : 0 ≤ sum) (hz : 0 ≤ free) (hf : free ≤ 99) : free ≤ (dfDown l free sum 99 : Nat) := by
  obtain ⟨h1, h2, h3⟩ := dfDown_facts (l := l) free sum h0 hz 99
  refine Int.not_lt.1 fun hc => ?_
  have := h3 free.toNat (by omega) (by omega)
  rw [feeN_none (by omega)] at this
  omega
end Go.Proofs.Ytaccnekicobhcaa
