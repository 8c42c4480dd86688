/-
  More plain mathematics of rates and fees.
-/
import Derived.Test.YtaccnekicobhcaaFee
namespace Go.Proofs.Ytaccnekicobhcaa

theorem ratesOk_nil : ratesOk [] = false := by decide
theorem ratesOk_take {l : List (Int × Int)} (h : ratesOk l = true) (h2 : 2 ≤ l.length) : ratesOk (l.take (l.length - 1)) = true := by
  obtain ⟨h1, hl, h0⟩ := ratesOk_t h
  have hn : (l.take (l.length - 1)).length = l.length - 1 := by simp
  have e : ∀ k, k < l.length - 1 → nth (l.take (l.length - 1)) k = nth l k := fun k hk => nth_take l k _ hk
  rw [ratesOk_mk fun k hk => ?_, hn, win_mk (by omega) (by omega), e 0 (by omega), h0]
  · rfl
  · rw [hn] at hk
    obtain ⟨a, b, c⟩ := rOk_t (h1 k (by omega))
    exact rOk_mk (by rw [e k hk]; exact win_mk a.1 a.2) (by rw [e k hk]; exact win_mk b.1 b.2) fun h3 => by rw [e k hk, e (k - 1) (by omega)]; exact c h3
theorem ratesOk_drop {l : List (Int × Int)} (h : ratesOk l = true) (h2 : 2 ≤ l.length) : ratesOk (l.drop 1) = false := by
  obtain ⟨h1, hl, h0⟩ := ratesOk_t h
  have := rates_asc h (show 0 < 1 by omega) (by omega)
  refine ratesOk_first ?_
  have e : nth (l.drop 1) 0 = nth l 1 := by simp [nth, List.getD]
  rw [e]; omega
theorem rateV_pos {l : List (Int × Int)} {day : Int} (h : 0 ≤ rateV l day) : ratesOk l = true ∧ win day 0 99 = true := by
  unfold rateV at h
  split at h
  · rename_i h2; simpa using h2
  · omega
theorem rateV_neg {l : List (Int × Int)} {day : Int} (h : rateV l day < 0) : rateV l day = -1 := by
  unfold rateV at *
  split at h
  · rename_i h2
    have h3 : ratesOk l = true := by revert h2; cases ratesOk l <;> simp
    have := rateAt_bd h3 day
    omega
  · rename_i h2; rw [if_neg h2]
theorem feeOf_pos {l : List (Int × Int)} {free days : Int} (h : 0 ≤ feeOf l free days) : ratesOk l = true ∧ win free 0 99 = true ∧ win days 0 99 = true ∧ feeOf l free days = feeN l free days := by
  rcases feeOf_cases l free days with h1 | ⟨_, e⟩
  · exact h1
  · omega
theorem feeOf_neg {l : List (Int × Int)} {free days : Int} (h : feeOf l free days < 0) : feeOf l free days = -1 := by
  rcases feeOf_cases l free days with ⟨h1, h2, h3, e⟩ | ⟨_, e⟩
  · have := feeN_bd h1 (win_t h2).1 (win_t h3).2
    omega
  · exact e
theorem feeMore_neg {l : List (Int × Int)} {free before days : Int} (h : feeMore l free before days < 0) : feeMore l free before days = -1 := by
  unfold feeMore at *
  split at h
  · rename_i h2; rw [if_pos h2]
  · rename_i h2
    have h3 : ¬ days < before ∧ ¬ feeOf l free before < 0 ∧ ¬ feeOf l free days < 0 := by omega
    obtain ⟨r1, r2, r3, e1⟩ := feeOf_pos (Int.not_lt.1 h3.2.1)
    obtain ⟨_, _, _, e2⟩ := feeOf_pos (Int.not_lt.1 h3.2.2)
    have := feeN_mono r1 (free := free) (Int.not_lt.1 h3.1)
    omega
theorem feeMore_pos {l : List (Int × Int)} {free before days : Int} (h : 0 ≤ feeMore l free before days) : before ≤ days ∧ ratesOk l = true ∧ win free 0 99 = true ∧ (0 ≤ before ∧ before ≤ 99) ∧ (0 ≤ days ∧ days ≤ 99) ∧
    feeMore l free before days = feeN l free days - feeN l free before := by
  unfold feeMore at *
  split at h
  · omega
  · rename_i h2
    have h3 : ¬ days < before ∧ ¬ feeOf l free before < 0 ∧ ¬ feeOf l free days < 0 := by omega
    obtain ⟨r1, r2, r3, e1⟩ := feeOf_pos (Int.not_lt.1 h3.2.1)
    obtain ⟨_, _, r4, e2⟩ := feeOf_pos (Int.not_lt.1 h3.2.2)
    exact ⟨Int.not_lt.1 h3.1, r1, r2, win_t r3, win_t r4, by rw [if_neg h2, e1, e2]⟩
theorem feeMore_val {l : List (Int × Int)} {free before days : Int} (h1 : before ≤ days) (hr : ratesOk l = true) (hf : win free 0 99 = true) (hb : 0 ≤ before ∧ before ≤ 99) (hd : 0 ≤ days ∧ days ≤ 99) :
    feeMore l free before days = feeN l free days - feeN l free before := by
  have e1 := feeOf_t hr hf (win_mk hb.1 hb.2)
  have e2 := feeOf_t hr hf (win_mk hd.1 hd.2)
  have b1 := feeN_bd hr (win_t hf).1 hb.2
  have b2 := feeN_bd hr (win_t hf).1 hd.2
  rw [feeMore_yes (by omega) (by omega) (by omega), e1, e2]
theorem daysFor_pos {l : List (Int × Int)} {free sum : Int} (h : 0 ≤ daysFor l free sum) : ratesOk l = true ∧ win free 0 99 = true ∧ 0 ≤ sum ∧ daysFor l free sum = (dfDown l free sum 99 : Nat) := by
  unfold daysFor at *
  split at h
  · rename_i h2
    rw [if_pos h2]
    simp only [Bool.and_eq_true, decide_eq_true_eq] at h2
    exact ⟨h2.1.1, h2.1.2, h2.2, rfl⟩
  · omega
theorem daysFor_neg {l : List (Int × Int)} {free sum : Int} (h : daysFor l free sum < 0) : daysFor l free sum = -1 := by
  unfold daysFor at *
  split at h
  · omega
  · rename_i h2; rw [if_neg h2]
end Go.Proofs.Ytaccnekicobhcaa
