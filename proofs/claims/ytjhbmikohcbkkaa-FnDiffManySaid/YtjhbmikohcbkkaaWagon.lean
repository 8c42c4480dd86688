/-
  The plain mathematics of wagons. No program is named here. A wagon is a pair: its room, and what it bears.
-/
import Derived.Test.YtjhbmikohcbkkaaEnc
namespace Go.Proofs.Ytjhbmikohcbkkaa

def wagOk (l : List (Int × Int)) (k : Nat) : Bool := win (nth l k).1 1 3 && win (nth l k).2 1 90
def wagonsOk (l : List (Int × Int)) : Bool := (List.range l.length).all (wagOk l) && decide (l.length ≤ 6)
theorem wagOk_t {l : List (Int × Int)} {k : Nat} (h : wagOk l k = true) : (1 ≤ (nth l k).1 ∧ (nth l k).1 ≤ 3) ∧ (1 ≤ (nth l k).2 ∧ (nth l k).2 ≤ 90) := by
  simp only [wagOk, Bool.and_eq_true] at h
  exact ⟨win_t h.1, win_t h.2⟩
theorem wagOk_mk {l : List (Int × Int)} {k : Nat} (h1 : win (nth l k).1 1 3 = true) (h2 : win (nth l k).2 1 90 = true) : wagOk l k = true := by simp [wagOk, h1, h2]
theorem wagOk_f1 {l : List (Int × Int)} {k : Nat} (h : win (nth l k).1 1 3 = false) : wagOk l k = false := by simp [wagOk, h]
theorem wagOk_f2 {l : List (Int × Int)} {k : Nat} (h : win (nth l k).2 1 90 = false) : wagOk l k = false := by simp [wagOk, h]
theorem wagonsOk_no {l : List (Int × Int)} (k : Nat) (hk : k < l.length) (h : wagOk l k = false) : wagonsOk l = false := by
  have : (List.range l.length).all (wagOk l) = false := by
    rw [List.all_eq_false]; exact ⟨k, List.mem_range.2 hk, by simp [h]⟩
  simp [wagonsOk, this]
theorem wagonsOk_mk {l : List (Int × Int)} (h : ∀ k, k < l.length → wagOk l k = true) : wagonsOk l = decide ((l.length : Int) ≤ 6) := by
  have : (List.range l.length).all (wagOk l) = true := by
    rw [List.all_eq_true]; intro k hk; exact h k (List.mem_range.1 hk)
  simp [wagonsOk, this]; omega
theorem wagonsOk_t {l : List (Int × Int)} (h : wagonsOk l = true) : (∀ k, k < l.length → wagOk l k = true) ∧ l.length ≤ 6 := by
  simp only [wagonsOk, Bool.and_eq_true, decide_eq_true_eq, List.all_eq_true, List.mem_range] at h
  exact h
theorem wagonsOk_nil : wagonsOk [] = true := by decide
theorem wagonsOk_drop {l : List (Int × Int)} (h : wagonsOk l = true) (h0 : 0 < l.length) : wagonsOk (l.drop 1) = true := by
  obtain ⟨h1, h2⟩ := wagonsOk_t h
  have e : ∀ k, nth (l.drop 1) k = nth l (1 + k) := fun k => by rw [Nat.add_comm]; simp [nth, List.getD]
  rw [wagonsOk_mk fun k hk => ?_]
  · simp; omega
  · have := h1 (1 + k) (by simp at hk; omega)
    unfold wagOk at *
    rw [e]; exact this
theorem wagonsOk_snoc (l : List (Int × Int)) (p : Int × Int) (h : win p.1 1 3 = false) : wagonsOk (l ++ [p]) = false := by
  refine wagonsOk_no l.length (by simp) (wagOk_f1 ?_)
  have : nth (l ++ [p]) l.length = p := by simp [nth, List.getD]
  rw [this]; exact h
end Go.Proofs.Ytjhbmikohcbkkaa
