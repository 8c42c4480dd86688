/-
  Contracts: the order of tasks by a stable sort.
-/
import Derived.Test.YtpabfbaoibmnlaaCyB
namespace Go.Proofs.Ytpabfbaoibmnlaa
open Go.RowKit
set_option linter.unusedVariables false
set_option maxRecDepth 100000

theorem cmpT_neg (p q : Int × Int) : cmpT q p = - cmpT p q := by
  unfold cmpT; split <;> split <;> omega
theorem cmpT_trans {p q r : Int × Int} (h1 : cmpT p q ≤ 0) (h2 : cmpT q r ≤ 0) : cmpT p r ≤ 0 := by
  unfold cmpT at *
  split at h1 <;> split at h1 <;> split at h2 <;> split at h2 <;> (first | omega | (split <;> split <;> omega))
theorem cmpT_JL {p q : Int × Int} (h : cmpT p q ≤ 0) : JL p q := by
  unfold JL; unfold cmpT at h
  split at h <;> split at h <;> omega
def RL (l : List (Int × Int)) (a b : Int) : Prop := cmpT (nth l a.toNat) (nth l b.toNat) ≤ 0
def InsR (l : List (Int × Int)) (x : List Int) (k j : Nat) : Prop := ∀ p q, p < q → q ≤ k → q ≠ j → RL l (nth x p) (nth x q)
def Sor (l : List (Int × Int)) (x : List Int) (k : Nat) : Prop := ∀ p q, p < q → q < k → RL l (nth x p) (nth x q)
section
variable {l : List (Int × Int)} {x : List Int} {k j : Nat}
theorem ins_start (h : Sor l x k) : InsR l x k k := fun p q hpq hq hne => h p q hpq (by omega)
theorem ins_swap (h : InsR l x k j) (h0 : 0 < j) (hj : j ≤ k) (hk : k < x.length) (hlt : cmpT (nth l (nth x j).toNat) (nth l (nth x (j - 1)).toNat) < 0) : InsR l (swap x j (j - 1)) k (j - 1) := by
  intro p q hpq hq hne
  rw [swap_nth (by omega) (by omega), swap_nth (by omega) (by omega), if_neg hne]
  by_cases h1 : q = j
  · rw [if_pos h1]
    by_cases h2 : p = j - 1
    · rw [if_pos h2]; exact Int.le_of_lt hlt
    · rw [if_neg h2, if_neg (by omega)]; exact h p (j - 1) (by omega) (by omega) (by omega)
  · rw [if_neg h1]
    by_cases h2 : p = j - 1
    · rw [if_pos h2]; exact h j q (by omega) hq h1
    · rw [if_neg h2]
      by_cases h3 : p = j
      · rw [if_pos h3]; exact h (j - 1) q (by omega) hq h1
      · rw [if_neg h3]; exact h p q hpq hq h1
theorem ins_done (h : InsR l x k j) (hs : j = 0 ∨ ¬ cmpT (nth l (nth x j).toNat) (nth l (nth x (j - 1)).toNat) < 0) : Sor l x (k + 1) := by
  intro p q hpq hq
  by_cases e : q = j
  · subst e
    rcases hs with h0 | h1
    · omega
    · have h2 : RL l (nth x (q - 1)) (nth x q) := by unfold RL; rw [cmpT_neg]; omega
      by_cases h3 : p = q - 1
      · rw [h3]; exact h2
      · exact cmpT_trans (h p (q - 1) (by omega) (by omega) (by omega)) h2
  · exact h p q hpq (by omega) e
theorem sor_good (hp : isPerm x l.length = true) (h : Sor l x l.length) : Good l x := by
  refine ⟨hp, ?_⟩
  have hl := (isPerm_t hp).2
  rw [pickT, List.pairwise_map, List.pairwise_iff_getElem]
  intro i j hi hj hij
  have := h i j hij (by omega)
  rw [nth_eq x i hi, nth_eq x j hj] at this
  exact cmpT_JL this
end

/-- The box that the compare function reads, and the tasks behind it. -/
def CmpBox (w : World) (cb : Nat) (A : Option Addr) (c : Nat) (l : List (Int × Int)) : Prop :=
  w.heap[cb]? = some (.cells #[.slice A l.length c] 41 (0, 0)) ∧ Rd encP w A l
theorem CmpBox.below {w w' : World} {cb : Nat} {A : Option Addr} {c : Nat} {l : List (Int × Int)} (h : CmpBox w cb A c l) (hb : Below w.heap.size w w') : CmpBox w' cb A c l :=
  ⟨(hb.block cb (Array.getElem?_eq_some_iff.1 h.1).1).trans h.1, h.2.below hb⟩

set_option maxHeartbeats 2000000 in
theorem cmpAt_any (cb : Nat) (A : Option Addr) (c : Nat) (l : List (Int × Int)) (i j : Nat) (w : World) (h : CmpBox w cb A c l) (ht : tasksOk l = true) (hi : i < l.length) (hj : j < l.length) :
    Calls Try.prog 69 #[vi i, vi j, .pointer (some ⟨cb, 0, none⟩)] w fun e w' => e = .returned (vi (cmpT (nth l i) (nth l j))) ∧ Below w.heap.size w w' := by
  have hl6 := (tasksOk_t ht).2
  have HC := Lib.hid (fun x : Past w => compareTasks_any (nth l i) (nth l j) x.val (tOk_t ((tasksOk_t ht).1 i hi)) (tOk_t ((tasksOk_t ht).1 j hj)))
  obtain ⟨hcb, hr⟩ := h
  have co := cell_of_row w cb 0 _ _ _ hcb
  simp only [List.getElem?_toArray, List.getElem?_cons_zero] at co
  obtain ⟨b, o, rfl, hbl, _⟩ := hr (by omega)
  obtain ⟨hc1, hc2⟩ := hr.at2 i hi
  obtain ⟨hc3, hc4⟩ := hr.at2 j hj
  have q0 := Past.cell co
  have q1 := Past.cell hc1
  have q2 := Past.cell hc2
  have q3 := Past.cell hc3
  have q4 := Past.cell hc4
  clear hcb hr co hc1 hc2 hc3 hc4 ht
  go_enter Try.func69, Try.ntmps69
  go_wp2
  refine wp_region_past (by kernel_rfl) (by kernel_rfl) ?_
  repeat (go_big_quiet_step ((go_at_call 70; exact past_call (HC.out _))))
  refine wpQuiet_nil ?_
  rintro ⟨w2, hb2⟩
  simp only
  go_wp2
  go_ret
  exact ⟨rfl, hb2⟩
end Go.Proofs.Ytpabfbaoibmnlaa
