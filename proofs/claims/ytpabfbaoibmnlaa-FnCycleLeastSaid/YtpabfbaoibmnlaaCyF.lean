/-
  The plain mathematics of the order that is told by counting. No program is named here.
-/
import Derived.Test.YtpabfbaoibmnlaaCyE
namespace Go.Proofs.Ytpabfbaoibmnlaa

/-- Those of the first i that go first and need t for it. -/
def frK (l : List (Int × Int)) (t : Int) (i : Nat) : List Int := (ups i).filter fun k => decide ((nth l k.toNat).1 < (nth l k.toNat).2) && ((nth l k.toNat).1 == t)
def frT (l : List (Int × Int)) (n : Nat) : List Int := (List.range n).flatMap fun (t : Nat) => frK l (t : Int) l.length
def bkK (l : List (Int × Int)) (t : Int) (i : Nat) : List Int := (ups i).filter fun k => decide ((nth l k.toNat).2 ≤ (nth l k.toNat).1) && ((nth l k.toNat).2 == t)
def bkT (l : List (Int × Int)) (n : Nat) : List Int := (List.range n).flatMap fun (t : Nat) => bkK l (99 - (t : Int)) l.length
section
variable {l : List (Int × Int)} {t : Int} {i : Nat}
theorem ups_snoc (n : Nat) : ups (n + 1) = ups n ++ [(n : Int)] := by simp [ups, List.range_succ]
theorem frK_zero : frK l t 0 = [] := by simp [frK, ups]
theorem bkK_zero : bkK l t 0 = [] := by simp [bkK, ups]
theorem frK_yes (h1 : (nth l i).1 < (nth l i).2) (h2 : (nth l i).1 = t) : frK l t (i + 1) = frK l t i ++ [(i : Int)] := by
  have : ((nth l i).1 == t) = true := by simp [h2]
  simp only [frK, ups_snoc, List.filter_append, List.filter_cons, Int.toNat_natCast, h1, this]; simp
theorem frK_n1 (h1 : ¬ (nth l i).1 < (nth l i).2) : frK l t (i + 1) = frK l t i := by
  simp only [frK, ups_snoc, List.filter_append, List.filter_cons, Int.toNat_natCast, h1, decide_false, Bool.false_and]; simp
theorem frK_n2 (h2 : ¬ (nth l i).1 = t) : frK l t (i + 1) = frK l t i := by
  have : ((nth l i).1 == t) = false := beq_false_of_ne h2
  simp only [frK, ups_snoc, List.filter_append, List.filter_cons, Int.toNat_natCast, this, Bool.and_false]; simp
theorem bkK_yes (h1 : (nth l i).2 ≤ (nth l i).1) (h2 : (nth l i).2 = t) : bkK l t (i + 1) = bkK l t i ++ [(i : Int)] := by
  have : ((nth l i).2 == t) = true := by simp [h2]
  simp only [bkK, ups_snoc, List.filter_append, List.filter_cons, Int.toNat_natCast, h1, this]; simp
theorem bkK_n1 (h1 : ¬ (nth l i).2 ≤ (nth l i).1) : bkK l t (i + 1) = bkK l t i := by
  simp only [bkK, ups_snoc, List.filter_append, List.filter_cons, Int.toNat_natCast, h1, decide_false, Bool.false_and]; simp
theorem bkK_n2 (h2 : ¬ (nth l i).2 = t) : bkK l t (i + 1) = bkK l t i := by
  have : ((nth l i).2 == t) = false := beq_false_of_ne h2
  simp only [bkK, ups_snoc, List.filter_append, List.filter_cons, Int.toNat_natCast, this, Bool.and_false]; simp
theorem frT_zero : frT l 0 = [] := by simp [frT]
theorem bkT_zero : bkT l 0 = [] := by simp [bkT]
theorem frT_succ (n : Nat) : frT l (n + 1) = frT l n ++ frK l (n : Int) l.length := by simp [frT, List.range_succ]
theorem bkT_succ (n : Nat) : bkT l (n + 1) = bkT l n ++ bkK l (99 - (n : Int)) l.length := by simp [bkT, List.range_succ]
theorem frK_mem {x : Int} : x ∈ frK l t i ↔ ∃ k : Nat, k < i ∧ x = (k : Int) ∧ (nth l k).1 < (nth l k).2 ∧ (nth l k).1 = t := by
  simp only [frK, ups, List.mem_filter, List.mem_map, List.mem_range, Bool.and_eq_true, decide_eq_true_eq, beq_iff_eq]
  constructor
  · rintro ⟨⟨k, hk, rfl⟩, h1, h2⟩
    exact ⟨k, hk, rfl, by simpa using h1, by simpa using h2⟩
  · rintro ⟨k, hk, rfl, h1, h2⟩
    exact ⟨⟨k, hk, rfl⟩, by simpa using h1, by simpa using h2⟩
theorem bkK_mem {x : Int} : x ∈ bkK l t i ↔ ∃ k : Nat, k < i ∧ x = (k : Int) ∧ (nth l k).2 ≤ (nth l k).1 ∧ (nth l k).2 = t := by
  simp only [bkK, ups, List.mem_filter, List.mem_map, List.mem_range, Bool.and_eq_true, decide_eq_true_eq, beq_iff_eq]
  constructor
  · rintro ⟨⟨k, hk, rfl⟩, h1, h2⟩
    exact ⟨k, hk, rfl, by simpa using h1, by simpa using h2⟩
  · rintro ⟨k, hk, rfl, h1, h2⟩
    exact ⟨⟨k, hk, rfl⟩, by simpa using h1, by simpa using h2⟩
theorem ups_ne (n : Nat) : (ups n).Pairwise (· ≠ ·) := by
  rw [ups, List.pairwise_map]
  exact List.nodup_range.imp fun h e => h (by exact_mod_cast e)
def RN (l : List (Int × Int)) (a b : Int) : Prop := a ≠ b ∧ RL l a b
theorem frT_mem {x : Int} {n : Nat} : x ∈ frT l n ↔ ∃ k : Nat, k < l.length ∧ x = (k : Int) ∧ (nth l k).1 < (nth l k).2 ∧ 0 ≤ (nth l k).1 ∧ (nth l k).1 < n := by
  simp only [frT, List.mem_flatMap, List.mem_range, frK_mem]
  constructor
  · rintro ⟨t, ht, k, hk, rfl, h1, h2⟩; exact ⟨k, hk, rfl, h1, by omega, by omega⟩
  · rintro ⟨k, hk, rfl, h1, h2, h3⟩; exact ⟨(nth l k).1.toNat, by omega, k, hk, rfl, h1, by omega⟩
theorem bkT_mem {x : Int} {n : Nat} (_hn : n ≤ 100) : x ∈ bkT l n ↔ ∃ k : Nat, k < l.length ∧ x = (k : Int) ∧ (nth l k).2 ≤ (nth l k).1 ∧ (nth l k).2 ≤ 99 ∧ 99 - (n : Int) < (nth l k).2 := by
  simp only [bkT, List.mem_flatMap, List.mem_range, bkK_mem]
  constructor
  · rintro ⟨t, ht, k, hk, rfl, h1, h2⟩; exact ⟨k, hk, rfl, h1, by omega, by omega⟩
  · rintro ⟨k, hk, rfl, h1, h2, h3⟩; exact ⟨(99 - (nth l k).2).toNat, by omega, k, hk, rfl, h1, by omega⟩
theorem RN_ff {a b : Nat} (hne : a ≠ b) (h1 : (nth l a).1 < (nth l a).2) (h2 : (nth l b).1 < (nth l b).2) (h : (nth l a).1 ≤ (nth l b).1) : RN l (a : Int) (b : Int) := by
  refine ⟨by omega, ?_⟩
  simp only [RL, cmpT, Int.toNat_natCast, if_pos h1, if_pos h2]; omega
theorem RN_bb {a b : Nat} (hne : a ≠ b) (h1 : (nth l a).2 ≤ (nth l a).1) (h2 : (nth l b).2 ≤ (nth l b).1) (h : (nth l b).2 ≤ (nth l a).2) : RN l (a : Int) (b : Int) := by
  refine ⟨by omega, ?_⟩
  simp only [RL, cmpT, Int.toNat_natCast, if_neg (Int.not_lt.2 h1), if_neg (Int.not_lt.2 h2)]; omega
theorem RN_fb {a b : Nat} (h1 : (nth l a).1 < (nth l a).2) (h2 : (nth l b).2 ≤ (nth l b).1) : RN l (a : Int) (b : Int) := by
  refine ⟨fun e => ?_, ?_⟩
  · have : a = b := by omega
    subst this; omega
  · simp only [RL, cmpT, Int.toNat_natCast, if_pos h1, if_neg (Int.not_lt.2 h2)]; omega
theorem frT_pair (n : Nat) : (frT l n).Pairwise (RN l) := by
  unfold frT
  rw [List.pairwise_flatMap]
  refine ⟨fun t _ => ?_, ?_⟩
  · refine List.Pairwise.imp_of_mem ?_ ((ups_ne l.length).filter _)
    intro a b ha hb hne
    obtain ⟨k, _, rfl, h1, h2⟩ := frK_mem.1 ha
    obtain ⟨m, _, rfl, h3, h4⟩ := frK_mem.1 hb
    exact RN_ff (by omega) h1 h3 (by omega)
  · refine List.pairwise_lt_range.imp ?_
    intro s t hst a ha b hb
    obtain ⟨k, _, rfl, h1, h2⟩ := frK_mem.1 ha
    obtain ⟨m, _, rfl, h3, h4⟩ := frK_mem.1 hb
    exact RN_ff (fun e => by subst e; omega) h1 h3 (by omega)
theorem bkT_pair (n : Nat) : (bkT l n).Pairwise (RN l) := by
  unfold bkT
  rw [List.pairwise_flatMap]
  refine ⟨fun t _ => ?_, ?_⟩
  · refine List.Pairwise.imp_of_mem ?_ ((ups_ne l.length).filter _)
    intro a b ha hb hne
    obtain ⟨k, _, rfl, h1, h2⟩ := bkK_mem.1 ha
    obtain ⟨m, _, rfl, h3, h4⟩ := bkK_mem.1 hb
    exact RN_bb (by omega) h1 h3 (by omega)
  · refine List.pairwise_lt_range.imp ?_
    intro s t hst a ha b hb
    obtain ⟨k, _, rfl, h1, h2⟩ := bkK_mem.1 ha
    obtain ⟨m, _, rfl, h3, h4⟩ := bkK_mem.1 hb
    exact RN_bb (fun e => by subst e; omega) h1 h3 (by omega)
theorem told_pair : (frT l 100 ++ bkT l 100).Pairwise (RN l) := by
  rw [List.pairwise_append]
  refine ⟨frT_pair 100, bkT_pair 100, fun a ha b hb => ?_⟩
  obtain ⟨k, _, rfl, h1, _⟩ := frT_mem.1 ha
  obtain ⟨m, _, rfl, h3, _⟩ := (bkT_mem (Nat.le_refl _)).1 hb
  exact RN_fb h1 h3
theorem told_good (ht : tasksOk l = true) : Good l (frT l 100 ++ bkT l 100) := by
  have hp := told_pair (l := l)
  refine ⟨isPerm_of (hp.imp fun h => h.1) (fun a ha => ?_) (fun k hk => ?_), ?_⟩
  · rcases List.mem_append.1 ha with h | h
    · obtain ⟨k, hk, rfl, _⟩ := frT_mem.1 h; omega
    · obtain ⟨k, hk, rfl, _⟩ := (bkT_mem (Nat.le_refl _)).1 h; omega
  · have := tOk_t ((tasksOk_t ht).1 k hk)
    by_cases hc : (nth l k).1 < (nth l k).2
    · exact List.mem_append.2 (.inl (frT_mem.2 ⟨k, hk, rfl, hc, by omega, by omega⟩))
    · exact List.mem_append.2 (.inr ((bkT_mem (Nat.le_refl _)).2 ⟨k, hk, rfl, by omega, by omega, by omega⟩))
  · rw [pickT, List.pairwise_map]
    exact hp.imp fun h => cmpT_JL h.2
end
end Go.Proofs.Ytpabfbaoibmnlaa
