/-
  The plain mathematics of cycles: the end of an order, and which order ends first. No program is named here.
-/
import Derived.Test.YtpabfbaoibmnlaaHlR
namespace Go.Proofs.Ytpabfbaoibmnlaa

def stepC (s p : Int × Int) : Int × Int := (s.1 + p.1, max s.2 (s.1 + p.1) + p.2)
def runC (s : Int × Int) (r : List (Int × Int)) : Int × Int := r.foldl stepC s
def JL (p q : Int × Int) : Prop := min p.1 q.2 ≤ min q.1 p.2
section
variable {p q s : Int × Int} {a b r P Q : List (Int × Int)}
theorem runC_mono {u l m : Int} (h : l ≤ m) : (runC (u, l) r).2 ≤ (runC (u, m) r).2 := by
  induction r generalizing u l m with
  | nil => exact h
  | cons p r ih =>
    simp only [runC, List.foldl_cons, stepC] at ih ⊢
    exact ih (by omega)
theorem runC_swap {u l : Int} (h : JL p q) : (runC (u, l) (p :: q :: r)).2 ≤ (runC (u, l) (q :: p :: r)).2 := by
  simp only [runC, List.foldl_cons, stepC]
  have e : u + p.1 + q.1 = u + q.1 + p.1 := by omega
  rw [e]
  have := runC_mono (r := r) (u := u + q.1 + p.1) (l := max (max l (u + p.1) + p.2) (u + q.1 + p.1) + q.2) (m := max (max l (u + q.1) + q.2) (u + q.1 + p.1) + p.2) (by
    unfold JL at h
    omega)
  exact this
theorem runC_front {u l : Int} (h : ∀ q ∈ a, JL p q) : (runC (u, l) (p :: (a ++ b))).2 ≤ (runC (u, l) (a ++ p :: b)).2 := by
  induction a generalizing u l with
  | nil => exact Int.le_refl _
  | cons q a ih =>
    refine Int.le_trans (runC_swap (h q (by simp))) ?_
    have := ih (u := u + q.1) (l := max l (u + q.1) + q.2) (fun x hx => h x (List.mem_cons_of_mem _ hx))
    simp only [runC, List.foldl_cons, List.cons_append, stepC] at this ⊢
    exact this
/-- No order is done earlier. -/
theorem johnson {u l : Int} (hp : P.Pairwise JL) (hq : Q.Perm P) : (runC (u, l) P).2 ≤ (runC (u, l) Q).2 := by
  induction P generalizing Q u l with
  | nil => rw [hq.eq_nil]; exact Int.le_refl _
  | cons p P ih =>
    rw [List.pairwise_cons] at hp
    obtain ⟨a, b, rfl⟩ := List.append_of_mem (hq.mem_iff.2 (List.mem_cons_self ..) : p ∈ Q)
    have h2 : (a ++ b).Perm P := List.Perm.cons_inv (List.perm_middle.symm.trans hq)
    have h3 := ih (u := u + p.1) (l := max l (u + p.1) + p.2) hp.2 h2
    refine Int.le_trans ?_ (runC_front (p := p) (a := a) (b := b) fun q hqa => hp.1 q (h2.mem_iff.1 (List.mem_append.2 (.inl hqa))))
    simp only [runC, List.foldl_cons, stepC] at h3 ⊢
    exact h3
def offs (r : List (Int × Int)) : Int := sumBy (·.1) r
def backs (r : List (Int × Int)) : Int := sumBy (·.2) r
theorem runC_backs {u l : Int} : l + backs r ≤ (runC (u, l) r).2 := by
  induction r generalizing u l with
  | nil => simp [runC, backs, sumBy]
  | cons p r ih =>
    have := ih (u := u + p.1) (l := max l (u + p.1) + p.2)
    simp only [runC, List.foldl_cons, stepC, backs, sumBy] at this ⊢
    omega
theorem runC_offs {u l : Int} (hb : ∀ p ∈ r, 0 ≤ p.2) (hl : u ≤ l) : u + offs r ≤ (runC (u, l) r).2 := by
  induction r generalizing u l with
  | nil => simpa [runC, offs, sumBy] using hl
  | cons p r ih =>
    have h1 := hb p (by simp)
    have := ih (u := u + p.1) (l := max l (u + p.1) + p.2) (fun x hx => hb x (List.mem_cons_of_mem _ hx)) (by omega)
    simp only [runC, List.foldl_cons, stepC, offs, sumBy] at this ⊢
    omega
theorem runC_most {u l : Int} (ho : ∀ p ∈ r, 0 ≤ p.1 ∧ 0 ≤ p.2) (hl : u ≤ l) : (runC (u, l) r).2 ≤ l + offs r + backs r := by
  induction r generalizing u l with
  | nil => simp [runC, offs, backs, sumBy]
  | cons p r ih =>
    have h1 := ho p (by simp)
    have := ih (u := u + p.1) (l := max l (u + p.1) + p.2) (fun x hx => ho x (List.mem_cons_of_mem _ hx)) (by omega)
    simp only [runC, List.foldl_cons, stepC, offs, backs, sumBy] at this ⊢
    omega
theorem sumBy_perm {α : Type} {f : α → Int} {l m : List α} (h : l.Perm m) : sumBy f l = sumBy f m := by
  induction h with
  | nil => rfl
  | cons x _ ih => simp only [sumBy, ih]
  | swap x y l => simp only [sumBy]; omega
  | trans _ _ ih1 ih2 => rw [ih1, ih2]
end

/-! ### orders of indices -/
section
variable {n : Nat} {x : List Int}
theorem nodup_len : ∀ (n : Nat) (x : List Int), x.Nodup → (∀ a ∈ x, 0 ≤ a ∧ a < n) → x.length ≤ n
  | 0, x, _, h => by
    cases x with
    | nil => simp
    | cons a t => have := h a (by simp); omega
  | n + 1, x, hd, h => by
    by_cases hm : (n : Int) ∈ x
    · have h1 := nodup_len n (x.erase (n : Int)) (hd.erase _) (fun a ha => by
        have h2 := (hd.mem_erase_iff).1 ha
        have := h a h2.2
        have := h2.1
        omega)
      rw [List.length_erase_of_mem hm] at h1
      omega
    · have := nodup_len n x hd (fun a ha => by
        have := h a ha
        have : a ≠ n := fun e => hm (e ▸ ha)
        omega)
      omega
theorem perm_ups_of : ∀ (n : Nat) (x : List Int), x.length = n → x.Nodup → (∀ a ∈ x, 0 ≤ a ∧ a < n) → x.Perm (ups n)
  | 0, x, hl, _, _ => by rw [List.eq_nil_of_length_eq_zero hl]; exact .nil
  | n + 1, x, hl, hd, h => by
    have hm : (n : Int) ∈ x := Classical.byContradiction fun hm => by
      have := nodup_len n x hd (fun a ha => by
        have := h a ha
        have : a ≠ n := fun e => hm (e ▸ ha)
        omega)
      omega
    have h1 := perm_ups_of n (x.erase (n : Int)) (by rw [List.length_erase_of_mem hm]; omega) (hd.erase _) (fun a ha => by
      have h2 := (hd.mem_erase_iff).1 ha
      have := h a h2.2
      have := h2.1
      omega)
    have e : ups (n + 1) = ups n ++ [(n : Int)] := by simp [ups, List.range_succ]
    rw [e]
    exact (List.perm_cons_erase hm).trans ((h1.cons _).trans (List.perm_append_comm (l₁ := [(n : Int)])))
theorem nodup_of_nth {l : List Int} (h : ∀ i j, i < j → j < l.length → nth l i ≠ nth l j) : l.Nodup := by
  unfold List.Nodup
  rw [List.pairwise_iff_getElem]
  intro i j hi hj hij
  have := h i j hij hj
  rwa [nth_eq _ _ hi, nth_eq _ _ hj] at this
theorem isPerm_ups (h : isPerm x n = true) : x.Perm (ups n) := by
  obtain ⟨h1, h2, h3⟩ := isPerm_iff.1 h
  refine perm_ups_of n x h1 (nodup_of_nth fun i j hij hj => h3 i j hij (by omega)) fun a ha => ?_
  obtain ⟨i, hi, rfl⟩ := List.getElem_of_mem ha
  have := h2 i (by omega)
  rwa [nth_eq _ _ hi] at this
theorem isPerm_of (hd : x.Nodup) (hr : ∀ a ∈ x, 0 ≤ a ∧ a < (n : Int)) (ha : ∀ k : Nat, k < n → (k : Int) ∈ x) : isPerm x n = true := by
  have h1 := nodup_len n x hd hr
  have h2 := pigeon n x ha
  refine isPerm_iff.2 ⟨by omega, fun i hi => ?_, fun i j hij hj e => ?_⟩
  · rw [nth_eq _ _ (by omega)]
    exact hr _ (List.getElem_mem _)
  · rw [nth_eq _ _ (by omega), nth_eq _ _ (by omega)] at e
    exact List.pairwise_iff_getElem.1 hd i j (by omega) (by omega) hij e
end

/-! ### tasks -/
def tOk (l : List (Int × Int)) (k : Nat) : Bool := win (nth l k).1 0 99 && win (nth l k).2 0 99
def tasksOk (l : List (Int × Int)) : Bool := (List.range l.length).all (tOk l) && decide (l.length ≤ 6)
def pickT (l : List (Int × Int)) (o : List Int) : List (Int × Int) := o.map fun i => nth l i.toNat
def cycleEnd (l : List (Int × Int)) (o : List Int) : Int := if tasksOk l && isPerm o l.length then (runC (0, 0) (pickT l o)).2 else -1
/-- An order as the rule tells it. -/
def Good (l : List (Int × Int)) (o : List Int) : Prop := isPerm o l.length = true ∧ (pickT l o).Pairwise JL
section
variable {l : List (Int × Int)} {o o' : List Int} {k : Nat}
theorem tOk_f1 (h : win (nth l k).1 0 99 = false) : tOk l k = false := by simp [tOk, h]
theorem tOk_f2 (h : win (nth l k).2 0 99 = false) : tOk l k = false := by simp [tOk, h]
theorem tOk_mk (h1 : win (nth l k).1 0 99 = true) (h2 : win (nth l k).2 0 99 = true) : tOk l k = true := by simp [tOk, h1, h2]
theorem tOk_t (h : tOk l k = true) : (0 ≤ (nth l k).1 ∧ (nth l k).1 ≤ 99) ∧ 0 ≤ (nth l k).2 ∧ (nth l k).2 ≤ 99 := by
  simp only [tOk, Bool.and_eq_true] at h
  exact ⟨win_t h.1, win_t h.2⟩
theorem tasksOk_no (hk : k < l.length) (h : tOk l k = false) : tasksOk l = false := by
  have : (List.range l.length).all (tOk l) = false := by
    rw [List.all_eq_false]; exact ⟨k, List.mem_range.2 hk, by simp [h]⟩
  simp [tasksOk, this]
theorem tasksOk_mk (h : ∀ k, k < l.length → tOk l k = true) : tasksOk l = decide ((l.length : Int) ≤ 6) := by
  have : (List.range l.length).all (tOk l) = true := by
    rw [List.all_eq_true]; intro k hk; exact h k (List.mem_range.1 hk)
  simp only [tasksOk, this, Bool.true_and]
  rw [decide_eq_decide]; omega
theorem tasksOk_t (h : tasksOk l = true) : (∀ k, k < l.length → tOk l k = true) ∧ l.length ≤ 6 := by
  simp only [tasksOk, Bool.and_eq_true, List.all_eq_true, List.mem_range, decide_eq_true_eq] at h
  exact h
theorem pickT_ups (l : List (Int × Int)) : pickT l (ups l.length) = l := by
  refine ext_nth (by simp [pickT, ups]) fun k hk => ?_
  have hk' : k < l.length := by simpa [pickT, ups] using hk
  rw [nth_eq _ _ hk]
  simp [pickT, ups]
theorem pickT_perm (h : isPerm o l.length = true) : (pickT l o).Perm l := by
  have := (isPerm_ups h).map (fun i => nth l i.toNat)
  have e := pickT_ups l
  unfold pickT at e ⊢
  rwa [e] at this
theorem good_least (hg : Good l o) (hp : isPerm o' l.length = true) : (runC (0, 0) (pickT l o)).2 ≤ (runC (0, 0) (pickT l o')).2 :=
  johnson hg.2 ((pickT_perm hp).trans (pickT_perm hg.1).symm)
theorem good_same (hg : Good l o) (hg' : Good l o') : (runC (0, 0) (pickT l o)).2 = (runC (0, 0) (pickT l o')).2 :=
  Int.le_antisymm (good_least hg hg'.1) (good_least hg' hg.1)
theorem end_ok (h1 : tasksOk l = true) (h2 : isPerm o l.length = true) : cycleEnd l o = (runC (0, 0) (pickT l o)).2 := by simp [cycleEnd, h1, h2]
theorem end_t (h : tasksOk l = false) : cycleEnd l o = -1 := by simp [cycleEnd, h]
theorem end_p (h : isPerm o l.length = false) : cycleEnd l o = -1 := by simp [cycleEnd, h]
theorem task_nn (h : tasksOk l = true) : ∀ p ∈ l, 0 ≤ p.1 ∧ 0 ≤ p.2 := fun p hp => by
  obtain ⟨k, hk, rfl⟩ := List.getElem_of_mem hp
  have := tOk_t ((tasksOk_t h).1 k hk)
  rw [nth_eq _ _ hk] at this
  omega
theorem end_bounds (h1 : tasksOk l = true) (h2 : isPerm o l.length = true) : offs l ≤ cycleEnd l o ∧ backs l ≤ cycleEnd l o ∧ cycleEnd l o ≤ offs l + backs l := by
  have hp := pickT_perm h2
  have hn : ∀ p ∈ pickT l o, 0 ≤ p.1 ∧ 0 ≤ p.2 := fun p hm => task_nn h1 p (hp.mem_iff.1 hm)
  rw [end_ok h1 h2]
  have e1 : offs (pickT l o) = offs l := sumBy_perm hp
  have e2 : backs (pickT l o) = backs l := sumBy_perm hp
  have a := runC_offs (r := pickT l o) (u := 0) (l := 0) (fun p hm => (hn p hm).2) (by omega)
  have b := runC_backs (r := pickT l o) (u := 0) (l := 0)
  have c := runC_most (r := pickT l o) (u := 0) (l := 0) hn (by omega)
  omega
end
end Go.Proofs.Ytpabfbaoibmnlaa
