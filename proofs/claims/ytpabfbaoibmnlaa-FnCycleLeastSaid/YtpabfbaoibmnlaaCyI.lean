/-
  The plain mathematics of cycles run backward. No program is named here.
-/
import Derived.Test.YtpabfbaoibmnlaaCyG
namespace Go.Proofs.Ytpabfbaoibmnlaa

def sw (p : Int × Int) : Int × Int := (p.2, p.1)
def swp (l : List (Int × Int)) : List (Int × Int) := l.map sw
section
variable {l r : List (Int × Int)} {o : List Int}
theorem swp_len : (swp l).length = l.length := by simp [swp]
theorem swp_swp : swp (swp l) = l := by
  simp only [swp, List.map_map]
  have : (sw ∘ sw) = id := by funext p; rfl
  rw [this, List.map_id]
theorem swp_nth (k : Nat) : nth (swp l) k = sw (nth l k) := by
  unfold nth swp
  simp only [List.getD, List.getElem?_map]
  cases l[k]? with
  | none => rfl
  | some p => rfl
theorem tasksOk_swp : tasksOk (swp l) = tasksOk l := by
  unfold tasksOk
  rw [swp_len]
  congr 1
  have : ∀ k, tOk (swp l) k = tOk l k := fun k => by
    simp only [tOk, swp_nth, sw, Bool.and_comm]
  rw [show tOk (swp l) = tOk l from funext this]
theorem pickT_swp : pickT (swp l) o = (pickT l o).map sw := by
  simp only [pickT, List.map_map]
  refine List.map_congr_left fun i _ => ?_
  exact swp_nth _
theorem runC_max {u v : Int} (hn : ∀ p ∈ r, 0 ≤ p.1 ∧ 0 ≤ p.2) (hu : u ≤ v) : (runC (u, v) r).2 = max (v + backs r) (u + (runC (0, 0) r).2) := by
  induction r generalizing u v with
  | nil => simp only [runC, backs, sumBy, List.foldl_nil]; omega
  | cons p r ih =>
    have hp := hn p (by simp)
    have hr : ∀ q ∈ r, 0 ≤ q.1 ∧ 0 ≤ q.2 := fun q hq => hn q (List.mem_cons_of_mem _ hq)
    have e1 : runC (u, v) (p :: r) = runC (u + p.1, max v (u + p.1) + p.2) r := rfl
    have e2 : runC (0, 0) (p :: r) = runC (0 + p.1, max 0 (0 + p.1) + p.2) r := rfl
    rw [e1, e2, ih (u := u + p.1) (v := max v (u + p.1) + p.2) hr (by omega), ih (u := 0 + p.1) (v := max 0 (0 + p.1) + p.2) hr (by omega)]
    simp only [backs, sumBy]
    omega
theorem runC_fst {u v : Int} : (runC (u, v) r).1 = u + offs r := by
  induction r generalizing u v with
  | nil => simp [runC, offs, sumBy]
  | cons p r ih =>
    have e1 : runC (u, v) (p :: r) = runC (u + p.1, max v (u + p.1) + p.2) r := rfl
    rw [e1, ih]
    simp only [offs, sumBy]; omega
theorem offs_sw : offs (r.map sw) = backs r := by
  induction r with
  | nil => rfl
  | cons p r ih =>
    simp only [offs, backs, sumBy, List.map_cons] at ih ⊢
    rw [ih]; rfl
theorem runC_back (hn : ∀ p ∈ r, 0 ≤ p.1 ∧ 0 ≤ p.2) : (runC (0, 0) ((r.map sw).reverse)).2 = (runC (0, 0) r).2 := by
  induction r with
  | nil => rfl
  | cons p r ih =>
    have hp := hn p (by simp)
    have hr : ∀ q ∈ r, 0 ≤ q.1 ∧ 0 ≤ q.2 := fun q hq => hn q (List.mem_cons_of_mem _ hq)
    have h1 := ih hr
    have h2 : (runC (0, 0) ((r.map sw).reverse)).1 = backs r := by
      rw [runC_fst]
      have : offs ((r.map sw).reverse) = offs (r.map sw) := sumBy_perm (List.reverse_perm _)
      rw [this, offs_sw]; omega
    have e2 : runC (0, 0) (p :: r) = runC (0 + p.1, max 0 (0 + p.1) + p.2) r := rfl
    have e3 : runC (0, 0) (((p :: r).map sw).reverse) = stepC (runC (0, 0) ((r.map sw).reverse)) (sw p) := by
      simp only [runC, List.map_cons, List.reverse_cons, List.foldl_append, List.foldl_cons, List.foldl_nil]
    rw [e2, e3, runC_max hr (by omega)]
    simp only [stepC, sw, h1, h2]
    omega
theorem isPerm_perm {x : List Int} {n : Nat} (h : x.Perm (ups n)) : isPerm x n = true := by
  refine isPerm_of ((h.nodup_iff).2 (ups_ne n)) (fun a ha => ?_) (fun k hk => ?_)
  · have := h.mem_iff.1 ha
    simp only [ups, List.mem_map, List.mem_range] at this
    obtain ⟨k, hk, rfl⟩ := this
    omega
  · refine h.mem_iff.2 ?_
    simp only [ups, List.mem_map, List.mem_range]
    exact ⟨k, hk, rfl⟩
theorem isPerm_rev {n : Nat} (h : isPerm o n = true) : isPerm o.reverse n = true := isPerm_perm ((List.reverse_perm o).trans (isPerm_ups h))
theorem end_back (ht : tasksOk l = true) (hp : isPerm o l.length = true) : cycleEnd (swp l) o.reverse = cycleEnd l o := by
  rw [end_ok ht hp, end_ok (by rw [tasksOk_swp]; exact ht) (by rw [swp_len]; exact isPerm_rev hp), pickT_swp]
  have e : (pickT l o.reverse).map sw = ((pickT l o).map sw).reverse := by simp [pickT, List.map_reverse]
  rw [e]
  exact runC_back fun p hm => task_nn ht p ((pickT_perm hp).mem_iff.1 hm)
theorem least_to {x : Int} (ht : tasksOk l = true) (h : Least l x) : (∃ o, Good l o ∧ x = cycleEnd l o) ∧ ∀ o, isPerm o l.length = true → x ≤ cycleEnd l o := by
  unfold Least at h
  rw [if_pos ht] at h
  obtain ⟨o, hg, rfl⟩ := h
  refine ⟨⟨o, hg, rfl⟩, fun o' hp => ?_⟩
  rw [end_ok ht hg.1, end_ok ht hp]
  exact good_least hg hp
theorem least_back {x y : Int} (ht : tasksOk l = true) (h1 : Least l x) (h2 : Least (swp l) y) : x = y := by
  have ht2 : tasksOk (swp l) = true := by rw [tasksOk_swp]; exact ht
  obtain ⟨⟨o, hg, e1⟩, a1⟩ := least_to ht h1
  obtain ⟨⟨o2, hg2, e2⟩, a2⟩ := least_to ht2 h2
  have p2 := hg2.1
  have b1 := a2 o.reverse (by rw [swp_len]; exact isPerm_rev hg.1)
  rw [end_back ht hg.1] at b1
  have b2 := end_back ht2 p2
  rw [swp_swp] at b2
  have b3 := a1 o2.reverse (by have := isPerm_rev p2; rwa [swp_len] at this)
  omega
theorem least_neg' {x : Int} (h : Least l x) (hx : x < 0) : x = -1 ∧ tasksOk l = false := by
  cases ht : tasksOk l with
  | false => unfold Least at h; rw [if_neg (by simp [ht])] at h; exact ⟨h, rfl⟩
  | true =>
    obtain ⟨⟨o, hg, e⟩, _⟩ := least_to ht h
    have hb := (end_bounds ht hg.1).1
    have : 0 ≤ offs l := sumBy_nonneg _ _ fun p hp => (task_nn ht p hp).1
    omega
theorem least_pos' {x : Int} (h : Least l x) (hx : ¬ x < 0) : tasksOk l = true := by
  cases ht : tasksOk l with
  | true => rfl
  | false => unfold Least at h; rw [if_neg (by simp [ht])] at h; omega
theorem cycle_yes (h : ¬ cycleEnd l o < 0) : tasksOk l = true ∧ isPerm o l.length = true := by
  cases ht : tasksOk l with
  | false => rw [end_t ht] at h; omega
  | true =>
    cases hp : isPerm o l.length with
    | false => rw [end_p hp] at h; omega
    | true => exact ⟨rfl, rfl⟩
theorem cycle_no (h : cycleEnd l o < 0) : cycleEnd l o = -1 := by
  cases ht : tasksOk l with
  | false => exact end_t ht
  | true =>
    cases hp : isPerm o l.length with
    | false => exact end_p hp
    | true =>
      have hb := (end_bounds ht hp).1
      have : 0 ≤ offs l := sumBy_nonneg _ _ fun p hq => (task_nn ht p hq).1
      omega
theorem sum_bd (ht : tasksOk l = true) {k : Nat} (hk : k ≤ l.length) : (0 ≤ sumBy (·.1) (l.take k) ∧ sumBy (·.1) (l.take k) ≤ 99 * (k : Int)) ∧ 0 ≤ sumBy (·.2) (l.take k) ∧ sumBy (·.2) (l.take k) ≤ 99 * (k : Int) := by
  induction k with
  | zero => simp [sumBy]
  | succ k ih =>
    have h1 := ih (by omega)
    have h2 := tOk_t ((tasksOk_t ht).1 k (by omega))
    rw [sumBy_take _ _ _ (by omega), sumBy_take _ _ _ (by omega)]
    omega
theorem swp_take {k : Nat} (hk : k < l.length) : swp (l.take (k + 1)) = swp (l.take k) ++ [((nth l k).2, (nth l k).1)] := by
  rw [take_snoc _ _ hk]; simp [swp, sw]
end
end Go.Proofs.Ytpabfbaoibmnlaa
