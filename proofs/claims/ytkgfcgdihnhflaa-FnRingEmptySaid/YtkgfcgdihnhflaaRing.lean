/-
  The plain mathematics of rings: what is valid, a step, many steps, what is left, when a ring is stuck, how it is emptied. No program is named here.
-/
import Derived.Test.YtkgfcgdihnhflaaMem
namespace Go.Proofs.Ytkgfcgdihnhflaa

def ringOk (l : List Int) : Bool := l.all (fun x => win x (-1) 12) && win l.length 2 8
def nextOf (l : List Int) (z : Nat) : Nat := (z + 1) % l.length
def canStep (l : List Int) (z : Nat) : Bool := decide (0 ≤ nth l z) && (decide (nth l z = 0) || decide (nth l (nextOf l z) < 0))
def stepOk (l : List Int) (z : Int) : Bool := win z 0 (l.length - 1) && canStep l z.toNat
def stepTo (l : List Int) (z : Int) : List Int :=
  if stepOk l z then (if nth l z.toNat = 0 then l.set z.toNat (-1) else (l.set z.toNat (-1)).set (nextOf l z.toNat) (nth l z.toNat - 1)) else l
def one (x : Int) : Int := if 0 ≤ x then 1 else 0
def togo (x : Int) : Int := if 0 ≤ x then x + 1 else 0
def cnt (l : List Int) : Int := sumBy one l
def stp (l : List Int) : Int := sumBy togo l

theorem ringOk_len {l : List Int} (h : ringOk l = true) : 2 ≤ l.length ∧ l.length ≤ 8 := by
  simp only [ringOk, Bool.and_eq_true] at h
  have := win_t h.2; omega
theorem ringOk_at {l : List Int} (h : ringOk l = true) (k : Nat) (hk : k < l.length) : -1 ≤ nth l k ∧ nth l k ≤ 12 := by
  simp only [ringOk, Bool.and_eq_true] at h
  exact win_t (all_nth_inv h.1 k hk)
theorem ringOk_mk {l : List Int} (h : ∀ k, k < l.length → win (nth l k) (-1) 12 = true) : ringOk l = win l.length 2 8 := by
  simp [ringOk, all_nth (p := fun x => win x (-1) 12) h]
theorem ringOk_no {l : List Int} (k : Nat) (hk : k < l.length) (h : win (nth l k) (-1) 12 = false) : ringOk l = false := by
  simp [ringOk, all_no (p := fun x => win x (-1) 12) k hk h]
theorem ringOk_of {l : List Int} (h1 : 2 ≤ l.length) (h2 : l.length ≤ 8) (h : ∀ k, k < l.length → -1 ≤ nth l k ∧ nth l k ≤ 12) : ringOk l = true := by
  rw [ringOk_mk fun k hk => win_mk (h k hk).1 (h k hk).2]
  exact win_mk (by omega) (by omega)

theorem stepOk_t {l : List Int} {z : Int} (h : stepOk l z = true) : 0 ≤ z ∧ z.toNat < l.length ∧ 0 ≤ nth l z.toNat ∧ (nth l z.toNat = 0 ∨ nth l (nextOf l z.toNat) < 0) := by
  simp only [stepOk, canStep, Bool.and_eq_true, Bool.or_eq_true, decide_eq_true_eq] at h
  have h1 := win_t h.1
  exact ⟨h1.1, by omega, h.2.1, h.2.2⟩
theorem stepOk_mk {l : List Int} {z : Int} (h1 : 0 ≤ z) (h2 : z < l.length) (h3 : 0 ≤ nth l z.toNat) (h4 : nth l z.toNat = 0 ∨ nth l (nextOf l z.toNat) < 0) : stepOk l z = true := by
  simp only [stepOk, canStep, Bool.and_eq_true, Bool.or_eq_true, decide_eq_true_eq]
  exact ⟨win_mk h1 (by omega), h3, h4⟩
theorem stepOk_out {l : List Int} {z : Int} (h : win z 0 (l.length - 1) = false) : stepOk l z = false := by simp [stepOk, h]
theorem stepOk_free {l : List Int} {z : Int} (h : nth l z.toNat < 0) : stepOk l z = false := by
  simp only [stepOk, canStep, Bool.and_eq_false_iff, decide_eq_false_iff_not]; right; left; omega
theorem stepOk_full {l : List Int} {z : Int} (h : nth l z.toNat ≠ 0) (h2 : 0 ≤ nth l (nextOf l z.toNat)) : stepOk l z = false := by
  simp only [stepOk, canStep, Bool.and_eq_false_iff, Bool.or_eq_false_iff, decide_eq_false_iff_not]; right; right; omega
theorem stepTo_no {l : List Int} {z : Int} (h : stepOk l z = false) : stepTo l z = l := by simp [stepTo, h]
theorem stepTo_zero {l : List Int} {z : Int} (h : stepOk l z = true) (h0 : nth l z.toNat = 0) : stepTo l z = l.set z.toNat (-1) := by simp [stepTo, h, h0]
theorem stepTo_pos {l : List Int} {z : Int} (h : stepOk l z = true) (h0 : nth l z.toNat ≠ 0) : stepTo l z = (l.set z.toNat (-1)).set (nextOf l z.toNat) (nth l z.toNat - 1) := by simp [stepTo, h, h0]
theorem length_stepTo (l : List Int) (z : Int) : (stepTo l z).length = l.length := by
  unfold stepTo; split <;> (try split) <;> simp

theorem nextOf_lt {l : List Int} {z : Nat} (h : z < l.length) : nextOf l z < l.length := Nat.mod_lt _ (by omega)
theorem nextOf_ne {l : List Int} {z : Nat} (h2 : 2 ≤ l.length) (h : z < l.length) : nextOf l z ≠ z := by
  unfold nextOf
  rcases Nat.lt_or_ge (z + 1) l.length with h1 | h1
  · rw [Nat.mod_eq_of_lt h1]; omega
  · have : z + 1 = l.length := by omega
    rw [this, Nat.mod_self]; omega

theorem stepTo_at {l : List Int} {z : Int} (h2 : 2 ≤ l.length) (h : stepOk l z = true) : nth (stepTo l z) z.toNat = -1 := by
  obtain ⟨h0, hl, hn, ho⟩ := stepOk_t h
  by_cases e : nth l z.toNat = 0
  · rw [stepTo_zero h e, nth_set _ _ _ _ hl]; simp
  · rw [stepTo_pos h e, nth_set _ _ _ _ (by simpa using nextOf_lt hl), if_neg (nextOf_ne h2 hl), nth_set _ _ _ _ hl]; simp

theorem stepTo_ok {l : List Int} (z : Int) (h : ringOk l = true) : ringOk (stepTo l z) = true := by
  cases hs : stepOk l z with
  | false => rw [stepTo_no hs]; exact h
  | true =>
    obtain ⟨h0, hl, hn, ho⟩ := stepOk_t hs
    have hlen := ringOk_len h
    refine ringOk_of (by rw [length_stepTo]; omega) (by rw [length_stepTo]; omega) fun k hk => ?_
    rw [length_stepTo] at hk
    have hk' := ringOk_at h k hk
    have hz' := ringOk_at h _ hl
    by_cases e : nth l z.toNat = 0
    · rw [stepTo_zero hs e, nth_set _ _ _ _ hl]
      split <;> omega
    · rw [stepTo_pos hs e, nth_set _ _ _ _ (by simpa using nextOf_lt hl), nth_set _ _ _ _ hl]
      split
      · omega
      · split <;> omega

theorem stp_step {l : List Int} {z : Int} (h2 : 2 ≤ l.length) (h : stepOk l z = true) : stp (stepTo l z) = stp l - 1 := by
  obtain ⟨h0, hl, hn, ho⟩ := stepOk_t h
  unfold stp
  by_cases e : nth l z.toNat = 0
  · rw [stepTo_zero h e, sumBy_set _ _ _ _ hl, e]; simp [togo]
  · have hnx : nth l (nextOf l z.toNat) < 0 := by omega
    rw [stepTo_pos h e, sumBy_set _ _ _ _ (by simpa using nextOf_lt hl), sumBy_set _ _ _ _ hl, nth_set _ _ _ _ hl, if_neg (Ne.symm (nextOf_ne h2 hl))]
    have e1 : togo (nth l z.toNat) = nth l z.toNat + 1 := by simp [togo, hn]
    have e2 : togo (nth l (nextOf l z.toNat)) = 0 := by simp only [togo]; rw [if_neg (by omega)]
    have e3 : togo (nth l z.toNat - 1) = nth l z.toNat := by simp only [togo]; rw [if_pos (by omega)]; omega
    have e4 : togo (-1) = 0 := by simp [togo]
    omega
theorem cnt_step {l : List Int} {z : Int} (h2 : 2 ≤ l.length) : cnt (stepTo l z) ≤ cnt l := by
  cases h : stepOk l z with
  | false => rw [stepTo_no h]; exact Int.le_refl _
  | true =>
    obtain ⟨h0, hl, hn, ho⟩ := stepOk_t h
    unfold cnt
    by_cases e : nth l z.toNat = 0
    · rw [stepTo_zero h e, sumBy_set _ _ _ _ hl, e]; simp [one]; omega
    · have hnx : nth l (nextOf l z.toNat) < 0 := by omega
      rw [stepTo_pos h e, sumBy_set _ _ _ _ (by simpa using nextOf_lt hl), sumBy_set _ _ _ _ hl, nth_set _ _ _ _ hl, if_neg (Ne.symm (nextOf_ne h2 hl))]
      have e1 : one (nth l z.toNat) = 1 := by simp [one, hn]
      have e2 : one (nth l (nextOf l z.toNat)) = 0 := by simp only [one]; rw [if_neg (by omega)]
      have e3 : one (nth l z.toNat - 1) = 1 := by simp only [one]; rw [if_pos (by omega)]
      have e4 : one (-1) = 0 := by simp [one]
      omega
/-- What RingLeft tells. -/
def many (l : List Int) : Int := if ringOk l = true then cnt l else -1
def steps (l : List Int) : Int := if ringOk l = true then stp l else -1
theorem many_t {l : List Int} (h : ringOk l = true) : many l = cnt l := if_pos h
theorem steps_t {l : List Int} (h : ringOk l = true) : steps l = stp l := if_pos h
theorem many_f {l : List Int} (h : ringOk l = false) : many l = -1 := if_neg (by simp [h])
theorem steps_f {l : List Int} (h : ringOk l = false) : steps l = -1 := if_neg (by simp [h])
theorem one_bd (x : Int) : 0 ≤ one x ∧ one x ≤ 1 := by unfold one; split <;> omega
theorem one_togo (x : Int) : one x ≤ togo x := by unfold one togo; split <;> omega
theorem togo_nn (x : Int) : 0 ≤ togo x := by unfold togo; split <;> omega
theorem cnt_nn (l : List Int) : 0 ≤ cnt l := sumBy_nonneg _ _ fun x _ => (one_bd x).1
theorem cnt_le (l : List Int) : cnt l ≤ l.length := by
  have := sumBy_le one l 1 fun x _ => (one_bd x).2
  unfold cnt; omega
theorem cnt_stp (l : List Int) : cnt l ≤ stp l := by
  unfold cnt stp
  induction l with
  | nil => simp [sumBy]
  | cons x t ih => simp only [sumBy]; have := one_togo x; omega
theorem stp_nn (l : List Int) : 0 ≤ stp l := Int.le_trans (cnt_nn l) (cnt_stp l)
theorem stp_le (l : List Int) (h : ∀ x ∈ l, x ≤ 12) : stp l ≤ 13 * l.length := sumBy_le togo l 13 fun x hx => by
  have := h x hx; unfold togo; split <;> omega
theorem cnt_zero {l : List Int} (h : cnt l = 0) (k : Nat) (hk : k < l.length) : nth l k < 0 := by
  unfold cnt at h
  induction l generalizing k with
  | nil => simp at hk
  | cons x t ih =>
    simp only [sumBy] at h
    have h1 := one_bd x
    have h2 : 0 ≤ sumBy one t := cnt_nn t
    cases k with
    | zero =>
      have e : nth (x :: t) 0 = x := by simp [nth, List.getD]
      have : one x = 0 := by omega
      rw [e]; unfold one at this; split at this <;> omega
    | succ k =>
      have e : nth (x :: t) (k + 1) = nth t k := by simp [nth, List.getD]
      rw [e]; exact ih (by omega) k (by simpa using hk)
theorem stp_zero {l : List Int} (h : cnt l = 0) : stp l = 0 := by
  have key : ∀ m : List Int, (∀ k, k < m.length → nth m k < 0) → stp m = 0 := by
    intro m
    induction m with
    | nil => intro _; rfl
    | cons x t ih =>
      intro hm
      have h0 := hm 0 (by simp)
      have e : nth (x :: t) 0 = x := by simp [nth, List.getD]
      rw [e] at h0
      have := ih fun k hk => by
        have := hm (k + 1) (by simpa using hk)
        have e : nth (x :: t) (k + 1) = nth t k := by simp [nth, List.getD]
        rwa [e] at this
      unfold stp at this ⊢
      simp only [sumBy, this]
      simp only [togo]; rw [if_neg (by omega)]; rfl
  exact key l (cnt_zero h)
theorem cnt_pos {l : List Int} (h : 0 < cnt l) : ∃ k, k < l.length ∧ 0 ≤ nth l k := by
  refine Classical.byContradiction fun hn => ?_
  have : ∀ m : List Int, (∀ k, k < m.length → nth m k < 0) → cnt m = 0 := by
    intro m
    induction m with
    | nil => intro _; rfl
    | cons x t ih =>
      intro hm
      have h0 := hm 0 (by simp)
      have e : nth (x :: t) 0 = x := by simp [nth, List.getD]
      rw [e] at h0
      have := ih fun k hk => by
        have := hm (k + 1) (by simpa using hk)
        have e : nth (x :: t) (k + 1) = nth t k := by simp [nth, List.getD]
        rwa [e] at this
      unfold cnt at this ⊢
      simp only [sumBy, this]
      simp only [one]; rw [if_neg (by omega)]; rfl
  have := this l fun k hk => by
    refine Int.not_le.1 fun hc => hn ⟨k, hk, hc⟩
  omega

/-! ### Stuck rings -/
def ringStuck (l : List Int) : Bool := ringOk l && decide (0 < cnt l) && !(List.range l.length).any (fun k => stepOk l (k : Nat))

theorem stuck_none {l : List Int} (h : ringStuck l = true) (k : Nat) (hk : k < l.length) : stepOk l k = false := by
  simp only [ringStuck, Bool.and_eq_true, Bool.not_eq_true', List.any_eq_false, List.mem_range] at h
  simpa using h.2 k hk

theorem round {l : List Int} (hn : ∀ k, k < l.length → stepOk l (k : Nat) = false) {k : Nat} (hk : k < l.length) (h0 : 0 ≤ nth l k) :
    0 < nth l k ∧ 0 ≤ nth l (nextOf l k) := by
  have h := hn k hk
  refine Classical.byContradiction fun hc => ?_
  have : stepOk l (k : Nat) = true := stepOk_mk (by omega) (by omega) (by simpa using h0) (by simp only [Int.toNat_natCast]; omega)
  rw [this] at h; cases h

/-- If no zone can step and one is taken, all are, and each has zones to go. -/
theorem all_full {l : List Int} (hn : ∀ k, k < l.length → stepOk l (k : Nat) = false) (hc : 0 < cnt l) : ∀ k, k < l.length → 0 < nth l k := by
  obtain ⟨j, hj, h0⟩ := cnt_pos hc
  have key : ∀ i, 0 ≤ nth l ((j + i) % l.length) := by
    intro i
    induction i with
    | zero => rw [Nat.add_zero, Nat.mod_eq_of_lt hj]; exact h0
    | succ i ih =>
      have hlt : (j + i) % l.length < l.length := Nat.mod_lt _ (by omega)
      have := (round hn hlt ih).2
      have e : nextOf l ((j + i) % l.length) = (j + (i + 1)) % l.length := by
        unfold nextOf
        rw [Nat.mod_add_mod]; rfl
      rwa [e] at this
  intro k hk
  have := key (l.length - j + k)
  have e : (j + (l.length - j + k)) % l.length = k := by
    have : j + (l.length - j + k) = l.length + k := by omega
    rw [this, Nat.add_mod_left, Nat.mod_eq_of_lt hk]
  rw [e] at this
  exact (round hn hk this).1

/-- The first zone that can step, or -1. -/
def firstFrom (l : List Int) : Nat → Nat → Int
  | _, 0 => -1
  | k, f + 1 => if stepOk l (k : Nat) then (k : Nat) else firstFrom l (k + 1) f
def firstOk (l : List Int) : Int := firstFrom l 0 l.length
theorem firstFrom_at {l : List Int} : ∀ (f k j : Nat), k ≤ j → j < k + f → (∀ i, k ≤ i → i < j → stepOk l (i : Nat) = false) → stepOk l (j : Nat) = true → firstFrom l k f = j
  | 0, k, j, h1, h2, _, _ => by omega
  | f + 1, k, j, h1, h2, h3, h4 => by
    unfold firstFrom
    rcases Nat.eq_or_lt_of_le h1 with e | e
    · subst e; rw [if_pos h4]
    · rw [if_neg (by rw [h3 k (Nat.le_refl _) e]; simp)]
      exact firstFrom_at f (k + 1) j e (by omega) (fun i hi hj => h3 i (by omega) hj) h4
theorem firstFrom_no {l : List Int} : ∀ (f k : Nat), (∀ i, k ≤ i → i < k + f → stepOk l (i : Nat) = false) → firstFrom l k f = -1
  | 0, k, _ => rfl
  | f + 1, k, h => by
    unfold firstFrom
    rw [if_neg (by rw [h k (Nat.le_refl _) (by omega)]; simp)]
    exact firstFrom_no f (k + 1) fun i hi hj => h i (by omega) (by omega)
theorem firstFrom_spec {l : List Int} : ∀ (f k : Nat), (firstFrom l k f = -1 ∧ ∀ i, k ≤ i → i < k + f → stepOk l (i : Nat) = false) ∨ (∃ j : Nat, k ≤ j ∧ j < k + f ∧ firstFrom l k f = j ∧ stepOk l (j : Nat) = true)
  | 0, k => .inl ⟨rfl, fun i h1 h2 => by omega⟩
  | f + 1, k => by
    unfold firstFrom
    by_cases h : stepOk l (k : Nat) = true
    · rw [if_pos h]; exact .inr ⟨k, Nat.le_refl _, by omega, rfl, h⟩
    · rw [if_neg h]
      rcases firstFrom_spec (l := l) f (k + 1) with ⟨h1, h2⟩ | ⟨j, h1, h2, h3, h4⟩
      · refine .inl ⟨h1, fun i hi hj => ?_⟩
        rcases Nat.eq_or_lt_of_le hi with e | e
        · subst e; simpa using h
        · exact h2 i e (by omega)
      · exact .inr ⟨j, by omega, by omega, h3, h4⟩
theorem firstOk_at {l : List Int} (j : Nat) (hj : j < l.length) (h3 : ∀ i, i < j → stepOk l (i : Nat) = false) (h4 : stepOk l (j : Nat) = true) : firstOk l = j :=
  firstFrom_at _ 0 j (Nat.zero_le _) (by omega) (fun i _ h => h3 i h) h4
theorem firstOk_no {l : List Int} (h : ∀ i, i < l.length → stepOk l (i : Nat) = false) : firstOk l = -1 := firstFrom_no _ 0 fun i _ hi => h i (by omega)
theorem firstOk_spec (l : List Int) : (firstOk l = -1 ∧ ∀ i, i < l.length → stepOk l (i : Nat) = false) ∨ (∃ j : Nat, j < l.length ∧ firstOk l = j ∧ stepOk l (j : Nat) = true) := by
  rcases firstFrom_spec (l := l) l.length 0 with ⟨h1, h2⟩ | ⟨j, h1, h2, h3, h4⟩
  · exact .inl ⟨h1, fun i hi => h2 i (Nat.zero_le _) (by omega)⟩
  · exact .inr ⟨j, by omega, h3, h4⟩

theorem ringStuck_eq (l : List Int) : ringStuck l = (ringOk l && decide (0 < cnt l) && decide (firstOk l < 0)) := by
  unfold ringStuck
  congr 1
  rcases firstOk_spec l with ⟨h1, h2⟩ | ⟨j, h1, h2, h3⟩
  · rw [h1]
    have : (List.range l.length).any (fun k => stepOk l (k : Nat)) = false := by
      rw [List.any_eq_false]; intro k hk; rw [h2 k (List.mem_range.1 hk)]; simp
    rw [this]; rfl
  · rw [h2]
    have : (List.range l.length).any (fun k => stepOk l (k : Nat)) = true := by
      rw [List.any_eq_true]; exact ⟨j, List.mem_range.2 h1, h3⟩
    rw [this]
    have : decide ((j : Int) < 0) = false := by simp
    rw [this]; rfl

/-- A ring is stuck just where there is a vehicle with zones to go in every zone. -/
theorem stuck_full {l : List Int} (h : ringOk l = true) : ringStuck l = l.all (fun x => decide (0 < x)) := by
  have hl := ringOk_len h
  cases hs : ringStuck l with
  | true =>
    have hs' := hs
    simp only [ringStuck, Bool.and_eq_true, decide_eq_true_eq] at hs'
    have := all_full (stuck_none hs) hs'.1.2
    exact (all_nth fun k hk => by simpa using this k hk).symm
  | false =>
    cases hf : l.all (fun x => decide (0 < x)) with
    | false => rfl
    | true =>
      have hp : ∀ k, k < l.length → 0 < nth l k := fun k hk => by simpa using all_nth_inv hf k hk
      have hn : ∀ k, k < l.length → stepOk l (k : Nat) = false := fun k hk => by
        refine stepOk_full ?_ ?_
        · have := hp k hk; simp only [Int.toNat_natCast]; omega
        · have := hp _ (nextOf_lt hk); simp only [Int.toNat_natCast]; omega
      have hc : 0 < cnt l := by
        refine Classical.byContradiction fun hc => ?_
        have h0 : cnt l = 0 := by have := cnt_nn l; omega
        have := cnt_zero h0 0 (by omega)
        have := hp 0 (by omega)
        omega
      have : ringStuck l = true := by
        rw [ringStuck_eq, h, firstOk_no hn]; simp [hc]
      rw [this] at hs; cases hs

/-- A ring with a free zone and a vehicle has a step. -/
theorem has_step {l : List Int} (hc : 0 < cnt l) (k : Nat) (hk : k < l.length) (hf : nth l k < 0) : 0 ≤ firstOk l := by
  rcases firstOk_spec l with ⟨h1, h2⟩ | ⟨j, h1, h2, h3⟩
  · have := all_full h2 hc k hk; omega
  · omega
theorem no_cnt_first {l : List Int} (h : cnt l = 0) : firstOk l = -1 :=
  firstOk_no fun i hi => stepOk_free (by simpa using cnt_zero h i hi)

/-! ### Many steps -/
def runS (s : List Int × Int) (z : Int) : List Int × Int := (stepTo s.1 z, s.2 + if stepOk s.1 z then 1 else 0)
def runTo (l : List Int) (zs : List Int) : List Int × Int := zs.foldl runS (l, 0)
theorem runTo_take (l zs : List Int) (k : Nat) (h : k < zs.length) : runTo l (zs.take (k + 1)) = runS (runTo l (zs.take k)) (nth zs k) := by
  unfold runTo; rw [take_snoc zs k h, List.foldl_append]; rfl
theorem runTo_facts {l : List Int} (h : ringOk l = true) (zs : List Int) :
    ringOk (runTo l zs).1 = true ∧ (runTo l zs).1.length = l.length ∧ stp (runTo l zs).1 = stp l - (runTo l zs).2 ∧ cnt (runTo l zs).1 ≤ cnt l ∧ 0 ≤ (runTo l zs).2 ∧ (runTo l zs).2 ≤ zs.length := by
  have key : ∀ (zs : List Int) (s : List Int × Int), ringOk s.1 = true → ringOk (zs.foldl runS s).1 = true ∧ (zs.foldl runS s).1.length = s.1.length ∧
      stp (zs.foldl runS s).1 + (zs.foldl runS s).2 = stp s.1 + s.2 ∧ cnt (zs.foldl runS s).1 ≤ cnt s.1 ∧ s.2 ≤ (zs.foldl runS s).2 ∧ (zs.foldl runS s).2 ≤ s.2 + zs.length := by
    intro zs
    induction zs with
    | nil => intro s hs; exact ⟨hs, rfl, rfl, Int.le_refl _, Int.le_refl _, by simp⟩
    | cons z t ih =>
      intro s hs
      obtain ⟨i1, i2, i3, i4, i5, i6⟩ := ih (runS s z) (stepTo_ok z hs)
      have hl := ringOk_len hs
      have hc := cnt_step (l := s.1) (z := z) hl.1
      simp only [List.foldl_cons]
      refine ⟨i1, by rw [i2]; exact length_stepTo _ _, ?_, Int.le_trans i4 hc, ?_, ?_⟩
      · rw [i3]
        simp only [runS]
        cases hz : stepOk s.1 z with
        | false => rw [stepTo_no hz]; simp
        | true => rw [stp_step hl.1 hz]; simp; omega
      · refine Int.le_trans ?_ i5
        simp only [runS]; split <;> omega
      · refine Int.le_trans i6 ?_
        simp only [runS, List.length_cons]; split <;> omega
  obtain ⟨k1, k2, k3, k4, k5, k6⟩ := key zs (l, 0) h
  have k3 : stp (runTo l zs).1 + (runTo l zs).2 = stp l + 0 := k3
  have k5 : (0 : Int) ≤ (runTo l zs).2 := k5
  have k6 : (runTo l zs).2 ≤ (0 : Int) + zs.length := k6
  exact ⟨k1, k2, by omega, k4, k5, by omega⟩

/-! ### To the end -/
def emptyF : Nat → List Int → List Int
  | 0, _ => []
  | f + 1, l => if firstOk l < 0 then [] else firstOk l :: emptyF f (stepTo l (firstOk l))
def emptyZ (l : List Int) : List Int := emptyF (stp l).toNat l
theorem emptyZ_no {l : List Int} (h : firstOk l < 0) : emptyZ l = [] := by
  unfold emptyZ; cases (stp l).toNat <;> simp [emptyF, h]
theorem emptyZ_cons {l : List Int} (h2 : 2 ≤ l.length) (h : ¬ firstOk l < 0) : emptyZ l = firstOk l :: emptyZ (stepTo l (firstOk l)) := by
  rcases firstOk_spec l with ⟨h1, _⟩ | ⟨j, h1, e, h3⟩
  · omega
  · have hs := stp_step h2 (z := firstOk l) (by rw [e]; exact h3)
    have hn := stp_nn (stepTo l (firstOk l))
    unfold emptyZ
    have e2 : (stp l).toNat = (stp (stepTo l (firstOk l))).toNat + 1 := by omega
    rw [e2, emptyF, if_neg h]
/-- A step of a ring that is not stuck leaves one that is not stuck. -/
theorem step_free {l : List Int} (h : ringOk l = true) (hf : ¬ firstOk l < 0) (hc : 0 < cnt (stepTo l (firstOk l))) : 0 ≤ firstOk (stepTo l (firstOk l)) := by
  rcases firstOk_spec l with ⟨h1, _⟩ | ⟨j, h1, e, h3⟩
  · omega
  · have hl := ringOk_len h
    have ha := stepTo_at hl.1 (z := firstOk l) (by rw [e]; exact h3)
    refine has_step hc (firstOk l).toNat ?_ (by rw [ha]; omega)
    rw [length_stepTo, e]; simpa using h1
theorem stp_first {l : List Int} (h : ringOk l = true) (hf : ¬ firstOk l < 0) : stp (stepTo l (firstOk l)) = stp l - 1 := by
  rcases firstOk_spec l with ⟨h1, _⟩ | ⟨j, h1, e, h3⟩
  · omega
  · exact stp_step (ringOk_len h).1 (by rw [e]; exact h3)

/-- All steps can be done, there are as many as are left, and the ring is empty then. -/
theorem empty_run {l : List Int} (h : ringOk l = true) (hs : ringStuck l = false) :
    (emptyZ l).length = stp l ∧ (runTo l (emptyZ l)).2 = stp l ∧ cnt (runTo l (emptyZ l)).1 = 0 := by
  have key : ∀ (n : Nat) (l : List Int) (c : Int), (stp l).toNat = n → ringOk l = true → (0 < cnt l → 0 ≤ firstOk l) →
      (emptyZ l).length = stp l ∧ ((emptyZ l).foldl runS (l, c)).2 = c + stp l ∧ cnt ((emptyZ l).foldl runS (l, c)).1 = 0 := by
    intro n
    induction n with
    | zero =>
      intro l c hn hl hf
      have h0 := stp_nn l
      have h1 := cnt_stp l
      have h2 := cnt_nn l
      have hc : cnt l = 0 := by omega
      rw [emptyZ_no (by rw [no_cnt_first hc]; omega)]
      simp only [List.foldl_nil, List.length_nil]
      exact ⟨by omega, by omega, hc⟩
    | succ n ih =>
      intro l c hn hl hf
      have hc : 0 < cnt l := by
        refine Classical.byContradiction fun hc => ?_
        have h2 := cnt_nn l
        have := stp_zero (l := l) (by omega)
        omega
      have hf' := hf hc
      have hst := stp_first hl (by omega)
      obtain ⟨i1, i2, i3⟩ := ih (stepTo l (firstOk l)) (c + 1) (by omega) (stepTo_ok _ hl) (step_free hl (by omega))
      rw [emptyZ_cons (ringOk_len hl).1 (by omega)]
      have hok : stepOk l (firstOk l) = true := by
        rcases firstOk_spec l with ⟨h1, _⟩ | ⟨j, h1, e, h3⟩
        · omega
        · rw [e]; exact h3
      have er : runS (l, c) (firstOk l) = (stepTo l (firstOk l), c + 1) := by simp [runS, hok]
      simp only [List.foldl_cons, List.length_cons, er]
      exact ⟨by omega, by omega, i3⟩
  have := key (stp l).toNat l 0 rfl h fun hc => by
    rw [ringStuck_eq, h] at hs
    simp [hc] at hs
    exact hs
  unfold runTo
  exact ⟨this.1, by omega, this.2.2⟩
end Go.Proofs.Ytkgfcgdihnhflaa
