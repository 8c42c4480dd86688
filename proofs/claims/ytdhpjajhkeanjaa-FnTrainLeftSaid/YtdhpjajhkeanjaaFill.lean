/-
  The plain mathematics of filling a train: each box goes onto the first wagon that can take it. No program is named here.
-/
import Derived.Test.YtdhpjajhkeanjaaTrain
namespace Go.Proofs.Ytdhpjajhkeanjaa
set_option linter.unusedVariables false

/-- The first of m places from j on at which p holds, or -1. -/
def ffrom (p : Nat → Bool) : Nat → Nat → Int
  | _, 0 => -1
  | j, m + 1 => if p j then (j : Int) else ffrom p (j + 1) m
theorem ffrom_cases (p : Nat → Bool) (m : Nat) : ∀ j, (ffrom p j m = -1 ∧ ∀ i, j ≤ i → i < j + m → p i = false) ∨ ∃ k : Nat, j ≤ k ∧ k < j + m ∧ ffrom p j m = (k : Int) ∧ p k = true ∧ ∀ i, j ≤ i → i < k → p i = false := by
  induction m with
  | zero => intro j; left; exact ⟨rfl, fun i h1 h2 => by omega⟩
  | succ m ih =>
    intro j
    cases hp : p j with
    | true =>
      right
      exact ⟨j, Nat.le_refl _, by omega, by simp [ffrom, hp], hp, fun i h1 h2 => by omega⟩
    | false =>
      have e : ffrom p j (m + 1) = ffrom p (j + 1) m := by simp [ffrom, hp]
      rw [e]
      rcases ih (j + 1) with ⟨h1, h2⟩ | ⟨k, h1, h2, h3, h4, h5⟩
      · left
        refine ⟨h1, fun i hi hi2 => ?_⟩
        rcases Nat.eq_or_lt_of_le hi with h6 | h6
        · subst h6; exact hp
        · exact h2 i h6 (by omega)
      · right
        refine ⟨k, by omega, by omega, h3, h4, fun i hi hi2 => ?_⟩
        rcases Nat.eq_or_lt_of_le hi with h6 | h6
        · subst h6; exact hp
        · exact h5 i h6 hi2
theorem ffrom_hit {p : Nat → Bool} {m k : Nat} (hk : k < m) (h : p k = true) (hn : ∀ i, i < k → p i = false) : ffrom p 0 m = (k : Int) := by
  rcases ffrom_cases p m 0 with ⟨_, h2⟩ | ⟨k', _, h2, h3, h4, h5⟩
  · rw [h2 k (Nat.zero_le _) (by omega)] at h; cases h
  · rcases Nat.lt_trichotomy k k' with h6 | h6 | h6
    · rw [h5 k (Nat.zero_le _) h6] at h; cases h
    · rw [h3, h6]
    · rw [hn k' h6] at h4; cases h4
theorem ffrom_miss {p : Nat → Bool} {m : Nat} (hn : ∀ i, i < m → p i = false) : ffrom p 0 m = -1 := by
  rcases ffrom_cases p m 0 with ⟨h1, _⟩ | ⟨k', _, h2, h3, h4, h5⟩
  · exact h1
  · rw [hn k' (by omega)] at h4; cases h4
theorem ffrom_congr {p q : Nat → Bool} (m : Nat) : ∀ j, (∀ i, j ≤ i → i < j + m → p i = q i) → ffrom p j m = ffrom q j m := by
  induction m with
  | zero => intro j _; rfl
  | succ m ih =>
    intro j h
    simp only [ffrom]
    rw [h j (Nat.le_refl _) (by omega), ih (j + 1) fun i h1 h2 => h i (by omega) (by omega)]
theorem ffrom_step {p : Nat → Bool} {j n : Nat} (h : j < n) : ffrom p j (n - j) = if p j then (j : Int) else ffrom p (j + 1) (n - (j + 1)) := by
  have e : n - j = (n - (j + 1)) + 1 := by omega
  rw [e]; rfl
theorem ffrom_bd (p : Nat → Bool) (n : Nat) : -1 ≤ ffrom p 0 n ∧ ffrom p 0 n < n := by
  rcases ffrom_cases p n 0 with ⟨h1, _⟩ | ⟨k', _, h2, h3, _⟩
  · rw [h1]; omega
  · rw [h3]; omega

section
variable {α : Type} [Inhabited α]
theorem nth_snoc_lt (l : List α) (x : α) (i : Nat) (h : i < l.length) : nth (l ++ [x]) i = nth l i := by
  rw [nth_eq _ i (by simp; omega), nth_eq _ i h]; simp [h]
theorem nth_snoc (l : List α) (x : α) : nth (l ++ [x]) l.length = x := by simp [nth, List.getD]
end

theorem boxesOk_take {l : List Bx} (h : boxesOk l = true) (n : Nat) : boxesOk (l.take n) = true := by
  obtain ⟨h1, h2⟩ := boxesOk_t h
  have hlen : (l.take n).length ≤ l.length := List.length_take_le' _ _
  have hle : (l.take n).length ≤ n := List.length_take_le _ _
  rw [boxesOk_mk fun k hk => ?_]
  · simp; omega
  · have h3 := h1 k (by omega)
    have e : nth (l.take n) k = nth l k := nth_take l k n (by omega)
    simp only [bxOk, Bool.and_eq_true, decide_eq_true_eq, e] at h3 ⊢
    refine ⟨h3.1, ?_⟩
    rcases idAt_cases (l.take n) (nth l k).id with ⟨h4, h5, h6⟩ | ⟨h4, _⟩
    · rw [nth_take l _ n (by omega)] at h5
      have := idAt_hit (l := l) (by omega) h5 fun j hj => by
        have := h6 j hj
        rwa [nth_take l _ n (by omega)] at this
      omega
    · omega

theorem onMany_snoc (ws : List Int) (x k : Int) (n : Nat) (h : n ≤ ws.length) : onMany (ws ++ [x]) k n = onMany ws k n :=
  upTo_congr fun i hi => by simp only [nth_snoc_lt ws x i (by omega)]
theorem onWt_snoc (l : List Bx) (ws : List Int) (x k : Int) (n : Nat) (h : n ≤ ws.length) : onWt l (ws ++ [x]) k n = onWt l ws k n :=
  upTo_congr fun i hi => by simp only [nth_snoc_lt ws x i (by omega)]
theorem onWt_take (l : List Bx) (ws : List Int) (k : Int) (n m : Nat) (h : n ≤ m) : onWt (l.take m) ws k n = onWt l ws k n :=
  upTo_congr fun i hi => by simp only [nth_take l i m (by omega)]

def fitsOne (wl : List (Int × Int)) (l : List Bx) (ws : List Int) (k j : Nat) : Bool :=
  decide (onMany ws j k + 1 ≤ (nth wl j).1) && decide (onWt l ws j k + (nth l k).wt ≤ (nth wl j).2)
def fillAt (wl : List (Int × Int)) (l : List Bx) (ws : List Int) (k : Nat) : Int := ffrom (fitsOne wl l ws k) 0 wl.length
def fill (wl : List (Int × Int)) (l : List Bx) : Nat → List Int
  | 0 => []
  | k + 1 => fill wl l k ++ [fillAt wl l (fill wl l k) k]
theorem length_fill (wl : List (Int × Int)) (l : List Bx) (k : Nat) : (fill wl l k).length = k := by
  induction k with
  | zero => rfl
  | succ k ih => simp [fill, ih]

/-- What filling keeps. -/
def FillInv (wl : List (Int × Int)) (l : List Bx) (ws : List Int) (k : Nat) : Prop :=
  ws.length = k ∧ (∀ i, i < k → whOk wl ws i = true) ∧ ∀ j, j < wl.length → onMany ws j k ≤ (nth wl j).1 ∧ onWt l ws j k ≤ (nth wl j).2
theorem snoc_inv {wl : List (Int × Int)} {l : List Bx} {ws : List Int} {k : Nat} {x : Int} (h : FillInv wl l ws k) (hx : -1 ≤ x ∧ x ≤ (wl.length : Int) - 1)
    (hf : ∀ j : Nat, j < wl.length → x = j → fitsOne wl l ws k j = true) : FillInv wl l (ws ++ [x]) (k + 1) := by
  obtain ⟨h1, h2, h3⟩ := h
  refine ⟨by simp [h1], fun i hi => ?_, fun j hj => ?_⟩
  · unfold whOk
    rcases Nat.lt_or_ge i k with h4 | h4
    · rw [nth_snoc_lt _ _ _ (by omega)]; exact h2 i h4
    · obtain rfl : i = ws.length := by omega
      rw [nth_snoc]
      exact win_mk hx.1 hx.2
  · have h4 := h3 j hj
    by_cases he : x = (j : Int)
    · have h5 := hf j hj he
      simp only [fitsOne, Bool.and_eq_true, decide_eq_true_eq] at h5
      have e : nth (ws ++ [x]) k = (j : Int) := by rw [← h1, nth_snoc]; exact he
      rw [onMany_hit e, onWt_hit e, onMany_snoc _ _ _ _ (by omega), onWt_snoc _ _ _ _ _ (by omega)]
      exact h5
    · have e : ¬ nth (ws ++ [x]) k = (j : Int) := by rw [← h1, nth_snoc]; exact he
      rw [onMany_miss e, onWt_miss e, onMany_snoc _ _ _ _ (by omega), onWt_snoc _ _ _ _ _ (by omega)]
      exact h4
theorem fill_inv (wl : List (Int × Int)) (l : List Bx) (h : wagonsOk wl = true) (k : Nat) : FillInv wl l (fill wl l k) k := by
  induction k with
  | zero =>
    refine ⟨rfl, fun i hi => by omega, fun j hj => ?_⟩
    have := wagOk_t ((wagonsOk_t h).1 j hj)
    simp only [onMany, onWt, upTo]; omega
  | succ k ih =>
    have hb := ffrom_bd (fitsOne wl l (fill wl l k) k) wl.length
    refine snoc_inv ih ⟨hb.1, by unfold fillAt; omega⟩ fun j hj he => ?_
    rcases ffrom_cases (fitsOne wl l (fill wl l k) k) wl.length 0 with ⟨h1, _⟩ | ⟨m, _, _, h3, h4, _⟩
    · unfold fillAt at he; omega
    · unfold fillAt at he
      obtain rfl : m = j := by omega
      exact h4
/-- The train is valid with one box more on wagon j exactly if it fits there. -/
theorem try_eq {wl : List (Int × Int)} {l : List Bx} {ws : List Int} {k j : Nat} (hw : wagonsOk wl = true) (hb : boxesOk l = true) (h : FillInv wl l ws k) (hk : k < l.length) (hj : j < wl.length) :
    trainOk wl (l.take (k + 1)) (ws ++ [(j : Int)]) = fitsOne wl l ws k j := by
  have hlen : (l.take (k + 1)).length = k + 1 := by rw [List.length_take]; omega
  have hws : (ws ++ [(j : Int)]).length = k + 1 := by simp [h.1]
  have e : nth (ws ++ [(j : Int)]) k = (j : Int) := by rw [← h.1, nth_snoc]
  cases hf : fitsOne wl l ws k j with
  | true =>
    have hi := snoc_inv (x := (j : Int)) h (by omega) fun i hi he => by
      obtain rfl : j = i := by omega
      exact hf
    refine trainOk_mk hw (onOk_mk (boxesOk_take hb _) (by omega)) (fun i hi2 => hi.2.1 i (by omega)) fun i hi2 => ?_
    have := hi.2.2 i hi2
    refine fitOk_mk (by rw [hlen]; omega) (by rw [hlen, onWt_take _ _ _ _ _ (Nat.le_refl _)]; omega)
  | false =>
    refine trainOk_f4 hj ?_
    simp only [fitsOne, Bool.and_eq_false_iff, decide_eq_false_iff_not] at hf
    rcases hf with h1 | h1
    · refine fitOk_f1 ?_
      rw [hlen, onMany_hit e, onMany_snoc _ _ _ _ (by have := h.1; omega)]; omega
    · refine fitOk_f2 ?_
      rw [hlen, onWt_take _ _ _ _ _ (Nat.le_refl _), onWt_hit e, onWt_snoc _ _ _ _ _ (by have := h.1; omega)]; omega
/-- What is left of the wagons. -/
def leftL (wl : List (Int × Int)) (l : List Bx) (ws : List Int) (k : Nat) : List (Int × Int) :=
  (List.range wl.length).map fun i => ((nth wl i).1 - onMany ws i k, (nth wl i).2 - onWt l ws i k)
theorem length_leftL (wl : List (Int × Int)) (l : List Bx) (ws : List Int) (k : Nat) : (leftL wl l ws k).length = wl.length := by simp [leftL]
theorem nth_leftL (wl : List (Int × Int)) (l : List Bx) (ws : List Int) (k i : Nat) (h : i < wl.length) : nth (leftL wl l ws k) i = ((nth wl i).1 - onMany ws i k, (nth wl i).2 - onWt l ws i k) := by
  rw [nth_eq _ _ (by rw [length_leftL]; exact h)]; simp [leftL]
theorem leftL_zero (wl : List (Int × Int)) (l : List Bx) : leftL wl l [] 0 = wl := by
  refine ext_nth (length_leftL _ _ _ _) fun i hi => ?_
  rw [length_leftL] at hi
  rw [nth_leftL _ _ _ _ _ hi]
  simp [onMany, onWt, upTo]
/-- As the program asks it. -/
def roomP (v : List (Int × Int)) (wt : Int) (j : Nat) : Bool := decide (0 < (nth v j).1) && decide (wt ≤ (nth v j).2)
theorem roomP_left (wl : List (Int × Int)) (l : List Bx) (ws : List Int) (k : Nat) : ffrom (roomP (leftL wl l ws k) (nth l k).wt) 0 (leftL wl l ws k).length = fillAt wl l ws k := by
  rw [length_leftL]
  refine ffrom_congr _ _ fun i _ hi => ?_
  simp only [roomP, fitsOne, nth_leftL wl l ws k i (by omega)]
  congr 1 <;> rw [decide_eq_decide] <;> omega
theorem leftL_miss (wl : List (Int × Int)) (l : List Bx) (ws : List Int) (k : Nat) (hl : ws.length = k) : leftL wl l (ws ++ [-1]) (k + 1) = leftL wl l ws k := by
  refine ext_nth (by simp [length_leftL]) fun i hi => ?_
  rw [length_leftL] at hi
  rw [nth_leftL _ _ _ _ _ hi, nth_leftL _ _ _ _ _ hi]
  have e : ¬ nth (ws ++ [(-1 : Int)]) k = (i : Int) := by rw [← hl, nth_snoc]; omega
  rw [onMany_miss e, onWt_miss e, onMany_snoc _ _ _ _ (by omega), onWt_snoc _ _ _ _ _ (by omega)]
theorem leftL_hit (wl : List (Int × Int)) (l : List Bx) (ws : List Int) (k j : Nat) (hl : ws.length = k) (hj : j < wl.length) :
    leftL wl l (ws ++ [(j : Int)]) (k + 1) = (leftL wl l ws k).set j ((nth (leftL wl l ws k) j).1 - 1, (nth (leftL wl l ws k) j).2 - (nth l k).wt) := by
  refine ext_nth (by simp [length_leftL]) fun i hi => ?_
  rw [length_leftL] at hi
  rw [nth_set _ _ _ _ (by rw [length_leftL]; exact hj), nth_leftL _ _ _ _ _ hi]
  by_cases he : j = i
  · subst he
    have e : nth (ws ++ [(j : Int)]) k = (j : Int) := by rw [← hl, nth_snoc]
    rw [if_pos rfl, nth_leftL _ _ _ _ _ hi, onMany_hit e, onWt_hit e, onMany_snoc _ _ _ _ (by omega), onWt_snoc _ _ _ _ _ (by omega)]
    simp only [Prod.mk.injEq]; omega
  · have e : ¬ nth (ws ++ [(j : Int)]) k = (i : Int) := by rw [← hl, nth_snoc]; omega
    rw [if_neg he, nth_leftL _ _ _ _ _ hi, onMany_miss e, onWt_miss e, onMany_snoc _ _ _ _ (by omega), onWt_snoc _ _ _ _ _ (by omega)]
end Go.Proofs.Ytdhpjajhkeanjaa
