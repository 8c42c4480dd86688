/-
  The plain law on trains. No program is named here.
-/
import Derived.Test.YtdhpjajhkeanjaaFill
namespace Go.Proofs.Ytdhpjajhkeanjaa
set_option linter.unusedVariables false

/-- All of the first n are on a wagon of -1..6. -/
def wIn (ws : List Int) : Nat → Bool
  | 0 => true
  | n + 1 => wIn ws n && win (nth ws n) (-1) 6
theorem wIn_t {ws : List Int} {n : Nat} (h : wIn ws n = true) : ∀ i, i < n → -1 ≤ nth ws i ∧ nth ws i ≤ 6 := by
  induction n with
  | zero => intro i hi; omega
  | succ n ih =>
    simp only [wIn, Bool.and_eq_true] at h
    intro i hi
    rcases Nat.lt_succ_iff_lt_or_eq.1 hi with h1 | h1
    · exact ih h.1 i h1
    · subst h1; exact win_t h.2
theorem eight (x : Int) (y : Int) (h : -1 ≤ x ∧ x ≤ 6) : upTo (fun j => if x = (j : Int) - 1 then y else 0) 8 = y := by
  have h8 : x = -1 ∨ x = 0 ∨ x = 1 ∨ x = 2 ∨ x = 3 ∨ x = 4 ∨ x = 5 ∨ x = 6 := by omega
  rcases h8 with rfl | rfl | rfl | rfl | rfl | rfl | rfl | rfl <;> simp [upTo]
theorem many_all {ws : List Int} {n : Nat} (h : wIn ws n = true) : upTo (fun j => onMany ws ((j : Int) - 1) n) 8 = n := by
  have h1 := wIn_t h
  clear h
  induction n with
  | zero => simp [onMany, upTo]
  | succ n ih =>
    have e : (fun j : Nat => onMany ws ((j : Int) - 1) (n + 1)) = fun j : Nat => onMany ws ((j : Int) - 1) n + (if nth ws n = (j : Int) - 1 then 1 else 0) := rfl
    rw [e, upTo_add, ih fun i hi => h1 i (by omega), eight _ _ (h1 n (by omega))]
    omega
def wtSum (l : List Bx) (n : Nat) : Int := upTo (fun i => (nth l i).wt) n
theorem wtSum_succ (l : List Bx) (n : Nat) : wtSum l (n + 1) = wtSum l n + (nth l n).wt := rfl
theorem wtSum_bd {l : List Bx} (h : boxesOk l = true) (n : Nat) (hn : n ≤ l.length) : 0 ≤ wtSum l n ∧ wtSum l n ≤ 300 := by
  have := upTo_bound (f := fun i => (nth l i).wt) (n := n) (b := 30) (fun i hi => by have := boxesOk_wt h i (by omega); omega)
  have h2 := (boxesOk_t h).2
  unfold wtSum; omega
theorem wt_all {l : List Bx} {ws : List Int} {n : Nat} (h : wIn ws n = true) : upTo (fun j => onWt l ws ((j : Int) - 1) n) 8 = wtSum l n := by
  have h1 := wIn_t h
  clear h
  induction n with
  | zero => simp [onWt, upTo, wtSum]
  | succ n ih =>
    have e : (fun j : Nat => onWt l ws ((j : Int) - 1) (n + 1)) = fun j : Nat => onWt l ws ((j : Int) - 1) n + (if nth ws n = (j : Int) - 1 then (nth l n).wt else 0) := rfl
    rw [e, upTo_add, ih fun i hi => h1 i (by omega), eight _ _ (h1 n (by omega)), wtSum_succ]
/-- The sums over the first wagons. -/
def manyTo (ws : List Int) (n j : Nat) : Int := upTo (fun i => onMany ws ((i : Int) - 1) n) j
def wtTo (l : List Bx) (ws : List Int) (n j : Nat) : Int := upTo (fun i => onWt l ws ((i : Int) - 1) n) j
theorem manyTo_bd (ws : List Int) (n j : Nat) (hn : n ≤ 12) : 0 ≤ manyTo ws n j ∧ manyTo ws n j ≤ 12 * j := by
  have := upTo_bound (f := fun i : Nat => onMany ws ((i : Int) - 1) n) (n := j) (b := 12) (fun i hi => by have := onMany_bd ws ((i : Int) - 1) n; omega)
  exact this
theorem wtTo_bd {l : List Bx} (h : boxesOk l = true) (ws : List Int) (n j : Nat) (hn : n ≤ l.length) : 0 ≤ wtTo l ws n j ∧ wtTo l ws n j ≤ 300 * j := by
  have := upTo_bound (f := fun i : Nat => onWt l ws ((i : Int) - 1) n) (n := j) (b := 300) (fun i hi => onWt_bd h ws _ n hn)
  exact this
theorem manyTo_succ (ws : List Int) (n j : Nat) : manyTo ws n (j + 1) = manyTo ws n j + onMany ws ((j : Int) - 1) n := rfl
theorem wtTo_succ (l : List Bx) (ws : List Int) (n j : Nat) : wtTo l ws n (j + 1) = wtTo l ws n j + onWt l ws ((j : Int) - 1) n := rfl

/-- Any box may be taken off. -/
theorem train_off {wl : List (Int × Int)} {l : List Bx} {ws : List Int} (h : trainOk wl l ws = true) (k : Nat) (hk : k < ws.length) : trainOk wl l (ws.set k (-1)) = true := by
  obtain ⟨h1, h2, h3, h4⟩ := trainOk_t h
  obtain ⟨h5, h6⟩ := onOk_t h2
  have e : ∀ i, nth (ws.set k (-1)) i = if k = i then -1 else nth ws i := fun i => nth_set ws k i (-1) hk
  refine trainOk_mk h1 (onOk_mk h5 (by simpa using h6)) (fun i hi => ?_) fun j hj => ?_
  · have := h3 i (by simpa using hi)
    unfold whOk at *
    rw [e]
    split
    · exact win_mk (by omega) (by omega)
    · exact this
  · have h7 := fitOk_t (h4 j hj)
    have hm : onMany (ws.set k (-1)) j l.length ≤ onMany ws j l.length := upTo_le fun i _ => by
      rw [e]
      split
      · rw [if_neg (by omega)]; split <;> omega
      · exact Int.le_refl _
    have hw : onWt l (ws.set k (-1)) j l.length ≤ onWt l ws j l.length := upTo_le fun i hi => by
      rw [e]
      have := boxesOk_wt h5 i hi
      split
      · rw [if_neg (by omega)]; split <;> omega
      · exact Int.le_refl _
    exact fitOk_mk (by omega) (by omega)

/-- The filled train is valid. -/
theorem fill_ok {wl : List (Int × Int)} {l : List Bx} (h1 : wagonsOk wl = true) (h2 : boxesOk l = true) : trainOk wl l (fill wl l l.length) = true := by
  have hi := fill_inv wl l h1 l.length
  refine trainOk_mk h1 (onOk_mk h2 hi.1) (fun i hi2 => hi.2.1 i (by have := hi.1; omega)) fun j hj => ?_
  have := hi.2.2 j hj
  exact fitOk_mk (by omega) (by omega)
theorem fill_pre (wl : List (Int × Int)) (l : List Bx) (k i : Nat) (hi : i < k) : ∀ n, k ≤ n → nth (fill wl l n) i = nth (fill wl l k) i := by
  intro n hn
  induction n with
  | zero => omega
  | succ n ih =>
    rcases Nat.lt_or_ge k (n + 1) with h | h
    · rw [show fill wl l (n + 1) = fill wl l n ++ [fillAt wl l (fill wl l n) n] from rfl, nth_snoc_lt _ _ _ (by rw [length_fill]; omega)]
      exact ih (by omega)
    · rw [show n + 1 = k by omega]
theorem fill_nth (wl : List (Int × Int)) (l : List Bx) (k n : Nat) (h : k < n) : nth (fill wl l n) k = fillAt wl l (fill wl l k) k := by
  rw [fill_pre wl l (k + 1) k (by omega) n (by omega)]
  have e : fill wl l (k + 1) = fill wl l k ++ [fillAt wl l (fill wl l k) k] := rfl
  have := nth_snoc (fill wl l k) (fillAt wl l (fill wl l k) k)
  rw [length_fill] at this
  rw [e]; exact this
/-- What is left behind fits nowhere. -/
theorem fill_no {wl : List (Int × Int)} {l : List Bx} (h1 : wagonsOk wl = true) (h2 : boxesOk l = true) {k j : Nat} (hk : k < l.length) (hj : j < wl.length) (hneg : nth (fill wl l l.length) k < 0) :
    trainOk wl l ((fill wl l l.length).set k (j : Int)) = false := by
  have hf : fitsOne wl l (fill wl l k) k j = false := by
    rw [fill_nth wl l k l.length hk] at hneg
    rcases ffrom_cases (fitsOne wl l (fill wl l k) k) wl.length 0 with ⟨_, h3⟩ | ⟨m, _, _, h4, _⟩
    · exact h3 j (Nat.zero_le _) (by omega)
    · unfold fillAt at hneg; omega
  have hlen := length_fill wl l l.length
  have e : ∀ i, nth ((fill wl l l.length).set k (j : Int)) i = if k = i then (j : Int) else nth (fill wl l l.length) i := fun i => nth_set _ k i _ (by omega)
  -- over the first k + 1 the lists say the same as when it was tried
  have hpre : ∀ i, i < k → nth ((fill wl l l.length).set k (j : Int)) i = nth (fill wl l k) i := fun i hi => by
    rw [e, if_neg (by omega)]; exact fill_pre wl l k i hi l.length (by omega)
  have hk1 : nth ((fill wl l l.length).set k (j : Int)) k = (j : Int) := by rw [e, if_pos rfl]
  have hmono : ∀ (f : Nat → Int) (n m : Nat), n ≤ m → (∀ i, i < m → 0 ≤ f i) → upTo f n ≤ upTo f m := by
    intro f n m hnm h0
    induction m with
    | zero => obtain rfl : n = 0 := by omega
              exact Int.le_refl _
    | succ m ih =>
      rcases Nat.lt_or_ge n (m + 1) with h | h
      · have h5 := ih (by omega) fun i hi => h0 i (by omega)
        have h6 := h0 m (by omega)
        simp only [upTo]; omega
      · rw [show n = m + 1 by omega]; exact Int.le_refl _
  have hm : onMany (fill wl l k) j k + 1 ≤ onMany ((fill wl l l.length).set k (j : Int)) j l.length := by
    have h5 : onMany ((fill wl l l.length).set k (j : Int)) j (k + 1) = onMany (fill wl l k) j k + 1 := by
      rw [onMany_hit hk1]
      congr 1
      exact upTo_congr fun i hi => by rw [hpre i hi]
    rw [← h5]
    exact hmono _ _ _ (by omega) fun i _ => by split <;> omega
  have hw : onWt l (fill wl l k) j k + (nth l k).wt ≤ onWt l ((fill wl l l.length).set k (j : Int)) j l.length := by
    have h5 : onWt l ((fill wl l l.length).set k (j : Int)) j (k + 1) = onWt l (fill wl l k) j k + (nth l k).wt := by
      rw [onWt_hit hk1]
      congr 1
      exact upTo_congr fun i hi => by rw [hpre i hi]
    rw [← h5]
    exact hmono _ _ _ (by omega) fun i hi => by have := boxesOk_wt h2 i hi; split <;> omega
  refine trainOk_f4 hj ?_
  simp only [fitsOne, Bool.and_eq_false_iff, decide_eq_false_iff_not] at hf
  rcases hf with h6 | h6
  · exact fitOk_f1 (by omega)
  · exact fitOk_f2 (by omega)
end Go.Proofs.Ytdhpjajhkeanjaa
