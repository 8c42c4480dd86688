/-
  The plain mathematics of the best hauls: both searches find the same, and it is the least of all.
-/
import Derived.Test.YtpabfbaoibmnlaaHlP
import Derived.Test.YtpabfbaoibmnlaaPermE
namespace Go.Proofs.Ytpabfbaoibmnlaa

theorem upsI_eq (m : Nat) : upsI m = ups m := rfl
/-- The first of the least, if there is any. -/
def pickMin (cost : List Int → Int) (o : Option (List Int)) (x : List Int) : Option (List Int) :=
  match o with
  | none => some x
  | some b => if cost x < cost b then some x else some b
def firstMin (cost : List Int → Int) (o : Option (List Int)) (xs : List (List Int)) : Option (List Int) := xs.foldl (pickMin cost) o
section
variable {cost : List Int → Int} {L : List (List Int)} {f k n : Nat} {p x who : List Int} {xs : List (List Int)}
theorem pickMin_pos {b x : List Int} (h : cost x < cost b) : pickMin cost (some b) x = some x := if_pos h
theorem pickMin_neg {b x : List Int} (h : ¬ cost x < cost b) : pickMin cost (some b) x = some b := if_neg h
theorem firstMin_append (cost : List Int → Int) (o : Option (List Int)) (xs ys : List (List Int)) : firstMin cost o (xs ++ ys) = firstMin cost (firstMin cost o xs) ys := by simp [firstMin]
theorem firstMin_some (cost : List Int → Int) : ∀ (xs : List (List Int)) (b : List Int), ∃ c, firstMin cost (some b) xs = some c ∧ (c = b ∨ c ∈ xs) ∧ cost c ≤ cost b ∧ ∀ x ∈ xs, cost c ≤ cost x
  | [], b => ⟨b, rfl, .inl rfl, Int.le_refl _, by simp⟩
  | x :: t, b => by
    by_cases h : cost x < cost b
    · obtain ⟨c, h1, h2, h3, h4⟩ := firstMin_some cost t x
      refine ⟨c, by simp only [firstMin, List.foldl_cons, pickMin, if_pos h]; exact h1, .inr ?_, by omega, fun y hy => ?_⟩
      · rcases h2 with rfl | h2
        · simp
        · exact List.mem_cons_of_mem _ h2
      · rcases List.mem_cons.1 hy with rfl | hy
        · exact h3
        · exact h4 y hy
    · obtain ⟨c, h1, h2, h3, h4⟩ := firstMin_some cost t b
      refine ⟨c, by simp only [firstMin, List.foldl_cons, pickMin, if_neg h]; exact h1, ?_, h3, fun y hy => ?_⟩
      · rcases h2 with rfl | h2
        · exact .inl rfl
        · exact .inr (List.mem_cons_of_mem _ h2)
      · rcases List.mem_cons.1 hy with rfl | hy
        · omega
        · exact h4 y hy
theorem firstMin_none (h : xs ≠ []) : ∃ c, firstMin cost none xs = some c ∧ c ∈ xs ∧ ∀ x ∈ xs, cost c ≤ cost x := by
  cases xs with
  | nil => exact absurd rfl h
  | cons x t =>
    obtain ⟨c, h1, h2, h3, h4⟩ := firstMin_some cost t x
    refine ⟨c, h1, ?_, fun y hy => ?_⟩
    · rcases h2 with rfl | h2
      · simp
      · exact List.mem_cons_of_mem _ h2
    · rcases List.mem_cons.1 hy with rfl | hy
      · exact h3
      · exact h4 y hy
/-- A later group counts by its first least. -/
theorem firstMin_group (b : List Int) {c : List Int} : ∀ {ys : List (List Int)}, firstMin cost none ys = some c → firstMin cost (some b) ys = pickMin cost (some b) c := by
  intro ys
  cases ys with
  | nil => intro h; cases h
  | cons y t =>
    intro h
    have gen : ∀ (t : List (List Int)) (y c : List Int), firstMin cost (some y) t = some c → firstMin cost (pickMin cost (some b) y) t = pickMin cost (some b) c := by
      intro t
      induction t with
      | nil => intro y c h; simp only [firstMin, List.foldl_nil, Option.some.injEq] at h ⊢; rw [h]
      | cons z t ih =>
        intro y c h
        simp only [firstMin, List.foldl_cons] at h ⊢
        by_cases hz : cost z < cost y
        · rw [pickMin_pos hz] at h
          have := ih z c h
          have e2 : pickMin cost (pickMin cost (some b) y) z = pickMin cost (some b) z := by
            by_cases hy : cost y < cost b
            · rw [pickMin_pos hy, pickMin_pos hz, pickMin_pos (by omega)]
            · rw [pickMin_neg hy]
          rw [e2]; exact this
        · rw [pickMin_neg hz] at h
          have := ih y c h
          have e2 : pickMin cost (pickMin cost (some b) y) z = pickMin cost (some b) y := by
            by_cases hy : cost y < cost b
            · rw [pickMin_pos hy, pickMin_neg hz]
            · rw [pickMin_neg hy, pickMin_neg (by omega)]
          rw [e2]; exact this
    exact gen t y c h
/-- The program's search keeps just that. -/
theorem bestOf_first : ∀ (xs : List (List Int)), (∀ x ∈ xs, 0 ≤ cost x) → bestOf cost xs = match firstMin cost none xs with | none => ([], -1) | some b => (b, cost b) := by
  suffices ∀ (xs : List (List Int)) (o : Option (List Int)), (∀ x ∈ xs, 0 ≤ cost x) → (∀ b, o = some b → 0 ≤ cost b) →
      xs.foldl (stepBest cost) (match o with | none => ([], -1) | some b => (b, cost b)) = match firstMin cost o xs with | none => ([], -1) | some b => (b, cost b) from
    fun xs h => this xs none h (fun b e => by cases e)
  intro xs
  induction xs with
  | nil => intro o _ _; rfl
  | cons x t ih =>
    intro o hx ho
    have h0 := hx x (by simp)
    cases o with
    | none =>
      have := ih (some x) (fun y hy => hx y (List.mem_cons_of_mem _ hy)) (fun b e => by injection e with e; subst e; exact h0)
      simp only [List.foldl_cons, stepBest, firstMin, pickMin] at this ⊢
      rw [if_pos (.inl (by omega))]
      exact this
    | some b =>
      have hb := ho b rfl
      by_cases h : cost x < cost b
      · have := ih (some x) (fun y hy => hx y (List.mem_cons_of_mem _ hy)) (fun b e => by injection e with e; subst e; exact h0)
        simp only [List.foldl_cons, stepBest, firstMin, pickMin, if_pos h] at this ⊢
        rw [if_pos (.inr h)]
        exact this
      · have := ih (some b) (fun y hy => hx y (List.mem_cons_of_mem _ hy)) (fun c e => by injection e with e; subst e; exact hb)
        simp only [List.foldl_cons, stepBest, firstMin, pickMin, if_neg h] at this ⊢
        rw [if_neg (by omega)]
        exact this

/-! ### orders -/
theorem hasI_iff {l : List Int} {x : Int} : hasI l x = true ↔ x ∈ l := by simp [hasI]
theorem hasI_no {l : List Int} {x : Int} : hasI l x = false ↔ x ∉ l := by rw [← hasI_iff]; cases hasI l x <;> simp
theorem pigeon : ∀ (n : Nat) (p : List Int), (∀ k : Nat, k < n → (k : Int) ∈ p) → n ≤ p.length
  | 0, _, _ => Nat.zero_le _
  | n + 1, p, h => by
    have h1 := h n (by omega)
    have := pigeon n (p.erase (n : Int)) (fun k hk => (List.mem_erase_of_ne (by omega)).2 (h k (by omega)))
    rw [List.length_erase_of_mem h1] at this
    have h2 := List.length_pos_of_mem h1
    omega
theorem exts_ne (n : Nat) : ∀ (f : Nat) (p : List Int), p.length + f = n → exts (ups n) f p ≠ []
  | 0, p, _ => by simp [exts]
  | f + 1, p, hp => by
    have hex : ∃ k : Nat, k < n ∧ (k : Int) ∉ p := by
      apply Classical.byContradiction
      intro hn
      have := pigeon n p (fun k hk => Classical.byContradiction fun h => hn ⟨k, hk, h⟩)
      omega
    obtain ⟨k, hk, hkp⟩ := hex
    have h1 := exts_ne n f (p ++ [(k : Int)]) (by simp; omega)
    intro he
    simp only [exts, List.flatMap_eq_nil_iff] at he
    have := he (k : Int) (by simp [ups]; exact ⟨k, hk, rfl⟩)
    rw [if_neg (by rw [hasI_no.2 hkp]; simp)] at this
    exact h1 this
/-- A beginning of an order. -/
def Begin (n : Nat) (p : List Int) : Prop := ∀ k, k < p.length → permOk p n k = true
theorem begin_snoc (h : Begin n p) {a : Int} (h0 : 0 ≤ a ∧ a ≤ (n : Int) - 1) (hp : hasI p a = false) : Begin n (p ++ [a]) := fun k hk => by
  rw [List.length_append, List.length_singleton] at hk
  rcases Nat.lt_succ_iff_lt_or_eq.1 hk with h1 | h1
  · have e1 : nth (p ++ [a]) k = nth p k := nth_app_lt _ _ _ h1
    have e2 : (p ++ [a]).take k = p.take k := List.take_append_of_le_length (by omega)
    obtain ⟨h2, h3⟩ := permOk_t (h k h1)
    exact permOk_mk (by rw [e1]; exact win_mk h2.1 h2.2) (by rw [e1, e2]; exact h3)
  · subst h1
    exact permOk_mk (by rw [nth_app_here _ _ _ rfl]; exact win_mk h0.1 h0.2) (by rw [nth_app_here _ _ _ rfl, List.take_left]; exact hp)
theorem exts_perm (n : Nat) : ∀ (f : Nat) (p : List Int), Begin n p → p.length + f = n → ∀ x ∈ exts (ups n) f p, isPerm x n = true
  | 0, p, hb, hp, x, hx => by
    simp only [exts, List.mem_singleton] at hx
    subst hx
    rw [isPerm_mk hb]; simp; omega
  | f + 1, p, hb, hp, x, hx => by
    simp only [exts, List.mem_flatMap] at hx
    obtain ⟨a, ha, hx⟩ := hx
    simp only [ups, List.mem_map, List.mem_range] at ha
    obtain ⟨k, hk, rfl⟩ := ha
    cases hh : hasI p (k : Int) with
    | true => rw [hh] at hx; simp at hx
    | false =>
      rw [hh] at hx
      exact exts_perm n f (p ++ [(k : Int)]) (begin_snoc hb (by omega) hh) (by simp; omega) x (by simpa using hx)
theorem perm_exts (hx : isPerm x n = true) : ∀ (f : Nat), f ≤ n → x ∈ exts (ups n) f (x.take (n - f)) := by
  obtain ⟨h1, h2⟩ := isPerm_t hx
  intro f
  induction f with
  | zero => intro _; simp [exts]; rw [List.take_of_length_le (by omega)]
  | succ f ih =>
    intro hf
    have := ih (by omega)
    obtain ⟨h3, h4⟩ := permOk_t (h1 (n - (f + 1)) (by omega))
    simp only [exts, List.mem_flatMap]
    refine ⟨nth x (n - (f + 1)), ?_, ?_⟩
    · simp only [ups, List.mem_map, List.mem_range]
      exact ⟨(nth x (n - (f + 1))).toNat, by omega, by omega⟩
    · rw [h4]
      have e : x.take (n - f) = x.take (n - (f + 1)) ++ [nth x (n - (f + 1))] := by
        rw [← take_snoc x _ (by omega)]; congr 1; omega
      simpa [e] using this
theorem orders_ne (n : Nat) : exts (ups n) n [] ≠ [] := exts_ne n n [] (by simp)
theorem orders_iff (n : Nat) (x : List Int) : x ∈ exts (ups n) n [] ↔ isPerm x n = true :=
  ⟨exts_perm n n [] (fun k hk => by simp at hk) (by simp) x, fun h => by have := perm_exts h n (Nat.le_refl _); simpa using this⟩
theorem cost_nonneg (hc : costsOk L = true) (hx : isPerm x L.length = true) : 0 ≤ haulCost L x := by
  rw [haulCost_ok hc hx]
  exact (hsum_bd hc (isPerm_t hx).2 (Nat.le_refl _) (isPerm_t hx).1).1

/-- The reference's search finds the first of the least, too. -/
theorem best22_first (L : List (List Int)) (hn : 0 < L.length) : ∀ (f : Nat) (p : List Int), p.length + f = L.length → firstMin (haulCost L) none (exts (ups L.length) f p) = some (best22 L f p)
  | 0, p, _ => rfl
  | f + 1, p, hp => by
    have key : ∀ k, k ≤ L.length → (firstMin (haulCost L) none (extK (ups L.length) f p k)).getD [] = fold22 L f p k ∧ ∀ b, firstMin (haulCost L) none (extK (ups L.length) f p k) = some b → 0 < b.length := by
      intro k
      induction k with
      | zero => intro _; rw [extK_zero, fold22_zero]; exact ⟨rfl, fun b e => by cases e⟩
      | succ k ih =>
        intro hk
        obtain ⟨i1, i2⟩ := ih (by omega)
        have hk' : k < (ups L.length).length := by rw [ups_length]; omega
        rw [fold22_succ (by omega)]
        cases hh : hasI p (k : Int) with
        | true =>
          rw [extK_yes hk' (by rw [ups_nth _ _ (by omega)]; exact hh)]
          simp only [step22, hh, if_true]
          exact ⟨i1, i2⟩
        | false =>
          have hx := best22_first L hn f (p ++ [(k : Int)]) (by simp; omega)
          have hmem : best22 L f (p ++ [(k : Int)]) ∈ exts (ups L.length) f (p ++ [(k : Int)]) := by
            obtain ⟨c, c1, c2, _⟩ := firstMin_none (cost := haulCost L) (exts_ne L.length f (p ++ [(k : Int)]) (by simp; omega))
            rw [hx] at c1; injection c1 with c1; rw [c1]; exact c2
          have hlen : 0 < (best22 L f (p ++ [(k : Int)])).length := by
            have gen : ∀ (f : Nat) (q y : List Int), y ∈ exts (ups L.length) f q → q.length ≤ y.length := by
              intro f
              induction f with
              | zero => intro q y hy; simp only [exts, List.mem_singleton] at hy; rw [hy]; exact Nat.le_refl _
              | succ f ihf =>
                intro q y hy
                simp only [exts, List.mem_flatMap] at hy
                obtain ⟨a, _, hy⟩ := hy
                split at hy
                · simp at hy
                · have := ihf _ y hy; simp at this; omega
            have := gen f _ _ hmem; simp at this; omega
          rw [extK_no hk' (by rw [ups_nth _ _ (by omega)]; exact hh), ups_nth _ _ (by omega), firstMin_append]
          simp only [step22, hh, Bool.false_eq_true, if_false]
          cases ho : firstMin (haulCost L) none (extK (ups L.length) f p k) with
          | none =>
            rw [ho] at i1
            simp only [Option.getD_none] at i1
            rw [hx, ← i1]
            simp only [List.length_nil, true_or, if_true]
            exact ⟨rfl, fun b e => by injection e with e; rw [← e]; exact hlen⟩
          | some b =>
            rw [ho] at i1
            simp only [Option.getD_some] at i1
            have hbl := i2 b ho
            rw [firstMin_group b hx, ← i1]
            simp only [pickMin]
            by_cases hlt : haulCost L (best22 L f (p ++ [(k : Int)])) < haulCost L b
            · rw [if_pos hlt, if_pos (.inr hlt)]
              exact ⟨rfl, fun c e => by injection e with e; rw [← e]; exact hlen⟩
            · rw [if_neg hlt, if_neg (by rintro (h3 | h3); omega; exact hlt h3)]
              exact ⟨rfl, fun c e => by injection e with e; rw [← e]; exact hbl⟩
    obtain ⟨h1, h2⟩ := key L.length (Nat.le_refl _)
    have hx : extK (ups L.length) f p L.length = exts (ups L.length) (f + 1) p := by
      have := extK_all (ups L.length) f p
      rwa [ups_length] at this
    rw [hx] at h1
    obtain ⟨c, c1, _⟩ := firstMin_none (cost := haulCost L) (exts_ne L.length (f + 1) p hp)
    rw [c1] at h1 ⊢
    simp only [Option.getD_some] at h1
    rw [h1, fold22_all]

/-- Who does what, at the least cost; the first of such. -/
def bestL (L : List (List Int)) : List Int := if costsOk L then best22 L L.length [] else []
def leastV (L : List (List Int)) : Int := if costsOk L then haulCost L (bestL L) else -1
theorem bestOf_bestL (hc : costsOk L = true) : (bestOf (haulCost L) (exts (ups L.length) L.length [])).1 = bestL L := by
  rw [bestL, if_pos hc, bestOf_first _ (fun x hx => cost_nonneg hc ((orders_iff _ x).1 hx))]
  rcases Nat.eq_zero_or_pos L.length with h0 | h0
  · have : L = [] := List.eq_nil_of_length_eq_zero h0
    subst this
    rfl
  · rw [best22_first L h0 L.length [] (by simp)]
theorem bestL_least (hc : costsOk L = true) : isPerm (bestL L) L.length = true ∧ ∀ x, isPerm x L.length = true → haulCost L (bestL L) ≤ haulCost L x := by
  have hb := bestOf_bestL hc
  rw [bestOf_first _ (fun x hx => cost_nonneg hc ((orders_iff _ x).1 hx))] at hb
  obtain ⟨c, c1, c2, c3⟩ := firstMin_none (cost := haulCost L) (orders_ne L.length)
  rw [c1] at hb
  simp only at hb
  rw [← hb]
  exact ⟨(orders_iff _ c).1 c2, fun x hx => c3 x ((orders_iff _ x).2 hx)⟩
theorem bestL_len (L : List (List Int)) : (bestL L).length ≤ L.length := by
  unfold bestL
  split
  · have := best22_len L L.length []; simpa using this
  · simp
theorem bestL_len5 (L : List (List Int)) : (bestL L).length ≤ 5 := by
  cases hc : costsOk L with
  | false => simp [bestL, hc]
  | true => have := bestL_len L; have := (costsOk_t hc).2; omega
end
end Go.Proofs.Ytpabfbaoibmnlaa
