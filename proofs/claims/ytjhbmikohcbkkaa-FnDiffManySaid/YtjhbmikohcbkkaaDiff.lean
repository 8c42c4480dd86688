/-
  Differences in memory, and how many there are of a kind. No program is named here.
-/
import Derived.Test.YtjhbmikohcbkkaaTrain
namespace Go.Proofs.Ytjhbmikohcbkkaa
open Go.RowKit
set_option linter.unusedVariables false
set_option maxRecDepth 100000

/-- A difference in six cells. -/
def encD : Enc (Int × Bx) := ⟨fun p => [vi p.1, vi p.2.id, vi p.2.wt, vi p.2.cls, vi p.2.port, .bool p.2.cold], 6, fun _ => rfl, by omega, fun x u hu => by
  simp at hu; rcases hu with rfl | rfl | rfl | rfl | rfl | rfl <;> rfl⟩
theorem Rd.at6 {w : World} {b o : Nat} {l : List (Int × Bx)} (h : Rd encD w (some ⟨b, o, none⟩) l) (k : Nat) (hk : k < l.length) :
    w.cell? ⟨b, o + k * 6, none⟩ = some (vi (nth l k).1) ∧ w.cell? ⟨b, o + k * 6 + 1, none⟩ = some (vi (nth l k).2.id) ∧ w.cell? ⟨b, o + k * 6 + 2, none⟩ = some (vi (nth l k).2.wt) ∧
      w.cell? ⟨b, o + k * 6 + 3, none⟩ = some (vi (nth l k).2.cls) ∧ w.cell? ⟨b, o + k * 6 + 4, none⟩ = some (vi (nth l k).2.port) ∧ w.cell? ⟨b, o + k * 6 + 5, none⟩ = some (.bool (nth l k).2.cold) := by
  obtain ⟨b', o', e1, hb, hc⟩ := h (by omega)
  injection e1 with e1
  injection e1 with e2 e3
  subst e2 e3
  exact ⟨by have := hc k hk 0 _ rfl; simpa [encD] using this, by have := hc k hk 1 _ rfl; simpa [encD, Nat.add_assoc] using this, by have := hc k hk 2 _ rfl; simpa [encD, Nat.add_assoc] using this,
    by have := hc k hk 3 _ rfl; simpa [encD, Nat.add_assoc] using this, by have := hc k hk 4 _ rfl; simpa [encD, Nat.add_assoc] using this, by have := hc k hk 5 _ rfl; simpa [encD, Nat.add_assoc] using this⟩
section
variable {w : World} {base n c g : Nat} {E : TypeId} {l : List (Int × Bx)}
theorem Own.cell6 (h : Own encD E w base (some ⟨g, 0, none⟩) n c l) (k : Nat) (hk : k < n) :
    w.cell? ⟨g, k * 6, none⟩ = some (vi (nth l k).1) ∧ w.cell? ⟨g, k * 6 + 1, none⟩ = some (vi (nth l k).2.id) ∧ w.cell? ⟨g, k * 6 + 2, none⟩ = some (vi (nth l k).2.wt) ∧
      w.cell? ⟨g, k * 6 + 3, none⟩ = some (vi (nth l k).2.cls) ∧ w.cell? ⟨g, k * 6 + 4, none⟩ = some (vi (nth l k).2.port) ∧ w.cell? ⟨g, k * 6 + 5, none⟩ = some (.bool (nth l k).2.cold) := by
  exact ⟨by have := h.cell k 0 hk rfl; simpa [encD] using this, by have := h.cell k 1 hk rfl; simpa [encD] using this, by have := h.cell k 2 hk rfl; simpa [encD] using this,
    by have := h.cell k 3 hk rfl; simpa [encD] using this, by have := h.cell k 4 hk rfl; simpa [encD] using this, by have := h.cell k 5 hk rfl; simpa [encD] using this⟩
/-- The last five are stored. -/
theorem Own.putOf (h : Own encD E w base (some ⟨g, 0, none⟩) n c l) (k : Nat) (hk : k < n) (p : Bx) :
    Own encD E (((((w.setCell ⟨g, k * 6 + 1, none⟩ (vi p.id)).setCell ⟨g, k * 6 + 2, none⟩ (vi p.wt)).setCell ⟨g, k * 6 + 3, none⟩ (vi p.cls)).setCell ⟨g, k * 6 + 4, none⟩ (vi p.port)).setCell ⟨g, k * 6 + 5, none⟩ (.bool p.cold))
      base (some ⟨g, 0, none⟩) n c (l.set k ((nth l k).1, p)) := by
  have hl := h.len
  have e1 : ∀ x : Int × Bx, nth (l.set k x) k = x := fun x => by rw [nth_set _ _ _ _ (by omega), if_pos rfl]
  have h1 := (h.put k 1 hk (by simp [encD]) ((nth l k).1, ⟨p.id, (nth l k).2.wt, (nth l k).2.cls, (nth l k).2.port, (nth l k).2.cold⟩) (vi p.id) rfl).1
  have h2 := (h1.put k 2 hk (by simp [encD]) ((nth l k).1, ⟨p.id, p.wt, (nth l k).2.cls, (nth l k).2.port, (nth l k).2.cold⟩) (vi p.wt) (by rw [e1]; rfl)).1
  rw [List.set_set] at h2
  have h3 := (h2.put k 3 hk (by simp [encD]) ((nth l k).1, ⟨p.id, p.wt, p.cls, (nth l k).2.port, (nth l k).2.cold⟩) (vi p.cls) (by rw [e1]; rfl)).1
  rw [List.set_set] at h3
  have h4 := (h3.put k 4 hk (by simp [encD]) ((nth l k).1, ⟨p.id, p.wt, p.cls, p.port, (nth l k).2.cold⟩) (vi p.port) (by rw [e1]; rfl)).1
  rw [List.set_set] at h4
  have h5 := (h4.put k 5 hk (by simp [encD]) ((nth l k).1, p) (.bool p.cold) (by rw [e1]; rfl)).1
  rw [List.set_set] at h5
  simpa [encD] using h5
/-- All six are stored. -/
theorem Own.put6 (h : Own encD E w base (some ⟨g, 0, none⟩) n c l) (k : Nat) (hk : k < n) (p : Int × Bx) :
    Own encD E ((((((w.setCell ⟨g, k * 6, none⟩ (vi p.1)).setCell ⟨g, k * 6 + 1, none⟩ (vi p.2.id)).setCell ⟨g, k * 6 + 2, none⟩ (vi p.2.wt)).setCell ⟨g, k * 6 + 3, none⟩ (vi p.2.cls)).setCell ⟨g, k * 6 + 4, none⟩ (vi p.2.port)).setCell ⟨g, k * 6 + 5, none⟩ (.bool p.2.cold))
      base (some ⟨g, 0, none⟩) n c (l.set k p) := by
  have hl := h.len
  have h1 := (h.put k 0 hk (by simp [encD]) (p.1, (nth l k).2) (vi p.1) rfl).1
  have h2 := h1.putOf k hk p.2
  rw [nth_set _ _ _ _ (by omega), if_pos rfl, List.set_set] at h2
  simpa [encD] using h2
end
theorem grown6 (w : World) (g j0 j1 j2 j3 j4 j5 : Nat) (u0 u1 u2 u3 u4 u5 : Value) :
    w.grownBy ((((((w.setCell ⟨g, j0, none⟩ u0).setCell ⟨g, j1, none⟩ u1).setCell ⟨g, j2, none⟩ u2).setCell ⟨g, j3, none⟩ u3).setCell ⟨g, j4, none⟩ u4).setCell ⟨g, j5, none⟩ u5) (some g) :=
  grown_tr (grown5 _ _ _ _ _ _ _ _ _ _ _ _) (grown_set _ _ _ _)

/-- How many of the first n have a kind. -/
def cntD (l : List (Int × Bx)) (kind : Int) (n : Nat) : Int := upTo (fun i => if (nth l i).1 = kind then 1 else 0) n
theorem cntD_hit {l : List (Int × Bx)} {kind : Int} {n : Nat} (h : (nth l n).1 = kind) : cntD l kind (n + 1) = cntD l kind n + 1 := by simp [cntD, upTo, h]
theorem cntD_miss {l : List (Int × Bx)} {kind : Int} {n : Nat} (h : ¬ (nth l n).1 = kind) : cntD l kind (n + 1) = cntD l kind n := by simp [cntD, upTo, h]
theorem cntD_bd (l : List (Int × Bx)) (kind : Int) (n : Nat) : 0 ≤ cntD l kind n ∧ cntD l kind n ≤ n := by
  have := upTo_bound (f := fun i => if (nth l i).1 = kind then 1 else 0) (n := n) (b := 1) (fun i _ => by split <;> omega)
  unfold cntD; omega
def diffMany (l : List (Int × Bx)) (kind : Int) : Int := if win kind 0 2 then cntD l kind l.length else 0
theorem diffMany_f {l : List (Int × Bx)} {kind : Int} (h : win kind 0 2 = false) : diffMany l kind = 0 := by simp [diffMany, h]
theorem diffMany_t {l : List (Int × Bx)} {kind : Int} (h : win kind 0 2 = true) : diffMany l kind = cntD l kind l.length := by simp [diffMany, h]
theorem diffMany_bd (l : List (Int × Bx)) (kind : Int) : 0 ≤ diffMany l kind ∧ diffMany l kind ≤ l.length := by
  have := cntD_bd l kind l.length
  unfold diffMany; split <;> omega
/-- Those of all three kinds are together all. -/
theorem diff_all {l : List (Int × Bx)} (h : ∀ i, i < l.length → 0 ≤ (nth l i).1 ∧ (nth l i).1 ≤ 2) : diffMany l 0 + diffMany l 1 + diffMany l 2 = l.length := by
  rw [diffMany_t (by rfl), diffMany_t (by rfl), diffMany_t (by rfl)]
  have : ∀ n, n ≤ l.length → cntD l 0 n + cntD l 1 n + cntD l 2 n = n := by
    intro n
    induction n with
    | zero => intro _; rfl
    | succ n ih =>
      intro hn
      have h1 := ih (by omega)
      have h2 := h n (by omega)
      have h3 : (nth l n).1 = 0 ∨ (nth l n).1 = 1 ∨ (nth l n).1 = 2 := by omega
      rcases h3 with h3 | h3 | h3
      · rw [cntD_hit h3, cntD_miss (by omega), cntD_miss (by omega)]; omega
      · rw [cntD_miss (by omega), cntD_hit h3, cntD_miss (by omega)]; omega
      · rw [cntD_miss (by omega), cntD_miss (by omega), cntD_hit h3]; omega
  exact this _ (Nat.le_refl _)
end Go.Proofs.Ytjhbmikohcbkkaa
