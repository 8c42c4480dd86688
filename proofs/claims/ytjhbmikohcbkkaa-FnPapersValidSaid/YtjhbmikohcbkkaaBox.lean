/-
  Boxes in memory, and the plain mathematics of boxes. No program is named here.
-/
import Derived.Test.YtjhbmikohcbkkaaEnc
namespace Go.Proofs.Ytjhbmikohcbkkaa
open Go.RowKit
set_option linter.unusedVariables false
set_option maxRecDepth 100000

structure Bx where
  id : Int
  wt : Int
  cls : Int
  port : Int
  cold : Bool
deriving Inhabited, DecidableEq

theorem grown_set (w : World) (g j : Nat) (u : Value) : w.grownBy (w.setCell ⟨g, j, none⟩ u) (some g) :=
  ⟨rfl, rfl, rfl, by simp, fun k _ hk => heap_setCell_other w _ k _ (fun e => hk (by rw [e]))⟩
theorem grown5 (w : World) (g j0 j1 j2 j3 j4 : Nat) (u0 u1 u2 u3 u4 : Value) :
    w.grownBy (((((w.setCell ⟨g, j0, none⟩ u0).setCell ⟨g, j1, none⟩ u1).setCell ⟨g, j2, none⟩ u2).setCell ⟨g, j3, none⟩ u3).setCell ⟨g, j4, none⟩ u4) (some g) :=
  grown_tr (grown_tr (grown_tr (grown_tr (grown_set _ _ _ _) (grown_set _ _ _ _)) (grown_set _ _ _ _)) (grown_set _ _ _ _)) (grown_set _ _ _ _)

/-- A box in five cells. -/
def encB : Enc Bx := ⟨fun b => [vi b.id, vi b.wt, vi b.cls, vi b.port, .bool b.cold], 5, fun _ => rfl, by omega, fun x u hu => by
  simp at hu; rcases hu with rfl | rfl | rfl | rfl | rfl <;> rfl⟩
theorem Rd.at5 {w : World} {b o : Nat} {l : List Bx} (h : Rd encB w (some ⟨b, o, none⟩) l) (k : Nat) (hk : k < l.length) :
    w.cell? ⟨b, o + k * 5, none⟩ = some (vi (nth l k).id) ∧ w.cell? ⟨b, o + k * 5 + 1, none⟩ = some (vi (nth l k).wt) ∧ w.cell? ⟨b, o + k * 5 + 2, none⟩ = some (vi (nth l k).cls) ∧
      w.cell? ⟨b, o + k * 5 + 3, none⟩ = some (vi (nth l k).port) ∧ w.cell? ⟨b, o + k * 5 + 4, none⟩ = some (.bool (nth l k).cold) := by
  obtain ⟨b', o', e1, hb, hc⟩ := h (by omega)
  injection e1 with e1
  injection e1 with e2 e3
  subst e2 e3
  exact ⟨by have := hc k hk 0 _ rfl; simpa [encB] using this, by have := hc k hk 1 _ rfl; simpa [encB, Nat.add_assoc] using this, by have := hc k hk 2 _ rfl; simpa [encB, Nat.add_assoc] using this,
    by have := hc k hk 3 _ rfl; simpa [encB, Nat.add_assoc] using this, by have := hc k hk 4 _ rfl; simpa [encB, Nat.add_assoc] using this⟩
section
variable {w : World} {base n c g : Nat} {E : TypeId} {l : List Bx}
theorem Own.cell5 (h : Own encB E w base (some ⟨g, 0, none⟩) n c l) (k : Nat) (hk : k < n) :
    w.cell? ⟨g, k * 5, none⟩ = some (vi (nth l k).id) ∧ w.cell? ⟨g, k * 5 + 1, none⟩ = some (vi (nth l k).wt) ∧ w.cell? ⟨g, k * 5 + 2, none⟩ = some (vi (nth l k).cls) ∧
      w.cell? ⟨g, k * 5 + 3, none⟩ = some (vi (nth l k).port) ∧ w.cell? ⟨g, k * 5 + 4, none⟩ = some (.bool (nth l k).cold) := by
  exact ⟨by have := h.cell k 0 hk rfl; simpa [encB] using this, by have := h.cell k 1 hk rfl; simpa [encB] using this, by have := h.cell k 2 hk rfl; simpa [encB] using this,
    by have := h.cell k 3 hk rfl; simpa [encB] using this, by have := h.cell k 4 hk rfl; simpa [encB] using this⟩
/-- One of the five cells is stored. -/
theorem Own.putB (h : Own encB E w base (some ⟨g, 0, none⟩) n c l) (k j : Nat) (hk : k < n) (hj : j < 5) (x : Bx) (u : Value) (hx : encB.f x = (encB.f (nth l k)).set j u) :
    Own encB E (w.setCell ⟨g, k * 5 + j, none⟩ u) base (some ⟨g, 0, none⟩) n c (l.set k x) ∧ w.grownBy (w.setCell ⟨g, k * 5 + j, none⟩ u) (some g) :=
  h.put k j hk hj x u hx
/-- All five are stored. -/
theorem Own.put5 (h : Own encB E w base (some ⟨g, 0, none⟩) n c l) (k : Nat) (hk : k < n) (p : Bx) :
    Own encB E (((((w.setCell ⟨g, k * 5, none⟩ (vi p.id)).setCell ⟨g, k * 5 + 1, none⟩ (vi p.wt)).setCell ⟨g, k * 5 + 2, none⟩ (vi p.cls)).setCell ⟨g, k * 5 + 3, none⟩ (vi p.port)).setCell ⟨g, k * 5 + 4, none⟩ (.bool p.cold))
      base (some ⟨g, 0, none⟩) n c (l.set k p) := by
  have hl := h.len
  have h1 := (h.putB k 0 hk (by omega) ⟨p.id, (nth l k).wt, (nth l k).cls, (nth l k).port, (nth l k).cold⟩ (vi p.id) rfl).1
  have e1 : ∀ x : Bx, nth (l.set k x) k = x := fun x => by rw [nth_set _ _ _ _ (by omega), if_pos rfl]
  have h2 := (h1.putB k 1 hk (by omega) ⟨p.id, p.wt, (nth l k).cls, (nth l k).port, (nth l k).cold⟩ (vi p.wt) (by rw [e1]; rfl)).1
  rw [List.set_set] at h2
  have h3 := (h2.putB k 2 hk (by omega) ⟨p.id, p.wt, p.cls, (nth l k).port, (nth l k).cold⟩ (vi p.cls) (by rw [e1]; rfl)).1
  rw [List.set_set] at h3
  have h4 := (h3.putB k 3 hk (by omega) ⟨p.id, p.wt, p.cls, p.port, (nth l k).cold⟩ (vi p.port) (by rw [e1]; rfl)).1
  rw [List.set_set] at h4
  have h5 := (h4.putB k 4 hk (by omega) p (.bool p.cold) (by rw [e1]; rfl)).1
  rw [List.set_set] at h5
  simpa using h5
end

def boxOk (b : Bx) : Bool := win b.id 1 999 && win b.wt 1 30 && win b.cls 0 3 && win b.port 0 6
/-- The first place of an id, or the length. -/
def idAt (l : List Bx) (i : Int) : Nat := l.findIdx fun b => b.id == i
/-- The first place of an id, or -1. -/
def idPos (l : List Bx) (i : Int) : Int := if idAt l i < l.length then (idAt l i : Int) else -1
theorem idAt_hit {l : List Bx} {i : Int} {k : Nat} (hk : k < l.length) (h : (nth l k).id = i) (hj : ∀ j, j < k → (nth l j).id ≠ i) : idAt l i = k := by
  unfold idAt
  rw [List.findIdx_eq hk]
  refine ⟨by rw [← nth_eq l k hk]; simp [h], fun j hjk => ?_⟩
  have := hj j hjk
  rw [nth_eq l j (by omega)] at this
  simpa using this
theorem idPos_hit {l : List Bx} {i : Int} {k : Nat} (hk : k < l.length) (h : (nth l k).id = i) (hj : ∀ j, j < k → (nth l j).id ≠ i) : idPos l i = k := by
  simp [idPos, idAt_hit hk h hj, hk]
theorem idAt_miss {l : List Bx} {i : Int} (hj : ∀ j, j < l.length → (nth l j).id ≠ i) : idAt l i = l.length := by
  unfold idAt
  rw [List.findIdx_eq_length]
  intro x hx
  obtain ⟨k, hk, rfl⟩ := List.getElem_of_mem hx
  have := hj k hk
  rw [nth_eq l k hk] at this
  simpa using this
theorem idPos_miss {l : List Bx} {i : Int} (hj : ∀ j, j < l.length → (nth l j).id ≠ i) : idPos l i = -1 := by
  simp [idPos, idAt_miss hj]
/-- Either it is found, or it is not. -/
theorem idAt_cases (l : List Bx) (i : Int) : (idAt l i < l.length ∧ (nth l (idAt l i)).id = i ∧ ∀ j, j < idAt l i → (nth l j).id ≠ i) ∨ (idAt l i = l.length ∧ ∀ j, j < l.length → (nth l j).id ≠ i) := by
  rcases Nat.lt_or_ge (idAt l i) l.length with h | h
  · left
    have h1 := (List.findIdx_eq (p := fun b => b.id == i) h).1 rfl
    refine ⟨h, by rw [nth_eq l _ h]; simpa using h1.1, fun j hj => ?_⟩
    rw [nth_eq l j (by omega)]
    simpa using h1.2 j hj
  · right
    have h0 : idAt l i = l.length := Nat.le_antisymm (List.findIdx_le_length) h
    refine ⟨h0, fun j hj => ?_⟩
    have := List.findIdx_eq_length.1 h0 _ (List.getElem_mem hj)
    rw [nth_eq l j hj]
    simpa using this
theorem idPos_here {l : List Bx} {k : Nat} (hk : k < l.length) : idPos l (nth l k).id = idAt l (nth l k).id ∧ idAt l (nth l k).id ≤ k := by
  rcases idAt_cases l (nth l k).id with ⟨h1, _, h3⟩ | ⟨_, h2⟩
  · refine ⟨by simp [idPos, h1], ?_⟩
    rcases Nat.lt_or_ge k (idAt l (nth l k).id) with h | h
    · exact absurd rfl (h3 k h)
    · exact h
  · exact absurd rfl (h2 k hk)
theorem idPos_take_t {l : List Bx} {k : Nat} (hk : k < l.length) (h : idPos l (nth l k).id < k) : idPos (l.take k) (nth l k).id ≥ 0 := by
  rcases idAt_cases (l.take k) (nth l k).id with ⟨h1, h2, _⟩ | ⟨_, h2⟩
  · unfold idPos; rw [if_pos h1]; omega
  · have h3 := idPos_here hk
    have h4 : idAt l (nth l k).id < l.length := by omega
    rcases idAt_cases l (nth l k).id with ⟨_, h5, _⟩ | ⟨h5, _⟩
    · refine absurd h5 ?_
      have := h2 (idAt l (nth l k).id) (by rw [List.length_take]; omega)
      rwa [nth_take l _ k (by omega)] at this
    · omega
theorem idPos_take_f {l : List Bx} {k : Nat} (hk : k < l.length) (h : ¬ idPos l (nth l k).id < k) : ¬ idPos (l.take k) (nth l k).id ≥ 0 := by
  rcases idAt_cases (l.take k) (nth l k).id with ⟨h1, h2, _⟩ | ⟨h2, _⟩
  · have h3 := idPos_here hk
    have h6 : (l.take k).length ≤ k := List.length_take_le _ _
    rw [nth_take l _ k (by omega)] at h2
    rcases idAt_cases l (nth l k).id with ⟨_, _, h5⟩ | ⟨h5, _⟩
    · exact absurd h2 (h5 _ (by omega))
    · omega
  · simp [idPos, h2]
def bxOk (l : List Bx) (k : Nat) : Bool := boxOk (nth l k) && decide (k ≤ idAt l (nth l k).id)
def boxesOk (l : List Bx) : Bool := (List.range l.length).all (bxOk l) && decide (l.length ≤ 10)
theorem bxOk_f1 {l : List Bx} {k : Nat} (h : boxOk (nth l k) = false) : bxOk l k = false := by simp [bxOk, h]
theorem bxOk_f2 {l : List Bx} {k : Nat} (hk : k < l.length) (h : idPos l (nth l k).id < k) : bxOk l k = false := by
  simp only [bxOk, Bool.and_eq_false_iff, decide_eq_false_iff_not]
  have := idPos_here hk
  omega
theorem bxOk_mk {l : List Bx} {k : Nat} (h : boxOk (nth l k) = true) (h2 : ¬ idPos l (nth l k).id < k) : bxOk l k = true := by
  simp only [bxOk, h, Bool.true_and, decide_eq_true_eq]
  unfold idPos at h2
  split at h2 <;> omega
theorem boxesOk_no {l : List Bx} (k : Nat) (hk : k < l.length) (h : bxOk l k = false) : boxesOk l = false := by
  have : (List.range l.length).all (bxOk l) = false := by
    rw [List.all_eq_false]; exact ⟨k, List.mem_range.2 hk, by simp [h]⟩
  simp [boxesOk, this]
theorem boxesOk_mk {l : List Bx} (h : ∀ k, k < l.length → bxOk l k = true) : boxesOk l = decide ((l.length : Int) ≤ 10) := by
  have : (List.range l.length).all (bxOk l) = true := by
    rw [List.all_eq_true]; intro k hk; exact h k (List.mem_range.1 hk)
  simp [boxesOk, this]; omega
theorem boxesOk_t {l : List Bx} (h : boxesOk l = true) : (∀ k, k < l.length → bxOk l k = true) ∧ l.length ≤ 10 := by
  simp only [boxesOk, Bool.and_eq_true, decide_eq_true_eq, List.all_eq_true, List.mem_range] at h
  exact h
end Go.Proofs.Ytjhbmikohcbkkaa
