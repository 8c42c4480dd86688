/-
  Plain facts for the laws on papers.
-/
import Derived.Test.YtjhbmikohcbkkaaPapC
namespace Go.Proofs.Ytjhbmikohcbkkaa
open Go.RowKit
set_option linter.unusedVariables false
set_option maxRecDepth 100000

theorem szP_room {n m : Nat} (h : ¬ szP n m 1048576 < 0) : n ≤ 1048576 ∧ m ≤ 1048576 := by
  unfold szP at h
  split at h
  · omega
  · split at h <;> omega
theorem box_stored (w : World) (E : TypeId) (u v : Value) :
    (w.alloc (.cells #[u, v] E)).cell? ⟨w.heap.size, 0, none⟩ = some u ∧ (w.alloc (.cells #[u, v] E)).cell? ⟨w.heap.size, 1, none⟩ = some v ∧ Below w.heap.size w (w.alloc (.cells #[u, v] E)) :=
  ⟨by rw [World.cell?_alloc_at _ _ _ _ rfl]; rfl, by rw [World.cell?_alloc_at _ _ _ _ rfl]; rfl, (Below.refl _ _).alloc (Nat.le_refl _) _⟩
theorem hap_rev {E : TypeId} {w : World} {b : Nat} {A B : Option Addr} {n c : Nat} {l : List (Int × Int)} (h : Own encP E w b A n c l) (hap : ∀ g, A = some ⟨g, 0, none⟩ → some g ≠ blk B) : ∀ g, B = some ⟨g, 0, none⟩ → some g ≠ blk A := by
  rintro g rfl e
  rcases h.form with ⟨rfl, _⟩ | ⟨g', rfl, _, _⟩
  · cases e
  · exact hap g' rfl (by injection e with e; subst e; rfl)
theorem held_keep {w0 wa wb : World} {p0 p1 p2 p3 : Addr} {v0 v1 v2 v3 : Value} (h : wa.cell? p0 = some v0 ∧ wa.cell? p1 = some v1 ∧ wa.cell? p2 = some v2 ∧ wa.cell? p3 = some v3 ∧ Below w0.heap.size w0 wa) (hb : Below wa.heap.size wa wb) :
    wb.cell? p0 = some v0 ∧ wb.cell? p1 = some v1 ∧ wb.cell? p2 = some v2 ∧ wb.cell? p3 = some v3 ∧ Below w0.heap.size w0 wb :=
  ⟨cell_keep h.1 hb, cell_keep h.2.1 hb, cell_keep h.2.2.1 hb, cell_keep h.2.2.2.1 hb, bthen h.2.2.2.2 hb⟩
end Go.Proofs.Ytjhbmikohcbkkaa
