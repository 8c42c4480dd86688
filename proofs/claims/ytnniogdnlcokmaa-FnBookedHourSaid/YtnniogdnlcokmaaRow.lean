/-
  A block of ints, all of it known (an array that is a variable). No program is named here.
-/
import Derived.Test.YtnniogdnlcokmaaBox
namespace Go.Proofs.Ytnniogdnlcokmaa
open Go.RowKit
set_option linter.unusedVariables false
set_option maxRecDepth 100000

def Row (E : TypeId) (w : World) (g : Nat) (l : List Int) : Prop := w.heap[g]? = some (.cells (l.map vi).toArray E (0, 0))
section
variable {E : TypeId} {w w' : World} {g : Nat} {l : List Int}
theorem Row.lt (h : Row E w g l) : g < w.heap.size := (Array.getElem?_eq_some_iff.1 h).1
theorem Row.below (h : Row E w g l) (hb : Below w.heap.size w w') : Row E w' g l := (hb.block g h.lt).trans h
theorem Row.drewN (h : Row E w g l) (n : Nat) : Row E (w.drewN n) g l := h
theorem Row.cell (h : Row E w g l) (k : Nat) (hk : k < l.length) : w.cell? ⟨g, k, none⟩ = some (vi (nth l k)) := by
  rw [cell_of_row w g k _ _ _ h]
  simp [hk, nth_eq l k hk]
theorem Row.frozen (h : Row E w g l) (k : Nat) : w.frozen? ⟨g, k, none⟩ = false := frozen_of_row w g k _ _ h
theorem Row.set (h : Row E w g l) (k : Nat) (x : Int) : Row E (w.setCell ⟨g, k, none⟩ (vi x)) g (l.set k x) := by
  unfold Row
  rw [heap_setCell_same w g k _ _ _ h]
  simp [List.map_set]
theorem Row.rd (h : Row E w g l) : RdI w (some ⟨g, 0, none⟩) l := fun _ => ⟨g, 0, rfl, h.lt, fun k hk => by rw [Nat.zero_add]; exact h.cell k hk⟩
theorem Row.far (h : Row E w g l) {row : Option Nat} (hg : w.grownBy w' row) (hne : some g ≠ row) : Row E w' g l := (hg.block g h.lt hne).trans h
theorem Row.new (w : World) (l : List Int) (cs : Array Value) (hc : cs = (l.map vi).toArray) : Row E (w.alloc (.cells cs E)) w.heap.size l := by
  subst hc
  exact heap_alloc_new w (.cells (l.map vi).toArray E)
end
end Go.Proofs.Ytnniogdnlcokmaa
