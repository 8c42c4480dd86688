/-
  A region that draws its order, reads, and calls functions that only make new memory: walked once. No program is named here.
-/
import Derived.Test.YtjhbmikohcbkkaaEnc
import Derived.BigQuiet
namespace Go.Proofs.Ytjhbmikohcbkkaa
open Go.RowKit
set_option linter.unusedVariables false
set_option maxRecDepth 100000

/-- A world behind w in which all that lay in w lies as it was. -/
structure Past (w : World) where
  val : World
  below : Below w.heap.size w val
instance (w : World) : Nonempty (Past w) := ⟨⟨w, Below.refl _ _⟩⟩
theorem Past.cell {w : World} {p : Addr} {v : Value} (h : w.cell? p = some v) (x : Past w) : x.val.cell? p = some v :=
  (x.below.cell (p := p) (World.block_lt_of_cell? w _ h)).trans h
theorem wp_region_past {P : Program} {id : Nat} {Q : Exit → Act → World → Prop} {a : Act} {w : World} {l : List Oper} (hm : P.follows .mixedOrders = true) (hB : Region.lexB .any l.toArray = true)
    (h : wpQuiet P l.toArray (fun w' => ∃ x : Past w, w' = x.val) (fun a' => ∀ x : Past w, Q .normal a' x.val) l a) : (Code.region id l.toArray true).wp P Q a w :=
  wp_region_quiet (C := fun w' => ∃ x : Past w, w' = x.val) hm hB ⟨⟨w.drew, (Below.refl _ _).drew⟩, rfl⟩ (by
    have : (fun a' => ∀ w', (∃ x : Past w, w' = x.val) → Q .normal a' w') = (fun a' => ∀ x : Past w, Q .normal a' x.val) := by
      funext a'
      refine propext ⟨fun h x => h _ ⟨x, rfl⟩, ?_⟩
      rintro h _ ⟨x, rfl⟩
      exact h x
    rw [this]
    simpa using h)
/-- A callee that makes new memory alone. -/
theorem past_call {P : Program} {f : FuncId} {args : Array Value} {w : World} {x : Past w} {v : Value}
    (h : Calls P f args x.val fun e w' => e = .returned v ∧ Below x.val.heap.size x.val w') : Calls P f args x.val fun e w' => e = .returned v ∧ ∃ y : Past w, w' = y.val :=
  h.mono fun _ w' ⟨he, hb⟩ => ⟨he, ⟨w', bthen x.below hb⟩, rfl⟩
/-- .. or nothing at all. -/
theorem past_same {P : Program} {f : FuncId} {args : Array Value} {w : World} {x : Past w} {v : Value}
    (h : Calls P f args x.val fun e w' => e = .returned v ∧ x.val = w') : Calls P f args x.val fun e w' => e = .returned v ∧ ∃ y : Past w, w' = y.val :=
  h.mono fun _ w' ⟨he, hb⟩ => ⟨he, x, hb.symm⟩
theorem Rd.past {α : Type} [Inhabited α] {e : Enc α} {w : World} {A : Option Addr} {l : List α} (h : Rd e w A l) (x : Past w) : Rd e x.val A l := h.below x.below
theorem RdI.past {w : World} {A : Option Addr} {l : List Int} (h : RdI w A l) (x : Past w) : RdI x.val A l := h.below x.below
end Go.Proofs.Ytjhbmikohcbkkaa
