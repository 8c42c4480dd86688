/-
  Contract: the iterator over all orders of a list, and the function that calls itself in it.
-/
import Derived.Test.YtpabfbaoibmnlaaHlB
import Derived.Test.YtpabfbaoibmnlaaBox
import Derived.RangeFuncNested
import Derived.RangeFuncBound
import Derived.RangeFuncCalls
import Derived.RangeFuncLeaves
import Derived.Shelf.Abstract
import Derived.Shelf.RegionOpen
import Derived.WalkKit
import Derived.OwnWalkIn
import Derived.TacticsInMore
import Derived.LoopNIn
import Derived.LoopIn
namespace Go.Proofs.Ytpabfbaoibmnlaa
open Go.RowKit Go.Shelf
set_option linter.unusedVariables false
set_option maxRecDepth 100000
attribute [local go_sem] Oper.semAt_some

/-- All that a beginning goes on to: in the order of the list, none twice. -/
def exts (Lst : List Int) : Nat → List Int → List (List Int)
  | 0, p => [p]
  | f + 1, p => Lst.flatMap fun n => if hasI p n then [] else exts Lst f (p ++ [n])

/-- The iterator's blocks, from s on: the yield, the order's array, the order, the function that extends it; and the list, from before. -/
structure St (W : World) (s l lbk : Nat) (LA : Option Addr) (lc : Nat) (Lst p : List Int) : Prop where
  size : s + 4 ≤ W.heap.size
  yb : W.heap[s]? = some (.cells #[.func (.yield l) #[] #[]] 76 (0, 0))
  arr : OwnI W (s + 1) (some ⟨s + 1, 0, none⟩) p.length Lst.length p
  ord : W.heap[s + 2]? = some (.cells #[.slice (some ⟨s + 1, 0, none⟩) p.length Lst.length] 30 (0, 0))
  eb : W.heap[s + 3]? = some (.cells #[.func (.func 75) #[] #[.pointer (some ⟨s + 2, 0, none⟩), .pointer (some ⟨lbk, 0, none⟩), .pointer (some ⟨s, 0, none⟩), .pointer (some ⟨s + 3, 0, none⟩)]] 29 (0, 0))
  lb : W.heap[lbk]? = some (.cells #[.slice LA Lst.length lc] 30 (0, 0))
  lst : RdI W LA Lst
/-- What a round keeps. -/
def Kp (lo D s : Nat) (A B : World) : Prop := A.heap.size ≤ B.heap.size ∧ ∀ k, (lo ≤ k ∧ k < D) ∨ (s ≤ k ∧ k < s + 4) → B.heap[k]? = A.heap[k]?
section
variable {W W' : World} {s l lbk lc lo D : Nat} {LA : Option Addr} {Lst p : List Int}
theorem St.kept (h : St W s l lbk LA lc Lst p) (k : Kp lo D s W W') (hl : lo ≤ lbk ∧ lbk < D) (hA : ∀ b o, LA = some ⟨b, o, none⟩ → lo ≤ b ∧ b < D) : St W' s l lbk LA lc Lst p := by
  refine ⟨Nat.le_trans h.size k.1, (k.2 s (by omega)).trans h.yb, h.arr.kept k.1 (fun g h1 h2 e => ?_), (k.2 _ (by omega)).trans h.ord, (k.2 _ (by omega)).trans h.eb, (k.2 _ (by omega)).trans h.lb, h.lst.keep k.1 (fun b o e _ => k.2 b (.inl (hA b o e)))⟩
  injection e with e
  injection e with e
  exact k.2 g (by omega)
/-- Memory that is new turns nothing. -/
theorem St.below (h : St W s l lbk LA lc Lst p) (hb : Below W.heap.size W W') (hl : lbk < s) : St W' s l lbk LA lc Lst p :=
  ⟨Nat.le_trans h.size hb.size, (hb.block _ (by have := h.size; omega)).trans h.yb, h.arr.below hb, (hb.block _ (by have := h.size; omega)).trans h.ord, (hb.block _ (by have := h.size; omega)).trans h.eb, (hb.block _ (by have := h.size; omega)).trans h.lb, h.lst.below hb⟩
/-- The array is written beyond the order. -/
theorem St.grow (h : St W s l lbk LA lc Lst p) {q : List Int} (hg : W.grownBy W' (some (s + 1))) (hq : OwnI W' (s + 1) (some ⟨s + 1, 0, none⟩) q.length Lst.length q) (hp : q.take p.length = p) (hpq : p.length < q.length) (hl : lbk < s) (hA : ∀ b o, LA = some ⟨b, o, none⟩ → b < s) :
    St W' s l lbk LA lc Lst p := by
  have hz := h.size
  have hne : ∀ k, k < W.heap.size → k ≠ s + 1 → W'.heap[k]? = W.heap[k]? := fun k hk hk2 => hg.block k hk (fun e => by injection e with e; exact hk2 e)
  have hc := hq.cut p.length (by omega) (by omega)
  rw [hp] at hc
  exact ⟨Nat.le_trans hz hg.size, (hne s (by omega) (by omega)).trans h.yb, hc, (hne _ (by omega) (by omega)).trans h.ord, (hne _ (by omega) (by omega)).trans h.eb, (hne _ (by omega) (by omega)).trans h.lb, h.lst.far hg (fun b o e e2 => by injection e2 with e2; have := hA b o e; omega)⟩
/-- The order is stored anew. -/
theorem St.store (h : St W s l lbk LA lc Lst p) {q : List Int} (hq : OwnI W (s + 1) (some ⟨s + 1, 0, none⟩) q.length Lst.length q) (hl : lbk < s) (hA : ∀ b o, LA = some ⟨b, o, none⟩ → b < s) :
    St (W.setCell ⟨s + 2, 0, none⟩ (.slice (some ⟨s + 1, 0, none⟩) q.length Lst.length)) s l lbk LA lc Lst q ∧ W.grownBy (W.setCell ⟨s + 2, 0, none⟩ (.slice (some ⟨s + 1, 0, none⟩) q.length Lst.length)) (some (s + 2)) := by
  have hg : W.grownBy (W.setCell ⟨s + 2, 0, none⟩ (.slice (some ⟨s + 1, 0, none⟩) q.length Lst.length)) (some (s + 2)) :=
    ⟨rfl, rfl, rfl, by simp, fun k hk hne => Below.heap_setCell W ⟨s + 2, 0, none⟩ _ k (fun e => hne (by rw [e]))⟩
  have hz := h.size
  have hsz : (W.setCell ⟨s + 2, 0, none⟩ (.slice (some ⟨s + 1, 0, none⟩) q.length Lst.length)).heap.size = W.heap.size := by simp
  have hne : ∀ k, k < W.heap.size → k ≠ s + 2 → (W.setCell ⟨s + 2, 0, none⟩ (.slice (some ⟨s + 1, 0, none⟩) q.length Lst.length)).heap[k]? = W.heap[k]? := fun k hk hk2 => hg.block k hk (fun e => by injection e with e; exact hk2 e)
  refine ⟨⟨by omega, (hne s (by omega) (by omega)).trans h.yb, hq.far hg (fun g e e2 => by injection e with e; injection e with e; injection e2 with e2; omega), ?_, (hne _ (by omega) (by omega)).trans h.eb, (hne _ (by omega) (by omega)).trans h.lb, h.lst.far hg (fun b o e e2 => by injection e2 with e2; have := hA b o e; omega)⟩, hg⟩
  rw [heap_setCell_same W (s + 2) 0 _ _ _ h.ord]
  rfl
end
end Go.Proofs.Ytpabfbaoibmnlaa
