/-
  What the operations of a round of the draw leave, one by one: a deed is drawn and done. Plain facts on memory alone.
-/
import Derived.Test.YtjhbmikohcbkkaaPapJ
namespace Go.Proofs.Ytjhbmikohcbkkaa
open Go.RowKit
set_option linter.unusedVariables false
set_option maxRecDepth 100000

/-- What each operation leaves. -/
def papA (g H : Nat) (A : Option Addr) (n c : Nat) (B : Option Addr) (m d : Nat) : Nat → Value → World → Prop
  | 0 => fun v _ => v = .agg #[.slice A n c, .slice B m d]
  | 1 => fun v _ => v = .pointer (some ⟨g, 0, none⟩)
  | 2 => fun v _ => ∃ x y z : Int, v = .agg #[vi x, vi y, vi z] ∧ (0 ≤ x ∧ x ≤ 5) ∧ (-10 ≤ y ∧ y ≤ 10) ∧ (0 ≤ z ∧ z ≤ 5)
  | 3 => fun v w => ∃ (u : Value) (x : Bool), v = .tuple #[u, .bool x] ∧ PapV H (n + 1) (m + 1) u w
  | 4 => fun v w => ∃ (u : Value) (x : Bool), v = .tuple #[u, .bool x] ∧ PapV H (n + 1) (m + 1) u w
  | 5 => fun v w => PapV H (n + 1) (m + 1) v w
  | 6 => fun v _ => ∃ x : Bool, v = .bool x
  | 7 => fun v w => ∃ (b : Nat) (u1 u2 : Value), v = .pointer (some ⟨b, 0, none⟩) ∧ H ≤ b ∧ w.heap[b]? = some (.cells #[u1, u2] 37 (0, 0)) ∧ PapV H (n + 1) (m + 1) (.agg #[u1, u2]) w
  | 9 => fun v _ => ∃ x : Bool, v = .bool x
  | _ => fun _ _ => True
section
variable {g H : Nat} {A : Option Addr} {n c : Nat} {B : Option Addr} {m d : Nat} {w w' : World}
theorem papA_below (hb : Below w.heap.size w w') (j : Nat) (u : Value) : papA g H A n c B m d j u w → papA g H A n c B m d j u w' := by
  have hk : ∀ {k : Nat} {o : Obj}, w.heap[k]? = some o → w'.heap[k]? = some o := fun {k o} e => (hb.block k (Array.getElem?_eq_some_iff.1 e).1).trans e
  unfold papA
  split
  · exact id
  · exact id
  · exact id
  · rintro ⟨u, x, e, h⟩; exact ⟨u, x, e, h.below hb⟩
  · rintro ⟨u, x, e, h⟩; exact ⟨u, x, e, h.below hb⟩
  · exact fun h => h.below hb
  · exact id
  · rintro ⟨b, u1, u2, e, h1, h2, h3⟩; exact ⟨b, u1, u2, e, h1, hk h2, h3.below hb⟩
  · exact id
  · exact id
theorem papA_read (hg : w.grownBy w' (some g)) (hgH : g < H) (j : Nat) (u : Value) : papA g H A n c B m d j u w → papA g H A n c B m d j u w' := by
  have hk : ∀ {k : Nat} {o : Obj}, w.heap[k]? = some o → k ≠ g → w'.heap[k]? = some o := fun {k o} e hne => (hg.block k (Array.getElem?_eq_some_iff.1 e).1 (fun e => by injection e with e; exact hne e)).trans e
  unfold papA
  split
  · exact id
  · exact id
  · exact id
  · rintro ⟨u, x, e, h⟩; exact ⟨u, x, e, h.read hg hgH⟩
  · rintro ⟨u, x, e, h⟩; exact ⟨u, x, e, h.read hg hgH⟩
  · exact fun h => h.read hg hgH
  · exact id
  · rintro ⟨b, u1, u2, e, h1, h2, h3⟩; exact ⟨b, u1, u2, e, h1, hk h2 (by omega), h3.read hg hgH⟩
  · exact id
  · exact id
/-- Two cells of a box are stored. -/
theorem papA_store {b : Nat} {u1 u2 v1 v2 : Value} (hc : w.heap[b]? = some (.cells #[u1, u2] 37 (0, 0))) (hv : PapV H (n + 1) (m + 1) (.agg #[v1, v2]) w) (j : Nat) (u : Value) :
    papA g H A n c B m d j u w → papA g H A n c B m d j u ((w.setCell ⟨b, 0, none⟩ v1).setCell ⟨b, 1, none⟩ v2) := by
  have hg : w.grownBy ((w.setCell ⟨b, 0, none⟩ v1).setCell ⟨b, 1, none⟩ v2) (some b) := grown_tr (grown_set _ _ _ _) (grown_set _ _ _ _)
  have hk : ∀ {k : Nat} {o : Obj}, w.heap[k]? = some o → k ≠ b → ((w.setCell ⟨b, 0, none⟩ v1).setCell ⟨b, 1, none⟩ v2).heap[k]? = some o := fun {k o} e hne => (hg.block k (Array.getElem?_eq_some_iff.1 e).1 (fun e => by injection e with e; exact hne e)).trans e
  have h1 : (w.setCell ⟨b, 0, none⟩ v1).heap[b]? = some (.cells #[v1, u2] 37 (0, 0)) := by rw [heap_setCell_same w _ 0 _ _ _ hc]; rfl
  have h2 : ((w.setCell ⟨b, 0, none⟩ v1).setCell ⟨b, 1, none⟩ v2).heap[b]? = some (.cells #[v1, v2] 37 (0, 0)) := by rw [heap_setCell_same _ _ 1 _ _ _ h1]; rfl
  unfold papA
  split
  · exact id
  · exact id
  · exact id
  · rintro ⟨u, x, e, h⟩; exact ⟨u, x, e, h.boxed hc hg⟩
  · rintro ⟨u, x, e, h⟩; exact ⟨u, x, e, h.boxed hc hg⟩
  · exact fun h => h.boxed hc hg
  · exact id
  · rintro ⟨b', w1, w2, e, k1, k2, k3⟩
    by_cases hbb : b' = b
    · subst hbb; exact ⟨b', v1, v2, e, k1, h2, hv.boxed hc hg⟩
    · exact ⟨b', w1, w2, e, k1, hk k2 hbb, k3.boxed hc hg⟩
  · exact id
  · exact id
end
end Go.Proofs.Ytjhbmikohcbkkaa
