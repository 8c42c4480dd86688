/-
  Contract: slices.Insert of one element, all roads.
-/
import Derived.Test.YtnniogdnlcokmaaInsR
import Derived.Test.YtnniogdnlcokmaaInsG
namespace Go.Proofs.Ytnniogdnlcokmaa
open Go.RowKit
set_option linter.unusedVariables false
set_option maxRecDepth 100000
theorem insertBooking_any (base i n c v : Nat) (A : Option Addr) (l : List (Int × Int)) (p : Int × Int) (w : World) (hV : w.heap[v]? = some (.cells #[vi p.1, vi p.2] 36 (0, 0))) (h : Own encP 36 w base A n c l)
    (hbase : base ≤ w.heap.size) (hv : ∀ g, A = some ⟨g, 0, none⟩ → v ≠ g) (hi : i ≤ n) (hn : n ≤ 100000000) :
    Calls Try.prog 48 #[.slice A n c, vi i, .slice (some ⟨v, 0, none⟩) 1 1] w (InsBooking w base A n (l.take i ++ p :: l.drop i)) := by
  have hln := h.len
  rcases Nat.lt_or_ge i n with h1 | h1
  · rcases h.form with ⟨rfl, hl⟩ | ⟨g, rfl, _, _⟩
    · rw [hl] at hln; simp at hln; omega
    · have hcap := h.cap.1
      rcases Nat.lt_or_ge n c with h2 | h2
      · exact ins_room base i n c v g l p w hV h (hv g rfl) h1 h2 hn
      · obtain rfl : n = c := by omega
        exact ins_grow base i n v g l p w hV h hbase h1 hn
  · obtain rfl : i = n := by omega
    have := ins_end base i c v A l p w hV h hbase hn
    rw [List.take_of_length_le (by omega), List.drop_eq_nil_of_le (by omega)]
    exact this
end Go.Proofs.Ytnniogdnlcokmaa
