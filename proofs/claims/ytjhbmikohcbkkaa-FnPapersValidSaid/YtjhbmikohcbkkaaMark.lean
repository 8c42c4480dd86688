/-
  Contracts: marks laid into lists of structs of two ints, and looked for.
-/
import Derived.Test.YtjhbmikohcbkkaaPair
namespace Go.Proofs.Ytjhbmikohcbkkaa
open Go.RowKit
set_option linter.unusedVariables false
set_option maxRecDepth 100000

/-- (k, k+1), (k+2, k+3), .., n of them -/
def marksP (k : Int) (n : Nat) : List (Int × Int) := (List.range n).map fun (i : Nat) => (k + 2 * (i : Int), k + 2 * (i : Int) + 1)
theorem length_marksP (k : Int) (n : Nat) : (marksP k n).length = n := by simp [marksP]
theorem nth_marksP (k : Int) (n i : Nat) (h : i < n) : nth (marksP k n) i = (k + 2 * (i : Int), k + 2 * (i : Int) + 1) := by
  rw [nth_eq _ _ (by simpa [marksP] using h)]; simp [marksP]
/-- The first i of l replaced by marks. -/
def markedP (l : List (Int × Int)) (k : Int) (i : Nat) : List (Int × Int) := marksP k i ++ l.drop i
theorem markedP_set (l : List (Int × Int)) (k : Int) (i : Nat) (h : i < l.length) : (markedP l k i).set i (k + 2 * (i : Int), k + 2 * (i : Int) + 1) = markedP l k (i + 1) := by
  unfold markedP
  rw [List.set_append_right _ _ (by simp [marksP]), length_marksP, Nat.sub_self, List.drop_eq_getElem_cons h, List.set_cons_zero]
  simp [marksP, List.range_succ]
theorem markedP_all (l : List (Int × Int)) (k : Int) : markedP l k l.length = marksP k l.length := by simp [markedP]
theorem markedP_zero (l : List (Int × Int)) (k : Int) : markedP l k 0 = l := by simp [markedP, marksP]
/-- A call that overwrites a slice of its caller's with marks. -/
def MarkP (T : TypeId) (w : World) (base : Nat) (A : Option Addr) (n c : Nat) (k : Int) (e : Ending) (w' : World) : Prop :=
  e = .returned (vi (k + 2 * n)) ∧ Own encP T w' base A n c (marksP k n) ∧ w.grownBy w' (blk A)
/-- .. with whatever. -/
def MarkAny {α : Type} (en : Enc α) (T : TypeId) (w : World) (base : Nat) (A : Option Addr) (n c : Nat) (r : Int) (e : Ending) (w' : World) : Prop :=
  e = .returned (vi r) ∧ (∃ l, Own en T w' base A n c l) ∧ w.grownBy w' (blk A)









theorem markHoldS_any (A : Option Addr) (n c base : Nat) (l : List (Int × Int)) (k : Int) (w : World) (h : Own encP 51 w base A n c l) (hn : n ≤ 1000000000) (hk0 : 0 ≤ k) (hk : k ≤ 1000000000000) :
    Calls Try.prog 51 #[.slice A n c, vi k] w (MarkP 51 w base A n c k) := by
  have hlen := h.len
  go_enter Try.func51, Try.ntmps51
  go_wp2
  go_loopw [1, 5] (fun m i wr => ∃ j : Nat, j ≤ n ∧ i = vi j ∧ m = vi (k + 2 * j) ∧ Own encP 51 wr base A n c (markedP l k j) ∧ w.grownBy wr (blk A))
    (fun _ i _ => n - (intOf i).toNat)
  case atStart => exact ⟨0, Nat.zero_le _, rfl, by go_num, by rw [markedP_zero]; exact h, World.grownBy.refl _ _⟩
  case round =>
    obtain ⟨j, hj, rfl, rfl, hown, hg⟩ := hrel
    clear h
    by_cases hlt : j < n
    · rcases hown.form with ⟨_, e⟩ | ⟨g, rfl, hgb, hgs⟩
      · have := hown.len; rw [e] at this; simp at this; omega
      obtain ⟨hq1, hq2⟩ := hown.cell2 j hlt
      have hf1 := hown.frozen (j * 2)
      have hf2 := hown.frozen (j * 2 + 1)
      have hr2 : ∀ u, (wr.setCell ⟨g, j * 2, none⟩ u).cell? ⟨g, j * 2 + 1, none⟩ = some (vi (nth (markedP l k j) j).2) := fun u => by
        rw [World.cell?_setCell_other _ _ _ _ (by intro e; injection e with _ e; omega)]; exact hq2
      have HP := Lib.hid (hown.put2 j hlt (k + 2 * j, k + 2 * j + 1))
      have Hlen := Lib.hid hlen
      clear hown hlen hq2
      go_wp2
      go_roundw
      case rel => exact ⟨j + 1, by omega, by go_num, by go_num, by rw [← markedP_set l k j (by rw [Hlen.out]; exact hlt)]; exact HP.out.1, hg.trans HP.out.2⟩
      case measure => simp [intOf]; omega
    · obtain rfl : j = n := by omega
      rw [← hlen, markedP_all, hlen] at hown
      clear hlen
      go_wp2
      go_ret
      exact ⟨rfl, hown, hg⟩

end Go.Proofs.Ytjhbmikohcbkkaa
