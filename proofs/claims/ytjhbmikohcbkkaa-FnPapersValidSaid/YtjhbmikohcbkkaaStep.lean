/-
  A step of a region that draws its order: append on ints, s a slice of the call's own.
-/
import Derived.Test.YtjhbmikohcbkkaaBase
import Derived.Deep.RegionLaw
import Derived.Deep.DeepCutAuto
namespace Go.Proofs.Ytjhbmikohcbkkaa
open Go.RowKit
set_option linter.unusedVariables false
set_option maxRecDepth 100000

theorem grown_drew {a w : World} {row : Option Nat} (h : a.grownBy w row) : a.grownBy w.drew row := ⟨h.os, h.tape, h.output, h.size, h.block⟩

set_option maxRecDepth 100000 in
/-- append(s, x...) on ints, s a slice of the call's own. -/
theorem step_app_int {ops : Array Oper} {o : Oper} {a : Act} {Q : Exit → Act → World → Prop} {K : Act → World → Prop} {E : Prop} {w : World} (hgd : o.guard = none) (s x : Operand)
    (ho : o.op = .call { callee := .builtin .append, args := #[s, x], argTypes := #[30, 30] })
    (base : Nat) (A0 : Option Addr) (n0 c0 : Nat) (xs : List Int) (hs : a.eval s = .slice A0 n0 c0) (hown : OwnI w base A0 n0 c0 xs)
    (A : Option Addr) (m c : Nat) (l : List Int) (hx : a.eval x = .slice A m c) (hr : RdI w A l) (hm : l.length = m)
    (hn : n0 + m ≤ 1000000000) (hbase : base ≤ w.heap.size)
    (h : ∀ A' c' w', OwnI w' base A' (n0 + m) c' (xs ++ l) → w.grownBy w' (blk A0) → K (a.put o.dst (.slice A' (n0 + m) c')) w') :
    if Region.wanted o (yielded ops a.tmps) = true then Oper.wp Try.prog o a w K Q else E := by
  obtain ⟨i0, hi, hz0, hz1, hz2⟩ := info_parts intInfo
  have hone : ∀ u ∈ l.map vi, u.oneCell' = true := by
    intro u hu
    obtain ⟨y, _, rfl⟩ := List.mem_map.1 hu
    rfl
  have hblk : ∀ B : Option Addr, Value.ownBlock (.slice B n0 c0) = blk B := by intro B; cases B <;> rfl
  have fin : ∀ v' w', (Builtin.append_ #[30, 30] o.type #[.slice A0 n0 c0, .slice A m c]).run Try.prog w = .ok v' w' →
      w'.ownsRow base 3 1 v' (n0 + m) ((xs ++ l).map vi) → w.grownBy w' (blk A0) → (if Region.wanted o (yielded ops a.tmps) = true then Oper.wp Try.prog o a w K Q else E) := by
    intro v' w' hrun h2 h3
    have hv : ∃ A' c', v' = .slice A' (n0 + m) c' := by
      rcases h2.2 with ⟨rfl, e⟩ | ⟨g, cap, cur, rfl, _⟩
      · exact ⟨none, 0, by rw [e]⟩
      · exact ⟨_, _, rfl⟩
    obtain ⟨A', c', rfl⟩ := hv
    rw [if_pos (by simp [Region.wanted, hgd])]
    unfold Oper.wp execOp
    simp only [ho, resolve, invoke, builtin, Sem.run_bind, Sem.run_pure, Result.andThen_ok, List.map_toArray, List.map_cons, List.map_nil, hs, hx, hrun]
    exact h A' c' w' h2 h3
  rcases A with _ | ad
  · have hl0 : l = [] := by
      rcases Nat.eq_zero_or_pos l.length with h0 | h0
      · exact List.eq_nil_of_length_eq_zero h0
      · obtain ⟨b, o, e, _⟩ := hr h0; cases e
    subst hl0
    obtain rfl : m = 0 := by simpa using hm.symm
    have hrun : (Builtin.append_ #[30, 30] o.type #[.slice A0 n0 c0, .slice none 0 c]).run Try.prog w = .ok (.slice A0 n0 c0) w := by
      rcases hown.2 with ⟨e, h0⟩ | ⟨g, cap, cur, e, _, _, hnc, _⟩
      · injection e with e1 e2 e3; subst e1 e2 e3
        simp [Builtin.append_, run_underlying Try.underlying30, sizeOf, typeInfo, hi, Builtin.lenOf, Builtin.firstCells]
      · injection e with e1 e2 e3; subst e1 e3
        simp [Builtin.append_, run_underlying Try.underlying30, sizeOf, typeInfo, hi, Builtin.lenOf, Builtin.firstCells, hnc, storeCells]
    exact fin _ _ hrun (by rw [List.append_nil]; exact hown) (World.grownBy.refl _ _)
  · have hcells : ∀ j u, (l.map vi)[j]? = some u → w.cell? (ad.add j) = some u := by
      intro j u hu
      rcases Nat.eq_zero_or_pos l.length with h0 | h0
      · rw [List.eq_nil_of_length_eq_zero h0] at hu; simp at hu
      · obtain ⟨b, o, e, hb, hc⟩ := hr h0
        injection e with e; subst e
        have hj : j < l.length := by
          have := (List.getElem?_eq_some_iff.1 hu).1; simpa using this
        rw [Addr.add_lit, hc j hj, nth_eq l j hj]
        simpa [hj] using hu
    obtain ⟨v', w', hrun, h2, h3, _⟩ := run_append_own (P := Try.prog) w base 30 o.type 3 i0 (vi 0) 1 8 Try.underlying30 hi hz0 hz1 hz2 rfl (by decide) _ n0 (xs.map vi) hown ad m c (l.map vi) (by simp [hm]) hcells hone (by simp only [maxLen]; omega) (by omega) hbase
    rw [hblk] at h3
    rw [← List.map_append] at h2
    exact fin _ _ hrun h2 h3
/-- The same, the sum and the list under names of their own. -/
theorem step_app_int2 {ops : Array Oper} {o : Oper} {a : Act} {Q : Exit → Act → World → Prop} {K : Act → World → Prop} {E : Prop} {w : World} (hgd : o.guard = none) (s x : Operand)
    (ho : o.op = .call { callee := .builtin .append, args := #[s, x], argTypes := #[30, 30] })
    (base : Nat) (A0 : Option Addr) (n0 c0 : Nat) (xs : List Int) (hs : a.eval s = .slice A0 n0 c0) (hown : OwnI w base A0 n0 c0 xs)
    (A : Option Addr) (m c : Nat) (l : List Int) (hx : a.eval x = .slice A m c) (hr : RdI w A l) (hm : l.length = m) (N : Nat) (l' : List Int) (hN : n0 + m = N) (hl' : xs ++ l = l')
    (hn : N ≤ 1000000000) (hbase : base ≤ w.heap.size)
    (h : ∀ A' c' w', OwnI w' base A' N c' l' → w.grownBy w' (blk A0) → K (a.put o.dst (.slice A' N c')) w') :
    if Region.wanted o (yielded ops a.tmps) = true then Oper.wp Try.prog o a w K Q else E := by
  subst hN hl'
  exact step_app_int hgd s x ho base A0 n0 c0 xs hs hown A m c l hx hr hm hn hbase h
end Go.Proofs.Ytjhbmikohcbkkaa
