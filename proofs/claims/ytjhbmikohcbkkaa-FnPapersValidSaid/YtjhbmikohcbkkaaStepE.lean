/-
  A step of a region that draws its order: append on encoded elements, s a slice of the call's own.
-/
import Derived.Test.YtjhbmikohcbkkaaPair
import Derived.Deep.RegionLaw
import Derived.Deep.DeepCutAuto
namespace Go.Proofs.Ytjhbmikohcbkkaa
open Go.RowKit
set_option linter.unusedVariables false
set_option maxRecDepth 100000

theorem grownD {a w w' : World} {row : Option Nat} (h : a.drew.grownBy w' row) : a.grownBy w' row := ⟨h.os, h.tape, h.output, h.size, h.block⟩

/-- append(s, x...) of any encoded elements, s a slice of the call's own. -/
theorem step_app_enc {α : Type} [Inhabited α] (e : Enc α) (E T : TypeId) (hT : Try.prog.underlying T = some (.slice E)) (i0 : TypeInfo) (z : Value) (bytes : Nat)
    (hi : Try.prog.info? E = some i0) (hz0 : i0.zero = some z) (hz1 : i0.size = e.s) (hz2 : i0.bytes = bytes) (hzs : z.cells.size = e.s) (hby : bytes ≤ 128)
    {ops : Array Oper} {o : Oper} {a : Act} {Q : Exit → Act → World → Prop} {K : Act → World → Prop} {G : Prop} {w : World} (hgd : o.guard = none) (s x : Operand)
    (ho : o.op = .call { callee := .builtin .append, args := #[s, x], argTypes := #[T, T] })
    (base : Nat) (A0 : Option Addr) (n0 c0 : Nat) (xs : List α) (hs : a.eval s = .slice A0 n0 c0) (hown : Own e E w base A0 n0 c0 xs)
    (A : Option Addr) (m c : Nat) (l : List α) (hx : a.eval x = .slice A m c) (hr : Rd e w A l) (hm : l.length = m)
    (hn : n0 + m ≤ 1000000000) (hbase : base ≤ w.heap.size)
    (h : ∀ A' c' w', Own e E w' base A' (n0 + m) c' (xs ++ l) → w.grownBy w' (blk A0) → K (a.put o.dst (.slice A' (n0 + m) c')) w') :
    if Region.wanted o (yielded ops a.tmps) = true then Oper.wp Try.prog o a w K Q else G := by
  have hone : ∀ u ∈ l.flatMap e.f, u.oneCell' = true := by
    intro u hu
    obtain ⟨y, _, hy⟩ := List.mem_flatMap.1 hu
    exact e.one y u hy
  have hblk : ∀ B : Option Addr, Value.ownBlock (.slice B n0 c0) = blk B := by intro B; cases B <;> rfl
  have fin : ∀ v' w', (Builtin.append_ #[T, T] o.type #[.slice A0 n0 c0, .slice A m c]).run Try.prog w = .ok v' w' →
      w'.ownsRow base E e.s v' (n0 + m) ((xs ++ l).flatMap e.f) → w.grownBy w' (blk A0) → (if Region.wanted o (yielded ops a.tmps) = true then Oper.wp Try.prog o a w K Q else G) := by
    intro v' w' hrun h2 h3
    have hv : ∃ A' c', v' = .slice A' (n0 + m) c' := by
      rcases h2.2 with ⟨rfl, e1⟩ | ⟨g, cap, cur, rfl, _⟩
      · exact ⟨none, 0, by rw [e1]⟩
      · exact ⟨_, _, rfl⟩
    obtain ⟨A', c', rfl⟩ := hv
    rw [if_pos (by simp [Region.wanted, hgd])]
    unfold Oper.wp execOp
    simp only [ho, resolve, invoke, builtin, Sem.run_bind, Sem.run_pure, Result.andThen_ok, List.map_toArray, List.map_cons, List.map_nil, hs, hx, hrun]
    exact h A' c' w' h2 h3
  rcases A with _ | ad
  · have hl0 : l = [] := by
      rcases Nat.eq_zero_or_pos l.length with h0 | h0
      · exact List.eq_nil_of_length_eq_zero h0
      · obtain ⟨b, o, e1, _⟩ := hr h0; cases e1
    subst hl0
    obtain rfl : m = 0 := by simpa using hm.symm
    have hrun : (Builtin.append_ #[T, T] o.type #[.slice A0 n0 c0, .slice none 0 c]).run Try.prog w = .ok (.slice A0 n0 c0) w := by
      rcases hown.2 with ⟨e1, h0⟩ | ⟨g, cap, cur, e1, _, _, hnc, _⟩
      · injection e1 with e1 e2 e3; subst e1 e2 e3
        simp [Builtin.append_, run_underlying hT, sizeOf, typeInfo, hi, Builtin.lenOf, Builtin.firstCells]
      · injection e1 with e1 e2 e3; subst e1 e3
        simp [Builtin.append_, run_underlying hT, sizeOf, typeInfo, hi, Builtin.lenOf, Builtin.firstCells, hnc, storeCells]
    exact fin _ _ hrun (by rw [List.append_nil]; exact hown) (World.grownBy.refl _ _)
  · have hcells : ∀ j u, (l.flatMap e.f)[j]? = some u → w.cell? (ad.add j) = some u := by
      intro j u hu
      have hj : j < l.length * e.s := by rw [← flat_length]; exact (List.getElem?_eq_some_iff.1 hu).1
      have hl0 : 0 < l.length := by
        rcases Nat.eq_zero_or_pos l.length with h0 | h0
        · rw [h0] at hj; omega
        · exact h0
      obtain ⟨b, o, e1, hb, hc⟩ := hr hl0
      injection e1 with e1; subst e1
      have hq : j / e.s < l.length := by rw [Nat.div_lt_iff_lt_mul e.pos]; exact hj
      have hrr : j % e.s < e.s := Nat.mod_lt _ e.pos
      have hi2 : j = j / e.s * e.s + j % e.s := by rw [Nat.mul_comm]; exact (Nat.div_add_mod j e.s).symm
      have hg := flat_get e l (j / e.s) (j % e.s) hq hrr
      rw [← hi2] at hg
      rw [hg] at hu
      have := hc _ hq _ _ hu
      rw [← hi2] at this
      rw [Addr.add_lit]
      exact this
    have hbn : (n0 + m) * bytes ≤ 140737488355328 := Nat.le_trans (Nat.mul_le_mul_right _ hn) (Nat.le_trans (Nat.mul_le_mul_left _ hby) (by omega))
    obtain ⟨v', w', hrun, h2, h3, _⟩ := run_append_own (P := Try.prog) w base T o.type E i0 z e.s bytes hT hi hz0 hz1 hz2 hzs e.pos _ n0 (xs.flatMap e.f) hown ad m c (l.flatMap e.f) (by rw [flat_length, hm]) hcells hone (by simp only [maxLen]; omega) hbn hbase
    rw [hblk] at h3
    rw [← List.flatMap_append] at h2
    exact fin _ _ hrun h2 h3



theorem step_app_Hold {ops : Array Oper} {o : Oper} {a : Act} {Q : Exit → Act → World → Prop} {K : Act → World → Prop} {G : Prop} {w : World} (hgd : o.guard = none) (s x : Operand)
    (ho : o.op = .call { callee := .builtin .append, args := #[s, x], argTypes := #[35, 35] })
    (base : Nat) (A0 : Option Addr) (n0 c0 : Nat) (xs : List (Int × Int)) (hs : a.eval s = .slice A0 n0 c0) (hown : Own encP 51 w base A0 n0 c0 xs)
    (A : Option Addr) (m c : Nat) (l : List (Int × Int)) (hx : a.eval x = .slice A m c) (hr : Rd encP w A l) (hm : l.length = m) (N : Nat) (l' : List (Int × Int)) (hN : n0 + m = N) (hl' : xs ++ l = l')
    (hn : N ≤ 1000000000) (hbase : base ≤ w.heap.size)
    (h : ∀ A' c' w', Own encP 51 w' base A' N c' l' → w.grownBy w' (blk A0) → K (a.put o.dst (.slice A' N c')) w') :
    if Region.wanted o (yielded ops a.tmps) = true then Oper.wp Try.prog o a w K Q else G := by
  subst hN hl'
  obtain ⟨i0, hi, hz0, hz1, hz2⟩ := info_parts HoldInfo
  exact step_app_enc encP 51 35 Try.underlying35 i0 _ 16 hi hz0 hz1 hz2 rfl (by omega) hgd s x ho base A0 n0 c0 xs hs hown A m c l hx hr hm hn hbase h
end Go.Proofs.Ytjhbmikohcbkkaa
