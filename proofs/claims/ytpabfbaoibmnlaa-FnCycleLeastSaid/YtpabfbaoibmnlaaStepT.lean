/-
  A step of a region that draws its order: append on tasks, s a slice of the call's own.
-/
import Derived.Test.YtpabfbaoibmnlaaStepE
namespace Go.Proofs.Ytpabfbaoibmnlaa
open Go.RowKit
set_option linter.unusedVariables false
set_option maxRecDepth 100000

theorem step_app_Task {ops : Array Oper} {o : Oper} {a : Act} {Q : Exit → Act → World → Prop} {K : Act → World → Prop} {G : Prop} {w : World} (hgd : o.guard = none) (s x : Operand)
    (ho : o.op = .call { callee := .builtin .append, args := #[s, x], argTypes := #[41, 41] })
    (base : Nat) (A0 : Option Addr) (n0 c0 : Nat) (xs : List (Int × Int)) (hs : a.eval s = .slice A0 n0 c0) (hown : Own encP 46 w base A0 n0 c0 xs)
    (A : Option Addr) (m c : Nat) (l : List (Int × Int)) (hx : a.eval x = .slice A m c) (hr : Rd encP w A l) (hm : l.length = m) (N : Nat) (l' : List (Int × Int)) (hN : n0 + m = N) (hl' : xs ++ l = l')
    (hn : N ≤ 1000000000) (hbase : base ≤ w.heap.size)
    (h : ∀ A' c' w', Own encP 46 w' base A' N c' l' → w.grownBy w' (blk A0) → K (a.put o.dst (.slice A' N c')) w') :
    if Region.wanted o (yielded ops a.tmps) = true then Oper.wp Try.prog o a w K Q else G := by
  subst hN hl'
  obtain ⟨i0, hi, hz0, hz1, hz2⟩ := info_parts TaskInfo
  exact step_app_enc encP 46 41 Try.underlying41 i0 _ 16 hi hz0 hz1 hz2 rfl (by omega) hgd s x ho base A0 n0 c0 xs hs hown A m c l hx hr hm hn hbase h
end Go.Proofs.Ytpabfbaoibmnlaa
