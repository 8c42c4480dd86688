/-
  Contracts: lists of boxes are copied, compared, made and grown.
-/
import Derived.Test.YtjhbmikohcbkkaaPair
import Derived.Test.YtjhbmikohcbkkaaBox
namespace Go.Proofs.Ytjhbmikohcbkkaa
open Go.RowKit
set_option linter.unusedVariables false
set_option maxRecDepth 100000

theorem BoxInfo : (Try.prog.info? 57).map (fun i => (i.zero, i.size, i.bytes)) = some (some (.agg #[.int .i64 0, .int .i64 0, .int .i64 0, .int .i64 0, .bool false]), 5, 40) := by kernel_rfl

theorem make_Box (n : Nat) (h : n ≤ 1000000000) (w : World) :
    (Instr.makeSlice 75 (.int .i64 (n : Int)) (.int .i64 (n : Int))).run Try.prog w = .ok (.slice (some ⟨w.heap.size, 0, none⟩) n n) (w.alloc (.cells (madeCells #[vi 0, vi 0, vi 0, vi 0, .bool false] (n * 5)) 57)) := by
  obtain ⟨i0, hi, hz0, hz1, hz2⟩ := info_parts BoxInfo
  have hr := run_make (P := Try.prog) w 75 57 i0 _ Try.underlying75 hi hz0 .i64 .i64 (n : Int) (n : Int) (by omega) (by omega) (by rw [hz2]; omega) (by omega)
  rw [hz1] at hr
  simp only [Int.toNat_natCast, Value.cells] at hr
  exact hr

/-- A call that hands back a new slice of them. -/
def NewBox (w : World) (l : List Bx) (e : Ending) (w' : World) : Prop :=
  ∃ A c, e = .returned (.slice A l.length c) ∧ Own encB 57 w' w.heap.size A l.length c l ∧ Below w.heap.size w w'

/-- append(s, x...), s a slice of the call's own. -/
theorem app_Box {ops : Array Oper} {rest : List Oper} {o : Oper} {a : Act} {Q : Exit → Act → World → Prop} {w : World} (hgd : Region.wanted o (yielded ops a.tmps) = true) (s x : Operand)
    (ho : o.op = .call { callee := .builtin .append, args := #[s, x], argTypes := #[75, 75] })
    (base : Nat) (A0 : Option Addr) (n0 c0 : Nat) (xs : List Bx) (hs : a.eval s = .slice A0 n0 c0) (hown : Own encB 57 w base A0 n0 c0 xs)
    (A : Option Addr) (m c : Nat) (l : List Bx) (hx : a.eval x = .slice A m c) (hr : Rd encB w A l) (hm : l.length = m)
    (hn : n0 + m ≤ 1000000000) (hbase : base ≤ w.heap.size)
    (h : ∀ A' c' w', Own encB 57 w' base A' (n0 + m) c' (xs ++ l) → w.grownBy w' (blk A0) → wpList Try.prog ops Q rest (a.put o.dst (.slice A' (n0 + m) c')) w') :
    wpList Try.prog ops Q (o :: rest) a w := by
  obtain ⟨i0, hi, hz0, hz1, hz2⟩ := info_parts BoxInfo
  exact app_enc encB 57 75 Try.underlying75 i0 _ 40 hi hz0 hz1 hz2 rfl (by omega) hgd s x ho base A0 n0 c0 xs hs hown A m c l hx hr hm hn hbase h

theorem toBox_any (b : Bx) (w : World) :
    Calls Try.prog 53 #[.agg #[vi b.id, vi b.wt, vi b.cls, vi b.port, .bool b.cold]] w fun e w' => e = .returned (.agg #[vi b.id, vi b.wt, vi b.cls, vi b.port, .bool b.cold]) ∧ Below w.heap.size w w' := by
  go_enter Try.func53, Try.ntmps53
  go_wp2
  refine bodyPost_ret (v := .agg #[vi b.id, vi b.wt, vi b.cls, vi b.port, .bool b.cold]) (by simp [results, Try.results53, go_sem]) rfl ⟨rfl, ?_⟩
  exact (((Below.refl _ _).alloc (Nat.le_refl _) _).alloc (by simp) _).alloc (by simp; omega) _



theorem eqBox_any (b : Bx) (w : World) :
    Calls Try.prog 54 #[.agg #[vi b.id, vi b.wt, vi b.cls, vi b.port, .bool b.cold], .agg #[vi b.id, vi b.wt, vi b.cls, vi b.port, .bool b.cold]] w fun e w' => e = .returned (.bool true) ∧ Below w.heap.size w w' := by
  have e1 : ∀ x : Int, (x != x) = false := fun x => by simp
  have e2 : (b.cold != b.cold) = false := by simp
  go_enter Try.func54, Try.ntmps54
  go_wp2
  go_ret
  exact ⟨rfl, ((Below.refl _ _).alloc (Nat.le_refl _) _).alloc (by simp) _⟩

end Go.Proofs.Ytjhbmikohcbkkaa
