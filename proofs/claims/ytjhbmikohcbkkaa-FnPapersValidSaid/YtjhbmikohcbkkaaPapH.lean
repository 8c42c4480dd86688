/-
  Papers' memory while the reference does a deed. Plain facts on memory alone.
-/
import Derived.Test.YtjhbmikohcbkkaaPapF
namespace Go.Proofs.Ytjhbmikohcbkkaa
open Go.RowKit
set_option linter.unusedVariables false
set_option maxRecDepth 100000

/-- Papers of bounded length, own, and whether the deed was done. -/
def PapD (w : World) (N M : Nat) (e : Ending) (w' : World) : Prop :=
  ∃ (n m : Nat) (x : Bool) (A : Option Addr) (c : Nat) (B : Option Addr) (d : Nat) (hl : List (Int × Int)) (ll : List Int), e = .returned (.tuple #[.agg #[.slice A n c, .slice B m d], .bool x]) ∧ n ≤ N ∧ m ≤ M ∧
    Own encP 51 w' w.heap.size A n c hl ∧ OwnI w' w.heap.size B m d ll ∧ Below w.heap.size w w'

/-- What stands while a deed is done: the papers and the deed that came in, the result's box, the new papers' box g6. -/
structure DoW (w : World) (a b c : Int) (A : Option Addr) (n0 c0 : Nat) (B : Option Addr) (m0 d0 g6 : Nat) (wr : World) (A' : Option Addr) (n c' : Nat) (B' : Option Addr) (m d' : Nat) : Prop where
  inp : wr.heap[w.heap.size]? = some (.cells #[.slice A n0 c0, .slice B m0 d0] 37 (0, 0))
  deed : wr.heap[w.heap.size + 1]? = some (.cells #[vi a, vi b, vi c] 83 (0, 0))
  res : wr.heap[w.heap.size + 1 + 1]? = some (.cells #[.slice none 0 0, .slice none 0 0] 37 (0, 0))
  out : wr.heap[g6]? = some (.cells #[.slice A' n c', .slice B' m d'] 37 (0, 0))
  own : ∃ hl', Own encP 51 wr (w.heap.size + 3) A' n c' hl'
  left : ∃ ll', OwnI wr (w.heap.size + 3) B' m d' ll'
  apA : ∀ q, A' = some ⟨q, 0, none⟩ → q ≠ g6
  apB : ∀ q, B' = some ⟨q, 0, none⟩ → q ≠ g6
  bel : Below w.heap.size w wr
  low : w.heap.size + 3 ≤ g6

section
variable {w : World} {a b c : Int} {A : Option Addr} {n0 c0 : Nat} {B : Option Addr} {m0 d0 g6 : Nat} {wr wx : World} {A' : Option Addr} {n c' : Nat} {B' : Option Addr} {m d' : Nat}

theorem DoW.ins (h : DoW w a b c A n0 c0 B m0 d0 g6 wr A' n c' B' m d') :
    wr.cell? ⟨w.heap.size, 0, none⟩ = some (.slice A n0 c0) ∧ wr.cell? ⟨w.heap.size, 1, none⟩ = some (.slice B m0 d0) ∧
    wr.cell? ⟨w.heap.size + 1, 0, none⟩ = some (vi a) ∧ wr.cell? ⟨w.heap.size + 1, 1, none⟩ = some (vi b) ∧ wr.cell? ⟨w.heap.size + 1, 2, none⟩ = some (vi c) :=
  ⟨by rw [cell_of_row _ _ 0 _ _ _ h.inp]; rfl, by rw [cell_of_row _ _ 1 _ _ _ h.inp]; rfl, by rw [cell_of_row _ _ 0 _ _ _ h.deed]; rfl, by rw [cell_of_row _ _ 1 _ _ _ h.deed]; rfl, by rw [cell_of_row _ _ 2 _ _ _ h.deed]; rfl⟩
theorem DoW.outs (h : DoW w a b c A n0 c0 B m0 d0 g6 wr A' n c' B' m d') :
    wr.cell? ⟨g6, 0, none⟩ = some (.slice A' n c') ∧ wr.cell? ⟨g6, 1, none⟩ = some (.slice B' m d') ∧ wr.frozen? ⟨g6, 0, none⟩ = false ∧ wr.frozen? ⟨g6, 1, none⟩ = false :=
  ⟨by rw [cell_of_row _ _ 0 _ _ _ h.out]; rfl, by rw [cell_of_row _ _ 1 _ _ _ h.out]; rfl, frozen_of_row _ _ 0 _ _ h.out, frozen_of_row _ _ 1 _ _ h.out⟩
theorem DoW.ress (h : DoW w a b c A n0 c0 B m0 d0 g6 wr A' n c' B' m d') :
    wr.cell? ⟨w.heap.size + 1 + 1, 0, none⟩ = some (.slice none 0 0) ∧ wr.cell? ⟨w.heap.size + 1 + 1, 1, none⟩ = some (.slice none 0 0) ∧ wr.frozen? ⟨w.heap.size + 1 + 1, 0, none⟩ = false ∧ wr.frozen? ⟨w.heap.size + 1 + 1, 1, none⟩ = false :=
  ⟨by rw [cell_of_row _ _ 0 _ _ _ h.res]; rfl, by rw [cell_of_row _ _ 1 _ _ _ h.res]; rfl, frozen_of_row _ _ 0 _ _ h.res, frozen_of_row _ _ 1 _ _ h.res⟩
theorem DoW.size (h : DoW w a b c A n0 c0 B m0 d0 g6 wr A' n c' B' m d') : w.heap.size + 3 ≤ g6 ∧ g6 < wr.heap.size := ⟨h.low, (Array.getElem?_eq_some_iff.1 h.out).1⟩
theorem DoW.rdA (h : DoW w a b c A n0 c0 B m0 d0 g6 wr A' n c' B' m d') : ∃ hl', hl'.length = n ∧ Rd encP wr A' hl' := by
  obtain ⟨hl', ho⟩ := h.own
  exact ⟨hl', ho.len, ho.rd⟩
theorem DoW.rdB (h : DoW w a b c A n0 c0 B m0 d0 g6 wr A' n c' B' m d') : ∃ ll', ll'.length = m ∧ RdI wr B' ll' := by
  obtain ⟨ll', ho⟩ := h.left
  exact ⟨ll', ho.len, ho.rd⟩

/-- Behind a callee that makes new memory. -/
theorem DoW.below (h : DoW w a b c A n0 c0 B m0 d0 g6 wr A' n c' B' m d') (hb : Below wr.heap.size wr wx) : DoW w a b c A n0 c0 B m0 d0 g6 wx A' n c' B' m d' := by
  have hk : ∀ {k : Nat} {o : Obj}, wr.heap[k]? = some o → wx.heap[k]? = some o := fun {k o} e => (hb.block k (Array.getElem?_eq_some_iff.1 e).1).trans e
  obtain ⟨hl', ho⟩ := h.own
  obtain ⟨ll', hll⟩ := h.left
  exact ⟨hk h.inp, hk h.deed, hk h.res, hk h.out, ⟨hl', ho.below hb⟩, ⟨ll', hll.below hb⟩, h.apA, h.apB, h.bel.trans (hb.mono h.bel.size), h.low⟩

/-- New papers are stored into the box. -/
theorem DoW.put {A8 B8 : Option Addr} {n8 c8 m8 d8 : Nat} {hl8 : List (Int × Int)} {ll8 : List Int} (h0 : DoW w a b c A n0 c0 B m0 d0 g6 wr A' n c' B' m d') (hb : Below wr.heap.size wr wx)
    (ho : Own encP 51 wx wr.heap.size A8 n8 c8 hl8) (hi : OwnI wx wr.heap.size B8 m8 d8 ll8) :
    DoW w a b c A n0 c0 B m0 d0 g6 ((wx.setCell ⟨g6, 0, none⟩ (.slice A8 n8 c8)).setCell ⟨g6, 1, none⟩ (.slice B8 m8 d8)) A8 n8 c8 B8 m8 d8 := by
  have h := h0.below hb
  have hs := h0.size
  have hg : wx.grownBy ((wx.setCell ⟨g6, 0, none⟩ (.slice A8 n8 c8)).setCell ⟨g6, 1, none⟩ (.slice B8 m8 d8)) (some g6) := grown_tr (grown_set _ _ _ _) (grown_set _ _ _ _)
  have hk : ∀ {k : Nat} {o : Obj}, wx.heap[k]? = some o → k ≠ g6 → ((wx.setCell ⟨g6, 0, none⟩ (.slice A8 n8 c8)).setCell ⟨g6, 1, none⟩ (.slice B8 m8 d8)).heap[k]? = some o := fun {k o} e hne => (hg.block k (Array.getElem?_eq_some_iff.1 e).1 (fun e => by injection e with e; exact hne e)).trans e
  have h1 : (wx.setCell ⟨g6, 0, none⟩ (.slice A8 n8 c8)).heap[g6]? = some (.cells #[.slice A8 n8 c8, .slice B' m d'] 37 (0, 0)) := by rw [heap_setCell_same wx g6 0 _ _ _ h.out]; rfl
  refine ⟨hk h.inp (by omega), hk h.deed (by omega), hk h.res (by omega), by rw [heap_setCell_same _ g6 1 _ _ _ h1]; rfl, ⟨hl8, ?_⟩, ⟨ll8, ?_⟩, fun q e => ?_, fun q e => ?_, h.bel.grown hg h.bel.size (fun q e => by injection e with e; omega), h.low⟩
  · exact (ho.far hg (fun q e1 e2 => by injection e2 with e2; have := ho.in_ q (.inl e1); omega)).mono (by omega)
  · exact (hi.far hg (fun q e1 e2 => by injection e2 with e2; have := hi.in_ q (.inl e1); omega)).mono (by omega)
  · have := ho.in_ q (.inl e); omega
  · have := hi.in_ q (.inl e); omega
/-- A new list of those that have left. -/
theorem DoW.putL {B8 : Option Addr} {m8 d8 : Nat} {ll8 : List Int} (h0 : DoW w a b c A n0 c0 B m0 d0 g6 wr A' n c' B' m d') (hb : Below wr.heap.size wr wx) (hi : OwnI wx wr.heap.size B8 m8 d8 ll8) :
    DoW w a b c A n0 c0 B m0 d0 g6 (wx.setCell ⟨g6, 1, none⟩ (.slice B8 m8 d8)) A' n c' B8 m8 d8 := by
  have h := h0.below hb
  have hs := h0.size
  have hg : wx.grownBy (wx.setCell ⟨g6, 1, none⟩ (.slice B8 m8 d8)) (some g6) := grown_set _ _ _ _
  have hk : ∀ {k : Nat} {o : Obj}, wx.heap[k]? = some o → k ≠ g6 → (wx.setCell ⟨g6, 1, none⟩ (.slice B8 m8 d8)).heap[k]? = some o := fun {k o} e hne => (hg.block k (Array.getElem?_eq_some_iff.1 e).1 (fun e => by injection e with e; exact hne e)).trans e
  obtain ⟨hl', ho⟩ := h.own
  refine ⟨hk h.inp (by omega), hk h.deed (by omega), hk h.res (by omega), by rw [heap_setCell_same _ g6 1 _ _ _ h.out]; rfl, ⟨hl', ?_⟩, ⟨ll8, ?_⟩, h.apA, fun q e => ?_, h.bel.grown hg h.bel.size (fun q e => by injection e with e; omega), h.low⟩
  · exact ho.far hg (fun q e1 e2 => by injection e2 with e2; exact h.apA q e1 e2)
  · exact (hi.far hg (fun q e1 e2 => by injection e2 with e2; have := hi.in_ q (.inl e1); omega)).mono (by omega)
  · have := hi.in_ q (.inl e); omega

/-- The box's papers are the result. -/
theorem DoW.done (h : DoW w a b c A n0 c0 B m0 d0 g6 wr A' n c' B' m d') {N M : Nat} (hn : n ≤ N) (hm : m ≤ M) (x : Bool) :
    (((wr.setCell ⟨w.heap.size + 1 + 1, 0, none⟩ (.slice A' n c')).setCell ⟨w.heap.size + 1 + 1, 1, none⟩ (.slice B' m d')).cell? ⟨w.heap.size + 1 + 1, 0, none⟩ = some (.slice A' n c') ∧ ((wr.setCell ⟨w.heap.size + 1 + 1, 0, none⟩ (.slice A' n c')).setCell ⟨w.heap.size + 1 + 1, 1, none⟩ (.slice B' m d')).cell? ⟨w.heap.size + 1 + 1, 1, none⟩ = some (.slice B' m d')) ∧
    PapD w N M (.returned (.tuple #[.agg #[.slice A' n c', .slice B' m d'], .bool x])) ((wr.setCell ⟨w.heap.size + 1 + 1, 0, none⟩ (.slice A' n c')).setCell ⟨w.heap.size + 1 + 1, 1, none⟩ (.slice B' m d')) := by
  obtain ⟨hl', ho⟩ := h.own
  obtain ⟨ll', hll⟩ := h.left
  have hg : wr.grownBy ((wr.setCell ⟨w.heap.size + 1 + 1, 0, none⟩ (.slice A' n c')).setCell ⟨w.heap.size + 1 + 1, 1, none⟩ (.slice B' m d')) (some (w.heap.size + 1 + 1)) := grown_tr (grown_set _ _ _ _) (grown_set _ _ _ _)
  refine ⟨pair_stored h.res, n, m, x, A', c', B', d', hl', ll', rfl, hn, hm, ?_, ?_, h.bel.grown hg h.bel.size (fun q e => by injection e with e; omega)⟩
  · exact (ho.far hg (fun q e e2 => by injection e2 with e2; have := ho.in_ q (.inl e); omega)).mono (by omega)
  · exact (hll.far hg (fun q e e2 => by injection e2 with e2; have := hll.in_ q (.inl e); omega)).mono (by omega)
/-- New papers are the result. -/
theorem DoW.doneNew {A8 B8 : Option Addr} {n8 c8 m8 d8 : Nat} {hl8 : List (Int × Int)} {ll8 : List Int} (h0 : DoW w a b c A n0 c0 B m0 d0 g6 wr A' n c' B' m d') (hb : Below wr.heap.size wr wx)
    (ho : Own encP 51 wx wr.heap.size A8 n8 c8 hl8) (hi : OwnI wx wr.heap.size B8 m8 d8 ll8) {N M : Nat} (hn : n8 ≤ N) (hm : m8 ≤ M) (x : Bool) :
    (((wx.setCell ⟨w.heap.size + 1 + 1, 0, none⟩ (.slice A8 n8 c8)).setCell ⟨w.heap.size + 1 + 1, 1, none⟩ (.slice B8 m8 d8)).cell? ⟨w.heap.size + 1 + 1, 0, none⟩ = some (.slice A8 n8 c8) ∧ ((wx.setCell ⟨w.heap.size + 1 + 1, 0, none⟩ (.slice A8 n8 c8)).setCell ⟨w.heap.size + 1 + 1, 1, none⟩ (.slice B8 m8 d8)).cell? ⟨w.heap.size + 1 + 1, 1, none⟩ = some (.slice B8 m8 d8)) ∧
    PapD w N M (.returned (.tuple #[.agg #[.slice A8 n8 c8, .slice B8 m8 d8], .bool x])) ((wx.setCell ⟨w.heap.size + 1 + 1, 0, none⟩ (.slice A8 n8 c8)).setCell ⟨w.heap.size + 1 + 1, 1, none⟩ (.slice B8 m8 d8)) := by
  have h := h0.below hb
  have hs := h0.size
  have hg : wx.grownBy ((wx.setCell ⟨w.heap.size + 1 + 1, 0, none⟩ (.slice A8 n8 c8)).setCell ⟨w.heap.size + 1 + 1, 1, none⟩ (.slice B8 m8 d8)) (some (w.heap.size + 1 + 1)) := grown_tr (grown_set _ _ _ _) (grown_set _ _ _ _)
  refine ⟨pair_stored h.res, n8, m8, x, A8, c8, B8, d8, hl8, ll8, rfl, hn, hm, ?_, ?_, h.bel.grown hg h.bel.size (fun q e => by injection e with e; omega)⟩
  · exact (ho.far hg (fun q e e2 => by injection e2 with e2; have := ho.in_ q (.inl e); omega)).mono (by omega)
  · exact (hi.far hg (fun q e e2 => by injection e2 with e2; have := hi.in_ q (.inl e); omega)).mono (by omega)
end
/-- Nothing is done: the result's box as it was made. -/
theorem do_none {w w1 : World} (hr : w1.heap[w.heap.size + 1 + 1]? = some (.cells #[.slice none 0 0, .slice none 0 0] 37 (0, 0))) (hb : Below w.heap.size w w1) (N M : Nat) (x : Bool) :
    ((w1.setCell ⟨w.heap.size + 1 + 1, 0, none⟩ (.slice none 0 0)).setCell ⟨w.heap.size + 1 + 1, 1, none⟩ (.slice none 0 0)).cell? ⟨w.heap.size + 1 + 1, 0, none⟩ = some (.slice none 0 0) ∧ ((w1.setCell ⟨w.heap.size + 1 + 1, 0, none⟩ (.slice none 0 0)).setCell ⟨w.heap.size + 1 + 1, 1, none⟩ (.slice none 0 0)).cell? ⟨w.heap.size + 1 + 1, 1, none⟩ = some (.slice none 0 0) ∧
    PapD w N M (.returned (.tuple #[.agg #[.slice none 0 0, .slice none 0 0], .bool x])) ((w1.setCell ⟨w.heap.size + 1 + 1, 0, none⟩ (.slice none 0 0)).setCell ⟨w.heap.size + 1 + 1, 1, none⟩ (.slice none 0 0)) := by
  have hg : w1.grownBy ((w1.setCell ⟨w.heap.size + 1 + 1, 0, none⟩ (.slice none 0 0)).setCell ⟨w.heap.size + 1 + 1, 1, none⟩ (.slice none 0 0)) (some (w.heap.size + 1 + 1)) := grown_tr (grown_set _ _ _ _) (grown_set _ _ _ _)
  have hp := pair_stored (u := .slice none 0 0) (v := .slice none 0 0) hr
  exact ⟨hp.1, hp.2, 0, 0, x, none, 0, none, 0, [], [], rfl, Nat.zero_le _, Nat.zero_le _, Own.nil_ _ _, OwnI.nil_ _ _, hb.grown hg hb.size (fun q e => by injection e with e; omega)⟩
end Go.Proofs.Ytjhbmikohcbkkaa
