/-
  What the operations of the draw's first fault leave, one by one: a hold of a new id is appended. Plain facts on memory alone.
-/
import Derived.Test.YtjhbmikohcbkkaaPapJ
namespace Go.Proofs.Ytjhbmikohcbkkaa
open Go.RowKit
set_option linter.unusedVariables false
set_option maxRecDepth 100000

/-- Block b is new and no block of the holds'. -/
structure NewB (H : Nat) (A : Option Addr) (b : Nat) : Prop where
  low : H ≤ b
  ne : ∀ q, blk A = some q → b ≠ q
theorem one_hold {w : World} {b : Nat} {x y : Int} (h : w.heap[b]? = some (.cells #[vi x, vi y] 51 (0, 0))) : Rd encP w (some ⟨b, 0, none⟩) [(x, y)] := fun _ => by
  refine ⟨b, 0, rfl, (Array.getElem?_eq_some_iff.1 h).1, fun k hk j u hu => ?_⟩
  simp at hk
  subst hk
  match j with
  | 0 => simp [encP, nth] at hu; subst hu; rw [cell_of_row _ _ _ _ _ _ h]; rfl
  | 1 => simp [encP, nth] at hu; subst hu; rw [cell_of_row _ _ _ _ _ _ h]; rfl
  | j + 2 => simp [encP, nth] at hu

/-- What each operation leaves. -/
def holdA (g h0 : Nat) (A : Option Addr) (n c : Nat) (B : Option Addr) (m d : Nat) : Nat → Value → World → Prop
  | 0 => fun v _ => v = .pointer (some ⟨h0 + 1, 0, none⟩)
  | 1 => fun v _ => v = .slice A n c
  | 2 => fun v w => ∃ b, v = .slice (some ⟨b, 0, none⟩) 2 2 ∧ NewB (h0 + 2) A b ∧ w.heap[b]? = some (.cells #[vi 0, vi 8] 3 (0, 0))
  | 3 => fun v _ => v = .pointer (some ⟨g, 0, none⟩)
  | 4 => fun v _ => ∃ z : Int, v = vi z ∧ 0 ≤ z ∧ z ≤ 1
  | 5 => fun v w => ∃ b q : Nat, v = .pointer (some ⟨b, q, none⟩) ∧ q < 2 ∧ NewB (h0 + 2) A b ∧ w.heap[b]? = some (.cells #[vi 0, vi 8] 3 (0, 0))
  | 6 => fun v _ => ∃ z : Int, v = vi z
  | 7 => fun v _ => ∃ z : Int, v = .agg #[vi 500, vi z]
  | 8 => fun v w => ∃ (b : Nat) (z : Int), v = .slice (some ⟨b, 0, none⟩) 1 1 ∧ NewB (h0 + 2) A b ∧ w.heap[b]? = some (.cells #[vi 500, vi z] 51 (0, 0))
  | 9 => fun v w => ∃ (A8 : Option Addr) (c8 : Nat) (hl8 : List (Int × Int)), v = .slice A8 (n + 1) c8 ∧ Own encP 51 w (h0 + 2) A8 (n + 1) c8 hl8
  | 10 => fun v _ => v = .pointer (some ⟨h0 + 1, 0, none⟩)
  | 11 => fun _ w => ∃ (A8 : Option Addr) (c8 : Nat) (hl8 : List (Int × Int)), w.heap[h0 + 1]? = some (.cells #[.slice A8 (n + 1) c8, .slice B m d] 37 (0, 0)) ∧ Own encP 51 w (h0 + 2) A8 (n + 1) c8 hl8
  | _ => fun _ _ => True
section
variable {g h0 : Nat} {A : Option Addr} {n c : Nat} {B : Option Addr} {m d : Nat} {w w' : World}
theorem holdA_below (hb : Below w.heap.size w w') (j : Nat) (u : Value) : holdA g h0 A n c B m d j u w → holdA g h0 A n c B m d j u w' := by
  have hk : ∀ {k : Nat} {o : Obj}, w.heap[k]? = some o → w'.heap[k]? = some o := fun {k o} e => (hb.block k (Array.getElem?_eq_some_iff.1 e).1).trans e
  unfold holdA
  split
  · exact id
  · exact id
  · rintro ⟨b, e, h1, h2⟩; exact ⟨b, e, h1, hk h2⟩
  · exact id
  · exact id
  · rintro ⟨b, q, e, hq, h1, h2⟩; exact ⟨b, q, e, hq, h1, hk h2⟩
  · exact id
  · exact id
  · rintro ⟨b, z, e, h1, h2⟩; exact ⟨b, z, e, h1, hk h2⟩
  · rintro ⟨A8, c8, hl8, e, h1⟩; exact ⟨A8, c8, hl8, e, h1.below hb⟩
  · exact id
  · rintro ⟨A8, c8, hl8, e, h1⟩; exact ⟨A8, c8, hl8, hk e, h1.below hb⟩
  · exact id
theorem holdA_read (hg : w.grownBy w' (some g)) (hgh : g < h0) (j : Nat) (u : Value) : holdA g h0 A n c B m d j u w → holdA g h0 A n c B m d j u w' := by
  have hk : ∀ {k : Nat} {o : Obj}, w.heap[k]? = some o → k ≠ g → w'.heap[k]? = some o := fun {k o} e hne => (hg.block k (Array.getElem?_eq_some_iff.1 e).1 (fun e => by injection e with e; exact hne e)).trans e
  unfold holdA
  split
  · exact id
  · exact id
  · rintro ⟨b, e, h1, h2⟩; exact ⟨b, e, h1, hk h2 (by have := h1.low; omega)⟩
  · exact id
  · exact id
  · rintro ⟨b, q, e, hq, h1, h2⟩; exact ⟨b, q, e, hq, h1, hk h2 (by have := h1.low; omega)⟩
  · exact id
  · exact id
  · rintro ⟨b, z, e, h1, h2⟩; exact ⟨b, z, e, h1, hk h2 (by have := h1.low; omega)⟩
  · rintro ⟨A8, c8, hl8, e, h1⟩; exact ⟨A8, c8, hl8, e, h1.farG hg (by omega)⟩
  · exact id
  · rintro ⟨A8, c8, hl8, e, h1⟩; exact ⟨A8, c8, hl8, hk e (by omega), h1.farG hg (by omega)⟩
  · exact id
theorem holdA_app (hg : w.grownBy w' (blk A)) (j : Nat) (h9 : j ≠ 9) (h11 : j ≠ 11) (u : Value) : holdA g h0 A n c B m d j u w → holdA g h0 A n c B m d j u w' := by
  have hk : ∀ {k : Nat} {o : Obj}, w.heap[k]? = some o → (∀ q, blk A = some q → k ≠ q) → w'.heap[k]? = some o := fun {k o} e hne => (hg.block k (Array.getElem?_eq_some_iff.1 e).1 (fun e => hne k e.symm rfl)).trans e
  unfold holdA
  split
  · exact id
  · exact id
  · rintro ⟨b, e, h1, h2⟩; exact ⟨b, e, h1, hk h2 h1.ne⟩
  · exact id
  · exact id
  · rintro ⟨b, q, e, hq, h1, h2⟩; exact ⟨b, q, e, hq, h1, hk h2 h1.ne⟩
  · exact id
  · exact id
  · rintro ⟨b, z, e, h1, h2⟩; exact ⟨b, z, e, h1, hk h2 h1.ne⟩
  · exact absurd rfl h9
  · exact id
  · exact absurd rfl h11
  · exact id
theorem holdA_store (hg : w.grownBy w' (some (h0 + 1))) (j : Nat) (h11 : j ≠ 11) (u : Value) : holdA g h0 A n c B m d j u w → holdA g h0 A n c B m d j u w' := by
  have hk : ∀ {k : Nat} {o : Obj}, w.heap[k]? = some o → k ≠ h0 + 1 → w'.heap[k]? = some o := fun {k o} e hne => (hg.block k (Array.getElem?_eq_some_iff.1 e).1 (fun e => by injection e with e; exact hne e)).trans e
  unfold holdA
  split
  · exact id
  · exact id
  · rintro ⟨b, e, h1, h2⟩; exact ⟨b, e, h1, hk h2 (by have := h1.low; omega)⟩
  · exact id
  · exact id
  · rintro ⟨b, q, e, hq, h1, h2⟩; exact ⟨b, q, e, hq, h1, hk h2 (by have := h1.low; omega)⟩
  · exact id
  · exact id
  · rintro ⟨b, z, e, h1, h2⟩; exact ⟨b, z, e, h1, hk h2 (by have := h1.low; omega)⟩
  · rintro ⟨A8, c8, hl8, e, h1⟩; exact ⟨A8, c8, hl8, e, h1.farG hg (by omega)⟩
  · exact id
  · exact absurd rfl h11
  · exact id

/-- What stands all along. -/
structure HoldS (w0 : World) (lim g : Nat) (A : Option Addr) (n c : Nat) (B : Option Addr) (m d : Nat) (N : Int) (l : Array Bool) (w : World) : Prop where
  rdr : Rdr w lim g (N + if l.getD 4 false then 1 else 0)
  grown : w0.grownBy w (some g)
  res : w.heap[w0.heap.size]? = some (.cells #[.slice none 0 0, .slice none 0 0] 37 (0, 0))
  box : ∃ u, w.heap[w0.heap.size + 1]? = some (.cells #[u, .slice B m d] 37 (0, 0)) ∧ (l.getD 11 false = false → u = .slice A n c)
  own : l.getD 9 false = false → ∃ hl, Own encP 51 w (w0.heap.size + 2) A n c hl
  left : ∃ ll, OwnI w (w0.heap.size + 2) B m d ll
  gl : g < w0.heap.size
  aH : ∀ q, blk A = some q → w0.heap.size + 2 ≤ q ∧ q < w.heap.size
  aB : ∀ q, B = some ⟨q, 0, none⟩ → some q ≠ blk A
variable {w0 : World} {lim : Nat} {N : Int} {l : Array Bool}
theorem HoldS.size (h : HoldS w0 lim g A n c B m d N l w) : w0.heap.size + 2 ≤ w.heap.size := by
  obtain ⟨u, hb, _⟩ := h.box
  have := (Array.getElem?_eq_some_iff.1 hb).1
  omega
theorem HoldS.same {i : Nat} (h : HoldS w0 lim g A n c B m d N l w) (hi : (i != 4 && i != 9 && i != 11) = true) : HoldS w0 lim g A n c B m d N (l.setIfInBounds i true) w := by
  simp only [Bool.and_eq_true, bne_iff_ne] at hi
  exact ⟨by rw [getD_set_ne false hi.1.1]; exact h.rdr, h.grown, h.res, by rw [getD_set_ne false hi.2]; exact h.box, by rw [getD_set_ne false hi.1.2]; exact h.own, h.left, h.gl, h.aH, h.aB⟩
theorem HoldS.below (h : HoldS w0 lim g A n c B m d N l w) (hb : Below w.heap.size w w') : HoldS w0 lim g A n c B m d N l w' := by
  have hk : ∀ {k : Nat} {o : Obj}, w.heap[k]? = some o → w'.heap[k]? = some o := fun {k o} e => (hb.block k (Array.getElem?_eq_some_iff.1 e).1).trans e
  obtain ⟨u, hbx, hu⟩ := h.box
  obtain ⟨ll, hi⟩ := h.left
  exact ⟨h.rdr.below hb, grown_below h.grown hb, hk h.res, ⟨u, hk hbx, hu⟩, fun h9 => by obtain ⟨hl, ho⟩ := h.own h9; exact ⟨hl, ho.below hb⟩, ⟨ll, hi.below hb⟩, h.gl, fun q e => ⟨(h.aH q e).1, Nat.lt_of_lt_of_le (h.aH q e).2 hb.size⟩, h.aB⟩
theorem HoldS.pick (h : HoldS w0 lim g A n c B m d N l w) (hl : l.size = 12) (hu : l.getD 4 true = false) (hr : Rdr w' lim g (N + (if l.getD 4 false then 1 else 0) + 1)) (hg : w.grownBy w' (some g)) : HoldS w0 lim g A n c B m d N (l.setIfInBounds 4 true) w' := by
  have hgl := h.gl
  have h40 : l.getD 4 false = false := by simp [hl] at hu ⊢; exact hu
  have h41 : (l.setIfInBounds 4 true).getD 4 false = true := by simp [hl]
  have hk : ∀ {k : Nat} {o : Obj}, w.heap[k]? = some o → k ≠ g → w'.heap[k]? = some o := fun {k o} e hne => (hg.block k (Array.getElem?_eq_some_iff.1 e).1 (fun e => by injection e with e; exact hne e)).trans e
  obtain ⟨u, hbx, hu⟩ := h.box
  obtain ⟨ll, hi⟩ := h.left
  refine ⟨?_, h.grown.trans hg, hk h.res (by omega), ⟨u, hk hbx (by omega), by rw [getD_set_ne false (show 4 ≠ 11 by decide)]; exact hu⟩, ?_, ⟨ll, hi.farG hg (by omega)⟩, hgl, fun q e => ⟨(h.aH q e).1, Nat.lt_of_lt_of_le (h.aH q e).2 hg.size⟩, h.aB⟩
  · rw [h41]; rw [h40] at hr; exact hr.mono (by simp)
  · rw [getD_set_ne false (show 4 ≠ 9 by decide)]
    intro h9
    obtain ⟨hl, ho⟩ := h.own h9
    exact ⟨hl, ho.farG hg (by omega)⟩
theorem HoldS.app (h : HoldS w0 lim g A n c B m d N l w) (hl : l.size = 12) (hg : w.grownBy w' (blk A)) : HoldS w0 lim g A n c B m d N (l.setIfInBounds 9 true) w' := by
  have hgl := h.gl
  have h91 : (l.setIfInBounds 9 true).getD 9 false = true := by simp [hl]
  have hk : ∀ {k : Nat} {o : Obj}, w.heap[k]? = some o → k < w0.heap.size + 2 → w'.heap[k]? = some o := fun {k o} e hne => (hg.block k (Array.getElem?_eq_some_iff.1 e).1 (fun e => by have := (h.aH k e.symm).1; omega)).trans e
  obtain ⟨u, hbx, hu⟩ := h.box
  obtain ⟨ll, hi⟩ := h.left
  exact ⟨by rw [getD_set_ne false (show 9 ≠ 4 by decide)]; exact h.rdr.far hg (fun k e => by have := (h.aH k e).1; have := h.rdr.lt; omega), grown_past h.grown hg (fun k e => by have := (h.aH k e).1; omega), hk h.res (by omega), ⟨u, hk hbx (by omega), by rw [getD_set_ne false (show 9 ≠ 11 by decide)]; exact hu⟩,
    fun h9 => (by rw [h91] at h9; cases h9), ⟨ll, hi.far hg h.aB⟩, hgl, fun q e => ⟨(h.aH q e).1, Nat.lt_of_lt_of_le (h.aH q e).2 hg.size⟩, h.aB⟩
theorem HoldS.store {A8 : Option Addr} {n8 c8 : Nat} (h : HoldS w0 lim g A n c B m d N l w) (hl : l.size = 12) :
    HoldS w0 lim g A n c B m d N (l.setIfInBounds 11 true) (w.setCell ⟨w0.heap.size + 1, 0, none⟩ (.slice A8 n8 c8)) ∧ (w.setCell ⟨w0.heap.size + 1, 0, none⟩ (.slice A8 n8 c8)).heap[w0.heap.size + 1]? = some (.cells #[.slice A8 n8 c8, .slice B m d] 37 (0, 0)) := by
  have hgl := h.gl
  have hlt := h.rdr.lt
  have h111 : (l.setIfInBounds 11 true).getD 11 false = true := by simp [hl]
  have hg : w.grownBy (w.setCell ⟨w0.heap.size + 1, 0, none⟩ (.slice A8 n8 c8)) (some (w0.heap.size + 1)) := grown_set _ _ _ _
  have hk : ∀ {k : Nat} {o : Obj}, w.heap[k]? = some o → k ≠ w0.heap.size + 1 → (w.setCell ⟨w0.heap.size + 1, 0, none⟩ (.slice A8 n8 c8)).heap[k]? = some o := fun {k o} e hne => (hg.block k (Array.getElem?_eq_some_iff.1 e).1 (fun e => by injection e with e; exact hne e)).trans e
  obtain ⟨u, hbx, hu⟩ := h.box
  obtain ⟨ll, hi⟩ := h.left
  have hb8 : (w.setCell ⟨w0.heap.size + 1, 0, none⟩ (.slice A8 n8 c8)).heap[w0.heap.size + 1]? = some (.cells #[.slice A8 n8 c8, .slice B m d] 37 (0, 0)) := by rw [heap_setCell_same _ _ 0 _ _ _ hbx]; rfl
  refine ⟨⟨?_, grown_past h.grown hg (fun k e => by injection e with e; omega), hk h.res (by omega), ⟨_, hb8, fun h11 => by rw [h111] at h11; cases h11⟩, ?_, ⟨ll, hi.farG hg (by omega)⟩, hgl, fun q e => ⟨(h.aH q e).1, Nat.lt_of_lt_of_le (h.aH q e).2 hg.size⟩, h.aB⟩, hb8⟩
  · rw [getD_set_ne false (show 11 ≠ 4 by decide)]; exact h.rdr.far hg (fun k e => by injection e with e; omega)
  · rw [getD_set_ne false (show 11 ≠ 9 by decide)]
    intro h9
    obtain ⟨hl, ho⟩ := h.own h9
    exact ⟨hl, ho.farG hg (by omega)⟩
theorem HoldS.of {w1 : World} (h : DrP w0 lim g w1 A n c B m d N) : HoldS w0 lim g A n c B m d N (Array.replicate 12 false) (w1.drewN 1) := by
  obtain ⟨hl, ho⟩ := h.own
  obtain ⟨ll, hi⟩ := h.left
  have h' := h.drewN 1
  refine ⟨by simpa using h'.rdr, h'.grown, h'.res, ⟨_, h'.box, fun _ => rfl⟩, fun _ => h'.own, h'.left, h.gl, fun q e => ho.in_ q (.inr e), fun q e e2 => ?_⟩
  rcases ho.form with ⟨rfl, _⟩ | ⟨b, rfl, _, _⟩
  · simp [blk] at e2
  · subst e
    simp [blk] at e2
    exact apartH ho hi e2
/-- The end. -/
theorem HoldS.end_ {A8 : Option Addr} {c8 : Nat} {hl8 : List (Int × Int)} (h : HoldS w0 lim g A n c B m d N l w) (hb : w.heap[w0.heap.size + 1]? = some (.cells #[.slice A8 (n + 1) c8, .slice B m d] 37 (0, 0))) (ho : Own encP 51 w (w0.heap.size + 2) A8 (n + 1) c8 hl8) :
    DrP w0 lim g w A8 (n + 1) c8 B m d (N + 1) :=
  ⟨h.rdr.mono (by split <;> omega), h.grown, h.res, hb, ⟨hl8, ho⟩, h.left, h.gl⟩
end
end Go.Proofs.Ytjhbmikohcbkkaa
