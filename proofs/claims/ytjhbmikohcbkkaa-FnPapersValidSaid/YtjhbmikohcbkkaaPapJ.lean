/-
  Papers are drawn: what stands while the reference draws them. Plain facts on memory alone.
-/
import Derived.Test.YtjhbmikohcbkkaaPapG
import Derived.Test.YtjhbmikohcbkkaaPapI
namespace Go.Proofs.Ytjhbmikohcbkkaa
open Go.RowKit
set_option linter.unusedVariables false
set_option maxRecDepth 100000

theorem getD_lt {xs : Array Value} {t : Nat} (h : t < xs.size) : xs.getD t undef = xs[t] := by simp [Array.getD, h]
/-- A frame behind a region, its own slots laid anew over the frame ahead of it. -/
theorem og_frame {l : List Oper} {a0 a : Act} (h : OgBase l.toArray a0 a) (ds : List Nat) (hds : (l.all fun o => match o.dst with | none => true | some d => ds.contains d) = true) :
    a = ds.foldl (fun b d => b.put (some d) (a.tmps.getD d undef)) a0 := by
  have key : ∀ (ds : List Nat) (b : Act), (ds.foldl (fun b d => b.put (some d) (a.tmps.getD d undef)) b).defers = b.defers ∧ (ds.foldl (fun b d => b.put (some d) (a.tmps.getD d undef)) b).tmps.size = b.tmps.size ∧
      ∀ t, t < b.tmps.size → (ds.foldl (fun b d => b.put (some d) (a.tmps.getD d undef)) b).tmps.getD t undef = if t ∈ ds then a.tmps.getD t undef else b.tmps.getD t undef := by
    intro ds
    induction ds with
    | nil => intro b; exact ⟨rfl, rfl, fun t _ => by simp⟩
    | cons d ds ih =>
      intro b
      obtain ⟨h1, h2, h3⟩ := ih (b.put (some d) (a.tmps.getD d undef))
      refine ⟨h1, h2.trans (by simp [Act.put]), fun t ht => ?_⟩
      rw [List.foldl_cons, h3 t (by simpa [Act.put] using ht)]
      by_cases htd : t ∈ ds
      · simp [htd]
      · by_cases hdt : d = t
        · subst hdt
          simp [htd, Act.put, ht]
        · have hn : t ≠ d := fun e => hdt e.symm
          simp [htd, hn, Act.put, Array.getElem?_setIfInBounds_ne hdt]
  obtain ⟨k1, k2, k3⟩ := key ds a0
  have hfree : ∀ t, t ∉ ds → ∀ i : Nat, (l.toArray[i]?).bind (·.dst) ≠ some t := fun t ht i e => by
    cases ho : l.toArray[i]? with
    | none => rw [ho] at e; cases e
    | some o =>
      rw [ho] at e
      simp only [Option.bind_some] at e
      have := (List.all_eq_true.1 hds) o (by have := Array.mem_of_getElem? ho; simpa using this)
      rw [e] at this
      simp at this
      exact ht this
  have ht : a.tmps = (ds.foldl (fun b d => b.put (some d) (a.tmps.getD d undef)) a0).tmps := by
    refine Array.ext (by rw [k2]; exact h.size) fun t h1 h2 => ?_
    have e := k3 t (by rw [← h.size]; exact h1)
    by_cases htd : t ∈ ds
    · rw [if_pos htd] at e
      rw [getD_lt h1, getD_lt h2] at e
      exact e.symm
    · rw [if_neg htd] at e
      have := h.other t (hfree t htd)
      rw [← this] at e
      rw [getD_lt h1, getD_lt h2] at e
      exact e.symm
  have hd := h.defers.trans k1.symm
  cases a
  cases hb : (ds.foldl _ a0)
  simp only [hb] at ht hd
  subst ht hd
  rfl

/-- Papers of bounded length in new memory. -/
def PapV (H N M : Nat) (v : Value) (w : World) : Prop :=
  ∃ (n m : Nat) (A : Option Addr) (c : Nat) (B : Option Addr) (d : Nat) (hl : List (Int × Int)) (ll : List Int), v = .agg #[.slice A n c, .slice B m d] ∧ n ≤ N ∧ m ≤ M ∧
    Own encP 51 w H A n c hl ∧ OwnI w H B m d ll
theorem PapV.nil_ (H N M : Nat) (w : World) : PapV H N M (.agg #[.slice none 0 0, .slice none 0 0]) w :=
  ⟨0, 0, none, 0, none, 0, [], [], rfl, Nat.zero_le _, Nat.zero_le _, Own.nil_ _ _, OwnI.nil_ _ _⟩
theorem PapV.below {H N M : Nat} {v : Value} {w w' : World} (h : PapV H N M v w) (hb : Below w.heap.size w w') : PapV H N M v w' := by
  obtain ⟨n, m, A, c, B, d, hl, ll, e, hn, hm, ho, hi⟩ := h
  exact ⟨n, m, A, c, B, d, hl, ll, e, hn, hm, ho.below hb, hi.below hb⟩
theorem PapV.read {H N M g : Nat} {v : Value} {w w' : World} (h : PapV H N M v w) (hg : w.grownBy w' (some g)) (hgH : g < H) : PapV H N M v w' := by
  obtain ⟨n, m, A, c, B, d, hl, ll, e, hn, hm, ho, hi⟩ := h
  exact ⟨n, m, A, c, B, d, hl, ll, e, hn, hm, ho.farG hg hgH, hi.farG hg hgH⟩
theorem apartX {w : World} {base n c g b : Nat} {R : List (Int × Int)} {cs : Array Value} (h : Own encP 51 w base (some ⟨b, 0, none⟩) n c R) (hg : w.heap[g]? = some (.cells cs 37 (0, 0))) : b ≠ g := by
  intro e
  subst e
  rcases h.2 with ⟨e1, _⟩ | ⟨g1, cap1, cur1, e1, _, hh1, _⟩
  · cases e1
  · injection e1 with e1 _ _
    injection e1 with e1
    injection e1 with e1
    subst e1
    rw [hh1] at hg
    injection hg with hg
    injection hg with _ hg _
    cases hg
theorem apartXI {w : World} {base n c g b : Nat} {R : List Int} {cs : Array Value} (h : OwnI w base (some ⟨b, 0, none⟩) n c R) (hg : w.heap[g]? = some (.cells cs 37 (0, 0))) : b ≠ g := by
  intro e
  subst e
  rcases h.2 with ⟨e1, _⟩ | ⟨g1, cap1, cur1, e1, _, hh1, _⟩
  · cases e1
  · injection e1 with e1 _ _
    injection e1 with e1
    injection e1 with e1
    subst e1
    rw [hh1] at hg
    injection hg with hg
    injection hg with _ hg _
    cases hg
/-- Behind a store into a box of papers. -/
theorem PapV.boxed {H N M g : Nat} {v : Value} {w w' : World} {cs : Array Value} (h : PapV H N M v w) (hc : w.heap[g]? = some (.cells cs 37 (0, 0))) (hg : w.grownBy w' (some g)) : PapV H N M v w' := by
  obtain ⟨n, m, A, c, B, d, hl, ll, e, hn, hm, ho, hi⟩ := h
  exact ⟨n, m, A, c, B, d, hl, ll, e, hn, hm, ho.far hg (fun q e1 e2 => by subst e1; injection e2 with e2; exact apartX ho hc e2), hi.far hg (fun q e1 e2 => by subst e1; injection e2 with e2; exact apartXI hi hc e2)⟩

/-- What stands while papers are drawn: the reader, the result's box, the papers' box behind it. -/
structure DrP (w : World) (lim g : Nat) (wr : World) (A : Option Addr) (n c : Nat) (B : Option Addr) (m d : Nat) (N : Int) : Prop where
  rdr : Rdr wr lim g N
  grown : w.grownBy wr (some g)
  res : wr.heap[w.heap.size]? = some (.cells #[.slice none 0 0, .slice none 0 0] 37 (0, 0))
  box : wr.heap[w.heap.size + 1]? = some (.cells #[.slice A n c, .slice B m d] 37 (0, 0))
  own : ∃ hl, Own encP 51 wr (w.heap.size + 2) A n c hl
  left : ∃ ll, OwnI wr (w.heap.size + 2) B m d ll
  gl : g < w.heap.size
section
variable {w : World} {lim g : Nat} {wr wx : World} {A : Option Addr} {n c : Nat} {B : Option Addr} {m d : Nat} {N N' : Int}
theorem DrP.cells (h : DrP w lim g wr A n c B m d N) :
    wr.cell? ⟨w.heap.size + 1, 0, none⟩ = some (.slice A n c) ∧ wr.cell? ⟨w.heap.size + 1, 1, none⟩ = some (.slice B m d) ∧ wr.frozen? ⟨w.heap.size + 1, 0, none⟩ = false ∧ wr.frozen? ⟨w.heap.size + 1, 1, none⟩ = false :=
  ⟨by rw [cell_of_row _ _ 0 _ _ _ h.box]; rfl, by rw [cell_of_row _ _ 1 _ _ _ h.box]; rfl, frozen_of_row _ _ 0 _ _ h.box, frozen_of_row _ _ 1 _ _ h.box⟩
theorem DrP.ress (h : DrP w lim g wr A n c B m d N) :
    wr.cell? ⟨w.heap.size, 0, none⟩ = some (.slice none 0 0) ∧ wr.cell? ⟨w.heap.size, 1, none⟩ = some (.slice none 0 0) ∧ wr.frozen? ⟨w.heap.size, 0, none⟩ = false ∧ wr.frozen? ⟨w.heap.size, 1, none⟩ = false :=
  ⟨by rw [cell_of_row _ _ 0 _ _ _ h.res]; rfl, by rw [cell_of_row _ _ 1 _ _ _ h.res]; rfl, frozen_of_row _ _ 0 _ _ h.res, frozen_of_row _ _ 1 _ _ h.res⟩
theorem DrP.size (h : DrP w lim g wr A n c B m d N) : w.heap.size + 2 ≤ wr.heap.size := by have := (Array.getElem?_eq_some_iff.1 h.box).1; omega
theorem DrP.mono (h : DrP w lim g wr A n c B m d N) (hN : N ≤ N') : DrP w lim g wr A n c B m d N' := ⟨h.rdr.mono hN, h.grown, h.res, h.box, h.own, h.left, h.gl⟩
theorem DrP.drewN (h : DrP w lim g wr A n c B m d N) (k : Nat) : DrP w lim g (wr.drewN k) A n c B m d N :=
  ⟨h.rdr.drewN k, only_drewN h.grown k, h.res, h.box, h.own, h.left, h.gl⟩
/-- The reader has read. -/
theorem DrP.read (h : DrP w lim g wr A n c B m d N) (hr : Rdr wx lim g N') (hg : wr.grownBy wx (some g)) : DrP w lim g wx A n c B m d N' := by
  have hgl := h.gl
  have hk : ∀ {k : Nat} {o : Obj}, wr.heap[k]? = some o → k ≠ g → wx.heap[k]? = some o := fun {k o} e hne => (hg.block k (Array.getElem?_eq_some_iff.1 e).1 (fun e => by injection e with e; exact hne e)).trans e
  obtain ⟨hl, ho⟩ := h.own
  obtain ⟨ll, hi⟩ := h.left
  exact ⟨hr, h.grown.trans hg, hk h.res (by omega), hk h.box (by omega), ⟨hl, ho.farG hg (by omega)⟩, ⟨ll, hi.farG hg (by omega)⟩, hgl⟩
/-- New memory. -/
theorem DrP.below (h : DrP w lim g wr A n c B m d N) (hb : Below wr.heap.size wr wx) : DrP w lim g wx A n c B m d N := by
  have hk : ∀ {k : Nat} {o : Obj}, wr.heap[k]? = some o → wx.heap[k]? = some o := fun {k o} e => (hb.block k (Array.getElem?_eq_some_iff.1 e).1).trans e
  obtain ⟨hl, ho⟩ := h.own
  obtain ⟨ll, hi⟩ := h.left
  exact ⟨h.rdr.below hb, grown_below h.grown hb, hk h.res, hk h.box, ⟨hl, ho.below hb⟩, ⟨ll, hi.below hb⟩, h.gl⟩
theorem DrP.alloc (h : DrP w lim g wr A n c B m d N) (o : Obj) : DrP w lim g (wr.alloc o) A n c B m d N := h.below ((Below.refl _ _).alloc (Nat.le_refl _) _)
/-- A block is written that is none of these. -/
theorem DrP.other {b : Nat} {cs : Array Value} (h : DrP w lim g wr A n c B m d N) (hc : wr.heap[b]? = some (.cells cs 37 (0, 0))) (hg : wr.grownBy wx (some b)) (hb : w.heap.size + 2 ≤ b) : DrP w lim g wx A n c B m d N := by
  have hgl := h.gl
  have hlt := h.rdr.lt
  have hk : ∀ {k : Nat} {o : Obj}, wr.heap[k]? = some o → k ≠ b → wx.heap[k]? = some o := fun {k o} e hne => (hg.block k (Array.getElem?_eq_some_iff.1 e).1 (fun e => by injection e with e; exact hne e)).trans e
  obtain ⟨hl, ho⟩ := h.own
  obtain ⟨ll, hi⟩ := h.left
  exact ⟨h.rdr.far hg (fun k e => by injection e with e; omega), grown_past h.grown hg (fun k e => by injection e with e; omega), hk h.res (by omega), hk h.box (by omega),
    ⟨hl, ho.far hg (fun q e1 e2 => by subst e1; injection e2 with e2; exact apartX ho hc e2)⟩, ⟨ll, hi.far hg (fun q e1 e2 => by subst e1; injection e2 with e2; exact apartXI hi hc e2)⟩, hgl⟩
/-- New papers are stored into the papers' box. -/
theorem DrP.put {A8 B8 : Option Addr} {n8 c8 m8 d8 : Nat} {hl8 : List (Int × Int)} {ll8 : List Int} (h : DrP w lim g wr A n c B m d N) (ho : Own encP 51 wr (w.heap.size + 2) A8 n8 c8 hl8) (hi : OwnI wr (w.heap.size + 2) B8 m8 d8 ll8) :
    DrP w lim g ((wr.setCell ⟨w.heap.size + 1, 0, none⟩ (.slice A8 n8 c8)).setCell ⟨w.heap.size + 1, 1, none⟩ (.slice B8 m8 d8)) A8 n8 c8 B8 m8 d8 N := by
  have hgl := h.gl
  have hlt := h.rdr.lt
  have hg : wr.grownBy ((wr.setCell ⟨w.heap.size + 1, 0, none⟩ (.slice A8 n8 c8)).setCell ⟨w.heap.size + 1, 1, none⟩ (.slice B8 m8 d8)) (some (w.heap.size + 1)) := grown_tr (grown_set _ _ _ _) (grown_set _ _ _ _)
  have hk : ∀ {k : Nat} {o : Obj}, wr.heap[k]? = some o → k ≠ w.heap.size + 1 → ((wr.setCell ⟨w.heap.size + 1, 0, none⟩ (.slice A8 n8 c8)).setCell ⟨w.heap.size + 1, 1, none⟩ (.slice B8 m8 d8)).heap[k]? = some o := fun {k o} e hne => (hg.block k (Array.getElem?_eq_some_iff.1 e).1 (fun e => by injection e with e; exact hne e)).trans e
  have h1 : (wr.setCell ⟨w.heap.size + 1, 0, none⟩ (.slice A8 n8 c8)).heap[w.heap.size + 1]? = some (.cells #[.slice A8 n8 c8, .slice B m d] 37 (0, 0)) := by rw [heap_setCell_same wr _ 0 _ _ _ h.box]; rfl
  refine ⟨h.rdr.far hg (fun k e => by injection e with e; omega), grown_past h.grown hg (fun k e => by injection e with e; omega), hk h.res (by omega), by rw [heap_setCell_same _ _ 1 _ _ _ h1]; rfl, ⟨hl8, ?_⟩, ⟨ll8, ?_⟩, hgl⟩
  · exact ho.farG hg (by omega)
  · exact hi.farG hg (by omega)
/-- One number is appended to those that have left, and the field is stored. -/
theorem DrP.appL {w5 w8 : World} {B8 : Option Addr} {m8 d8 : Nat} {ll8 : List Int} (h0 : DrP w lim g wr A n c B m d N) (hb : Below wr.heap.size wr w5) (hg : w5.grownBy w8 (blk B)) (hi8 : OwnI w8 (w.heap.size + 2) B8 m8 d8 ll8) :
    w8.cell? ⟨w.heap.size + 1, 1, none⟩ = some (.slice B m d) ∧ w8.frozen? ⟨w.heap.size + 1, 1, none⟩ = false ∧ DrP w lim g (w8.setCell ⟨w.heap.size + 1, 1, none⟩ (.slice B8 m8 d8)) A n c B8 m8 d8 N := by
  have h := h0.below hb
  have hgl := h.gl
  have hlt := h.rdr.lt
  obtain ⟨hl, ho⟩ := h.own
  obtain ⟨ll, hi⟩ := h.left
  have hq : ∀ q, blk B = some q → w.heap.size + 2 ≤ q := fun q e => (hi.in_ q (.inr e)).1
  have hk : ∀ {k : Nat} {o : Obj}, w5.heap[k]? = some o → k < w.heap.size + 2 → w8.heap[k]? = some o := fun {k o} e hne => (hg.block k (Array.getElem?_eq_some_iff.1 e).1 (fun e => by have := hq k e.symm; omega)).trans e
  have hbx := hk h.box (by omega)
  have hg2 : w8.grownBy (w8.setCell ⟨w.heap.size + 1, 1, none⟩ (.slice B8 m8 d8)) (some (w.heap.size + 1)) := grown_set _ _ _ _
  have hk2 : ∀ {k : Nat} {o : Obj}, w8.heap[k]? = some o → k ≠ w.heap.size + 1 → (w8.setCell ⟨w.heap.size + 1, 1, none⟩ (.slice B8 m8 d8)).heap[k]? = some o := fun {k o} e hne => (hg2.block k (Array.getElem?_eq_some_iff.1 e).1 (fun e => by injection e with e; exact hne e)).trans e
  refine ⟨by rw [cell_of_row _ _ 1 _ _ _ hbx]; rfl, frozen_of_row _ _ 1 _ _ hbx, ⟨?_, ?_, hk2 (hk h.res (by omega)) (by omega), by rw [heap_setCell_same _ _ 1 _ _ _ hbx]; rfl, ⟨hl, ?_⟩, ⟨ll8, hi8.farG hg2 (by omega)⟩, hgl⟩⟩
  · exact (h.rdr.far hg (fun k e => by have := hq k e; omega)).far hg2 (fun k e => by injection e with e; omega)
  · exact grown_past (grown_past h.grown hg (fun k e => by have := hq k e; omega)) hg2 (fun k e => by injection e with e; omega)
  · exact (farH ho hi hg).farG hg2 (by omega)
/-- One hold is appended, and the field is stored. -/
theorem DrP.appH {w5 w8 : World} {A8 : Option Addr} {n8 c8 : Nat} {hl8 : List (Int × Int)} (h0 : DrP w lim g wr A n c B m d N) (hb : Below wr.heap.size wr w5) (hg : w5.grownBy w8 (blk A)) (ho8 : Own encP 51 w8 (w.heap.size + 2) A8 n8 c8 hl8) :
    w8.cell? ⟨w.heap.size + 1, 0, none⟩ = some (.slice A n c) ∧ w8.frozen? ⟨w.heap.size + 1, 0, none⟩ = false ∧ DrP w lim g (w8.setCell ⟨w.heap.size + 1, 0, none⟩ (.slice A8 n8 c8)) A8 n8 c8 B m d N := by
  have h := h0.below hb
  have hgl := h.gl
  have hlt := h.rdr.lt
  obtain ⟨hl, ho⟩ := h.own
  obtain ⟨ll, hi⟩ := h.left
  have hq : ∀ q, blk A = some q → w.heap.size + 2 ≤ q := fun q e => (ho.in_ q (.inr e)).1
  have hk : ∀ {k : Nat} {o : Obj}, w5.heap[k]? = some o → k < w.heap.size + 2 → w8.heap[k]? = some o := fun {k o} e hne => (hg.block k (Array.getElem?_eq_some_iff.1 e).1 (fun e => by have := hq k e.symm; omega)).trans e
  have hbx := hk h.box (by omega)
  have hg2 : w8.grownBy (w8.setCell ⟨w.heap.size + 1, 0, none⟩ (.slice A8 n8 c8)) (some (w.heap.size + 1)) := grown_set _ _ _ _
  have hk2 : ∀ {k : Nat} {o : Obj}, w8.heap[k]? = some o → k ≠ w.heap.size + 1 → (w8.setCell ⟨w.heap.size + 1, 0, none⟩ (.slice A8 n8 c8)).heap[k]? = some o := fun {k o} e hne => (hg2.block k (Array.getElem?_eq_some_iff.1 e).1 (fun e => by injection e with e; exact hne e)).trans e
  refine ⟨by rw [cell_of_row _ _ 0 _ _ _ hbx]; rfl, frozen_of_row _ _ 0 _ _ hbx, ⟨?_, ?_, hk2 (hk h.res (by omega)) (by omega), by rw [heap_setCell_same _ _ 0 _ _ _ hbx]; rfl, ⟨hl8, ho8.farG hg2 (by omega)⟩, ⟨ll, ?_⟩, hgl⟩⟩
  · exact (h.rdr.far hg (fun k e => by have := hq k e; omega)).far hg2 (fun k e => by injection e with e; omega)
  · exact grown_past (grown_past h.grown hg (fun k e => by have := hq k e; omega)) hg2 (fun k e => by injection e with e; omega)
  · exact (farI hi ho hg).farG hg2 (by omega)
/-- A new list of those that have left is stored. -/
theorem DrP.putL {w5 : World} {B8 : Option Addr} {m8 d8 : Nat} {ll8 : List Int} (h0 : DrP w lim g wr A n c B m d N) (hb : Below wr.heap.size wr w5) (hi8 : OwnI w5 (w.heap.size + 2) B8 m8 d8 ll8) :
    DrP w lim g (w5.setCell ⟨w.heap.size + 1, 1, none⟩ (.slice B8 m8 d8)) A n c B8 m8 d8 N := by
  have h := h0.below hb
  have hgl := h.gl
  have hlt := h.rdr.lt
  obtain ⟨hl, ho⟩ := h.own
  have hg2 : w5.grownBy (w5.setCell ⟨w.heap.size + 1, 1, none⟩ (.slice B8 m8 d8)) (some (w.heap.size + 1)) := grown_set _ _ _ _
  have hk2 : ∀ {k : Nat} {o : Obj}, w5.heap[k]? = some o → k ≠ w.heap.size + 1 → (w5.setCell ⟨w.heap.size + 1, 1, none⟩ (.slice B8 m8 d8)).heap[k]? = some o := fun {k o} e hne => (hg2.block k (Array.getElem?_eq_some_iff.1 e).1 (fun e => by injection e with e; exact hne e)).trans e
  exact ⟨h.rdr.far hg2 (fun k e => by injection e with e; omega), grown_past h.grown hg2 (fun k e => by injection e with e; omega), hk2 h.res (by omega), by rw [heap_setCell_same _ _ 1 _ _ _ h.box]; rfl, ⟨hl, ho.farG hg2 (by omega)⟩, ⟨ll8, hi8.farG hg2 (by omega)⟩, hgl⟩
end
/-- Papers, drawn. -/
def DrawPap (w : World) (lim g : Nat) (N M : Int) (e : Ending) (w' : World) : Prop :=
  ∃ (n m : Nat) (A : Option Addr) (c : Nat) (B : Option Addr) (d : Nat) (hl : List (Int × Int)) (ll : List Int), e = .returned (.agg #[.slice A n c, .slice B m d]) ∧ n ≤ 40 ∧ m ≤ 40 ∧
    Own encP 51 w' w.heap.size A n c hl ∧ OwnI w' w.heap.size B m d ll ∧ Rdr w' lim g (N + M) ∧ w.grownBy w' (some g)
/-- The end: the papers' box is the result. -/
theorem DrP.done {w : World} {lim g : Nat} {wr : World} {A : Option Addr} {n c : Nat} {B : Option Addr} {m d : Nat} {N N' M' : Int} (h : DrP w lim g wr A n c B m d N') (hN : N' ≤ N + M') (hn : n ≤ 40) (hm : m ≤ 40) :
    (((wr.setCell ⟨w.heap.size, 0, none⟩ (.slice A n c)).setCell ⟨w.heap.size, 1, none⟩ (.slice B m d)).cell? ⟨w.heap.size, 0, none⟩ = some (.slice A n c) ∧ ((wr.setCell ⟨w.heap.size, 0, none⟩ (.slice A n c)).setCell ⟨w.heap.size, 1, none⟩ (.slice B m d)).cell? ⟨w.heap.size, 1, none⟩ = some (.slice B m d)) ∧
    DrawPap w lim g N M' (.returned (.agg #[.slice A n c, .slice B m d])) ((wr.setCell ⟨w.heap.size, 0, none⟩ (.slice A n c)).setCell ⟨w.heap.size, 1, none⟩ (.slice B m d)) := by
  have hgl := h.gl
  have hlt := h.rdr.lt
  obtain ⟨hl, ho⟩ := h.own
  obtain ⟨ll, hi⟩ := h.left
  have hg : wr.grownBy ((wr.setCell ⟨w.heap.size, 0, none⟩ (.slice A n c)).setCell ⟨w.heap.size, 1, none⟩ (.slice B m d)) (some w.heap.size) := grown_tr (grown_set _ _ _ _) (grown_set _ _ _ _)
  exact ⟨pair_stored h.res, n, m, A, c, B, d, hl, ll, rfl, hn, hm, (ho.farG hg (by omega)).mono (by omega), (hi.farG hg (by omega)).mono (by omega), (h.rdr.far hg (fun k e => by injection e with e; omega)).mono hN, grown_past h.grown hg (fun k e => by injection e with e; omega)⟩
end Go.Proofs.Ytjhbmikohcbkkaa
