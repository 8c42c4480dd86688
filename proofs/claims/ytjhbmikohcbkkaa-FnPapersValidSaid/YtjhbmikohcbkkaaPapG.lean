/-
  Contracts: a deed on papers is drawn.
-/
import Derived.Test.YtjhbmikohcbkkaaPapF
import Derived.Test.YtjhbmikohcbkkaaReader
import Derived.Test.YtjhbmikohcbkkaaOg
import Derived.RegionTactic
namespace Go.Proofs.Ytjhbmikohcbkkaa
open Go.RowKit
set_option linter.unusedVariables false
set_option maxRecDepth 100000

/-- A deed, drawn. -/
def DrawD (w : World) (lim g : Nat) (N M : Int) (e : Ending) (w' : World) : Prop :=
  ∃ a b c : Int, e = .returned (.agg #[vi a, vi b, vi c]) ∧ (0 ≤ a ∧ a ≤ 5) ∧ (-10 ≤ b ∧ b ≤ 10) ∧ (0 ≤ c ∧ c ≤ 5) ∧ Rdr w' lim g (N + M) ∧ w.grownBy w' (some g)

/-- An integer in its bounds. -/
def IntIn (lo hi : Int) (v : Value) : Prop := ∃ z : Int, v = vi z ∧ lo ≤ z ∧ z ≤ hi
/-- Block b, behind the deed's, holds the seven kinds. -/
def Sevens (g d b : Nat) (w : World) : Prop := b ≠ g ∧ d < b ∧ w.heap[b]? = some (.cells #[vi 0, vi 0, vi 0, vi 1, vi 1, vi 2, vi 2] 3 (0, 0))
theorem Sevens.cell {g d b q : Nat} {w : World} (h : Sevens g d b w) (hq : q < 7) : ∃ z : Int, w.cell? ⟨b, q, none⟩ = some (vi z) ∧ 0 ≤ z ∧ z ≤ 2 := by
  rw [cell_of_row _ _ q _ _ _ h.2.2]
  match q, hq with
  | 0, _ => exact ⟨0, rfl, by omega, by omega⟩
  | 1, _ => exact ⟨0, rfl, by omega, by omega⟩
  | 2, _ => exact ⟨0, rfl, by omega, by omega⟩
  | 3, _ => exact ⟨1, rfl, by omega, by omega⟩
  | 4, _ => exact ⟨1, rfl, by omega, by omega⟩
  | 5, _ => exact ⟨2, rfl, by omega, by omega⟩
  | 6, _ => exact ⟨2, rfl, by omega, by omega⟩
theorem quo39 (x : Int) (h : 0 ≤ x) (h2 : x ≤ 39) : 0 ≤ x.tdiv 39 ∧ x.tdiv 39 ≤ 1 := by
  rw [Int.tdiv_eq_ediv_of_nonneg h]; omega

/-- What each operation leaves. -/
def deedA (g d : Nat) : Nat → Value → World → Prop
  | 0 => fun v w => ∃ b, v = .slice (some ⟨b, 0, none⟩) 7 7 ∧ Sevens g d b w
  | 1 => fun v _ => v = .pointer (some ⟨g, 0, none⟩)
  | 2 => fun v _ => IntIn (0) 6 v
  | 3 => fun v w => ∃ b q, v = .pointer (some ⟨b, q, none⟩) ∧ q < 7 ∧ Sevens g d b w
  | 4 => fun v _ => IntIn (0) 2 v
  | 5 => fun v _ => v = .pointer (some ⟨g, 0, none⟩)
  | 6 => fun v _ => IntIn (0) 39 v
  | 7 => fun v _ => IntIn (0) 1 v
  | 8 => fun v _ => IntIn (0) 3 v
  | 9 => fun v _ => IntIn (0) 5 v
  | 10 => fun v _ => v = .pointer (some ⟨g, 0, none⟩)
  | 11 => fun v _ => IntIn (0) 5 v
  | 12 => fun v _ => IntIn (1) 6 v
  | 13 => fun v _ => v = .pointer (some ⟨g, 0, none⟩)
  | 14 => fun v _ => IntIn (0) 39 v
  | 15 => fun v _ => IntIn (0) 1 v
  | 16 => fun v _ => IntIn (0) 9 v
  | 17 => fun v _ => IntIn (-8) 6 v
  | 18 => fun v _ => v = .pointer (some ⟨g, 0, none⟩)
  | 19 => fun v _ => IntIn (0) 2 v
  | 20 => fun v _ => v = .pointer (some ⟨g, 0, none⟩)
  | 21 => fun v _ => IntIn (0) 39 v
  | 22 => fun v _ => IntIn (0) 1 v
  | 23 => fun v _ => IntIn (0) 3 v
  | 24 => fun v _ => IntIn (0) 5 v
  | 25 => fun v _ => ∃ x y z : Int, v = .agg #[vi x, vi y, vi z] ∧ (0 ≤ x ∧ x ≤ 5) ∧ (-8 ≤ y ∧ y ≤ 6) ∧ (0 ≤ z ∧ z ≤ 5)
  | 26 => fun _ w => ∃ x y z : Int, w.heap[d]? = some (.cells #[vi x, vi y, vi z] 83 (0, 0)) ∧ (0 ≤ x ∧ x ≤ 5) ∧ (-8 ≤ y ∧ y ≤ 6) ∧ (0 ≤ z ∧ z ≤ 5)
  | _ => fun _ _ => True
theorem deedA_keep {g d : Nat} (hgd : d ≠ g) {w w' : World} (h : ∀ b, b < w.heap.size → b ≠ g → b ≠ d → w'.heap[b]? = w.heap[b]?) (j : Nat) (hd : j = 26 → w'.heap[d]? = w.heap[d]?) (u : Value) : deedA g d j u w → deedA g d j u w' := by
  have hs : ∀ b, Sevens g d b w → Sevens g d b w' := fun b hb => ⟨hb.1, hb.2.1, (h b (Array.getElem?_eq_some_iff.1 hb.2.2).1 hb.1 (by have := hb.2.1; omega)).trans hb.2.2⟩
  unfold deedA
  split
  · rintro ⟨b, e, hb⟩; exact ⟨b, e, hs b hb⟩
  · exact id
  · exact id
  · rintro ⟨b, q, e, hq, hb⟩; exact ⟨b, q, e, hq, hs b hb⟩
  · exact id
  · exact id
  · exact id
  · exact id
  · exact id
  · exact id
  · exact id
  · exact id
  · exact id
  · exact id
  · exact id
  · exact id
  · exact id
  · exact id
  · exact id
  · exact id
  · exact id
  · exact id
  · exact id
  · exact id
  · exact id
  · exact id
  · rintro ⟨x, y, z, e, hb⟩; exact ⟨x, y, z, (hd rfl).trans e, hb⟩
  · exact id

/-- How many picks are done. -/
def deedC (l : Array Bool) : Int := (if l.getD 2 false then 1 else 0) + (if l.getD 6 false then 1 else 0) + (if l.getD 11 false then 1 else 0) + (if l.getD 14 false then 1 else 0) + (if l.getD 19 false then 1 else 0) + (if l.getD 21 false then 1 else 0)
theorem deedC_le (l : Array Bool) : deedC l ≤ 6 := by
  unfold deedC
  have h : ∀ b : Bool, (if b then (1 : Int) else 0) ≤ 1 := fun b => by cases b <;> decide
  have h2 := h (l.getD 2 false)
  have h6 := h (l.getD 6 false)
  have h11 := h (l.getD 11 false)
  have h14 := h (l.getD 14 false)
  have h19 := h (l.getD 19 false)
  have h21 := h (l.getD 21 false)
  omega
/-- What stands all along. -/
structure DeedS (w0 : World) (lim g d : Nat) (N : Int) (l : Array Bool) (w : World) : Prop where
  rdr : Rdr w lim g (N + deedC l)
  grown : w0.grownBy w (some g)
  row : ∃ x y z : Int, w.heap[d]? = some (.cells #[vi x, vi y, vi z] 83 (0, 0))
theorem deedC_same {l : Array Bool} {i : Nat} (h : (i != 2 && i != 6 && i != 11 && i != 14 && i != 19 && i != 21) = true) : deedC (l.setIfInBounds i true) = deedC l := by
  simp only [Bool.and_eq_true, bne_iff_ne] at h
  obtain ⟨⟨⟨⟨⟨h1, h2⟩, h3⟩, h4⟩, h5⟩, h6⟩ := h
  unfold deedC
  simp only [getD_set_ne false h1, getD_set_ne false h2, getD_set_ne false h3, getD_set_ne false h4, getD_set_ne false h5, getD_set_ne false h6]
theorem deedC_pick {l : Array Bool} {i : Nat} (hl : l.size = 27) (hu : l.getD i true = false) (h : i = 2 ∨ i = 6 ∨ i = 11 ∨ i = 14 ∨ i = 19 ∨ i = 21) : deedC (l.setIfInBounds i true) = deedC l + 1 := by
  have hi : i < l.size := by omega
  have h0 : l.getD i false = false := by simp [hi] at hu ⊢; exact hu
  have h1 : (l.setIfInBounds i true).getD i false = true := by simp [hi]
  unfold deedC
  rcases h with rfl | rfl | rfl | rfl | rfl | rfl
  · simp only [h0, h1, getD_set_ne false (show 2 ≠ 6 by decide), getD_set_ne false (show 2 ≠ 11 by decide), getD_set_ne false (show 2 ≠ 14 by decide), getD_set_ne false (show 2 ≠ 19 by decide), getD_set_ne false (show 2 ≠ 21 by decide)]; (try simp); (try omega)
  · simp only [h0, h1, getD_set_ne false (show 6 ≠ 2 by decide), getD_set_ne false (show 6 ≠ 11 by decide), getD_set_ne false (show 6 ≠ 14 by decide), getD_set_ne false (show 6 ≠ 19 by decide), getD_set_ne false (show 6 ≠ 21 by decide)]; (try simp); (try omega)
  · simp only [h0, h1, getD_set_ne false (show 11 ≠ 2 by decide), getD_set_ne false (show 11 ≠ 6 by decide), getD_set_ne false (show 11 ≠ 14 by decide), getD_set_ne false (show 11 ≠ 19 by decide), getD_set_ne false (show 11 ≠ 21 by decide)]; (try simp); (try omega)
  · simp only [h0, h1, getD_set_ne false (show 14 ≠ 2 by decide), getD_set_ne false (show 14 ≠ 6 by decide), getD_set_ne false (show 14 ≠ 11 by decide), getD_set_ne false (show 14 ≠ 19 by decide), getD_set_ne false (show 14 ≠ 21 by decide)]; (try simp); (try omega)
  · simp only [h0, h1, getD_set_ne false (show 19 ≠ 2 by decide), getD_set_ne false (show 19 ≠ 6 by decide), getD_set_ne false (show 19 ≠ 11 by decide), getD_set_ne false (show 19 ≠ 14 by decide), getD_set_ne false (show 19 ≠ 21 by decide)]; (try simp); (try omega)
  · simp only [h0, h1, getD_set_ne false (show 21 ≠ 2 by decide), getD_set_ne false (show 21 ≠ 6 by decide), getD_set_ne false (show 21 ≠ 11 by decide), getD_set_ne false (show 21 ≠ 14 by decide), getD_set_ne false (show 21 ≠ 19 by decide)]; (try simp); (try omega)
theorem DeedS.same {w0 w : World} {lim g d : Nat} {N : Int} {l : Array Bool} (h : DeedS w0 lim g d N l w) {i : Nat} (hi : (i != 2 && i != 6 && i != 11 && i != 14 && i != 19 && i != 21) = true) : DeedS w0 lim g d N (l.setIfInBounds i true) w :=
  ⟨by rw [deedC_same hi]; exact h.rdr, h.grown, h.row⟩
theorem og_free {l : List Oper} {t : Nat} (h : (l.all fun o => o.dst != some t) = true) : ∀ i : Nat, (l.toArray[i]?).bind (·.dst) ≠ some t := fun i e => by
  rw [List.all_eq_true] at h
  cases ho : l.toArray[i]? with
  | none => rw [ho] at e; cases e
  | some o =>
    rw [ho] at e
    have := h o (by
      have := Array.mem_of_getElem? ho
      simpa using this)
    simp only [Option.bind_some] at e
    rw [e] at this
    simp at this
theorem og_slot {a : Act} {t : Nat} {v : Value} (h : a.tmps.getD t undef = v) : a.tmps[t]?.getD undef = v := by simpa using h
theorem og_value {P : Program} {o : Oper} {a : Act} {w w1 : World} {v : Value} {K : Act → World → Prop} {Q : Exit → Act → World → Prop}
    (h : (execOp a.eval o).run P w = .ok (.value v) w1) (hk : K (a.put o.dst v) w1) : o.wp P a w K Q := by
  unfold Oper.wp; rw [h]; exact hk
theorem og_skip {P : Program} {o : Oper} {a : Act} {w w1 : World} {K : Act → World → Prop} {Q : Exit → Act → World → Prop}
    (h : (execOp a.eval o).run P w = .ok .skip w1) (hk : K (a.put o.dst undef) w1) : o.wp P a w K Q := by
  unfold Oper.wp; rw [h]; exact hk
/-- Three cells of a block are stored. -/
def set3 (w : World) (d : Nat) (x y z : Int) : World := ((w.setCell ⟨d, 0, none⟩ (vi x)).setCell ⟨d, 1, none⟩ (vi y)).setCell ⟨d, 2, none⟩ (vi z)
theorem set3_row {w : World} {d : Nat} {T : TypeId} {x0 y0 z0 x y z : Int} (h : w.heap[d]? = some (.cells #[vi x0, vi y0, vi z0] T (0, 0))) : (set3 w d x y z).heap[d]? = some (.cells #[vi x, vi y, vi z] T (0, 0)) := by
  have h1 : (w.setCell ⟨d, 0, none⟩ (vi x)).heap[d]? = some (.cells #[vi x, vi y0, vi z0] T (0, 0)) := by rw [heap_setCell_same w d 0 _ _ _ h]; rfl
  have h2 : ((w.setCell ⟨d, 0, none⟩ (vi x)).setCell ⟨d, 1, none⟩ (vi y)).heap[d]? = some (.cells #[vi x, vi y, vi z0] T (0, 0)) := by rw [heap_setCell_same _ d 1 _ _ _ h1]; rfl
  unfold set3
  rw [heap_setCell_same _ d 2 _ _ _ h2]; rfl
theorem set3_other {w : World} {d : Nat} {x y z : Int} (b : Nat) (hb : b ≠ d) : (set3 w d x y z).heap[b]? = w.heap[b]? := by
  unfold set3
  rw [heap_setCell_other _ _ _ _ hb, heap_setCell_other _ _ _ _ hb, heap_setCell_other _ _ _ _ hb]
theorem set3_size {w : World} {d : Nat} {x y z : Int} : (set3 w d x y z).heap.size = w.heap.size := by unfold set3; simp
theorem set3_grown {w : World} {d : Nat} {x y z : Int} : w.grownBy (set3 w d x y z) (some d) := ⟨rfl, rfl, rfl, by rw [set3_size]; exact Nat.le_refl _, fun k _ hk => set3_other k (fun e => hk (by rw [e]))⟩
theorem og_enter {P : Program} {o : Oper} {a : Act} {w w1 : World} {f : FuncId} {args : Array Value} {K : Act → World → Prop} {Q : Exit → Act → World → Prop}
    (h : (execOp a.eval o).run P w = .ok (.enter f args) w1) (hk : Calls P f args w1 fun e w' => ∃ v, e = .returned v ∧ K (a.put o.dst v) w') : o.wp P a w K Q := by
  unfold Oper.wp; rw [h]
  exact hk.mono fun e w' ⟨v, e1, h⟩ => by subst e1; exact h

set_option maxHeartbeats 4000000 in
theorem l20PaperDeed_any (lim g : Nat) (N : Int) (w : World) (h : Rdr w lim g N) (hN : N ≤ 100000000) :
    Calls Try.prog 68 #[.pointer (some ⟨g, 0, none⟩)] w (DrawD w lim g N 8) := by
  have hgs := h.lt
  have HH := Lib.hid h
  clear h
  go_enter Try.func68, Try.ntmps68
  go_wp2
  refine wp_region_og (n := 29) (DeedS w lim g w.heap.size N) (deedA g w.heap.size) (by kernel_rfl) rfl (by kernel_rfl) ?start (og_each ?steps) ?fin
  case start =>
    refine ⟨?_, ?_, ?_⟩
    · exact (HH.out.alloc _).mono (by simp [deedC])
    · exact only_drewN (World.grownBy_alloc w _ (some g)) 1
    · exact ⟨0, 0, 0, heap_alloc_new w _⟩
  case fin =>
    intro l a w1 hb hS _ hA
    have e2 : a.tmps.getD 2 undef = .pointer (some ⟨w.heap.size, 0, none⟩) := (hb.other 2 (og_free (by kernel_rfl))).trans rfl
    have e2 := og_slot e2
    have h26 := hA 26 (by decide)
    have hde : a.defers = [] := hb.defers
    obtain ⟨x, y, z, hr, hx, hy, hz⟩ : ∃ x y z : Int, w1.heap[w.heap.size]? = some (.cells #[vi x, vi y, vi z] 83 (0, 0)) ∧ (0 ≤ x ∧ x ≤ 5) ∧ (-8 ≤ y ∧ y ≤ 6) ∧ (0 ≤ z ∧ z ≤ 5) := h26
    have r0 : w1.cell? ⟨w.heap.size, 0, none⟩ = some (vi x) := by rw [cell_of_row _ _ 0 _ _ _ hr]; rfl
    have r1 : w1.cell? ⟨w.heap.size, 1, none⟩ = some (vi y) := by rw [cell_of_row _ _ 1 _ _ _ hr]; rfl
    have r2 : w1.cell? ⟨w.heap.size, 2, none⟩ = some (vi z) := by rw [cell_of_row _ _ 2 _ _ _ hr]; rfl
    have hle := deedC_le l
    have HR := Lib.hid (hS.rdr.mono (show N + deedC l ≤ N + 8 by omega))
    have HG := Lib.hid hS.grown
    clear hA hS hb hle
    refine (‹∀ (a : Act) (w_1 : World), Code.wp Try.prog Code.ret _ a w_1 → _› a w1 ?_)
    refine wp_ret ?_
    exact bodyPost_ret (v := .agg #[vi x, vi y, vi z]) (by simp [results, Try.results68, go_sem, e2, r0, r1, r2]) hde ⟨x, y, z, rfl, hx, by omega, hz, HR.out, HG.out⟩
  case steps =>
    refine ⟨?_, ?_, ?_, ?_, ?_, ?_, ?_, ?_, ?_, ?_, ?_, ?_, ?_, ?_, ?_, ?_, ?_, ?_, ?_, ?_, ?_, ?_, ?_, ?_, ?_, ?_, ?_, trivial⟩
    · intro l a w1 hl hu hb hS hd _
      have hl27 : l.size = 27 := hl
      clear hl
      have hrow := hS.row
      obtain ⟨x, y, z, hrow⟩ := hrow
      have hds := (Array.getElem?_eq_some_iff.1 hrow).1
      have hgl := hS.rdr.lt
      refine og_value (v := .slice (some ⟨w1.heap.size, 0, none⟩) 7 7) (w1 := w1.alloc (.cells #[vi 0, vi 0, vi 0, vi 1, vi 1, vi 2, vi 2] 3)) ?_ ⟨_, rfl, ⟨by rw [deedC_same rfl]; exact hS.rdr.alloc _, grown_alloc hS.grown _, ⟨x, y, z, (heap_alloc_old _ _ hds).trans hrow⟩⟩, ⟨_, rfl, by omega, hds, heap_alloc_new w1 _⟩, fun j _ u _ _ _ h => deedA_keep (by omega) (fun b hb _ _ => heap_alloc_old _ _ hb) j (fun _ => heap_alloc_old _ _ hds) u h⟩
      clear hd hS
      simp [go_sem]
    · intro l a w1 hl hu hb hS hd _
      have hl27 : l.size = 27 := hl
      clear hl
      have e0 : a.eval (.tmp 0) = .pointer (some ⟨g, 0, none⟩) := (hb.other 0 (og_free (by kernel_rfl))).trans rfl
      exact og_value ((BigFrame.run_move (Operand.tmp 0) rfl _).trans (by rw [e0])) ⟨_, rfl, hS.same rfl, rfl, fun _ _ _ _ _ _ h => h⟩
    · intro l a w1 hl hu hb hS hd _
      have hl27 : l.size = 27 := hl
      clear hl
      have hh0 := hd ⟨1, .data⟩ (by simp) rfl
      have e0 : a.eval (.tmp 4) = .pointer (some ⟨g, 0, none⟩) := hh0
      clear hd
      have e0 := og_slot e0
      obtain ⟨x, y, z, hrow⟩ := hS.row
      have hds := (Array.getElem?_eq_some_iff.1 hrow).1
      have hle := deedC_le l
      refine og_enter (f := 47) (args := #[.pointer (some ⟨g, 0, none⟩), vi 7]) (w1 := w1) (by clear hS; simp [go_sem, e0]) ?_
      refine (pick_any lim g _ 7 w1 hS.rdr (by omega)).mono ?_
      rintro e w2 ⟨x2, rfl, hx, hxb, -, hr, hg⟩
      have hxc := hxb (by omega)
      exact ⟨_, rfl, _, rfl, ⟨by rw [deedC_pick hl27 hu (by decide)]; exact hr.mono (by omega), hS.grown.trans hg, x, y, z, (hg.block _ hds (by intro e; injection e with e; omega)).trans hrow⟩, ⟨x2, rfl, by omega, by omega⟩, fun j _ u _ _ _ h => deedA_keep (by omega) (fun b hb hne _ => hg.block b hb (by intro e; injection e with e; exact hne e)) j (fun _ => hg.block _ hds (by intro e; injection e with e; omega)) u h⟩
    · intro l a w1 hl hu hb hS hd _
      have hl27 : l.size = 27 := hl
      clear hl
      have hh0 := hd ⟨0, .data⟩ (by simp) rfl
      obtain ⟨b, e0, hb7⟩ : ∃ b, a.eval (.tmp 3) = .slice (some ⟨b, 0, none⟩) 7 7 ∧ Sevens g w.heap.size b w1 := hh0
      have hh1 := hd ⟨2, .data⟩ (by simp) rfl
      obtain ⟨z1, e1, hl1, hu1⟩ : IntIn (0) 6 (a.eval (.tmp 5)) := hh1
      clear hd
      have e0 := og_slot e0
      have e1 := og_slot e1
      obtain ⟨q, rfl⟩ : ∃ q : Nat, z1 = q := ⟨z1.toNat, by omega⟩
      have hq7 : q < 7 := by omega
      refine og_value (v := .pointer (some ⟨b, q, none⟩)) (w1 := w1) ?_ ⟨_, rfl, hS.same rfl, ⟨b, q, rfl, hq7, hb7⟩, fun _ _ _ _ _ _ h => h⟩
      clear hS
      simp [go_sem, e0, e1]
      intro hq8
      omega
    · intro l a w1 hl hu hb hS hd _
      have hl27 : l.size = 27 := hl
      clear hl
      have hh0 := hd ⟨3, .data⟩ (by simp) rfl
      obtain ⟨b, q, e0, hq, hb7⟩ : ∃ b q, a.eval (.tmp 6) = .pointer (some ⟨b, q, none⟩) ∧ q < 7 ∧ Sevens g w.heap.size b w1 := hh0
      clear hd
      have e0 := og_slot e0
      obtain ⟨z, hz, hz0, hz2⟩ := hb7.cell hq
      refine og_value (v := vi z) (w1 := w1) ?_ ⟨_, rfl, hS.same rfl, ⟨z, rfl, hz0, hz2⟩, fun _ _ _ _ _ _ h => h⟩
      clear hS
      simp [go_sem, e0, hz]
    · intro l a w1 hl hu hb hS hd _
      have hl27 : l.size = 27 := hl
      clear hl
      have e0 : a.eval (.tmp 0) = .pointer (some ⟨g, 0, none⟩) := (hb.other 0 (og_free (by kernel_rfl))).trans rfl
      exact og_value ((BigFrame.run_move (Operand.tmp 0) rfl _).trans (by rw [e0])) ⟨_, rfl, hS.same rfl, rfl, fun _ _ _ _ _ _ h => h⟩
    · intro l a w1 hl hu hb hS hd _
      have hl27 : l.size = 27 := hl
      clear hl
      have hh0 := hd ⟨5, .data⟩ (by simp) rfl
      have e0 : a.eval (.tmp 8) = .pointer (some ⟨g, 0, none⟩) := hh0
      clear hd
      have e0 := og_slot e0
      obtain ⟨x, y, z, hrow⟩ := hS.row
      have hds := (Array.getElem?_eq_some_iff.1 hrow).1
      have hle := deedC_le l
      refine og_enter (f := 47) (args := #[.pointer (some ⟨g, 0, none⟩), vi 40]) (w1 := w1) (by clear hS; simp [go_sem, e0]) ?_
      refine (pick_any lim g _ 40 w1 hS.rdr (by omega)).mono ?_
      rintro e w2 ⟨x2, rfl, hx, hxb, -, hr, hg⟩
      have hxc := hxb (by omega)
      exact ⟨_, rfl, _, rfl, ⟨by rw [deedC_pick hl27 hu (by decide)]; exact hr.mono (by omega), hS.grown.trans hg, x, y, z, (hg.block _ hds (by intro e; injection e with e; omega)).trans hrow⟩, ⟨x2, rfl, by omega, by omega⟩, fun j _ u _ _ _ h => deedA_keep (by omega) (fun b hb hne _ => hg.block b hb (by intro e; injection e with e; exact hne e)) j (fun _ => hg.block _ hds (by intro e; injection e with e; omega)) u h⟩
    · intro l a w1 hl hu hb hS hd _
      have hl27 : l.size = 27 := hl
      clear hl
      have hh0 := hd ⟨6, .data⟩ (by simp) rfl
      obtain ⟨z0, e0, hl0, hu0⟩ : IntIn (0) 39 (a.eval (.tmp 9)) := hh0
      clear hd
      have e0 := og_slot e0
      have hq := quo39 z0 hl0 hu0
      refine og_value (v := vi (z0.tdiv 39)) (w1 := w1) ?_ ⟨_, rfl, hS.same rfl, ⟨z0.tdiv 39, rfl, by omega, by omega⟩, fun _ _ _ _ _ _ h => h⟩
      have hw : IntKind.i64.wrap (z0.tdiv 39) = z0.tdiv 39 := by rw [IntKind.wrap_i64]; omega
      simp [go_sem, e0, hw]
    · intro l a w1 hl hu hb hS hd _
      have hl27 : l.size = 27 := hl
      clear hl
      have hh0 := hd ⟨7, .data⟩ (by simp) rfl
      obtain ⟨z0, e0, hl0, hu0⟩ : IntIn (0) 1 (a.eval (.tmp 10)) := hh0
      clear hd
      have e0 := og_slot e0
      refine og_value (v := vi (z0 * 3)) (w1 := w1) ?_ ⟨_, rfl, hS.same rfl, ⟨z0 * 3, rfl, by omega, by omega⟩, fun _ _ _ _ _ _ h => h⟩
      have hw : IntKind.i64.wrap (z0 * 3) = z0 * 3 := by rw [IntKind.wrap_i64]; omega
      simp [go_sem, e0, hw]
    · intro l a w1 hl hu hb hS hd _
      have hl27 : l.size = 27 := hl
      clear hl
      have hh0 := hd ⟨4, .data⟩ (by simp) rfl
      obtain ⟨z0, e0, hl0, hu0⟩ : IntIn (0) 2 (a.eval (.tmp 7)) := hh0
      have hh1 := hd ⟨8, .data⟩ (by simp) rfl
      obtain ⟨z1, e1, hl1, hu1⟩ : IntIn (0) 3 (a.eval (.tmp 11)) := hh1
      clear hd
      have e0 := og_slot e0
      have e1 := og_slot e1
      refine og_value (v := vi (z0 + z1)) (w1 := w1) ?_ ⟨_, rfl, hS.same rfl, ⟨z0 + z1, rfl, by omega, by omega⟩, fun _ _ _ _ _ _ h => h⟩
      have hw : IntKind.i64.wrap (z0 + z1) = z0 + z1 := by rw [IntKind.wrap_i64]; omega
      simp [go_sem, e0, e1, hw]
    · intro l a w1 hl hu hb hS hd _
      have hl27 : l.size = 27 := hl
      clear hl
      have e0 : a.eval (.tmp 0) = .pointer (some ⟨g, 0, none⟩) := (hb.other 0 (og_free (by kernel_rfl))).trans rfl
      exact og_value ((BigFrame.run_move (Operand.tmp 0) rfl _).trans (by rw [e0])) ⟨_, rfl, hS.same rfl, rfl, fun _ _ _ _ _ _ h => h⟩
    · intro l a w1 hl hu hb hS hd _
      have hl27 : l.size = 27 := hl
      clear hl
      have hh0 := hd ⟨10, .data⟩ (by simp) rfl
      have e0 : a.eval (.tmp 13) = .pointer (some ⟨g, 0, none⟩) := hh0
      clear hd
      have e0 := og_slot e0
      obtain ⟨x, y, z, hrow⟩ := hS.row
      have hds := (Array.getElem?_eq_some_iff.1 hrow).1
      have hle := deedC_le l
      refine og_enter (f := 47) (args := #[.pointer (some ⟨g, 0, none⟩), vi 6]) (w1 := w1) (by clear hS; simp [go_sem, e0]) ?_
      refine (pick_any lim g _ 6 w1 hS.rdr (by omega)).mono ?_
      rintro e w2 ⟨x2, rfl, hx, hxb, -, hr, hg⟩
      have hxc := hxb (by omega)
      exact ⟨_, rfl, _, rfl, ⟨by rw [deedC_pick hl27 hu (by decide)]; exact hr.mono (by omega), hS.grown.trans hg, x, y, z, (hg.block _ hds (by intro e; injection e with e; omega)).trans hrow⟩, ⟨x2, rfl, by omega, by omega⟩, fun j _ u _ _ _ h => deedA_keep (by omega) (fun b hb hne _ => hg.block b hb (by intro e; injection e with e; exact hne e)) j (fun _ => hg.block _ hds (by intro e; injection e with e; omega)) u h⟩
    · intro l a w1 hl hu hb hS hd _
      have hl27 : l.size = 27 := hl
      clear hl
      have hh0 := hd ⟨11, .data⟩ (by simp) rfl
      obtain ⟨z0, e0, hl0, hu0⟩ : IntIn (0) 5 (a.eval (.tmp 14)) := hh0
      clear hd
      have e0 := og_slot e0
      refine og_value (v := vi (1 + z0)) (w1 := w1) ?_ ⟨_, rfl, hS.same rfl, ⟨1 + z0, rfl, by omega, by omega⟩, fun _ _ _ _ _ _ h => h⟩
      have hw : IntKind.i64.wrap (1 + z0) = 1 + z0 := by rw [IntKind.wrap_i64]; omega
      simp [go_sem, e0, hw]
    · intro l a w1 hl hu hb hS hd _
      have hl27 : l.size = 27 := hl
      clear hl
      have e0 : a.eval (.tmp 0) = .pointer (some ⟨g, 0, none⟩) := (hb.other 0 (og_free (by kernel_rfl))).trans rfl
      exact og_value ((BigFrame.run_move (Operand.tmp 0) rfl _).trans (by rw [e0])) ⟨_, rfl, hS.same rfl, rfl, fun _ _ _ _ _ _ h => h⟩
    · intro l a w1 hl hu hb hS hd _
      have hl27 : l.size = 27 := hl
      clear hl
      have hh0 := hd ⟨13, .data⟩ (by simp) rfl
      have e0 : a.eval (.tmp 16) = .pointer (some ⟨g, 0, none⟩) := hh0
      clear hd
      have e0 := og_slot e0
      obtain ⟨x, y, z, hrow⟩ := hS.row
      have hds := (Array.getElem?_eq_some_iff.1 hrow).1
      have hle := deedC_le l
      refine og_enter (f := 47) (args := #[.pointer (some ⟨g, 0, none⟩), vi 40]) (w1 := w1) (by clear hS; simp [go_sem, e0]) ?_
      refine (pick_any lim g _ 40 w1 hS.rdr (by omega)).mono ?_
      rintro e w2 ⟨x2, rfl, hx, hxb, -, hr, hg⟩
      have hxc := hxb (by omega)
      exact ⟨_, rfl, _, rfl, ⟨by rw [deedC_pick hl27 hu (by decide)]; exact hr.mono (by omega), hS.grown.trans hg, x, y, z, (hg.block _ hds (by intro e; injection e with e; omega)).trans hrow⟩, ⟨x2, rfl, by omega, by omega⟩, fun j _ u _ _ _ h => deedA_keep (by omega) (fun b hb hne _ => hg.block b hb (by intro e; injection e with e; exact hne e)) j (fun _ => hg.block _ hds (by intro e; injection e with e; omega)) u h⟩
    · intro l a w1 hl hu hb hS hd _
      have hl27 : l.size = 27 := hl
      clear hl
      have hh0 := hd ⟨14, .data⟩ (by simp) rfl
      obtain ⟨z0, e0, hl0, hu0⟩ : IntIn (0) 39 (a.eval (.tmp 17)) := hh0
      clear hd
      have e0 := og_slot e0
      have hq := quo39 z0 hl0 hu0
      refine og_value (v := vi (z0.tdiv 39)) (w1 := w1) ?_ ⟨_, rfl, hS.same rfl, ⟨z0.tdiv 39, rfl, by omega, by omega⟩, fun _ _ _ _ _ _ h => h⟩
      have hw : IntKind.i64.wrap (z0.tdiv 39) = z0.tdiv 39 := by rw [IntKind.wrap_i64]; omega
      simp [go_sem, e0, hw]
    · intro l a w1 hl hu hb hS hd _
      have hl27 : l.size = 27 := hl
      clear hl
      have hh0 := hd ⟨15, .data⟩ (by simp) rfl
      obtain ⟨z0, e0, hl0, hu0⟩ : IntIn (0) 1 (a.eval (.tmp 18)) := hh0
      clear hd
      have e0 := og_slot e0
      refine og_value (v := vi (z0 * 9)) (w1 := w1) ?_ ⟨_, rfl, hS.same rfl, ⟨z0 * 9, rfl, by omega, by omega⟩, fun _ _ _ _ _ _ h => h⟩
      have hw : IntKind.i64.wrap (z0 * 9) = z0 * 9 := by rw [IntKind.wrap_i64]; omega
      simp [go_sem, e0, hw]
    · intro l a w1 hl hu hb hS hd _
      have hl27 : l.size = 27 := hl
      clear hl
      have hh0 := hd ⟨12, .data⟩ (by simp) rfl
      obtain ⟨z0, e0, hl0, hu0⟩ : IntIn (1) 6 (a.eval (.tmp 15)) := hh0
      have hh1 := hd ⟨16, .data⟩ (by simp) rfl
      obtain ⟨z1, e1, hl1, hu1⟩ : IntIn (0) 9 (a.eval (.tmp 19)) := hh1
      clear hd
      have e0 := og_slot e0
      have e1 := og_slot e1
      refine og_value (v := vi (z0 - z1)) (w1 := w1) ?_ ⟨_, rfl, hS.same rfl, ⟨z0 - z1, rfl, by omega, by omega⟩, fun _ _ _ _ _ _ h => h⟩
      have hw : IntKind.i64.wrap (z0 - z1) = z0 - z1 := by rw [IntKind.wrap_i64]; omega
      simp [go_sem, e0, e1, hw]
    · intro l a w1 hl hu hb hS hd _
      have hl27 : l.size = 27 := hl
      clear hl
      have e0 : a.eval (.tmp 0) = .pointer (some ⟨g, 0, none⟩) := (hb.other 0 (og_free (by kernel_rfl))).trans rfl
      exact og_value ((BigFrame.run_move (Operand.tmp 0) rfl _).trans (by rw [e0])) ⟨_, rfl, hS.same rfl, rfl, fun _ _ _ _ _ _ h => h⟩
    · intro l a w1 hl hu hb hS hd _
      have hl27 : l.size = 27 := hl
      clear hl
      have hh0 := hd ⟨18, .data⟩ (by simp) rfl
      have e0 : a.eval (.tmp 21) = .pointer (some ⟨g, 0, none⟩) := hh0
      clear hd
      have e0 := og_slot e0
      obtain ⟨x, y, z, hrow⟩ := hS.row
      have hds := (Array.getElem?_eq_some_iff.1 hrow).1
      have hle := deedC_le l
      refine og_enter (f := 47) (args := #[.pointer (some ⟨g, 0, none⟩), vi 3]) (w1 := w1) (by clear hS; simp [go_sem, e0]) ?_
      refine (pick_any lim g _ 3 w1 hS.rdr (by omega)).mono ?_
      rintro e w2 ⟨x2, rfl, hx, hxb, -, hr, hg⟩
      have hxc := hxb (by omega)
      exact ⟨_, rfl, _, rfl, ⟨by rw [deedC_pick hl27 hu (by decide)]; exact hr.mono (by omega), hS.grown.trans hg, x, y, z, (hg.block _ hds (by intro e; injection e with e; omega)).trans hrow⟩, ⟨x2, rfl, by omega, by omega⟩, fun j _ u _ _ _ h => deedA_keep (by omega) (fun b hb hne _ => hg.block b hb (by intro e; injection e with e; exact hne e)) j (fun _ => hg.block _ hds (by intro e; injection e with e; omega)) u h⟩
    · intro l a w1 hl hu hb hS hd _
      have hl27 : l.size = 27 := hl
      clear hl
      have e0 : a.eval (.tmp 0) = .pointer (some ⟨g, 0, none⟩) := (hb.other 0 (og_free (by kernel_rfl))).trans rfl
      exact og_value ((BigFrame.run_move (Operand.tmp 0) rfl _).trans (by rw [e0])) ⟨_, rfl, hS.same rfl, rfl, fun _ _ _ _ _ _ h => h⟩
    · intro l a w1 hl hu hb hS hd _
      have hl27 : l.size = 27 := hl
      clear hl
      have hh0 := hd ⟨20, .data⟩ (by simp) rfl
      have e0 : a.eval (.tmp 23) = .pointer (some ⟨g, 0, none⟩) := hh0
      clear hd
      have e0 := og_slot e0
      obtain ⟨x, y, z, hrow⟩ := hS.row
      have hds := (Array.getElem?_eq_some_iff.1 hrow).1
      have hle := deedC_le l
      refine og_enter (f := 47) (args := #[.pointer (some ⟨g, 0, none⟩), vi 40]) (w1 := w1) (by clear hS; simp [go_sem, e0]) ?_
      refine (pick_any lim g _ 40 w1 hS.rdr (by omega)).mono ?_
      rintro e w2 ⟨x2, rfl, hx, hxb, -, hr, hg⟩
      have hxc := hxb (by omega)
      exact ⟨_, rfl, _, rfl, ⟨by rw [deedC_pick hl27 hu (by decide)]; exact hr.mono (by omega), hS.grown.trans hg, x, y, z, (hg.block _ hds (by intro e; injection e with e; omega)).trans hrow⟩, ⟨x2, rfl, by omega, by omega⟩, fun j _ u _ _ _ h => deedA_keep (by omega) (fun b hb hne _ => hg.block b hb (by intro e; injection e with e; exact hne e)) j (fun _ => hg.block _ hds (by intro e; injection e with e; omega)) u h⟩
    · intro l a w1 hl hu hb hS hd _
      have hl27 : l.size = 27 := hl
      clear hl
      have hh0 := hd ⟨21, .data⟩ (by simp) rfl
      obtain ⟨z0, e0, hl0, hu0⟩ : IntIn (0) 39 (a.eval (.tmp 24)) := hh0
      clear hd
      have e0 := og_slot e0
      have hq := quo39 z0 hl0 hu0
      refine og_value (v := vi (z0.tdiv 39)) (w1 := w1) ?_ ⟨_, rfl, hS.same rfl, ⟨z0.tdiv 39, rfl, by omega, by omega⟩, fun _ _ _ _ _ _ h => h⟩
      have hw : IntKind.i64.wrap (z0.tdiv 39) = z0.tdiv 39 := by rw [IntKind.wrap_i64]; omega
      simp [go_sem, e0, hw]
    · intro l a w1 hl hu hb hS hd _
      have hl27 : l.size = 27 := hl
      clear hl
      have hh0 := hd ⟨22, .data⟩ (by simp) rfl
      obtain ⟨z0, e0, hl0, hu0⟩ : IntIn (0) 1 (a.eval (.tmp 25)) := hh0
      clear hd
      have e0 := og_slot e0
      refine og_value (v := vi (z0 * 3)) (w1 := w1) ?_ ⟨_, rfl, hS.same rfl, ⟨z0 * 3, rfl, by omega, by omega⟩, fun _ _ _ _ _ _ h => h⟩
      have hw : IntKind.i64.wrap (z0 * 3) = z0 * 3 := by rw [IntKind.wrap_i64]; omega
      simp [go_sem, e0, hw]
    · intro l a w1 hl hu hb hS hd _
      have hl27 : l.size = 27 := hl
      clear hl
      have hh0 := hd ⟨19, .data⟩ (by simp) rfl
      obtain ⟨z0, e0, hl0, hu0⟩ : IntIn (0) 2 (a.eval (.tmp 22)) := hh0
      have hh1 := hd ⟨23, .data⟩ (by simp) rfl
      obtain ⟨z1, e1, hl1, hu1⟩ : IntIn (0) 3 (a.eval (.tmp 26)) := hh1
      clear hd
      have e0 := og_slot e0
      have e1 := og_slot e1
      refine og_value (v := vi (z0 + z1)) (w1 := w1) ?_ ⟨_, rfl, hS.same rfl, ⟨z0 + z1, rfl, by omega, by omega⟩, fun _ _ _ _ _ _ h => h⟩
      have hw : IntKind.i64.wrap (z0 + z1) = z0 + z1 := by rw [IntKind.wrap_i64]; omega
      simp [go_sem, e0, e1, hw]
    · intro l a w1 hl hu hb hS hd _
      have hl27 : l.size = 27 := hl
      clear hl
      have hh0 := hd ⟨9, .data⟩ (by simp) rfl
      obtain ⟨z0, e0, hl0, hu0⟩ : IntIn (0) 5 (a.eval (.tmp 12)) := hh0
      have hh1 := hd ⟨17, .data⟩ (by simp) rfl
      obtain ⟨z1, e1, hl1, hu1⟩ : IntIn (-8) 6 (a.eval (.tmp 20)) := hh1
      have hh2 := hd ⟨24, .data⟩ (by simp) rfl
      obtain ⟨z2, e2, hl2, hu2⟩ : IntIn (0) 5 (a.eval (.tmp 27)) := hh2
      clear hd
      have e0 := og_slot e0
      have e1 := og_slot e1
      have e2 := og_slot e2
      refine og_value (v := .agg #[vi z0, vi z1, vi z2]) (w1 := w1) ?_ ⟨_, rfl, hS.same rfl, ⟨z0, z1, z2, rfl, by omega, by omega, by omega⟩, fun _ _ _ _ _ _ h => h⟩
      clear hS
      simp [go_sem, e0, e1, e2]
    · intro l a w1 hl hu hb hS hd _
      have hl27 : l.size = 27 := hl
      clear hl
      have hh0 := hd ⟨25, .data⟩ (by simp) rfl
      obtain ⟨x, y, z, e0, hx, hy, hz⟩ : ∃ x y z : Int, a.eval (.tmp 28) = .agg #[vi x, vi y, vi z] ∧ (0 ≤ x ∧ x ≤ 5) ∧ (-8 ≤ y ∧ y ≤ 6) ∧ (0 ≤ z ∧ z ≤ 5) := hh0
      clear hd
      have e0 := og_slot e0
      have e2 : a.tmps.getD 2 undef = .pointer (some ⟨w.heap.size, 0, none⟩) := (hb.other 2 (og_free (by kernel_rfl))).trans rfl
      have e2 := og_slot e2
      obtain ⟨x0, y0, z0, hrow⟩ := hS.row
      have f0 : w1.frozen? ⟨w.heap.size, 0, none⟩ = false := frozen_of_row w1 _ 0 _ _ hrow
      have f1 : w1.frozen? ⟨w.heap.size, 1, none⟩ = false := frozen_of_row w1 _ 1 _ _ hrow
      have f2 : w1.frozen? ⟨w.heap.size, 2, none⟩ = false := frozen_of_row w1 _ 2 _ _ hrow
      have hg3 := set3_grown (w := w1) (d := w.heap.size) (x := x) (y := y) (z := z)
      have hr3 := set3_row (x := x) (y := y) (z := z) hrow
      have hds := (Array.getElem?_eq_some_iff.1 hrow).1
      refine og_skip (w1 := set3 w1 w.heap.size x y z) ?_ ⟨_, rfl, ⟨by rw [deedC_same rfl]; exact hS.rdr.far hg3 (fun k e => by injection e with e; omega), ⟨hS.grown.os, hS.grown.tape, hS.grown.output, Nat.le_trans hS.grown.size hg3.size, fun k hk hne => (set3_other k (by omega)).trans (hS.grown.block k hk hne)⟩, ⟨x, y, z, hr3⟩⟩, ⟨x, y, z, hr3, hx, hy, hz⟩, fun j _ u _ hj _ h => deedA_keep (by omega) (fun b _ _ hne => set3_other b hne) j (fun e => absurd e hj) u h⟩
      clear hS hb hg3 hr3
      have c0 : w1.cell? ⟨w.heap.size, 0, none⟩ = some (vi x0) := by rw [cell_of_row _ _ 0 _ _ _ hrow]; rfl
      have c1 : w1.cell? ⟨w.heap.size, 1, none⟩ = some (vi y0) := by rw [cell_of_row _ _ 1 _ _ _ hrow]; rfl
      have c2 : w1.cell? ⟨w.heap.size, 2, none⟩ = some (vi z0) := by rw [cell_of_row _ _ 2 _ _ _ hrow]; rfl
      simp [go_sem, e0, e2, f0, f1, f2, c0, c1, c2]
      rfl
end Go.Proofs.Ytjhbmikohcbkkaa
