/-
  A loop over all orders of a list: what its body, walked once, must keep, and what holds behind it.
-/
import Derived.Test.YtpabfbaoibmnlaaPermC
namespace Go.Proofs.Ytpabfbaoibmnlaa
open Go.RowKit Go.Shelf
set_option linter.unusedVariables false
set_option maxRecDepth 100000

/-- How a round's body may be left: it goes on, and keeps the loop's record, the list and the iterator's blocks. -/
def RoundKeeps (lo D : Nat) (I : List (List Int) → World → Prop) (xs : List (List Int)) (W : World) : Exit → Act → World → Prop
  | .normal, _, W' => KeepsOthers W W' ∧ Kp lo D (D + 2) W W' ∧ I xs W'
  | _, _, _ => False

theorem Kp.trans {lo D s : Nat} {A B C : World} (h : Kp lo D s A B) (k : Kp lo D s B C) : Kp lo D s A C := ⟨Nat.le_trans h.1 k.1, fun i hi => (k.2 i hi).trans (h.2 i hi)⟩
theorem Kp.put {lo D : Nat} (A : World) (o : Obj) : Kp lo D (D + 2) A (A.putObj (D + 1) o) := ⟨by simp, fun k hk => World.putObj_heap_other (by omega)⟩

set_option maxHeartbeats 1000000 in
theorem range_orders {g : Operand} {p1 : Tmp} {assign body : Code} {Q : Exit → Act → World → Prop} {a : Act} {w : World} {n : Nat} (lbk lc lo : Nat) (LA : Option Addr) (Lst : List Int)
    (hg : a.eval g = .func (.func 74) #[] #[.pointer (some ⟨lbk, 0, none⟩)]) (hm : Lst.length ≤ 100) (hl : lo ≤ lbk ∧ lbk < w.heap.size) (hA : ∀ b o, LA = some ⟨b, o, none⟩ → lo ≤ b ∧ b < w.heap.size)
    (hlb : w.heap[lbk]? = some (.cells #[.slice LA Lst.length lc] 30 (0, 0))) (hls : RdI w LA Lst)
    (I : List (List Int) → World → Prop)
    (hI : ∀ pre A B row, I pre A → A.grownBy B row → (∀ r, row = some r → w.heap.size ≤ r ∧ r < w.heap.size + 6) → I pre B) (h0 : I [] w) (a₁ : Act)
    (hassign : ∀ (m l : Nat) (W : World) (K : Act → World → Prop), K a₁ W →
      assign.wpIn (Fence.wide.inRound l) m Try.prog (Exit.then K (fun _ _ _ => False)) { tmps := (#[p1].zip #[Value.slice (some ⟨w.heap.size + 2 + 1, 0, none⟩) Lst.length Lst.length]).foldl (fun t (q, v) => t.setIfInBounds q v) a.tmps, defers := [] } W)
    (hbody : ∀ (m l : Nat) (pre : List (List Int)) (x : List Int) (W : World), I pre W → St W (w.heap.size + 2) l lbk LA lc Lst x → x.length = Lst.length →
      body.wpIn (Fence.wide.inRound l) m Try.prog (RoundKeeps lo w.heap.size I (pre ++ [x]) W) a₁ W)
    (hdone : ∀ W : World, I (exts Lst Lst.length []) W → W.heap[w.heap.size]? = some (.deferred (some [])) → Q .normal { a with defers := { target := .collected w.heap.size, args := #[] } :: a.defers } W) :
    (Code.rangeFunc g #[p1] assign body).wpIn Fence.wide n Try.prog Q a w := by
  refine wpIn_rangeFunc fun fn hfn => ?_
  -- the record, as the loop's rounds leave it
  let rec' : LoopState → Loop := fun st => { state := st, pending := none, fn := fn, tmps := a.tmps, params := #[p1], assign := assign, body := body, defers := w.heap.size }
  obtain ⟨W1, hW1⟩ : ∃ W1, W1 = (w.alloc (.deferred (some []))).alloc (.loop (rec' .ready)) := ⟨_, rfl⟩
  have hs1 : W1.heap.size = w.heap.size + 2 := by rw [hW1]; simp
  have bel : Below w.heap.size w W1 := by rw [hW1]; exact ((Below.refl _ _).alloc (Nat.le_refl _) _).alloc (by simp) _
  have rec1 : W1.heap[w.heap.size + 1]? = some (.loop (rec' .ready)) := by
    have := heap_alloc_new (w.alloc (.deferred (some []))) (.loop (rec' .ready))
    rw [World.size_alloc] at this; rw [hW1]; exact this
  have def1 : W1.heap[w.heap.size]? = some (.deferred (some [])) := by
    rw [hW1, Below.heap_alloc _ _ _ (by simp)]; exact heap_alloc_new w _
  have keepI : ∀ pre A o, I pre A → I pre (A.putObj (w.heap.size + 1) o) := fun pre A o hi =>
    hI pre A _ (some (w.heap.size + 1)) hi (grownBy_putObj' A _ o) (fun r e => by injection e with e; omega)
  have start : I [] W1 := by
    rw [hW1]
    exact hI _ _ _ none (hI _ _ _ none h0 (World.grownBy_alloc _ _ _) (fun r e => by cases e)) (World.grownBy_alloc _ _ _) (fun r e => by cases e)
  refine ⟨w.heap.size + 1, [{ target := .collected w.heap.size, args := #[] }], W1, { target := .fn (.func 74) #[.pointer (some ⟨lbk, 0, none⟩)], args := #[.func (.yield (w.heap.size + 1)) #[] #[]] }, W1, 74,
    #[.func (.yield (w.heap.size + 1)) #[] #[], .pointer (some ⟨lbk, 0, none⟩)], W1, ?_, ?_, fun _ _ => trivial, ?_, fun h => by simp [Fence.wide] at h, ?_⟩
  · rw [hW1]; exact run_enterLoop_outer fn a.tmps #[p1] assign body
  · simp only [resolve, hg]; simp [go_sem]
  · have eg := enters_of (P := Try.prog) Try.func74 (by kernel_rfl) rfl
    simp [invoke, go_sem, eg _ _]
  · have hP := perms_in (w.heap.size + 1) lbk lc lo w.heap.size (n - 1) LA Lst W1 hm hl (by omega) hA
      (fun pre W => I pre W ∧ W.heap[w.heap.size + 1]? = some (.loop (rec' .ready)) ∧ W.heap[w.heap.size]? = some (.deferred (some [])))
      ((bel.block _ hl.2).trans hlb) (hls.below bel)
      (fun pre A B row ⟨hi, hr, hd⟩ hgr hrow => by
        have hrr : ∀ k, k < w.heap.size + 2 → k < A.heap.size → B.heap[k]? = A.heap[k]? := fun k hk hk2 => hgr.block k hk2 (fun e => by have := hrow k e.symm; omega)
        refine ⟨hI pre A B row hi hgr (fun r e => by have := hrow r e; omega), (hrr _ (by omega) (Array.getElem?_eq_some_iff.1 hr).1).trans hr, (hrr _ (by omega) (Array.getElem?_eq_some_iff.1 hd).1).trans hd⟩)
      ⟨start, rec1, def1⟩
      (fun m pre x W ⟨hi, hr, hd⟩ hst hx => by
        have hlt := (Array.getElem?_eq_some_iff.1 hr).1
        rw [hs1] at hst
        have hy := run_yield (P := Try.prog) (args := #[Value.slice (some ⟨W1.heap.size + 1, 0, none⟩) Lst.length Lst.length]) hr rfl
        refine ⟨_, _, _, _, hy, roundIn_of_wpIn trivial ?_⟩
        rw [hs1]
        refine hassign m (w.heap.size + 1) W _ ⟨_, run_beginRound hr rfl, ?_⟩
        have busy : (W.putObj (w.heap.size + 1) (.loop { rec' .ready with state := .busy })).heap[w.heap.size + 1]? = some (.loop { rec' .ready with state := .busy }) := World.putObj_heap_same hlt
        have dfr : (W.putObj (w.heap.size + 1) (.loop { rec' .ready with state := .busy })).heap[w.heap.size]? = some (.deferred (some [])) := (World.putObj_heap_other (by omega)).trans hd
        have kp1 : Kp lo w.heap.size (w.heap.size + 2) W (W.putObj (w.heap.size + 1) (.loop { rec' .ready with state := .busy })) := Kp.put W _
        refine wpIn_mono (hbody m (w.heap.size + 1) pre x _ (keepI _ _ _ hi) (hst.kept kp1 hl hA) hx) ?_
        intro e a3 W3 hpost
        cases e with
        | normal =>
          obtain ⟨ko, kp3, hi3⟩ := hpost
          have busy3 := ko.same _ _ busy rfl
          refine ⟨_, _, run_endRound none busy3, rfl, ⟨keepI _ _ _ hi3, World.putObj_heap_same (Array.getElem?_eq_some_iff.1 busy3).1, (World.putObj_heap_other (by omega)).trans (ko.same _ _ dfr rfl)⟩, ?_⟩
          exact (kp1.trans kp3).trans (Kp.put W3 _)
        | ret => exact hpost.elim
        | exit id => exact hpost.elim
        | goto t => exact hpost.elim
        | panic c => exact hpost.elim
        | outgrown => exact hpost.elim)
    refine hP.mono ?_
    rintro e W2 ⟨⟨v, rfl⟩, hi2, hr2, hd2⟩
    exact ⟨none, _, run_endLoop hr2 (by simp [rec']), hdone _ (keepI _ _ _ hi2) ((World.putObj_heap_other (by omega)).trans hd2)⟩
end Go.Proofs.Ytpabfbaoibmnlaa
