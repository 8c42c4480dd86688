/-
  Contracts: boxes are drawn.
-/
import Derived.Test.YtjhbmikohcbkkaaReader
import Derived.Test.YtjhbmikohcbkkaaAlive
import Derived.Test.YtjhbmikohcbkkaaBoxA
import Derived.Deep.DeepCutAuto
namespace Go.Proofs.Ytjhbmikohcbkkaa
open Go.RowKit
set_option linter.unusedVariables false
set_option maxRecDepth 100000

theorem results_tmp3 {fn : Func} {t u v : Tmp} (h : fn.results = #[.tmp t, .tmp u, .tmp v]) (tmps : Array Value) (P : Program) (w : World) :
    (results fn tmps).run P w = .ok (.tuple #[tmps.getD t undef, tmps.getD u undef, tmps.getD v undef]) w := by
  simp [results, h]

/-- A box is drawn. -/
def DrawBx (w : World) (lim g : Nat) (N M : Int) (e : Ending) (w' : World) : Prop :=
  ∃ b : Bx, e = .returned (.agg #[vi b.id, vi b.wt, vi b.cls, vi b.port, .bool b.cold]) ∧ Rdr w' lim g (N + M) ∧ w.grownBy w' (some g)

theorem Own.cell5h {w : World} {base n c g : Nat} {E : TypeId} {b : Bx} (h : Own encB E w base (some ⟨g, 0, none⟩) n c [b]) :
    w.cell? ⟨g, 0, none⟩ = some (vi b.id) ∧ w.cell? ⟨g, 1, none⟩ = some (vi b.wt) ∧ w.cell? ⟨g, 2, none⟩ = some (vi b.cls) ∧ w.cell? ⟨g, 3, none⟩ = some (vi b.port) ∧ w.cell? ⟨g, 4, none⟩ = some (.bool b.cold) := by
  have hn := h.len
  simp at hn
  have := h.cell5 0 (by omega)
  simpa [nth, List.getD] using this
theorem Own.put1 {w : World} {base c g : Nat} {E : TypeId} {b : Bx} (h : Own encB E w base (some ⟨g, 0, none⟩) 1 c [b]) (j : Nat) (hj : j < 5) (x : Bx) (u : Value) (hx : encB.f x = (encB.f b).set j u) :
    Own encB E (w.setCell ⟨g, j, none⟩ u) base (some ⟨g, 0, none⟩) 1 c [x] ∧ w.grownBy (w.setCell ⟨g, j, none⟩ u) (some g) := by
  have := h.putB 0 j (by omega) hj x u (by simpa [nth, List.getD] using hx)
  simpa using this

theorem Own.put51 {w : World} {base c g : Nat} {E : TypeId} {b : Bx} (h : Own encB E w base (some ⟨g, 0, none⟩) 1 c [b]) (p : Bx) :
    Own encB E (((((w.setCell ⟨g, 0, none⟩ (vi p.id)).setCell ⟨g, 1, none⟩ (vi p.wt)).setCell ⟨g, 2, none⟩ (vi p.cls)).setCell ⟨g, 3, none⟩ (vi p.port)).setCell ⟨g, 4, none⟩ (.bool p.cold)) base (some ⟨g, 0, none⟩) 1 c [p] := by
  have := h.put5 0 (by omega) p
  simpa using this

set_option maxHeartbeats 1000000 in
theorem l20Box_any (lim g : Nat) (N id n : Int) (w : World) (h : Rdr w lim g N) (hN : N ≤ 100000000) (hn : n ≤ 1000000000) :
    Calls Try.prog 59 #[.pointer (some ⟨g, 0, none⟩), vi id, vi n] w (DrawBx w lim g N 8) := by
  have hgs := h.lt
  have HH := Lib.hid h
  have HG0 : Hid (w.grownBy w (some g)) := Lib.hid (World.grownBy.refl _ _)
  have HZ : Hid (Own encB 57 (w.alloc (.cells #[vi 0, vi 0, vi 0, vi 0, .bool false] 57)) w.heap.size (some ⟨w.heap.size, 0, none⟩) 1 1 [default]) := Lib.hid (Own.lit w _ [default] rfl (by simp [maxLen]))
  clear h
  go_enter Try.func59, Try.ntmps59
  go_wp2_with fail
  refine (pick_any lim g N 30 _ (HH.out.alloc _) (by omega)).mono ?_
  rintro e w1 ⟨x1, rfl, hx1, hx1b, -, hr1, hg1⟩
  have hx1c := hx1b (by omega)
  have HR1 := Lib.hid hr1
  have hs1 := hg1.size
  simp only [World.size_alloc] at hs1
  have HG1 := Lib.hid ((grown_alloc HG0.out _).trans hg1)
  have HZ := Lib.hid (HZ.out.farG hg1 (by omega))
  clear hr1 hg1 hx1b
  go_wp2_with fail
  refine (pick_any lim g _ 7 _ HR1.out (by omega)).mono ?_
  rintro e w2 ⟨x2, rfl, hx2, hx2b, -, hr2, hg2⟩
  have hx2c := hx2b (by omega)
  have HR2 := Lib.hid hr2
  have hs2 := hg2.size
  skip
  have HG2 := Lib.hid (HG1.out.trans hg2)
  have HZ := Lib.hid (HZ.out.farG hg2 (by omega))
  clear hr2 hg2 hx2b
  go_wp2_with fail
  refine (pick_any lim g _ 4 _ HR2.out (by omega)).mono ?_
  rintro e w3 ⟨x3, rfl, hx3, hx3b, -, hr3, hg3⟩
  have hx3c := hx3b (by omega)
  have HR3 := Lib.hid hr3
  have hs3 := hg3.size
  skip
  have HG3 := Lib.hid (HG2.out.trans hg3)
  have HZ := Lib.hid (HZ.out.farG hg3 (by omega))
  clear hr3 hg3 hx3b
  have HB := Lib.hid ((Own.lit (E := 57) (e := encB) w3 #[vi id, vi (1 + x1), vi 0, vi x2, .bool (x3 == 0)] [⟨id, 1 + x1, 0, x2, x3 == 0⟩] rfl (by simp [maxLen])).mono (show w.heap.size ≤ w3.heap.size by omega))
  go_wp2_with fail
  refine (pick_any lim g _ 3 _ (HR3.out.alloc _) (by omega)).mono ?_
  rintro e w4 ⟨x4, rfl, hx4, hx4b, -, hr4, hg4⟩
  have hx4c := hx4b (by omega)
  have HR4 := Lib.hid hr4
  have hs4 := hg4.size
  simp only [World.size_alloc] at hs4
  have HG4 := Lib.hid ((grown_alloc HG3.out _).trans hg4)
  have HZ := Lib.hid ((HZ.out.alloc _).farG hg4 (by omega))
  have HB := Lib.hid (HB.out.farG hg4 (by omega))
  clear hr4 hg4 hx4b
  have hzb : w.heap.size < w3.heap.size := by omega
  by_cases h4 : x4 = 0
  · subst h4
    go_wp2_with fail
    refine (pick_any lim g _ 4 _ HR4.out (by omega)).mono ?_
    rintro e w5 ⟨x5, rfl, hx5, hx5b, -, hr5, hg5⟩
    have hx5c := hx5b (by omega)
    have HR5 := Lib.hid hr5
    have hs5 := hg5.size
    skip
    have HG5 := Lib.hid (HG4.out.trans hg5)
    have HZ := Lib.hid (HZ.out.farG hg5 (by omega))
    have HB := Lib.hid (HB.out.farG hg5 (by omega))
    clear hr5 hg5 hx5b
    have HP := Lib.hid (HB.out.put1 2 (by omega) (⟨id, 1 + x1, x5, x2, x3 == 0⟩ : Bx) (vi x5) rfl)
    have hfB := HB.out.frozen 2
    obtain ⟨-, -, hbc, -, -⟩ := HB.out.cell5h
    have HB := Lib.hid HP.out.1
    have HR0 := Lib.hid (HR5.out.far HP.out.2 (fun q hq => by injection hq with hq; omega))
    have HG0 := Lib.hid (grown_past HG5.out HP.out.2 (fun q hq => by injection hq with hq; omega))
    have HZ := Lib.hid (HZ.out.far HP.out.2 (fun q e1 e2 => by injection e1 with e1; injection e1 with e1; injection e2 with e2; omega))
    clear HP
    have hsz : (w5.setCell ⟨w3.heap.size, 2, none⟩ (vi x5)).heap.size = w5.heap.size := by simp
    go_wp2_with fail
    refine (odd_any lim g _ n _ HR0.out (by omega) hn).mono ?_
    rintro e w6 ⟨o, rfl, hr6, hg6⟩
    have HR6 := Lib.hid hr6
    have hs6 := hg6.size
    skip
    have HG6 := Lib.hid (HG0.out.trans hg6)
    have HZ := Lib.hid (HZ.out.farG hg6 (by omega))
    have HB := Lib.hid (HB.out.farG hg6 (by omega))
    clear hr6 hg6
    cases o with
    | false =>
      obtain ⟨hb0, hb1, hb2, hb3, hb4⟩ := HB.out.cell5h
      obtain ⟨hz0, hz1, hz2, hz3, hz4⟩ := HZ.out.cell5h
      have hf0 := HZ.out.frozen 0
      have hf1 := HZ.out.frozen 1
      have hf2 := HZ.out.frozen 2
      have hf3 := HZ.out.frozen 3
      have hf4 := HZ.out.frozen 4
      obtain ⟨r0, r1, r2, r3, r4⟩ := (HZ.out.put51 (⟨id, 1 + x1, x5, x2, x3 == 0⟩ : Bx)).cell5h
      dsimp only at r0 r1 r2 r3 r4
      go_wp2
      refine bodyPost_ret (v := .agg #[vi (⟨id, 1 + x1, x5, x2, x3 == 0⟩ : Bx).id, vi (⟨id, 1 + x1, x5, x2, x3 == 0⟩ : Bx).wt, vi (⟨id, 1 + x1, x5, x2, x3 == 0⟩ : Bx).cls, vi (⟨id, 1 + x1, x5, x2, x3 == 0⟩ : Bx).port, .bool (⟨id, 1 + x1, x5, x2, x3 == 0⟩ : Bx).cold]) (by simp [results, Try.results59, go_sem, r0, r1, r2, r3, r4]) rfl ⟨(⟨id, 1 + x1, x5, x2, x3 == 0⟩ : Bx), rfl, (HR6.out.far (grown5 _ _ _ _ _ _ _ _ _ _ _ _) (fun q hq => by injection hq with hq; omega)).mono (by omega), grown_past HG6.out (grown5 _ _ _ _ _ _ _ _ _ _ _ _) (fun q hq => by injection hq with hq; omega)⟩
    | true =>
      go_wp2_with fail
      refine (pick_any lim g _ 4 _ HR6.out (by omega)).mono ?_
      rintro e w7 ⟨y, rfl, hy, hyb, -, hr7, hg7⟩
      have hyc := hyb (by omega)
      have HR7 := Lib.hid hr7
      have hs7 := hg7.size
      skip
      have HG7 := Lib.hid (HG6.out.trans hg7)
      have HZ := Lib.hid (HZ.out.farG hg7 (by omega))
      have HB := Lib.hid (HB.out.farG hg7 (by omega))
      clear hr7 hg7 hyb
      have hy4 : y = 0 ∨ y = 1 ∨ y = 2 ∨ y = 3 := by omega
      clear hy hyc
      rcases hy4 with rfl | rfl | rfl | rfl
      · skip
        go_wp2_with fail
        refine (pick_any lim g _ 2 _ (HR7.out.alloc _) (by omega)).mono ?_
        rintro e w8 ⟨v, rfl, hv, hvb, -, hr8, hg8⟩
        have hvc := hvb (by omega)
        have HR8 := Lib.hid hr8
        have hs8 := hg8.size
        simp only [World.size_alloc] at hs8
        have HG8 := Lib.hid ((grown_alloc HG7.out _).trans hg8)
        have HZ := Lib.hid ((HZ.out.alloc _).farG hg8 (by omega))
        have HB := Lib.hid ((HB.out.alloc _).farG hg8 (by omega))
        have hbl : w8.heap[w7.heap.size]? = some (.cells #[vi 0, vi 1000] 3 (0, 0)) := (hg8.block _ (by simp) (by intro e; injection e with e; omega)).trans (heap_alloc_new w7 _)
        have hc0 : w8.cell? ⟨w7.heap.size, 0, none⟩ = some (vi (0)) := by rw [cell_of_row _ _ 0 _ _ _ hbl]; rfl
        have hc1 : w8.cell? ⟨w7.heap.size, 1, none⟩ = some (vi 1000) := by rw [cell_of_row _ _ 1 _ _ _ hbl]; rfl
        clear hr8 hg8 hbl hvb
        have hvc2 : v = 0 ∨ v = 1 := by omega
        clear hv hvc
        rcases hvc2 with rfl | rfl
        · skip
          have HP := Lib.hid (HB.out.put1 0 (by omega) (⟨0, (⟨id, 1 + x1, x5, x2, x3 == 0⟩ : Bx).wt, (⟨id, 1 + x1, x5, x2, x3 == 0⟩ : Bx).cls, (⟨id, 1 + x1, x5, x2, x3 == 0⟩ : Bx).port, (⟨id, 1 + x1, x5, x2, x3 == 0⟩ : Bx).cold⟩ : Bx) (vi 0) rfl)
          have hfB := HB.out.frozen 0
          obtain ⟨hb0, hb1, hb2, hb3, hb4⟩ := HB.out.cell5h
          have HB := Lib.hid HP.out.1
          have HR0 := Lib.hid (HR8.out.far HP.out.2 (fun q hq => by injection hq with hq; omega))
          have HG0 := Lib.hid (grown_past HG8.out HP.out.2 (fun q hq => by injection hq with hq; omega))
          have HZ := Lib.hid (HZ.out.far HP.out.2 (fun q e1 e2 => by injection e1 with e1; injection e1 with e1; injection e2 with e2; omega))
          clear HP
          obtain ⟨hb0, hb1, hb2, hb3, hb4⟩ := HB.out.cell5h
          obtain ⟨hz0, hz1, hz2, hz3, hz4⟩ := HZ.out.cell5h
          have hf0 := HZ.out.frozen 0
          have hf1 := HZ.out.frozen 1
          have hf2 := HZ.out.frozen 2
          have hf3 := HZ.out.frozen 3
          have hf4 := HZ.out.frozen 4
          obtain ⟨r0, r1, r2, r3, r4⟩ := (HZ.out.put51 (⟨0, (⟨id, 1 + x1, x5, x2, x3 == 0⟩ : Bx).wt, (⟨id, 1 + x1, x5, x2, x3 == 0⟩ : Bx).cls, (⟨id, 1 + x1, x5, x2, x3 == 0⟩ : Bx).port, (⟨id, 1 + x1, x5, x2, x3 == 0⟩ : Bx).cold⟩ : Bx)).cell5h
          dsimp only at r0 r1 r2 r3 r4
          go_wp2
          refine bodyPost_ret (v := .agg #[vi (⟨0, (⟨id, 1 + x1, x5, x2, x3 == 0⟩ : Bx).wt, (⟨id, 1 + x1, x5, x2, x3 == 0⟩ : Bx).cls, (⟨id, 1 + x1, x5, x2, x3 == 0⟩ : Bx).port, (⟨id, 1 + x1, x5, x2, x3 == 0⟩ : Bx).cold⟩ : Bx).id, vi (⟨0, (⟨id, 1 + x1, x5, x2, x3 == 0⟩ : Bx).wt, (⟨id, 1 + x1, x5, x2, x3 == 0⟩ : Bx).cls, (⟨id, 1 + x1, x5, x2, x3 == 0⟩ : Bx).port, (⟨id, 1 + x1, x5, x2, x3 == 0⟩ : Bx).cold⟩ : Bx).wt, vi (⟨0, (⟨id, 1 + x1, x5, x2, x3 == 0⟩ : Bx).wt, (⟨id, 1 + x1, x5, x2, x3 == 0⟩ : Bx).cls, (⟨id, 1 + x1, x5, x2, x3 == 0⟩ : Bx).port, (⟨id, 1 + x1, x5, x2, x3 == 0⟩ : Bx).cold⟩ : Bx).cls, vi (⟨0, (⟨id, 1 + x1, x5, x2, x3 == 0⟩ : Bx).wt, (⟨id, 1 + x1, x5, x2, x3 == 0⟩ : Bx).cls, (⟨id, 1 + x1, x5, x2, x3 == 0⟩ : Bx).port, (⟨id, 1 + x1, x5, x2, x3 == 0⟩ : Bx).cold⟩ : Bx).port, .bool (⟨0, (⟨id, 1 + x1, x5, x2, x3 == 0⟩ : Bx).wt, (⟨id, 1 + x1, x5, x2, x3 == 0⟩ : Bx).cls, (⟨id, 1 + x1, x5, x2, x3 == 0⟩ : Bx).port, (⟨id, 1 + x1, x5, x2, x3 == 0⟩ : Bx).cold⟩ : Bx).cold]) (by simp [results, Try.results59, go_sem, r0, r1, r2, r3, r4]) rfl ⟨(⟨0, (⟨id, 1 + x1, x5, x2, x3 == 0⟩ : Bx).wt, (⟨id, 1 + x1, x5, x2, x3 == 0⟩ : Bx).cls, (⟨id, 1 + x1, x5, x2, x3 == 0⟩ : Bx).port, (⟨id, 1 + x1, x5, x2, x3 == 0⟩ : Bx).cold⟩ : Bx), rfl, (HR0.out.far (grown5 _ _ _ _ _ _ _ _ _ _ _ _) (fun q hq => by injection hq with hq; omega)).mono (by omega), grown_past HG0.out (grown5 _ _ _ _ _ _ _ _ _ _ _ _) (fun q hq => by injection hq with hq; omega)⟩
        · skip
          have HP := Lib.hid (HB.out.put1 0 (by omega) (⟨1000, (⟨id, 1 + x1, x5, x2, x3 == 0⟩ : Bx).wt, (⟨id, 1 + x1, x5, x2, x3 == 0⟩ : Bx).cls, (⟨id, 1 + x1, x5, x2, x3 == 0⟩ : Bx).port, (⟨id, 1 + x1, x5, x2, x3 == 0⟩ : Bx).cold⟩ : Bx) (vi 1000) rfl)
          have hfB := HB.out.frozen 0
          obtain ⟨hb0, hb1, hb2, hb3, hb4⟩ := HB.out.cell5h
          have HB := Lib.hid HP.out.1
          have HR0 := Lib.hid (HR8.out.far HP.out.2 (fun q hq => by injection hq with hq; omega))
          have HG0 := Lib.hid (grown_past HG8.out HP.out.2 (fun q hq => by injection hq with hq; omega))
          have HZ := Lib.hid (HZ.out.far HP.out.2 (fun q e1 e2 => by injection e1 with e1; injection e1 with e1; injection e2 with e2; omega))
          clear HP
          obtain ⟨hb0, hb1, hb2, hb3, hb4⟩ := HB.out.cell5h
          obtain ⟨hz0, hz1, hz2, hz3, hz4⟩ := HZ.out.cell5h
          have hf0 := HZ.out.frozen 0
          have hf1 := HZ.out.frozen 1
          have hf2 := HZ.out.frozen 2
          have hf3 := HZ.out.frozen 3
          have hf4 := HZ.out.frozen 4
          obtain ⟨r0, r1, r2, r3, r4⟩ := (HZ.out.put51 (⟨1000, (⟨id, 1 + x1, x5, x2, x3 == 0⟩ : Bx).wt, (⟨id, 1 + x1, x5, x2, x3 == 0⟩ : Bx).cls, (⟨id, 1 + x1, x5, x2, x3 == 0⟩ : Bx).port, (⟨id, 1 + x1, x5, x2, x3 == 0⟩ : Bx).cold⟩ : Bx)).cell5h
          dsimp only at r0 r1 r2 r3 r4
          go_wp2
          refine bodyPost_ret (v := .agg #[vi (⟨1000, (⟨id, 1 + x1, x5, x2, x3 == 0⟩ : Bx).wt, (⟨id, 1 + x1, x5, x2, x3 == 0⟩ : Bx).cls, (⟨id, 1 + x1, x5, x2, x3 == 0⟩ : Bx).port, (⟨id, 1 + x1, x5, x2, x3 == 0⟩ : Bx).cold⟩ : Bx).id, vi (⟨1000, (⟨id, 1 + x1, x5, x2, x3 == 0⟩ : Bx).wt, (⟨id, 1 + x1, x5, x2, x3 == 0⟩ : Bx).cls, (⟨id, 1 + x1, x5, x2, x3 == 0⟩ : Bx).port, (⟨id, 1 + x1, x5, x2, x3 == 0⟩ : Bx).cold⟩ : Bx).wt, vi (⟨1000, (⟨id, 1 + x1, x5, x2, x3 == 0⟩ : Bx).wt, (⟨id, 1 + x1, x5, x2, x3 == 0⟩ : Bx).cls, (⟨id, 1 + x1, x5, x2, x3 == 0⟩ : Bx).port, (⟨id, 1 + x1, x5, x2, x3 == 0⟩ : Bx).cold⟩ : Bx).cls, vi (⟨1000, (⟨id, 1 + x1, x5, x2, x3 == 0⟩ : Bx).wt, (⟨id, 1 + x1, x5, x2, x3 == 0⟩ : Bx).cls, (⟨id, 1 + x1, x5, x2, x3 == 0⟩ : Bx).port, (⟨id, 1 + x1, x5, x2, x3 == 0⟩ : Bx).cold⟩ : Bx).port, .bool (⟨1000, (⟨id, 1 + x1, x5, x2, x3 == 0⟩ : Bx).wt, (⟨id, 1 + x1, x5, x2, x3 == 0⟩ : Bx).cls, (⟨id, 1 + x1, x5, x2, x3 == 0⟩ : Bx).port, (⟨id, 1 + x1, x5, x2, x3 == 0⟩ : Bx).cold⟩ : Bx).cold]) (by simp [results, Try.results59, go_sem, r0, r1, r2, r3, r4]) rfl ⟨(⟨1000, (⟨id, 1 + x1, x5, x2, x3 == 0⟩ : Bx).wt, (⟨id, 1 + x1, x5, x2, x3 == 0⟩ : Bx).cls, (⟨id, 1 + x1, x5, x2, x3 == 0⟩ : Bx).port, (⟨id, 1 + x1, x5, x2, x3 == 0⟩ : Bx).cold⟩ : Bx), rfl, (HR0.out.far (grown5 _ _ _ _ _ _ _ _ _ _ _ _) (fun q hq => by injection hq with hq; omega)).mono (by omega), grown_past HG0.out (grown5 _ _ _ _ _ _ _ _ _ _ _ _) (fun q hq => by injection hq with hq; omega)⟩
      · skip
        go_wp2_with fail
        refine (pick_any lim g _ 2 _ (HR7.out.alloc _) (by omega)).mono ?_
        rintro e w8 ⟨v, rfl, hv, hvb, -, hr8, hg8⟩
        have hvc := hvb (by omega)
        have HR8 := Lib.hid hr8
        have hs8 := hg8.size
        simp only [World.size_alloc] at hs8
        have HG8 := Lib.hid ((grown_alloc HG7.out _).trans hg8)
        have HZ := Lib.hid ((HZ.out.alloc _).farG hg8 (by omega))
        have HB := Lib.hid ((HB.out.alloc _).farG hg8 (by omega))
        have hbl : w8.heap[w7.heap.size]? = some (.cells #[vi 0, vi 31] 3 (0, 0)) := (hg8.block _ (by simp) (by intro e; injection e with e; omega)).trans (heap_alloc_new w7 _)
        have hc0 : w8.cell? ⟨w7.heap.size, 0, none⟩ = some (vi (0)) := by rw [cell_of_row _ _ 0 _ _ _ hbl]; rfl
        have hc1 : w8.cell? ⟨w7.heap.size, 1, none⟩ = some (vi 31) := by rw [cell_of_row _ _ 1 _ _ _ hbl]; rfl
        clear hr8 hg8 hbl hvb
        have hvc2 : v = 0 ∨ v = 1 := by omega
        clear hv hvc
        rcases hvc2 with rfl | rfl
        · skip
          have HP := Lib.hid (HB.out.put1 1 (by omega) (⟨(⟨id, 1 + x1, x5, x2, x3 == 0⟩ : Bx).id, 0, (⟨id, 1 + x1, x5, x2, x3 == 0⟩ : Bx).cls, (⟨id, 1 + x1, x5, x2, x3 == 0⟩ : Bx).port, (⟨id, 1 + x1, x5, x2, x3 == 0⟩ : Bx).cold⟩ : Bx) (vi 0) rfl)
          have hfB := HB.out.frozen 1
          obtain ⟨hb0, hb1, hb2, hb3, hb4⟩ := HB.out.cell5h
          have HB := Lib.hid HP.out.1
          have HR0 := Lib.hid (HR8.out.far HP.out.2 (fun q hq => by injection hq with hq; omega))
          have HG0 := Lib.hid (grown_past HG8.out HP.out.2 (fun q hq => by injection hq with hq; omega))
          have HZ := Lib.hid (HZ.out.far HP.out.2 (fun q e1 e2 => by injection e1 with e1; injection e1 with e1; injection e2 with e2; omega))
          clear HP
          obtain ⟨hb0, hb1, hb2, hb3, hb4⟩ := HB.out.cell5h
          obtain ⟨hz0, hz1, hz2, hz3, hz4⟩ := HZ.out.cell5h
          have hf0 := HZ.out.frozen 0
          have hf1 := HZ.out.frozen 1
          have hf2 := HZ.out.frozen 2
          have hf3 := HZ.out.frozen 3
          have hf4 := HZ.out.frozen 4
          obtain ⟨r0, r1, r2, r3, r4⟩ := (HZ.out.put51 (⟨(⟨id, 1 + x1, x5, x2, x3 == 0⟩ : Bx).id, 0, (⟨id, 1 + x1, x5, x2, x3 == 0⟩ : Bx).cls, (⟨id, 1 + x1, x5, x2, x3 == 0⟩ : Bx).port, (⟨id, 1 + x1, x5, x2, x3 == 0⟩ : Bx).cold⟩ : Bx)).cell5h
          dsimp only at r0 r1 r2 r3 r4
          go_wp2
          refine bodyPost_ret (v := .agg #[vi (⟨(⟨id, 1 + x1, x5, x2, x3 == 0⟩ : Bx).id, 0, (⟨id, 1 + x1, x5, x2, x3 == 0⟩ : Bx).cls, (⟨id, 1 + x1, x5, x2, x3 == 0⟩ : Bx).port, (⟨id, 1 + x1, x5, x2, x3 == 0⟩ : Bx).cold⟩ : Bx).id, vi (⟨(⟨id, 1 + x1, x5, x2, x3 == 0⟩ : Bx).id, 0, (⟨id, 1 + x1, x5, x2, x3 == 0⟩ : Bx).cls, (⟨id, 1 + x1, x5, x2, x3 == 0⟩ : Bx).port, (⟨id, 1 + x1, x5, x2, x3 == 0⟩ : Bx).cold⟩ : Bx).wt, vi (⟨(⟨id, 1 + x1, x5, x2, x3 == 0⟩ : Bx).id, 0, (⟨id, 1 + x1, x5, x2, x3 == 0⟩ : Bx).cls, (⟨id, 1 + x1, x5, x2, x3 == 0⟩ : Bx).port, (⟨id, 1 + x1, x5, x2, x3 == 0⟩ : Bx).cold⟩ : Bx).cls, vi (⟨(⟨id, 1 + x1, x5, x2, x3 == 0⟩ : Bx).id, 0, (⟨id, 1 + x1, x5, x2, x3 == 0⟩ : Bx).cls, (⟨id, 1 + x1, x5, x2, x3 == 0⟩ : Bx).port, (⟨id, 1 + x1, x5, x2, x3 == 0⟩ : Bx).cold⟩ : Bx).port, .bool (⟨(⟨id, 1 + x1, x5, x2, x3 == 0⟩ : Bx).id, 0, (⟨id, 1 + x1, x5, x2, x3 == 0⟩ : Bx).cls, (⟨id, 1 + x1, x5, x2, x3 == 0⟩ : Bx).port, (⟨id, 1 + x1, x5, x2, x3 == 0⟩ : Bx).cold⟩ : Bx).cold]) (by simp [results, Try.results59, go_sem, r0, r1, r2, r3, r4]) rfl ⟨(⟨(⟨id, 1 + x1, x5, x2, x3 == 0⟩ : Bx).id, 0, (⟨id, 1 + x1, x5, x2, x3 == 0⟩ : Bx).cls, (⟨id, 1 + x1, x5, x2, x3 == 0⟩ : Bx).port, (⟨id, 1 + x1, x5, x2, x3 == 0⟩ : Bx).cold⟩ : Bx), rfl, (HR0.out.far (grown5 _ _ _ _ _ _ _ _ _ _ _ _) (fun q hq => by injection hq with hq; omega)).mono (by omega), grown_past HG0.out (grown5 _ _ _ _ _ _ _ _ _ _ _ _) (fun q hq => by injection hq with hq; omega)⟩
        · skip
          have HP := Lib.hid (HB.out.put1 1 (by omega) (⟨(⟨id, 1 + x1, x5, x2, x3 == 0⟩ : Bx).id, 31, (⟨id, 1 + x1, x5, x2, x3 == 0⟩ : Bx).cls, (⟨id, 1 + x1, x5, x2, x3 == 0⟩ : Bx).port, (⟨id, 1 + x1, x5, x2, x3 == 0⟩ : Bx).cold⟩ : Bx) (vi 31) rfl)
          have hfB := HB.out.frozen 1
          obtain ⟨hb0, hb1, hb2, hb3, hb4⟩ := HB.out.cell5h
          have HB := Lib.hid HP.out.1
          have HR0 := Lib.hid (HR8.out.far HP.out.2 (fun q hq => by injection hq with hq; omega))
          have HG0 := Lib.hid (grown_past HG8.out HP.out.2 (fun q hq => by injection hq with hq; omega))
          have HZ := Lib.hid (HZ.out.far HP.out.2 (fun q e1 e2 => by injection e1 with e1; injection e1 with e1; injection e2 with e2; omega))
          clear HP
          obtain ⟨hb0, hb1, hb2, hb3, hb4⟩ := HB.out.cell5h
          obtain ⟨hz0, hz1, hz2, hz3, hz4⟩ := HZ.out.cell5h
          have hf0 := HZ.out.frozen 0
          have hf1 := HZ.out.frozen 1
          have hf2 := HZ.out.frozen 2
          have hf3 := HZ.out.frozen 3
          have hf4 := HZ.out.frozen 4
          obtain ⟨r0, r1, r2, r3, r4⟩ := (HZ.out.put51 (⟨(⟨id, 1 + x1, x5, x2, x3 == 0⟩ : Bx).id, 31, (⟨id, 1 + x1, x5, x2, x3 == 0⟩ : Bx).cls, (⟨id, 1 + x1, x5, x2, x3 == 0⟩ : Bx).port, (⟨id, 1 + x1, x5, x2, x3 == 0⟩ : Bx).cold⟩ : Bx)).cell5h
          dsimp only at r0 r1 r2 r3 r4
          go_wp2
          refine bodyPost_ret (v := .agg #[vi (⟨(⟨id, 1 + x1, x5, x2, x3 == 0⟩ : Bx).id, 31, (⟨id, 1 + x1, x5, x2, x3 == 0⟩ : Bx).cls, (⟨id, 1 + x1, x5, x2, x3 == 0⟩ : Bx).port, (⟨id, 1 + x1, x5, x2, x3 == 0⟩ : Bx).cold⟩ : Bx).id, vi (⟨(⟨id, 1 + x1, x5, x2, x3 == 0⟩ : Bx).id, 31, (⟨id, 1 + x1, x5, x2, x3 == 0⟩ : Bx).cls, (⟨id, 1 + x1, x5, x2, x3 == 0⟩ : Bx).port, (⟨id, 1 + x1, x5, x2, x3 == 0⟩ : Bx).cold⟩ : Bx).wt, vi (⟨(⟨id, 1 + x1, x5, x2, x3 == 0⟩ : Bx).id, 31, (⟨id, 1 + x1, x5, x2, x3 == 0⟩ : Bx).cls, (⟨id, 1 + x1, x5, x2, x3 == 0⟩ : Bx).port, (⟨id, 1 + x1, x5, x2, x3 == 0⟩ : Bx).cold⟩ : Bx).cls, vi (⟨(⟨id, 1 + x1, x5, x2, x3 == 0⟩ : Bx).id, 31, (⟨id, 1 + x1, x5, x2, x3 == 0⟩ : Bx).cls, (⟨id, 1 + x1, x5, x2, x3 == 0⟩ : Bx).port, (⟨id, 1 + x1, x5, x2, x3 == 0⟩ : Bx).cold⟩ : Bx).port, .bool (⟨(⟨id, 1 + x1, x5, x2, x3 == 0⟩ : Bx).id, 31, (⟨id, 1 + x1, x5, x2, x3 == 0⟩ : Bx).cls, (⟨id, 1 + x1, x5, x2, x3 == 0⟩ : Bx).port, (⟨id, 1 + x1, x5, x2, x3 == 0⟩ : Bx).cold⟩ : Bx).cold]) (by simp [results, Try.results59, go_sem, r0, r1, r2, r3, r4]) rfl ⟨(⟨(⟨id, 1 + x1, x5, x2, x3 == 0⟩ : Bx).id, 31, (⟨id, 1 + x1, x5, x2, x3 == 0⟩ : Bx).cls, (⟨id, 1 + x1, x5, x2, x3 == 0⟩ : Bx).port, (⟨id, 1 + x1, x5, x2, x3 == 0⟩ : Bx).cold⟩ : Bx), rfl, (HR0.out.far (grown5 _ _ _ _ _ _ _ _ _ _ _ _) (fun q hq => by injection hq with hq; omega)).mono (by omega), grown_past HG0.out (grown5 _ _ _ _ _ _ _ _ _ _ _ _) (fun q hq => by injection hq with hq; omega)⟩
      · skip
        go_wp2_with fail
        refine (pick_any lim g _ 2 _ (HR7.out.alloc _) (by omega)).mono ?_
        rintro e w8 ⟨v, rfl, hv, hvb, -, hr8, hg8⟩
        have hvc := hvb (by omega)
        have HR8 := Lib.hid hr8
        have hs8 := hg8.size
        simp only [World.size_alloc] at hs8
        have HG8 := Lib.hid ((grown_alloc HG7.out _).trans hg8)
        have HZ := Lib.hid ((HZ.out.alloc _).farG hg8 (by omega))
        have HB := Lib.hid ((HB.out.alloc _).farG hg8 (by omega))
        have hbl : w8.heap[w7.heap.size]? = some (.cells #[vi (-1), vi 4] 3 (0, 0)) := (hg8.block _ (by simp) (by intro e; injection e with e; omega)).trans (heap_alloc_new w7 _)
        have hc0 : w8.cell? ⟨w7.heap.size, 0, none⟩ = some (vi (-1)) := by rw [cell_of_row _ _ 0 _ _ _ hbl]; rfl
        have hc1 : w8.cell? ⟨w7.heap.size, 1, none⟩ = some (vi 4) := by rw [cell_of_row _ _ 1 _ _ _ hbl]; rfl
        clear hr8 hg8 hbl hvb
        have hvc2 : v = 0 ∨ v = 1 := by omega
        clear hv hvc
        rcases hvc2 with rfl | rfl
        · skip
          have HP := Lib.hid (HB.out.put1 2 (by omega) (⟨(⟨id, 1 + x1, x5, x2, x3 == 0⟩ : Bx).id, (⟨id, 1 + x1, x5, x2, x3 == 0⟩ : Bx).wt, (-1), (⟨id, 1 + x1, x5, x2, x3 == 0⟩ : Bx).port, (⟨id, 1 + x1, x5, x2, x3 == 0⟩ : Bx).cold⟩ : Bx) (vi (-1)) rfl)
          have hfB := HB.out.frozen 2
          obtain ⟨hb0, hb1, hb2, hb3, hb4⟩ := HB.out.cell5h
          have HB := Lib.hid HP.out.1
          have HR0 := Lib.hid (HR8.out.far HP.out.2 (fun q hq => by injection hq with hq; omega))
          have HG0 := Lib.hid (grown_past HG8.out HP.out.2 (fun q hq => by injection hq with hq; omega))
          have HZ := Lib.hid (HZ.out.far HP.out.2 (fun q e1 e2 => by injection e1 with e1; injection e1 with e1; injection e2 with e2; omega))
          clear HP
          obtain ⟨hb0, hb1, hb2, hb3, hb4⟩ := HB.out.cell5h
          obtain ⟨hz0, hz1, hz2, hz3, hz4⟩ := HZ.out.cell5h
          have hf0 := HZ.out.frozen 0
          have hf1 := HZ.out.frozen 1
          have hf2 := HZ.out.frozen 2
          have hf3 := HZ.out.frozen 3
          have hf4 := HZ.out.frozen 4
          obtain ⟨r0, r1, r2, r3, r4⟩ := (HZ.out.put51 (⟨(⟨id, 1 + x1, x5, x2, x3 == 0⟩ : Bx).id, (⟨id, 1 + x1, x5, x2, x3 == 0⟩ : Bx).wt, (-1), (⟨id, 1 + x1, x5, x2, x3 == 0⟩ : Bx).port, (⟨id, 1 + x1, x5, x2, x3 == 0⟩ : Bx).cold⟩ : Bx)).cell5h
          dsimp only at r0 r1 r2 r3 r4
          go_wp2
          refine bodyPost_ret (v := .agg #[vi (⟨(⟨id, 1 + x1, x5, x2, x3 == 0⟩ : Bx).id, (⟨id, 1 + x1, x5, x2, x3 == 0⟩ : Bx).wt, (-1), (⟨id, 1 + x1, x5, x2, x3 == 0⟩ : Bx).port, (⟨id, 1 + x1, x5, x2, x3 == 0⟩ : Bx).cold⟩ : Bx).id, vi (⟨(⟨id, 1 + x1, x5, x2, x3 == 0⟩ : Bx).id, (⟨id, 1 + x1, x5, x2, x3 == 0⟩ : Bx).wt, (-1), (⟨id, 1 + x1, x5, x2, x3 == 0⟩ : Bx).port, (⟨id, 1 + x1, x5, x2, x3 == 0⟩ : Bx).cold⟩ : Bx).wt, vi (⟨(⟨id, 1 + x1, x5, x2, x3 == 0⟩ : Bx).id, (⟨id, 1 + x1, x5, x2, x3 == 0⟩ : Bx).wt, (-1), (⟨id, 1 + x1, x5, x2, x3 == 0⟩ : Bx).port, (⟨id, 1 + x1, x5, x2, x3 == 0⟩ : Bx).cold⟩ : Bx).cls, vi (⟨(⟨id, 1 + x1, x5, x2, x3 == 0⟩ : Bx).id, (⟨id, 1 + x1, x5, x2, x3 == 0⟩ : Bx).wt, (-1), (⟨id, 1 + x1, x5, x2, x3 == 0⟩ : Bx).port, (⟨id, 1 + x1, x5, x2, x3 == 0⟩ : Bx).cold⟩ : Bx).port, .bool (⟨(⟨id, 1 + x1, x5, x2, x3 == 0⟩ : Bx).id, (⟨id, 1 + x1, x5, x2, x3 == 0⟩ : Bx).wt, (-1), (⟨id, 1 + x1, x5, x2, x3 == 0⟩ : Bx).port, (⟨id, 1 + x1, x5, x2, x3 == 0⟩ : Bx).cold⟩ : Bx).cold]) (by simp [results, Try.results59, go_sem, r0, r1, r2, r3, r4]) rfl ⟨(⟨(⟨id, 1 + x1, x5, x2, x3 == 0⟩ : Bx).id, (⟨id, 1 + x1, x5, x2, x3 == 0⟩ : Bx).wt, (-1), (⟨id, 1 + x1, x5, x2, x3 == 0⟩ : Bx).port, (⟨id, 1 + x1, x5, x2, x3 == 0⟩ : Bx).cold⟩ : Bx), rfl, (HR0.out.far (grown5 _ _ _ _ _ _ _ _ _ _ _ _) (fun q hq => by injection hq with hq; omega)).mono (by omega), grown_past HG0.out (grown5 _ _ _ _ _ _ _ _ _ _ _ _) (fun q hq => by injection hq with hq; omega)⟩
        · skip
          have HP := Lib.hid (HB.out.put1 2 (by omega) (⟨(⟨id, 1 + x1, x5, x2, x3 == 0⟩ : Bx).id, (⟨id, 1 + x1, x5, x2, x3 == 0⟩ : Bx).wt, 4, (⟨id, 1 + x1, x5, x2, x3 == 0⟩ : Bx).port, (⟨id, 1 + x1, x5, x2, x3 == 0⟩ : Bx).cold⟩ : Bx) (vi 4) rfl)
          have hfB := HB.out.frozen 2
          obtain ⟨hb0, hb1, hb2, hb3, hb4⟩ := HB.out.cell5h
          have HB := Lib.hid HP.out.1
          have HR0 := Lib.hid (HR8.out.far HP.out.2 (fun q hq => by injection hq with hq; omega))
          have HG0 := Lib.hid (grown_past HG8.out HP.out.2 (fun q hq => by injection hq with hq; omega))
          have HZ := Lib.hid (HZ.out.far HP.out.2 (fun q e1 e2 => by injection e1 with e1; injection e1 with e1; injection e2 with e2; omega))
          clear HP
          obtain ⟨hb0, hb1, hb2, hb3, hb4⟩ := HB.out.cell5h
          obtain ⟨hz0, hz1, hz2, hz3, hz4⟩ := HZ.out.cell5h
          have hf0 := HZ.out.frozen 0
          have hf1 := HZ.out.frozen 1
          have hf2 := HZ.out.frozen 2
          have hf3 := HZ.out.frozen 3
          have hf4 := HZ.out.frozen 4
          obtain ⟨r0, r1, r2, r3, r4⟩ := (HZ.out.put51 (⟨(⟨id, 1 + x1, x5, x2, x3 == 0⟩ : Bx).id, (⟨id, 1 + x1, x5, x2, x3 == 0⟩ : Bx).wt, 4, (⟨id, 1 + x1, x5, x2, x3 == 0⟩ : Bx).port, (⟨id, 1 + x1, x5, x2, x3 == 0⟩ : Bx).cold⟩ : Bx)).cell5h
          dsimp only at r0 r1 r2 r3 r4
          go_wp2
          refine bodyPost_ret (v := .agg #[vi (⟨(⟨id, 1 + x1, x5, x2, x3 == 0⟩ : Bx).id, (⟨id, 1 + x1, x5, x2, x3 == 0⟩ : Bx).wt, 4, (⟨id, 1 + x1, x5, x2, x3 == 0⟩ : Bx).port, (⟨id, 1 + x1, x5, x2, x3 == 0⟩ : Bx).cold⟩ : Bx).id, vi (⟨(⟨id, 1 + x1, x5, x2, x3 == 0⟩ : Bx).id, (⟨id, 1 + x1, x5, x2, x3 == 0⟩ : Bx).wt, 4, (⟨id, 1 + x1, x5, x2, x3 == 0⟩ : Bx).port, (⟨id, 1 + x1, x5, x2, x3 == 0⟩ : Bx).cold⟩ : Bx).wt, vi (⟨(⟨id, 1 + x1, x5, x2, x3 == 0⟩ : Bx).id, (⟨id, 1 + x1, x5, x2, x3 == 0⟩ : Bx).wt, 4, (⟨id, 1 + x1, x5, x2, x3 == 0⟩ : Bx).port, (⟨id, 1 + x1, x5, x2, x3 == 0⟩ : Bx).cold⟩ : Bx).cls, vi (⟨(⟨id, 1 + x1, x5, x2, x3 == 0⟩ : Bx).id, (⟨id, 1 + x1, x5, x2, x3 == 0⟩ : Bx).wt, 4, (⟨id, 1 + x1, x5, x2, x3 == 0⟩ : Bx).port, (⟨id, 1 + x1, x5, x2, x3 == 0⟩ : Bx).cold⟩ : Bx).port, .bool (⟨(⟨id, 1 + x1, x5, x2, x3 == 0⟩ : Bx).id, (⟨id, 1 + x1, x5, x2, x3 == 0⟩ : Bx).wt, 4, (⟨id, 1 + x1, x5, x2, x3 == 0⟩ : Bx).port, (⟨id, 1 + x1, x5, x2, x3 == 0⟩ : Bx).cold⟩ : Bx).cold]) (by simp [results, Try.results59, go_sem, r0, r1, r2, r3, r4]) rfl ⟨(⟨(⟨id, 1 + x1, x5, x2, x3 == 0⟩ : Bx).id, (⟨id, 1 + x1, x5, x2, x3 == 0⟩ : Bx).wt, 4, (⟨id, 1 + x1, x5, x2, x3 == 0⟩ : Bx).port, (⟨id, 1 + x1, x5, x2, x3 == 0⟩ : Bx).cold⟩ : Bx), rfl, (HR0.out.far (grown5 _ _ _ _ _ _ _ _ _ _ _ _) (fun q hq => by injection hq with hq; omega)).mono (by omega), grown_past HG0.out (grown5 _ _ _ _ _ _ _ _ _ _ _ _) (fun q hq => by injection hq with hq; omega)⟩
      · skip
        go_wp2_with fail
        refine (pick_any lim g _ 2 _ (HR7.out.alloc _) (by omega)).mono ?_
        rintro e w8 ⟨v, rfl, hv, hvb, -, hr8, hg8⟩
        have hvc := hvb (by omega)
        have HR8 := Lib.hid hr8
        have hs8 := hg8.size
        simp only [World.size_alloc] at hs8
        have HG8 := Lib.hid ((grown_alloc HG7.out _).trans hg8)
        have HZ := Lib.hid ((HZ.out.alloc _).farG hg8 (by omega))
        have HB := Lib.hid ((HB.out.alloc _).farG hg8 (by omega))
        have hbl : w8.heap[w7.heap.size]? = some (.cells #[vi (-1), vi 7] 3 (0, 0)) := (hg8.block _ (by simp) (by intro e; injection e with e; omega)).trans (heap_alloc_new w7 _)
        have hc0 : w8.cell? ⟨w7.heap.size, 0, none⟩ = some (vi (-1)) := by rw [cell_of_row _ _ 0 _ _ _ hbl]; rfl
        have hc1 : w8.cell? ⟨w7.heap.size, 1, none⟩ = some (vi 7) := by rw [cell_of_row _ _ 1 _ _ _ hbl]; rfl
        clear hr8 hg8 hbl hvb
        have hvc2 : v = 0 ∨ v = 1 := by omega
        clear hv hvc
        rcases hvc2 with rfl | rfl
        · skip
          have HP := Lib.hid (HB.out.put1 3 (by omega) (⟨(⟨id, 1 + x1, x5, x2, x3 == 0⟩ : Bx).id, (⟨id, 1 + x1, x5, x2, x3 == 0⟩ : Bx).wt, (⟨id, 1 + x1, x5, x2, x3 == 0⟩ : Bx).cls, (-1), (⟨id, 1 + x1, x5, x2, x3 == 0⟩ : Bx).cold⟩ : Bx) (vi (-1)) rfl)
          have hfB := HB.out.frozen 3
          obtain ⟨hb0, hb1, hb2, hb3, hb4⟩ := HB.out.cell5h
          have HB := Lib.hid HP.out.1
          have HR0 := Lib.hid (HR8.out.far HP.out.2 (fun q hq => by injection hq with hq; omega))
          have HG0 := Lib.hid (grown_past HG8.out HP.out.2 (fun q hq => by injection hq with hq; omega))
          have HZ := Lib.hid (HZ.out.far HP.out.2 (fun q e1 e2 => by injection e1 with e1; injection e1 with e1; injection e2 with e2; omega))
          clear HP
          obtain ⟨hb0, hb1, hb2, hb3, hb4⟩ := HB.out.cell5h
          obtain ⟨hz0, hz1, hz2, hz3, hz4⟩ := HZ.out.cell5h
          have hf0 := HZ.out.frozen 0
          have hf1 := HZ.out.frozen 1
          have hf2 := HZ.out.frozen 2
          have hf3 := HZ.out.frozen 3
          have hf4 := HZ.out.frozen 4
          obtain ⟨r0, r1, r2, r3, r4⟩ := (HZ.out.put51 (⟨(⟨id, 1 + x1, x5, x2, x3 == 0⟩ : Bx).id, (⟨id, 1 + x1, x5, x2, x3 == 0⟩ : Bx).wt, (⟨id, 1 + x1, x5, x2, x3 == 0⟩ : Bx).cls, (-1), (⟨id, 1 + x1, x5, x2, x3 == 0⟩ : Bx).cold⟩ : Bx)).cell5h
          dsimp only at r0 r1 r2 r3 r4
          go_wp2
          refine bodyPost_ret (v := .agg #[vi (⟨(⟨id, 1 + x1, x5, x2, x3 == 0⟩ : Bx).id, (⟨id, 1 + x1, x5, x2, x3 == 0⟩ : Bx).wt, (⟨id, 1 + x1, x5, x2, x3 == 0⟩ : Bx).cls, (-1), (⟨id, 1 + x1, x5, x2, x3 == 0⟩ : Bx).cold⟩ : Bx).id, vi (⟨(⟨id, 1 + x1, x5, x2, x3 == 0⟩ : Bx).id, (⟨id, 1 + x1, x5, x2, x3 == 0⟩ : Bx).wt, (⟨id, 1 + x1, x5, x2, x3 == 0⟩ : Bx).cls, (-1), (⟨id, 1 + x1, x5, x2, x3 == 0⟩ : Bx).cold⟩ : Bx).wt, vi (⟨(⟨id, 1 + x1, x5, x2, x3 == 0⟩ : Bx).id, (⟨id, 1 + x1, x5, x2, x3 == 0⟩ : Bx).wt, (⟨id, 1 + x1, x5, x2, x3 == 0⟩ : Bx).cls, (-1), (⟨id, 1 + x1, x5, x2, x3 == 0⟩ : Bx).cold⟩ : Bx).cls, vi (⟨(⟨id, 1 + x1, x5, x2, x3 == 0⟩ : Bx).id, (⟨id, 1 + x1, x5, x2, x3 == 0⟩ : Bx).wt, (⟨id, 1 + x1, x5, x2, x3 == 0⟩ : Bx).cls, (-1), (⟨id, 1 + x1, x5, x2, x3 == 0⟩ : Bx).cold⟩ : Bx).port, .bool (⟨(⟨id, 1 + x1, x5, x2, x3 == 0⟩ : Bx).id, (⟨id, 1 + x1, x5, x2, x3 == 0⟩ : Bx).wt, (⟨id, 1 + x1, x5, x2, x3 == 0⟩ : Bx).cls, (-1), (⟨id, 1 + x1, x5, x2, x3 == 0⟩ : Bx).cold⟩ : Bx).cold]) (by simp [results, Try.results59, go_sem, r0, r1, r2, r3, r4]) rfl ⟨(⟨(⟨id, 1 + x1, x5, x2, x3 == 0⟩ : Bx).id, (⟨id, 1 + x1, x5, x2, x3 == 0⟩ : Bx).wt, (⟨id, 1 + x1, x5, x2, x3 == 0⟩ : Bx).cls, (-1), (⟨id, 1 + x1, x5, x2, x3 == 0⟩ : Bx).cold⟩ : Bx), rfl, (HR0.out.far (grown5 _ _ _ _ _ _ _ _ _ _ _ _) (fun q hq => by injection hq with hq; omega)).mono (by omega), grown_past HG0.out (grown5 _ _ _ _ _ _ _ _ _ _ _ _) (fun q hq => by injection hq with hq; omega)⟩
        · skip
          have HP := Lib.hid (HB.out.put1 3 (by omega) (⟨(⟨id, 1 + x1, x5, x2, x3 == 0⟩ : Bx).id, (⟨id, 1 + x1, x5, x2, x3 == 0⟩ : Bx).wt, (⟨id, 1 + x1, x5, x2, x3 == 0⟩ : Bx).cls, 7, (⟨id, 1 + x1, x5, x2, x3 == 0⟩ : Bx).cold⟩ : Bx) (vi 7) rfl)
          have hfB := HB.out.frozen 3
          obtain ⟨hb0, hb1, hb2, hb3, hb4⟩ := HB.out.cell5h
          have HB := Lib.hid HP.out.1
          have HR0 := Lib.hid (HR8.out.far HP.out.2 (fun q hq => by injection hq with hq; omega))
          have HG0 := Lib.hid (grown_past HG8.out HP.out.2 (fun q hq => by injection hq with hq; omega))
          have HZ := Lib.hid (HZ.out.far HP.out.2 (fun q e1 e2 => by injection e1 with e1; injection e1 with e1; injection e2 with e2; omega))
          clear HP
          obtain ⟨hb0, hb1, hb2, hb3, hb4⟩ := HB.out.cell5h
          obtain ⟨hz0, hz1, hz2, hz3, hz4⟩ := HZ.out.cell5h
          have hf0 := HZ.out.frozen 0
          have hf1 := HZ.out.frozen 1
          have hf2 := HZ.out.frozen 2
          have hf3 := HZ.out.frozen 3
          have hf4 := HZ.out.frozen 4
          obtain ⟨r0, r1, r2, r3, r4⟩ := (HZ.out.put51 (⟨(⟨id, 1 + x1, x5, x2, x3 == 0⟩ : Bx).id, (⟨id, 1 + x1, x5, x2, x3 == 0⟩ : Bx).wt, (⟨id, 1 + x1, x5, x2, x3 == 0⟩ : Bx).cls, 7, (⟨id, 1 + x1, x5, x2, x3 == 0⟩ : Bx).cold⟩ : Bx)).cell5h
          dsimp only at r0 r1 r2 r3 r4
          go_wp2
          refine bodyPost_ret (v := .agg #[vi (⟨(⟨id, 1 + x1, x5, x2, x3 == 0⟩ : Bx).id, (⟨id, 1 + x1, x5, x2, x3 == 0⟩ : Bx).wt, (⟨id, 1 + x1, x5, x2, x3 == 0⟩ : Bx).cls, 7, (⟨id, 1 + x1, x5, x2, x3 == 0⟩ : Bx).cold⟩ : Bx).id, vi (⟨(⟨id, 1 + x1, x5, x2, x3 == 0⟩ : Bx).id, (⟨id, 1 + x1, x5, x2, x3 == 0⟩ : Bx).wt, (⟨id, 1 + x1, x5, x2, x3 == 0⟩ : Bx).cls, 7, (⟨id, 1 + x1, x5, x2, x3 == 0⟩ : Bx).cold⟩ : Bx).wt, vi (⟨(⟨id, 1 + x1, x5, x2, x3 == 0⟩ : Bx).id, (⟨id, 1 + x1, x5, x2, x3 == 0⟩ : Bx).wt, (⟨id, 1 + x1, x5, x2, x3 == 0⟩ : Bx).cls, 7, (⟨id, 1 + x1, x5, x2, x3 == 0⟩ : Bx).cold⟩ : Bx).cls, vi (⟨(⟨id, 1 + x1, x5, x2, x3 == 0⟩ : Bx).id, (⟨id, 1 + x1, x5, x2, x3 == 0⟩ : Bx).wt, (⟨id, 1 + x1, x5, x2, x3 == 0⟩ : Bx).cls, 7, (⟨id, 1 + x1, x5, x2, x3 == 0⟩ : Bx).cold⟩ : Bx).port, .bool (⟨(⟨id, 1 + x1, x5, x2, x3 == 0⟩ : Bx).id, (⟨id, 1 + x1, x5, x2, x3 == 0⟩ : Bx).wt, (⟨id, 1 + x1, x5, x2, x3 == 0⟩ : Bx).cls, 7, (⟨id, 1 + x1, x5, x2, x3 == 0⟩ : Bx).cold⟩ : Bx).cold]) (by simp [results, Try.results59, go_sem, r0, r1, r2, r3, r4]) rfl ⟨(⟨(⟨id, 1 + x1, x5, x2, x3 == 0⟩ : Bx).id, (⟨id, 1 + x1, x5, x2, x3 == 0⟩ : Bx).wt, (⟨id, 1 + x1, x5, x2, x3 == 0⟩ : Bx).cls, 7, (⟨id, 1 + x1, x5, x2, x3 == 0⟩ : Bx).cold⟩ : Bx), rfl, (HR0.out.far (grown5 _ _ _ _ _ _ _ _ _ _ _ _) (fun q hq => by injection hq with hq; omega)).mono (by omega), grown_past HG0.out (grown5 _ _ _ _ _ _ _ _ _ _ _ _) (fun q hq => by injection hq with hq; omega)⟩
  · have h4b : (x4 == 0) = false := by simp [h4]
    clear h4
    go_wp2_with fail
    refine (odd_any lim g _ n _ HR4.out (by omega) hn).mono ?_
    rintro e w5 ⟨o, rfl, hr5, hg5⟩
    have HR5 := Lib.hid hr5
    have hs5 := hg5.size
    skip
    have HG5 := Lib.hid (HG4.out.trans hg5)
    have HZ := Lib.hid (HZ.out.farG hg5 (by omega))
    have HB := Lib.hid (HB.out.farG hg5 (by omega))
    clear hr5 hg5
    cases o with
    | false =>
      obtain ⟨hb0, hb1, hb2, hb3, hb4⟩ := HB.out.cell5h
      obtain ⟨hz0, hz1, hz2, hz3, hz4⟩ := HZ.out.cell5h
      have hf0 := HZ.out.frozen 0
      have hf1 := HZ.out.frozen 1
      have hf2 := HZ.out.frozen 2
      have hf3 := HZ.out.frozen 3
      have hf4 := HZ.out.frozen 4
      obtain ⟨r0, r1, r2, r3, r4⟩ := (HZ.out.put51 (⟨id, 1 + x1, 0, x2, x3 == 0⟩ : Bx)).cell5h
      dsimp only at r0 r1 r2 r3 r4
      go_wp2
      refine bodyPost_ret (v := .agg #[vi (⟨id, 1 + x1, 0, x2, x3 == 0⟩ : Bx).id, vi (⟨id, 1 + x1, 0, x2, x3 == 0⟩ : Bx).wt, vi (⟨id, 1 + x1, 0, x2, x3 == 0⟩ : Bx).cls, vi (⟨id, 1 + x1, 0, x2, x3 == 0⟩ : Bx).port, .bool (⟨id, 1 + x1, 0, x2, x3 == 0⟩ : Bx).cold]) (by simp [results, Try.results59, go_sem, r0, r1, r2, r3, r4]) rfl ⟨(⟨id, 1 + x1, 0, x2, x3 == 0⟩ : Bx), rfl, (HR5.out.far (grown5 _ _ _ _ _ _ _ _ _ _ _ _) (fun q hq => by injection hq with hq; omega)).mono (by omega), grown_past HG5.out (grown5 _ _ _ _ _ _ _ _ _ _ _ _) (fun q hq => by injection hq with hq; omega)⟩
    | true =>
      go_wp2_with fail
      refine (pick_any lim g _ 4 _ HR5.out (by omega)).mono ?_
      rintro e w6 ⟨y, rfl, hy, hyb, -, hr6, hg6⟩
      have hyc := hyb (by omega)
      have HR6 := Lib.hid hr6
      have hs6 := hg6.size
      skip
      have HG6 := Lib.hid (HG5.out.trans hg6)
      have HZ := Lib.hid (HZ.out.farG hg6 (by omega))
      have HB := Lib.hid (HB.out.farG hg6 (by omega))
      clear hr6 hg6 hyb
      have hy4 : y = 0 ∨ y = 1 ∨ y = 2 ∨ y = 3 := by omega
      clear hy hyc
      rcases hy4 with rfl | rfl | rfl | rfl
      · skip
        go_wp2_with fail
        refine (pick_any lim g _ 2 _ (HR6.out.alloc _) (by omega)).mono ?_
        rintro e w7 ⟨v, rfl, hv, hvb, -, hr7, hg7⟩
        have hvc := hvb (by omega)
        have HR7 := Lib.hid hr7
        have hs7 := hg7.size
        simp only [World.size_alloc] at hs7
        have HG7 := Lib.hid ((grown_alloc HG6.out _).trans hg7)
        have HZ := Lib.hid ((HZ.out.alloc _).farG hg7 (by omega))
        have HB := Lib.hid ((HB.out.alloc _).farG hg7 (by omega))
        have hbl : w7.heap[w6.heap.size]? = some (.cells #[vi 0, vi 1000] 3 (0, 0)) := (hg7.block _ (by simp) (by intro e; injection e with e; omega)).trans (heap_alloc_new w6 _)
        have hc0 : w7.cell? ⟨w6.heap.size, 0, none⟩ = some (vi (0)) := by rw [cell_of_row _ _ 0 _ _ _ hbl]; rfl
        have hc1 : w7.cell? ⟨w6.heap.size, 1, none⟩ = some (vi 1000) := by rw [cell_of_row _ _ 1 _ _ _ hbl]; rfl
        clear hr7 hg7 hbl hvb
        have hvc2 : v = 0 ∨ v = 1 := by omega
        clear hv hvc
        rcases hvc2 with rfl | rfl
        · skip
          have HP := Lib.hid (HB.out.put1 0 (by omega) (⟨0, (⟨id, 1 + x1, 0, x2, x3 == 0⟩ : Bx).wt, (⟨id, 1 + x1, 0, x2, x3 == 0⟩ : Bx).cls, (⟨id, 1 + x1, 0, x2, x3 == 0⟩ : Bx).port, (⟨id, 1 + x1, 0, x2, x3 == 0⟩ : Bx).cold⟩ : Bx) (vi 0) rfl)
          have hfB := HB.out.frozen 0
          obtain ⟨hb0, hb1, hb2, hb3, hb4⟩ := HB.out.cell5h
          have HB := Lib.hid HP.out.1
          have HR0 := Lib.hid (HR7.out.far HP.out.2 (fun q hq => by injection hq with hq; omega))
          have HG0 := Lib.hid (grown_past HG7.out HP.out.2 (fun q hq => by injection hq with hq; omega))
          have HZ := Lib.hid (HZ.out.far HP.out.2 (fun q e1 e2 => by injection e1 with e1; injection e1 with e1; injection e2 with e2; omega))
          clear HP
          obtain ⟨hb0, hb1, hb2, hb3, hb4⟩ := HB.out.cell5h
          obtain ⟨hz0, hz1, hz2, hz3, hz4⟩ := HZ.out.cell5h
          have hf0 := HZ.out.frozen 0
          have hf1 := HZ.out.frozen 1
          have hf2 := HZ.out.frozen 2
          have hf3 := HZ.out.frozen 3
          have hf4 := HZ.out.frozen 4
          obtain ⟨r0, r1, r2, r3, r4⟩ := (HZ.out.put51 (⟨0, (⟨id, 1 + x1, 0, x2, x3 == 0⟩ : Bx).wt, (⟨id, 1 + x1, 0, x2, x3 == 0⟩ : Bx).cls, (⟨id, 1 + x1, 0, x2, x3 == 0⟩ : Bx).port, (⟨id, 1 + x1, 0, x2, x3 == 0⟩ : Bx).cold⟩ : Bx)).cell5h
          dsimp only at r0 r1 r2 r3 r4
          go_wp2
          refine bodyPost_ret (v := .agg #[vi (⟨0, (⟨id, 1 + x1, 0, x2, x3 == 0⟩ : Bx).wt, (⟨id, 1 + x1, 0, x2, x3 == 0⟩ : Bx).cls, (⟨id, 1 + x1, 0, x2, x3 == 0⟩ : Bx).port, (⟨id, 1 + x1, 0, x2, x3 == 0⟩ : Bx).cold⟩ : Bx).id, vi (⟨0, (⟨id, 1 + x1, 0, x2, x3 == 0⟩ : Bx).wt, (⟨id, 1 + x1, 0, x2, x3 == 0⟩ : Bx).cls, (⟨id, 1 + x1, 0, x2, x3 == 0⟩ : Bx).port, (⟨id, 1 + x1, 0, x2, x3 == 0⟩ : Bx).cold⟩ : Bx).wt, vi (⟨0, (⟨id, 1 + x1, 0, x2, x3 == 0⟩ : Bx).wt, (⟨id, 1 + x1, 0, x2, x3 == 0⟩ : Bx).cls, (⟨id, 1 + x1, 0, x2, x3 == 0⟩ : Bx).port, (⟨id, 1 + x1, 0, x2, x3 == 0⟩ : Bx).cold⟩ : Bx).cls, vi (⟨0, (⟨id, 1 + x1, 0, x2, x3 == 0⟩ : Bx).wt, (⟨id, 1 + x1, 0, x2, x3 == 0⟩ : Bx).cls, (⟨id, 1 + x1, 0, x2, x3 == 0⟩ : Bx).port, (⟨id, 1 + x1, 0, x2, x3 == 0⟩ : Bx).cold⟩ : Bx).port, .bool (⟨0, (⟨id, 1 + x1, 0, x2, x3 == 0⟩ : Bx).wt, (⟨id, 1 + x1, 0, x2, x3 == 0⟩ : Bx).cls, (⟨id, 1 + x1, 0, x2, x3 == 0⟩ : Bx).port, (⟨id, 1 + x1, 0, x2, x3 == 0⟩ : Bx).cold⟩ : Bx).cold]) (by simp [results, Try.results59, go_sem, r0, r1, r2, r3, r4]) rfl ⟨(⟨0, (⟨id, 1 + x1, 0, x2, x3 == 0⟩ : Bx).wt, (⟨id, 1 + x1, 0, x2, x3 == 0⟩ : Bx).cls, (⟨id, 1 + x1, 0, x2, x3 == 0⟩ : Bx).port, (⟨id, 1 + x1, 0, x2, x3 == 0⟩ : Bx).cold⟩ : Bx), rfl, (HR0.out.far (grown5 _ _ _ _ _ _ _ _ _ _ _ _) (fun q hq => by injection hq with hq; omega)).mono (by omega), grown_past HG0.out (grown5 _ _ _ _ _ _ _ _ _ _ _ _) (fun q hq => by injection hq with hq; omega)⟩
        · skip
          have HP := Lib.hid (HB.out.put1 0 (by omega) (⟨1000, (⟨id, 1 + x1, 0, x2, x3 == 0⟩ : Bx).wt, (⟨id, 1 + x1, 0, x2, x3 == 0⟩ : Bx).cls, (⟨id, 1 + x1, 0, x2, x3 == 0⟩ : Bx).port, (⟨id, 1 + x1, 0, x2, x3 == 0⟩ : Bx).cold⟩ : Bx) (vi 1000) rfl)
          have hfB := HB.out.frozen 0
          obtain ⟨hb0, hb1, hb2, hb3, hb4⟩ := HB.out.cell5h
          have HB := Lib.hid HP.out.1
          have HR0 := Lib.hid (HR7.out.far HP.out.2 (fun q hq => by injection hq with hq; omega))
          have HG0 := Lib.hid (grown_past HG7.out HP.out.2 (fun q hq => by injection hq with hq; omega))
          have HZ := Lib.hid (HZ.out.far HP.out.2 (fun q e1 e2 => by injection e1 with e1; injection e1 with e1; injection e2 with e2; omega))
          clear HP
          obtain ⟨hb0, hb1, hb2, hb3, hb4⟩ := HB.out.cell5h
          obtain ⟨hz0, hz1, hz2, hz3, hz4⟩ := HZ.out.cell5h
          have hf0 := HZ.out.frozen 0
          have hf1 := HZ.out.frozen 1
          have hf2 := HZ.out.frozen 2
          have hf3 := HZ.out.frozen 3
          have hf4 := HZ.out.frozen 4
          obtain ⟨r0, r1, r2, r3, r4⟩ := (HZ.out.put51 (⟨1000, (⟨id, 1 + x1, 0, x2, x3 == 0⟩ : Bx).wt, (⟨id, 1 + x1, 0, x2, x3 == 0⟩ : Bx).cls, (⟨id, 1 + x1, 0, x2, x3 == 0⟩ : Bx).port, (⟨id, 1 + x1, 0, x2, x3 == 0⟩ : Bx).cold⟩ : Bx)).cell5h
          dsimp only at r0 r1 r2 r3 r4
          go_wp2
          refine bodyPost_ret (v := .agg #[vi (⟨1000, (⟨id, 1 + x1, 0, x2, x3 == 0⟩ : Bx).wt, (⟨id, 1 + x1, 0, x2, x3 == 0⟩ : Bx).cls, (⟨id, 1 + x1, 0, x2, x3 == 0⟩ : Bx).port, (⟨id, 1 + x1, 0, x2, x3 == 0⟩ : Bx).cold⟩ : Bx).id, vi (⟨1000, (⟨id, 1 + x1, 0, x2, x3 == 0⟩ : Bx).wt, (⟨id, 1 + x1, 0, x2, x3 == 0⟩ : Bx).cls, (⟨id, 1 + x1, 0, x2, x3 == 0⟩ : Bx).port, (⟨id, 1 + x1, 0, x2, x3 == 0⟩ : Bx).cold⟩ : Bx).wt, vi (⟨1000, (⟨id, 1 + x1, 0, x2, x3 == 0⟩ : Bx).wt, (⟨id, 1 + x1, 0, x2, x3 == 0⟩ : Bx).cls, (⟨id, 1 + x1, 0, x2, x3 == 0⟩ : Bx).port, (⟨id, 1 + x1, 0, x2, x3 == 0⟩ : Bx).cold⟩ : Bx).cls, vi (⟨1000, (⟨id, 1 + x1, 0, x2, x3 == 0⟩ : Bx).wt, (⟨id, 1 + x1, 0, x2, x3 == 0⟩ : Bx).cls, (⟨id, 1 + x1, 0, x2, x3 == 0⟩ : Bx).port, (⟨id, 1 + x1, 0, x2, x3 == 0⟩ : Bx).cold⟩ : Bx).port, .bool (⟨1000, (⟨id, 1 + x1, 0, x2, x3 == 0⟩ : Bx).wt, (⟨id, 1 + x1, 0, x2, x3 == 0⟩ : Bx).cls, (⟨id, 1 + x1, 0, x2, x3 == 0⟩ : Bx).port, (⟨id, 1 + x1, 0, x2, x3 == 0⟩ : Bx).cold⟩ : Bx).cold]) (by simp [results, Try.results59, go_sem, r0, r1, r2, r3, r4]) rfl ⟨(⟨1000, (⟨id, 1 + x1, 0, x2, x3 == 0⟩ : Bx).wt, (⟨id, 1 + x1, 0, x2, x3 == 0⟩ : Bx).cls, (⟨id, 1 + x1, 0, x2, x3 == 0⟩ : Bx).port, (⟨id, 1 + x1, 0, x2, x3 == 0⟩ : Bx).cold⟩ : Bx), rfl, (HR0.out.far (grown5 _ _ _ _ _ _ _ _ _ _ _ _) (fun q hq => by injection hq with hq; omega)).mono (by omega), grown_past HG0.out (grown5 _ _ _ _ _ _ _ _ _ _ _ _) (fun q hq => by injection hq with hq; omega)⟩
      · skip
        go_wp2_with fail
        refine (pick_any lim g _ 2 _ (HR6.out.alloc _) (by omega)).mono ?_
        rintro e w7 ⟨v, rfl, hv, hvb, -, hr7, hg7⟩
        have hvc := hvb (by omega)
        have HR7 := Lib.hid hr7
        have hs7 := hg7.size
        simp only [World.size_alloc] at hs7
        have HG7 := Lib.hid ((grown_alloc HG6.out _).trans hg7)
        have HZ := Lib.hid ((HZ.out.alloc _).farG hg7 (by omega))
        have HB := Lib.hid ((HB.out.alloc _).farG hg7 (by omega))
        have hbl : w7.heap[w6.heap.size]? = some (.cells #[vi 0, vi 31] 3 (0, 0)) := (hg7.block _ (by simp) (by intro e; injection e with e; omega)).trans (heap_alloc_new w6 _)
        have hc0 : w7.cell? ⟨w6.heap.size, 0, none⟩ = some (vi (0)) := by rw [cell_of_row _ _ 0 _ _ _ hbl]; rfl
        have hc1 : w7.cell? ⟨w6.heap.size, 1, none⟩ = some (vi 31) := by rw [cell_of_row _ _ 1 _ _ _ hbl]; rfl
        clear hr7 hg7 hbl hvb
        have hvc2 : v = 0 ∨ v = 1 := by omega
        clear hv hvc
        rcases hvc2 with rfl | rfl
        · skip
          have HP := Lib.hid (HB.out.put1 1 (by omega) (⟨(⟨id, 1 + x1, 0, x2, x3 == 0⟩ : Bx).id, 0, (⟨id, 1 + x1, 0, x2, x3 == 0⟩ : Bx).cls, (⟨id, 1 + x1, 0, x2, x3 == 0⟩ : Bx).port, (⟨id, 1 + x1, 0, x2, x3 == 0⟩ : Bx).cold⟩ : Bx) (vi 0) rfl)
          have hfB := HB.out.frozen 1
          obtain ⟨hb0, hb1, hb2, hb3, hb4⟩ := HB.out.cell5h
          have HB := Lib.hid HP.out.1
          have HR0 := Lib.hid (HR7.out.far HP.out.2 (fun q hq => by injection hq with hq; omega))
          have HG0 := Lib.hid (grown_past HG7.out HP.out.2 (fun q hq => by injection hq with hq; omega))
          have HZ := Lib.hid (HZ.out.far HP.out.2 (fun q e1 e2 => by injection e1 with e1; injection e1 with e1; injection e2 with e2; omega))
          clear HP
          obtain ⟨hb0, hb1, hb2, hb3, hb4⟩ := HB.out.cell5h
          obtain ⟨hz0, hz1, hz2, hz3, hz4⟩ := HZ.out.cell5h
          have hf0 := HZ.out.frozen 0
          have hf1 := HZ.out.frozen 1
          have hf2 := HZ.out.frozen 2
          have hf3 := HZ.out.frozen 3
          have hf4 := HZ.out.frozen 4
          obtain ⟨r0, r1, r2, r3, r4⟩ := (HZ.out.put51 (⟨(⟨id, 1 + x1, 0, x2, x3 == 0⟩ : Bx).id, 0, (⟨id, 1 + x1, 0, x2, x3 == 0⟩ : Bx).cls, (⟨id, 1 + x1, 0, x2, x3 == 0⟩ : Bx).port, (⟨id, 1 + x1, 0, x2, x3 == 0⟩ : Bx).cold⟩ : Bx)).cell5h
          dsimp only at r0 r1 r2 r3 r4
          go_wp2
          refine bodyPost_ret (v := .agg #[vi (⟨(⟨id, 1 + x1, 0, x2, x3 == 0⟩ : Bx).id, 0, (⟨id, 1 + x1, 0, x2, x3 == 0⟩ : Bx).cls, (⟨id, 1 + x1, 0, x2, x3 == 0⟩ : Bx).port, (⟨id, 1 + x1, 0, x2, x3 == 0⟩ : Bx).cold⟩ : Bx).id, vi (⟨(⟨id, 1 + x1, 0, x2, x3 == 0⟩ : Bx).id, 0, (⟨id, 1 + x1, 0, x2, x3 == 0⟩ : Bx).cls, (⟨id, 1 + x1, 0, x2, x3 == 0⟩ : Bx).port, (⟨id, 1 + x1, 0, x2, x3 == 0⟩ : Bx).cold⟩ : Bx).wt, vi (⟨(⟨id, 1 + x1, 0, x2, x3 == 0⟩ : Bx).id, 0, (⟨id, 1 + x1, 0, x2, x3 == 0⟩ : Bx).cls, (⟨id, 1 + x1, 0, x2, x3 == 0⟩ : Bx).port, (⟨id, 1 + x1, 0, x2, x3 == 0⟩ : Bx).cold⟩ : Bx).cls, vi (⟨(⟨id, 1 + x1, 0, x2, x3 == 0⟩ : Bx).id, 0, (⟨id, 1 + x1, 0, x2, x3 == 0⟩ : Bx).cls, (⟨id, 1 + x1, 0, x2, x3 == 0⟩ : Bx).port, (⟨id, 1 + x1, 0, x2, x3 == 0⟩ : Bx).cold⟩ : Bx).port, .bool (⟨(⟨id, 1 + x1, 0, x2, x3 == 0⟩ : Bx).id, 0, (⟨id, 1 + x1, 0, x2, x3 == 0⟩ : Bx).cls, (⟨id, 1 + x1, 0, x2, x3 == 0⟩ : Bx).port, (⟨id, 1 + x1, 0, x2, x3 == 0⟩ : Bx).cold⟩ : Bx).cold]) (by simp [results, Try.results59, go_sem, r0, r1, r2, r3, r4]) rfl ⟨(⟨(⟨id, 1 + x1, 0, x2, x3 == 0⟩ : Bx).id, 0, (⟨id, 1 + x1, 0, x2, x3 == 0⟩ : Bx).cls, (⟨id, 1 + x1, 0, x2, x3 == 0⟩ : Bx).port, (⟨id, 1 + x1, 0, x2, x3 == 0⟩ : Bx).cold⟩ : Bx), rfl, (HR0.out.far (grown5 _ _ _ _ _ _ _ _ _ _ _ _) (fun q hq => by injection hq with hq; omega)).mono (by omega), grown_past HG0.out (grown5 _ _ _ _ _ _ _ _ _ _ _ _) (fun q hq => by injection hq with hq; omega)⟩
        · skip
          have HP := Lib.hid (HB.out.put1 1 (by omega) (⟨(⟨id, 1 + x1, 0, x2, x3 == 0⟩ : Bx).id, 31, (⟨id, 1 + x1, 0, x2, x3 == 0⟩ : Bx).cls, (⟨id, 1 + x1, 0, x2, x3 == 0⟩ : Bx).port, (⟨id, 1 + x1, 0, x2, x3 == 0⟩ : Bx).cold⟩ : Bx) (vi 31) rfl)
          have hfB := HB.out.frozen 1
          obtain ⟨hb0, hb1, hb2, hb3, hb4⟩ := HB.out.cell5h
          have HB := Lib.hid HP.out.1
          have HR0 := Lib.hid (HR7.out.far HP.out.2 (fun q hq => by injection hq with hq; omega))
          have HG0 := Lib.hid (grown_past HG7.out HP.out.2 (fun q hq => by injection hq with hq; omega))
          have HZ := Lib.hid (HZ.out.far HP.out.2 (fun q e1 e2 => by injection e1 with e1; injection e1 with e1; injection e2 with e2; omega))
          clear HP
          obtain ⟨hb0, hb1, hb2, hb3, hb4⟩ := HB.out.cell5h
          obtain ⟨hz0, hz1, hz2, hz3, hz4⟩ := HZ.out.cell5h
          have hf0 := HZ.out.frozen 0
          have hf1 := HZ.out.frozen 1
          have hf2 := HZ.out.frozen 2
          have hf3 := HZ.out.frozen 3
          have hf4 := HZ.out.frozen 4
          obtain ⟨r0, r1, r2, r3, r4⟩ := (HZ.out.put51 (⟨(⟨id, 1 + x1, 0, x2, x3 == 0⟩ : Bx).id, 31, (⟨id, 1 + x1, 0, x2, x3 == 0⟩ : Bx).cls, (⟨id, 1 + x1, 0, x2, x3 == 0⟩ : Bx).port, (⟨id, 1 + x1, 0, x2, x3 == 0⟩ : Bx).cold⟩ : Bx)).cell5h
          dsimp only at r0 r1 r2 r3 r4
          go_wp2
          refine bodyPost_ret (v := .agg #[vi (⟨(⟨id, 1 + x1, 0, x2, x3 == 0⟩ : Bx).id, 31, (⟨id, 1 + x1, 0, x2, x3 == 0⟩ : Bx).cls, (⟨id, 1 + x1, 0, x2, x3 == 0⟩ : Bx).port, (⟨id, 1 + x1, 0, x2, x3 == 0⟩ : Bx).cold⟩ : Bx).id, vi (⟨(⟨id, 1 + x1, 0, x2, x3 == 0⟩ : Bx).id, 31, (⟨id, 1 + x1, 0, x2, x3 == 0⟩ : Bx).cls, (⟨id, 1 + x1, 0, x2, x3 == 0⟩ : Bx).port, (⟨id, 1 + x1, 0, x2, x3 == 0⟩ : Bx).cold⟩ : Bx).wt, vi (⟨(⟨id, 1 + x1, 0, x2, x3 == 0⟩ : Bx).id, 31, (⟨id, 1 + x1, 0, x2, x3 == 0⟩ : Bx).cls, (⟨id, 1 + x1, 0, x2, x3 == 0⟩ : Bx).port, (⟨id, 1 + x1, 0, x2, x3 == 0⟩ : Bx).cold⟩ : Bx).cls, vi (⟨(⟨id, 1 + x1, 0, x2, x3 == 0⟩ : Bx).id, 31, (⟨id, 1 + x1, 0, x2, x3 == 0⟩ : Bx).cls, (⟨id, 1 + x1, 0, x2, x3 == 0⟩ : Bx).port, (⟨id, 1 + x1, 0, x2, x3 == 0⟩ : Bx).cold⟩ : Bx).port, .bool (⟨(⟨id, 1 + x1, 0, x2, x3 == 0⟩ : Bx).id, 31, (⟨id, 1 + x1, 0, x2, x3 == 0⟩ : Bx).cls, (⟨id, 1 + x1, 0, x2, x3 == 0⟩ : Bx).port, (⟨id, 1 + x1, 0, x2, x3 == 0⟩ : Bx).cold⟩ : Bx).cold]) (by simp [results, Try.results59, go_sem, r0, r1, r2, r3, r4]) rfl ⟨(⟨(⟨id, 1 + x1, 0, x2, x3 == 0⟩ : Bx).id, 31, (⟨id, 1 + x1, 0, x2, x3 == 0⟩ : Bx).cls, (⟨id, 1 + x1, 0, x2, x3 == 0⟩ : Bx).port, (⟨id, 1 + x1, 0, x2, x3 == 0⟩ : Bx).cold⟩ : Bx), rfl, (HR0.out.far (grown5 _ _ _ _ _ _ _ _ _ _ _ _) (fun q hq => by injection hq with hq; omega)).mono (by omega), grown_past HG0.out (grown5 _ _ _ _ _ _ _ _ _ _ _ _) (fun q hq => by injection hq with hq; omega)⟩
      · skip
        go_wp2_with fail
        refine (pick_any lim g _ 2 _ (HR6.out.alloc _) (by omega)).mono ?_
        rintro e w7 ⟨v, rfl, hv, hvb, -, hr7, hg7⟩
        have hvc := hvb (by omega)
        have HR7 := Lib.hid hr7
        have hs7 := hg7.size
        simp only [World.size_alloc] at hs7
        have HG7 := Lib.hid ((grown_alloc HG6.out _).trans hg7)
        have HZ := Lib.hid ((HZ.out.alloc _).farG hg7 (by omega))
        have HB := Lib.hid ((HB.out.alloc _).farG hg7 (by omega))
        have hbl : w7.heap[w6.heap.size]? = some (.cells #[vi (-1), vi 4] 3 (0, 0)) := (hg7.block _ (by simp) (by intro e; injection e with e; omega)).trans (heap_alloc_new w6 _)
        have hc0 : w7.cell? ⟨w6.heap.size, 0, none⟩ = some (vi (-1)) := by rw [cell_of_row _ _ 0 _ _ _ hbl]; rfl
        have hc1 : w7.cell? ⟨w6.heap.size, 1, none⟩ = some (vi 4) := by rw [cell_of_row _ _ 1 _ _ _ hbl]; rfl
        clear hr7 hg7 hbl hvb
        have hvc2 : v = 0 ∨ v = 1 := by omega
        clear hv hvc
        rcases hvc2 with rfl | rfl
        · skip
          have HP := Lib.hid (HB.out.put1 2 (by omega) (⟨(⟨id, 1 + x1, 0, x2, x3 == 0⟩ : Bx).id, (⟨id, 1 + x1, 0, x2, x3 == 0⟩ : Bx).wt, (-1), (⟨id, 1 + x1, 0, x2, x3 == 0⟩ : Bx).port, (⟨id, 1 + x1, 0, x2, x3 == 0⟩ : Bx).cold⟩ : Bx) (vi (-1)) rfl)
          have hfB := HB.out.frozen 2
          obtain ⟨hb0, hb1, hb2, hb3, hb4⟩ := HB.out.cell5h
          have HB := Lib.hid HP.out.1
          have HR0 := Lib.hid (HR7.out.far HP.out.2 (fun q hq => by injection hq with hq; omega))
          have HG0 := Lib.hid (grown_past HG7.out HP.out.2 (fun q hq => by injection hq with hq; omega))
          have HZ := Lib.hid (HZ.out.far HP.out.2 (fun q e1 e2 => by injection e1 with e1; injection e1 with e1; injection e2 with e2; omega))
          clear HP
          obtain ⟨hb0, hb1, hb2, hb3, hb4⟩ := HB.out.cell5h
          obtain ⟨hz0, hz1, hz2, hz3, hz4⟩ := HZ.out.cell5h
          have hf0 := HZ.out.frozen 0
          have hf1 := HZ.out.frozen 1
          have hf2 := HZ.out.frozen 2
          have hf3 := HZ.out.frozen 3
          have hf4 := HZ.out.frozen 4
          obtain ⟨r0, r1, r2, r3, r4⟩ := (HZ.out.put51 (⟨(⟨id, 1 + x1, 0, x2, x3 == 0⟩ : Bx).id, (⟨id, 1 + x1, 0, x2, x3 == 0⟩ : Bx).wt, (-1), (⟨id, 1 + x1, 0, x2, x3 == 0⟩ : Bx).port, (⟨id, 1 + x1, 0, x2, x3 == 0⟩ : Bx).cold⟩ : Bx)).cell5h
          dsimp only at r0 r1 r2 r3 r4
          go_wp2
          refine bodyPost_ret (v := .agg #[vi (⟨(⟨id, 1 + x1, 0, x2, x3 == 0⟩ : Bx).id, (⟨id, 1 + x1, 0, x2, x3 == 0⟩ : Bx).wt, (-1), (⟨id, 1 + x1, 0, x2, x3 == 0⟩ : Bx).port, (⟨id, 1 + x1, 0, x2, x3 == 0⟩ : Bx).cold⟩ : Bx).id, vi (⟨(⟨id, 1 + x1, 0, x2, x3 == 0⟩ : Bx).id, (⟨id, 1 + x1, 0, x2, x3 == 0⟩ : Bx).wt, (-1), (⟨id, 1 + x1, 0, x2, x3 == 0⟩ : Bx).port, (⟨id, 1 + x1, 0, x2, x3 == 0⟩ : Bx).cold⟩ : Bx).wt, vi (⟨(⟨id, 1 + x1, 0, x2, x3 == 0⟩ : Bx).id, (⟨id, 1 + x1, 0, x2, x3 == 0⟩ : Bx).wt, (-1), (⟨id, 1 + x1, 0, x2, x3 == 0⟩ : Bx).port, (⟨id, 1 + x1, 0, x2, x3 == 0⟩ : Bx).cold⟩ : Bx).cls, vi (⟨(⟨id, 1 + x1, 0, x2, x3 == 0⟩ : Bx).id, (⟨id, 1 + x1, 0, x2, x3 == 0⟩ : Bx).wt, (-1), (⟨id, 1 + x1, 0, x2, x3 == 0⟩ : Bx).port, (⟨id, 1 + x1, 0, x2, x3 == 0⟩ : Bx).cold⟩ : Bx).port, .bool (⟨(⟨id, 1 + x1, 0, x2, x3 == 0⟩ : Bx).id, (⟨id, 1 + x1, 0, x2, x3 == 0⟩ : Bx).wt, (-1), (⟨id, 1 + x1, 0, x2, x3 == 0⟩ : Bx).port, (⟨id, 1 + x1, 0, x2, x3 == 0⟩ : Bx).cold⟩ : Bx).cold]) (by simp [results, Try.results59, go_sem, r0, r1, r2, r3, r4]) rfl ⟨(⟨(⟨id, 1 + x1, 0, x2, x3 == 0⟩ : Bx).id, (⟨id, 1 + x1, 0, x2, x3 == 0⟩ : Bx).wt, (-1), (⟨id, 1 + x1, 0, x2, x3 == 0⟩ : Bx).port, (⟨id, 1 + x1, 0, x2, x3 == 0⟩ : Bx).cold⟩ : Bx), rfl, (HR0.out.far (grown5 _ _ _ _ _ _ _ _ _ _ _ _) (fun q hq => by injection hq with hq; omega)).mono (by omega), grown_past HG0.out (grown5 _ _ _ _ _ _ _ _ _ _ _ _) (fun q hq => by injection hq with hq; omega)⟩
        · skip
          have HP := Lib.hid (HB.out.put1 2 (by omega) (⟨(⟨id, 1 + x1, 0, x2, x3 == 0⟩ : Bx).id, (⟨id, 1 + x1, 0, x2, x3 == 0⟩ : Bx).wt, 4, (⟨id, 1 + x1, 0, x2, x3 == 0⟩ : Bx).port, (⟨id, 1 + x1, 0, x2, x3 == 0⟩ : Bx).cold⟩ : Bx) (vi 4) rfl)
          have hfB := HB.out.frozen 2
          obtain ⟨hb0, hb1, hb2, hb3, hb4⟩ := HB.out.cell5h
          have HB := Lib.hid HP.out.1
          have HR0 := Lib.hid (HR7.out.far HP.out.2 (fun q hq => by injection hq with hq; omega))
          have HG0 := Lib.hid (grown_past HG7.out HP.out.2 (fun q hq => by injection hq with hq; omega))
          have HZ := Lib.hid (HZ.out.far HP.out.2 (fun q e1 e2 => by injection e1 with e1; injection e1 with e1; injection e2 with e2; omega))
          clear HP
          obtain ⟨hb0, hb1, hb2, hb3, hb4⟩ := HB.out.cell5h
          obtain ⟨hz0, hz1, hz2, hz3, hz4⟩ := HZ.out.cell5h
          have hf0 := HZ.out.frozen 0
          have hf1 := HZ.out.frozen 1
          have hf2 := HZ.out.frozen 2
          have hf3 := HZ.out.frozen 3
          have hf4 := HZ.out.frozen 4
          obtain ⟨r0, r1, r2, r3, r4⟩ := (HZ.out.put51 (⟨(⟨id, 1 + x1, 0, x2, x3 == 0⟩ : Bx).id, (⟨id, 1 + x1, 0, x2, x3 == 0⟩ : Bx).wt, 4, (⟨id, 1 + x1, 0, x2, x3 == 0⟩ : Bx).port, (⟨id, 1 + x1, 0, x2, x3 == 0⟩ : Bx).cold⟩ : Bx)).cell5h
          dsimp only at r0 r1 r2 r3 r4
          go_wp2
          refine bodyPost_ret (v := .agg #[vi (⟨(⟨id, 1 + x1, 0, x2, x3 == 0⟩ : Bx).id, (⟨id, 1 + x1, 0, x2, x3 == 0⟩ : Bx).wt, 4, (⟨id, 1 + x1, 0, x2, x3 == 0⟩ : Bx).port, (⟨id, 1 + x1, 0, x2, x3 == 0⟩ : Bx).cold⟩ : Bx).id, vi (⟨(⟨id, 1 + x1, 0, x2, x3 == 0⟩ : Bx).id, (⟨id, 1 + x1, 0, x2, x3 == 0⟩ : Bx).wt, 4, (⟨id, 1 + x1, 0, x2, x3 == 0⟩ : Bx).port, (⟨id, 1 + x1, 0, x2, x3 == 0⟩ : Bx).cold⟩ : Bx).wt, vi (⟨(⟨id, 1 + x1, 0, x2, x3 == 0⟩ : Bx).id, (⟨id, 1 + x1, 0, x2, x3 == 0⟩ : Bx).wt, 4, (⟨id, 1 + x1, 0, x2, x3 == 0⟩ : Bx).port, (⟨id, 1 + x1, 0, x2, x3 == 0⟩ : Bx).cold⟩ : Bx).cls, vi (⟨(⟨id, 1 + x1, 0, x2, x3 == 0⟩ : Bx).id, (⟨id, 1 + x1, 0, x2, x3 == 0⟩ : Bx).wt, 4, (⟨id, 1 + x1, 0, x2, x3 == 0⟩ : Bx).port, (⟨id, 1 + x1, 0, x2, x3 == 0⟩ : Bx).cold⟩ : Bx).port, .bool (⟨(⟨id, 1 + x1, 0, x2, x3 == 0⟩ : Bx).id, (⟨id, 1 + x1, 0, x2, x3 == 0⟩ : Bx).wt, 4, (⟨id, 1 + x1, 0, x2, x3 == 0⟩ : Bx).port, (⟨id, 1 + x1, 0, x2, x3 == 0⟩ : Bx).cold⟩ : Bx).cold]) (by simp [results, Try.results59, go_sem, r0, r1, r2, r3, r4]) rfl ⟨(⟨(⟨id, 1 + x1, 0, x2, x3 == 0⟩ : Bx).id, (⟨id, 1 + x1, 0, x2, x3 == 0⟩ : Bx).wt, 4, (⟨id, 1 + x1, 0, x2, x3 == 0⟩ : Bx).port, (⟨id, 1 + x1, 0, x2, x3 == 0⟩ : Bx).cold⟩ : Bx), rfl, (HR0.out.far (grown5 _ _ _ _ _ _ _ _ _ _ _ _) (fun q hq => by injection hq with hq; omega)).mono (by omega), grown_past HG0.out (grown5 _ _ _ _ _ _ _ _ _ _ _ _) (fun q hq => by injection hq with hq; omega)⟩
      · skip
        go_wp2_with fail
        refine (pick_any lim g _ 2 _ (HR6.out.alloc _) (by omega)).mono ?_
        rintro e w7 ⟨v, rfl, hv, hvb, -, hr7, hg7⟩
        have hvc := hvb (by omega)
        have HR7 := Lib.hid hr7
        have hs7 := hg7.size
        simp only [World.size_alloc] at hs7
        have HG7 := Lib.hid ((grown_alloc HG6.out _).trans hg7)
        have HZ := Lib.hid ((HZ.out.alloc _).farG hg7 (by omega))
        have HB := Lib.hid ((HB.out.alloc _).farG hg7 (by omega))
        have hbl : w7.heap[w6.heap.size]? = some (.cells #[vi (-1), vi 7] 3 (0, 0)) := (hg7.block _ (by simp) (by intro e; injection e with e; omega)).trans (heap_alloc_new w6 _)
        have hc0 : w7.cell? ⟨w6.heap.size, 0, none⟩ = some (vi (-1)) := by rw [cell_of_row _ _ 0 _ _ _ hbl]; rfl
        have hc1 : w7.cell? ⟨w6.heap.size, 1, none⟩ = some (vi 7) := by rw [cell_of_row _ _ 1 _ _ _ hbl]; rfl
        clear hr7 hg7 hbl hvb
        have hvc2 : v = 0 ∨ v = 1 := by omega
        clear hv hvc
        rcases hvc2 with rfl | rfl
        · skip
          have HP := Lib.hid (HB.out.put1 3 (by omega) (⟨(⟨id, 1 + x1, 0, x2, x3 == 0⟩ : Bx).id, (⟨id, 1 + x1, 0, x2, x3 == 0⟩ : Bx).wt, (⟨id, 1 + x1, 0, x2, x3 == 0⟩ : Bx).cls, (-1), (⟨id, 1 + x1, 0, x2, x3 == 0⟩ : Bx).cold⟩ : Bx) (vi (-1)) rfl)
          have hfB := HB.out.frozen 3
          obtain ⟨hb0, hb1, hb2, hb3, hb4⟩ := HB.out.cell5h
          have HB := Lib.hid HP.out.1
          have HR0 := Lib.hid (HR7.out.far HP.out.2 (fun q hq => by injection hq with hq; omega))
          have HG0 := Lib.hid (grown_past HG7.out HP.out.2 (fun q hq => by injection hq with hq; omega))
          have HZ := Lib.hid (HZ.out.far HP.out.2 (fun q e1 e2 => by injection e1 with e1; injection e1 with e1; injection e2 with e2; omega))
          clear HP
          obtain ⟨hb0, hb1, hb2, hb3, hb4⟩ := HB.out.cell5h
          obtain ⟨hz0, hz1, hz2, hz3, hz4⟩ := HZ.out.cell5h
          have hf0 := HZ.out.frozen 0
          have hf1 := HZ.out.frozen 1
          have hf2 := HZ.out.frozen 2
          have hf3 := HZ.out.frozen 3
          have hf4 := HZ.out.frozen 4
          obtain ⟨r0, r1, r2, r3, r4⟩ := (HZ.out.put51 (⟨(⟨id, 1 + x1, 0, x2, x3 == 0⟩ : Bx).id, (⟨id, 1 + x1, 0, x2, x3 == 0⟩ : Bx).wt, (⟨id, 1 + x1, 0, x2, x3 == 0⟩ : Bx).cls, (-1), (⟨id, 1 + x1, 0, x2, x3 == 0⟩ : Bx).cold⟩ : Bx)).cell5h
          dsimp only at r0 r1 r2 r3 r4
          go_wp2
          refine bodyPost_ret (v := .agg #[vi (⟨(⟨id, 1 + x1, 0, x2, x3 == 0⟩ : Bx).id, (⟨id, 1 + x1, 0, x2, x3 == 0⟩ : Bx).wt, (⟨id, 1 + x1, 0, x2, x3 == 0⟩ : Bx).cls, (-1), (⟨id, 1 + x1, 0, x2, x3 == 0⟩ : Bx).cold⟩ : Bx).id, vi (⟨(⟨id, 1 + x1, 0, x2, x3 == 0⟩ : Bx).id, (⟨id, 1 + x1, 0, x2, x3 == 0⟩ : Bx).wt, (⟨id, 1 + x1, 0, x2, x3 == 0⟩ : Bx).cls, (-1), (⟨id, 1 + x1, 0, x2, x3 == 0⟩ : Bx).cold⟩ : Bx).wt, vi (⟨(⟨id, 1 + x1, 0, x2, x3 == 0⟩ : Bx).id, (⟨id, 1 + x1, 0, x2, x3 == 0⟩ : Bx).wt, (⟨id, 1 + x1, 0, x2, x3 == 0⟩ : Bx).cls, (-1), (⟨id, 1 + x1, 0, x2, x3 == 0⟩ : Bx).cold⟩ : Bx).cls, vi (⟨(⟨id, 1 + x1, 0, x2, x3 == 0⟩ : Bx).id, (⟨id, 1 + x1, 0, x2, x3 == 0⟩ : Bx).wt, (⟨id, 1 + x1, 0, x2, x3 == 0⟩ : Bx).cls, (-1), (⟨id, 1 + x1, 0, x2, x3 == 0⟩ : Bx).cold⟩ : Bx).port, .bool (⟨(⟨id, 1 + x1, 0, x2, x3 == 0⟩ : Bx).id, (⟨id, 1 + x1, 0, x2, x3 == 0⟩ : Bx).wt, (⟨id, 1 + x1, 0, x2, x3 == 0⟩ : Bx).cls, (-1), (⟨id, 1 + x1, 0, x2, x3 == 0⟩ : Bx).cold⟩ : Bx).cold]) (by simp [results, Try.results59, go_sem, r0, r1, r2, r3, r4]) rfl ⟨(⟨(⟨id, 1 + x1, 0, x2, x3 == 0⟩ : Bx).id, (⟨id, 1 + x1, 0, x2, x3 == 0⟩ : Bx).wt, (⟨id, 1 + x1, 0, x2, x3 == 0⟩ : Bx).cls, (-1), (⟨id, 1 + x1, 0, x2, x3 == 0⟩ : Bx).cold⟩ : Bx), rfl, (HR0.out.far (grown5 _ _ _ _ _ _ _ _ _ _ _ _) (fun q hq => by injection hq with hq; omega)).mono (by omega), grown_past HG0.out (grown5 _ _ _ _ _ _ _ _ _ _ _ _) (fun q hq => by injection hq with hq; omega)⟩
        · skip
          have HP := Lib.hid (HB.out.put1 3 (by omega) (⟨(⟨id, 1 + x1, 0, x2, x3 == 0⟩ : Bx).id, (⟨id, 1 + x1, 0, x2, x3 == 0⟩ : Bx).wt, (⟨id, 1 + x1, 0, x2, x3 == 0⟩ : Bx).cls, 7, (⟨id, 1 + x1, 0, x2, x3 == 0⟩ : Bx).cold⟩ : Bx) (vi 7) rfl)
          have hfB := HB.out.frozen 3
          obtain ⟨hb0, hb1, hb2, hb3, hb4⟩ := HB.out.cell5h
          have HB := Lib.hid HP.out.1
          have HR0 := Lib.hid (HR7.out.far HP.out.2 (fun q hq => by injection hq with hq; omega))
          have HG0 := Lib.hid (grown_past HG7.out HP.out.2 (fun q hq => by injection hq with hq; omega))
          have HZ := Lib.hid (HZ.out.far HP.out.2 (fun q e1 e2 => by injection e1 with e1; injection e1 with e1; injection e2 with e2; omega))
          clear HP
          obtain ⟨hb0, hb1, hb2, hb3, hb4⟩ := HB.out.cell5h
          obtain ⟨hz0, hz1, hz2, hz3, hz4⟩ := HZ.out.cell5h
          have hf0 := HZ.out.frozen 0
          have hf1 := HZ.out.frozen 1
          have hf2 := HZ.out.frozen 2
          have hf3 := HZ.out.frozen 3
          have hf4 := HZ.out.frozen 4
          obtain ⟨r0, r1, r2, r3, r4⟩ := (HZ.out.put51 (⟨(⟨id, 1 + x1, 0, x2, x3 == 0⟩ : Bx).id, (⟨id, 1 + x1, 0, x2, x3 == 0⟩ : Bx).wt, (⟨id, 1 + x1, 0, x2, x3 == 0⟩ : Bx).cls, 7, (⟨id, 1 + x1, 0, x2, x3 == 0⟩ : Bx).cold⟩ : Bx)).cell5h
          dsimp only at r0 r1 r2 r3 r4
          go_wp2
          refine bodyPost_ret (v := .agg #[vi (⟨(⟨id, 1 + x1, 0, x2, x3 == 0⟩ : Bx).id, (⟨id, 1 + x1, 0, x2, x3 == 0⟩ : Bx).wt, (⟨id, 1 + x1, 0, x2, x3 == 0⟩ : Bx).cls, 7, (⟨id, 1 + x1, 0, x2, x3 == 0⟩ : Bx).cold⟩ : Bx).id, vi (⟨(⟨id, 1 + x1, 0, x2, x3 == 0⟩ : Bx).id, (⟨id, 1 + x1, 0, x2, x3 == 0⟩ : Bx).wt, (⟨id, 1 + x1, 0, x2, x3 == 0⟩ : Bx).cls, 7, (⟨id, 1 + x1, 0, x2, x3 == 0⟩ : Bx).cold⟩ : Bx).wt, vi (⟨(⟨id, 1 + x1, 0, x2, x3 == 0⟩ : Bx).id, (⟨id, 1 + x1, 0, x2, x3 == 0⟩ : Bx).wt, (⟨id, 1 + x1, 0, x2, x3 == 0⟩ : Bx).cls, 7, (⟨id, 1 + x1, 0, x2, x3 == 0⟩ : Bx).cold⟩ : Bx).cls, vi (⟨(⟨id, 1 + x1, 0, x2, x3 == 0⟩ : Bx).id, (⟨id, 1 + x1, 0, x2, x3 == 0⟩ : Bx).wt, (⟨id, 1 + x1, 0, x2, x3 == 0⟩ : Bx).cls, 7, (⟨id, 1 + x1, 0, x2, x3 == 0⟩ : Bx).cold⟩ : Bx).port, .bool (⟨(⟨id, 1 + x1, 0, x2, x3 == 0⟩ : Bx).id, (⟨id, 1 + x1, 0, x2, x3 == 0⟩ : Bx).wt, (⟨id, 1 + x1, 0, x2, x3 == 0⟩ : Bx).cls, 7, (⟨id, 1 + x1, 0, x2, x3 == 0⟩ : Bx).cold⟩ : Bx).cold]) (by simp [results, Try.results59, go_sem, r0, r1, r2, r3, r4]) rfl ⟨(⟨(⟨id, 1 + x1, 0, x2, x3 == 0⟩ : Bx).id, (⟨id, 1 + x1, 0, x2, x3 == 0⟩ : Bx).wt, (⟨id, 1 + x1, 0, x2, x3 == 0⟩ : Bx).cls, 7, (⟨id, 1 + x1, 0, x2, x3 == 0⟩ : Bx).cold⟩ : Bx), rfl, (HR0.out.far (grown5 _ _ _ _ _ _ _ _ _ _ _ _) (fun q hq => by injection hq with hq; omega)).mono (by omega), grown_past HG0.out (grown5 _ _ _ _ _ _ _ _ _ _ _ _) (fun q hq => by injection hq with hq; omega)⟩
end Go.Proofs.Ytjhbmikohcbkkaa
