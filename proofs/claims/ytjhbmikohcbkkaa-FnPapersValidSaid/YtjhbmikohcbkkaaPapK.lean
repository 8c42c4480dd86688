/-
  Contracts: papers are drawn.
-/
import Derived.Test.YtjhbmikohcbkkaaPapM
import Derived.Test.YtjhbmikohcbkkaaPapN
namespace Go.Proofs.Ytjhbmikohcbkkaa
open Go.RowKit
set_option linter.unusedVariables false
set_option maxRecDepth 100000

/-- The bound of the reader's place: the deed's picks are done or not. -/
def papC (l : Array Bool) : Int := if l.getD 2 false then 8 else 0
theorem papC_same {l : Array Bool} {i : Nat} (h : (i != 2) = true) : papC (l.setIfInBounds i true) = papC l := by
  have h : i ≠ 2 := by simpa using h
  unfold papC
  rw [getD_set_ne false h]
theorem papC_deed {l : Array Bool} (hl : l.size = 10) (hu : l.getD 2 true = false) : papC (l.setIfInBounds 2 true) = papC l + 8 := by
  have hi : 2 < l.size := by omega
  have h0 : l.getD 2 false = false := by simp [hi] at hu ⊢; exact hu
  have h1 : (l.setIfInBounds 2 true).getD 2 false = true := by simp [hi]
  unfold papC
  rw [h0, h1]; simp
theorem papS_same {w : World} {lim g : Nat} {wx : World} {A : Option Addr} {n c : Nat} {B : Option Addr} {m d : Nat} {K : Int} {l : Array Bool} {i : Nat} (hi : (i != 2) = true) (h : DrP w lim g wx A n c B m d (K + papC l)) : DrP w lim g wx A n c B m d (K + papC (l.setIfInBounds i true)) := by
  rw [papC_same hi]; exact h
theorem papS_deed {w : World} {lim g : Nat} {wx : World} {A : Option Addr} {n c : Nat} {B : Option Addr} {m d : Nat} {K : Int} {l : Array Bool} (hl : l.size = 10) (hu : l.getD 2 true = false) (h : DrP w lim g wx A n c B m d (K + (papC l + 8))) : DrP w lim g wx A n c B m d (K + papC (l.setIfInBounds 2 true)) := by
  rw [papC_deed hl hu]; exact h
theorem papC_le (l : Array Bool) : papC l ≤ 8 := by unfold papC; split <;> omega

set_option maxHeartbeats 8000000 in
theorem l20Papers_any (lim g : Nat) (N : Int) (w : World) (h : Rdr w lim g N) (hN : N ≤ 50000000) :
    Calls Try.prog 49 #[.pointer (some ⟨g, 0, none⟩), vi 2] w (DrawPap w lim g N 100) := by
  have hgs := h.lt
  have HD0 : Hid (DrP w lim g ((w.alloc (.cells #[.slice none 0 0, .slice none 0 0] 37)).alloc (.cells #[.slice none 0 0, .slice none 0 0] 37)) none 0 0 none 0 0 N) := Lib.hid
    ⟨(h.alloc _).alloc _, grown_alloc (grown_alloc (World.grownBy.refl _ _) _) _, (heap_alloc_old _ _ (by simp)).trans (heap_alloc_new w _), by have := heap_alloc_new (w.alloc (.cells #[.slice none 0 0, .slice none 0 0] 37)) (.cells #[.slice none 0 0, .slice none 0 0] 37); rwa [World.size_alloc] at this, ⟨[], Own.nil_ _ _⟩, ⟨[], OwnI.nil_ _ _⟩, hgs.2⟩
  clear h
  go_enter Try.func49, Try.ntmps49
  go_wp2_with fail
  refine (pick_any lim g N 12 _ HD0.out.rdr (by omega)).mono ?_
  rintro e w1 ⟨x1, rfl, hx1, hx1b, -, hr1, hg1⟩
  have hx1c := hx1b (by omega)
  have HD1 := Lib.hid (HD0.out.read hr1 hg1)
  obtain ⟨k0, rfl⟩ : ∃ k : Nat, x1 = k := ⟨x1.toNat, by omega⟩
  clear HD0 hr1 hg1 hx1b
  have hk0 : k0 ≤ 11 := by omega
  go_wp2
  go_loopw [6] (fun i wr => ∃ (k n m : Nat) (A : Option Addr) (c : Nat) (B : Option Addr) (d : Nat), k ≤ 11 ∧ i = vi k ∧ n + k ≤ 11 ∧ m + k ≤ 11 ∧ DrP w lim g wr A n c B m d (N + 1 + 8 * (11 - k))) (fun i _ => (intOf i).toNat)
  case atStart => exact ⟨k0, 0, 0, none, 0, none, 0, hk0, rfl, by omega, by omega, HD1.out.mono (by omega)⟩
  case round =>
    obtain ⟨k, n, m, A, c, B, d, hk, rfl, hn, hm, hd⟩ := hrel
    have HD := Lib.hid hd
    clear hd HD1
    by_cases hk1 : 0 < k
    · go_wp2
      refine wp_region_og (n := 66) (fun l wx => DrP w lim g wx A n c B m d (N + 1 + 8 * (11 - k) + papC l)) (papA g (w.heap.size + 2) A n c B m d) (by kernel_rfl) rfl (by kernel_rfl) ?start (og_each ?steps) ?fin
      case start =>
        show DrP w lim g (wr.drewN 1) A n c B m d _
        exact (HD.out.mono (by simp [papC])).drewN 1
      case steps =>
        clear HD
        refine ⟨?_, ?_, ?_, ?_, ?_, ?_, ?_, ?_, ?_, ?_, trivial⟩
        · intro l a w1 hl hu hb hS hd _
          have hl10 : l.size = 10 := hl
          clear hl
          have e5 : a.tmps.getD 5 undef = .pointer (some ⟨w.heap.size + 1, 0, none⟩) := (hb.other 5 (og_free (by kernel_rfl))).trans rfl
          have e5 := og_slot e5
          obtain ⟨q0, q1, _, _⟩ := hS.cells
          refine og_value (v := .agg #[.slice A n c, .slice B m d]) (w1 := w1) ?_ ⟨_, rfl, papS_same rfl hS, rfl, fun _ _ _ _ _ _ h => h⟩
          clear hS hd
          simp [go_sem, e5, q0, q1]
        · intro l a w1 hl hu hb hS hd _
          have hl10 : l.size = 10 := hl
          clear hl
          have e0 : a.eval (.tmp 0) = .pointer (some ⟨g, 0, none⟩) := (hb.other 0 (og_free (by kernel_rfl))).trans rfl
          exact og_value ((BigFrame.run_move (Operand.tmp 0) rfl _).trans (by rw [e0])) ⟨_, rfl, papS_same rfl hS, rfl, fun _ _ _ _ _ _ h => h⟩
        · intro l a w1 hl hu hb hS hd _
          have hl10 : l.size = 10 := hl
          clear hl
          have e0 : a.tmps.getD 18 undef = .pointer (some ⟨g, 0, none⟩) := hd ⟨1, .data⟩ (by simp) rfl
          have e0 := og_slot e0
          have hle := papC_le l
          refine og_enter (f := 68) (args := #[.pointer (some ⟨g, 0, none⟩)]) (w1 := w1) (by clear hS hd; simp [go_sem, e0]) ?_
          refine (l20PaperDeed_any lim g _ w1 hS.rdr (by omega)).mono ?_
          rintro e w2 ⟨x, y, z, rfl, hx, hy, hz, hr, hg⟩
          exact ⟨_, rfl, _, rfl, papS_deed hl10 hu ((hS.read hr hg).mono (by omega)), ⟨x, y, z, rfl, hx, hy, hz⟩, fun j _ u _ _ _ h => papA_read hg (by omega) j u h⟩
        · intro l a w1 hl hu hb hS hd _
          have hl10 : l.size = 10 := hl
          clear hl
          have e0 : a.tmps.getD 17 undef = .agg #[.slice A n c, .slice B m d] := hd ⟨0, .data⟩ (by simp) rfl
          obtain ⟨x, y, z, e1, hx, hy, hz⟩ : ∃ x y z : Int, a.tmps.getD 19 undef = .agg #[vi x, vi y, vi z] ∧ (0 ≤ x ∧ x ≤ 5) ∧ (-10 ≤ y ∧ y ≤ 10) ∧ (0 ≤ z ∧ z ≤ 5) := hd ⟨2, .data⟩ (by simp) rfl
          have e0 := og_slot e0
          have e1 := og_slot e1
          obtain ⟨hl, ho⟩ := hS.own
          obtain ⟨ll, hi⟩ := hS.left
          have hln := ho.len
          have hlm := hi.len
          have HP := PaperDo_any A c hl B d (w.heap.size + 2) ll x y z w1 ho.rd (by rw [hlm]; exact hi) (by omega) (by omega) hx hy hz
          rw [hln, hlm] at HP
          have hsz := hS.size
          refine og_enter (f := 67) (args := #[.agg #[.slice A n c, .slice B m d], .agg #[vi x, vi y, vi z]]) (w1 := w1) (by clear hS hd ho hi HP; simp [go_sem, e0, e1]) ?_
          refine HP.mono ?_
          rintro e w2 ⟨n2, m2, t, A2, c2, B2, d2, hl2, ll2, rfl, hn2, hm2, ho2, hi2, hb2⟩
          exact ⟨_, rfl, _, rfl, papS_same rfl (hS.below hb2), ⟨_, t, rfl, n2, m2, A2, c2, B2, d2, hl2, ll2, rfl, hn2, hm2, ho2.mono hsz, hi2.mono hsz⟩, fun j _ u _ _ _ h => papA_below hb2 j u h⟩
        · intro l a w1 hl hu hb hS hd _
          have hl10 : l.size = 10 := hl
          clear hl
          have h0 := hd ⟨3, .data⟩ (by simp) rfl
          obtain ⟨u, x, e0, hu0⟩ : ∃ (u : Value) (x : Bool), a.eval (.tmp 20) = .tuple #[u, .bool x] ∧ PapV (w.heap.size + 2) (n + 1) (m + 1) u w1 := h0
          exact og_value ((BigFrame.run_move (Operand.tmp 20) rfl _).trans (by rw [e0])) ⟨_, rfl, papS_same rfl hS, ⟨u, x, rfl, hu0⟩, fun _ _ _ _ _ _ h => h⟩
        · intro l a w1 hl hu hb hS hd _
          have hl10 : l.size = 10 := hl
          clear hl
          obtain ⟨u, x, e0, hu0⟩ : ∃ (u : Value) (x : Bool), a.tmps.getD 16 undef = .tuple #[u, .bool x] ∧ PapV (w.heap.size + 2) (n + 1) (m + 1) u w1 := hd ⟨4, .data⟩ (by simp) rfl
          have e0 := og_slot e0
          refine og_value (v := u) (w1 := w1) ?_ ⟨_, rfl, papS_same rfl hS, hu0, fun _ _ _ _ _ _ h => h⟩
          clear hS hd
          simp [go_sem, e0]
        · intro l a w1 hl hu hb hS hd _
          have hl10 : l.size = 10 := hl
          clear hl
          obtain ⟨u, x, e0, hu0⟩ : ∃ (u : Value) (x : Bool), a.tmps.getD 16 undef = .tuple #[u, .bool x] ∧ PapV (w.heap.size + 2) (n + 1) (m + 1) u w1 := hd ⟨4, .data⟩ (by simp) rfl
          have e0 := og_slot e0
          refine og_value (v := .bool x) (w1 := w1) ?_ ⟨_, rfl, papS_same rfl hS, ⟨x, rfl⟩, fun _ _ _ _ _ _ h => h⟩
          clear hS hd
          simp [go_sem, e0]
        · intro l a w1 hl hu hb hS hd _
          have hl10 : l.size = 10 := hl
          clear hl
          have hsz := hS.size
          refine og_value (v := .pointer (some ⟨w1.heap.size, 0, none⟩)) (w1 := w1.alloc (.cells #[.slice none 0 0, .slice none 0 0] 37)) ?_ ⟨_, rfl, papS_same rfl (hS.alloc _), ⟨_, _, _, rfl, hsz, heap_alloc_new w1 _, PapV.nil_ _ _ _ _⟩, fun j _ u _ _ _ h => papA_below ((Below.refl _ _).alloc (Nat.le_refl _) _) j u h⟩
          clear hS hd
          simp [go_sem]
        · intro l a w1 hl hu hb hS hd _
          have hl10 : l.size = 10 := hl
          clear hl
          obtain ⟨b, u1, u2, e7, hb1, hb2, _⟩ : ∃ (b : Nat) (u1 u2 : Value), a.tmps.getD 7 undef = .pointer (some ⟨b, 0, none⟩) ∧ w.heap.size + 2 ≤ b ∧ w1.heap[b]? = some (.cells #[u1, u2] 37 (0, 0)) ∧ PapV (w.heap.size + 2) (n + 1) (m + 1) (.agg #[u1, u2]) w1 := hd ⟨7, .data⟩ (by simp) rfl
          have hv : PapV (w.heap.size + 2) (n + 1) (m + 1) (a.tmps.getD 21 undef) w1 := hd ⟨5, .data⟩ (by simp) rfl
          obtain ⟨n2, m2, A2, c2, B2, d2, hl2, ll2, e21, hn2, hm2, ho2, hi2⟩ := hv
          have hv : PapV (w.heap.size + 2) (n + 1) (m + 1) (.agg #[.slice A2 n2 c2, .slice B2 m2 d2]) w1 := ⟨n2, m2, A2, c2, B2, d2, hl2, ll2, rfl, hn2, hm2, ho2, hi2⟩
          have e7 := og_slot e7
          have e21 := og_slot e21
          have q0 : w1.cell? ⟨b, 0, none⟩ = some u1 := by rw [cell_of_row _ _ 0 _ _ _ hb2]; rfl
          have q1 : w1.cell? ⟨b, 1, none⟩ = some u2 := by rw [cell_of_row _ _ 1 _ _ _ hb2]; rfl
          have f0 : w1.frozen? ⟨b, 0, none⟩ = false := frozen_of_row _ _ 0 _ _ hb2
          have f1 : w1.frozen? ⟨b, 1, none⟩ = false := frozen_of_row _ _ 1 _ _ hb2
          refine og_skip (w1 := (w1.setCell ⟨b, 0, none⟩ (.slice A2 n2 c2)).setCell ⟨b, 1, none⟩ (.slice B2 m2 d2)) ?_ ⟨_, rfl, papS_same rfl (hS.other hb2 (grown_tr (grown_set _ _ _ _) (grown_set _ _ _ _)) hb1), trivial, fun j _ u _ _ _ h => papA_store hb2 hv j u h⟩
          clear hS hd hv ho2 hi2 hb2
          simp [go_sem, e7, e21, q0, q1, f0, f1]
        · intro l a w1 hl hu hb hS hd _
          have hl10 : l.size = 10 := hl
          clear hl
          obtain ⟨x, e0⟩ : ∃ x : Bool, a.eval (.tmp 22) = .bool x := hd ⟨6, .data⟩ (by simp) rfl
          exact og_value ((BigFrame.run_assign (Operand.tmp 22) rfl _).trans (by rw [e0])) ⟨_, rfl, papS_same rfl hS, ⟨x, rfl⟩, fun _ _ _ _ _ _ h => h⟩
      case fin =>
        intro l a w1 hb hS _ hA
        have hle := papC_le l
        have HD5 := Lib.hid (hS.mono (show N + 1 + 8 * (11 - (k : Int)) + papC l ≤ N + 1 + 8 * (11 - ((k - 1 : Nat) : Int)) by omega))
        obtain ⟨b, u1, u2, e7, hb1, hb2, hv⟩ : ∃ (b : Nat) (u1 u2 : Value), a.tmps.getD 7 undef = .pointer (some ⟨b, 0, none⟩) ∧ w.heap.size + 2 ≤ b ∧ w1.heap[b]? = some (.cells #[u1, u2] 37 (0, 0)) ∧ PapV (w.heap.size + 2) (n + 1) (m + 1) (.agg #[u1, u2]) w1 := hA 7 (by decide)
        obtain ⟨x, e8⟩ : ∃ x : Bool, a.tmps.getD 8 undef = .bool x := hA 9 (by decide)
        have hfr := og_frame hb [17, 18, 19, 20, 16, 21, 22, 7, 8] (by kernel_rfl)
        rw [hfr]
        clear hS hA hb hfr hle
        simp only [List.foldl_cons, List.foldl_nil, Act.put, List.setIfInBounds_toArray, List.set_cons_zero, List.set_cons_succ, e7, e8]
        generalize a.tmps.getD 17 undef = v17
        generalize a.tmps.getD 18 undef = v18
        generalize a.tmps.getD 19 undef = v19
        generalize a.tmps.getD 20 undef = v20
        generalize a.tmps.getD 16 undef = v16
        generalize a.tmps.getD 21 undef = v21
        generalize a.tmps.getD 22 undef = v22
        obtain ⟨n2, m2, A2, c2, B2, d2, hl2, ll2, ev, hn2, hm2, ho2, hi2⟩ := hv
        injection ev with ev
        injection ev with ev
        injection ev with ev1 ev
        injection ev with ev2 _
        subst ev1 ev2
        have q0 : w1.cell? ⟨b, 0, none⟩ = some (.slice A2 n2 c2) := by rw [cell_of_row _ _ 0 _ _ _ hb2]; rfl
        have q1 : w1.cell? ⟨b, 1, none⟩ = some (.slice B2 m2 d2) := by rw [cell_of_row _ _ 1 _ _ _ hb2]; rfl
        obtain ⟨p0, p1, f0, f1⟩ := HD5.out.cells
        have HX := Lib.hid (HD5.out.put ho2 hi2)
        have HK := Lib.hid (show k - 1 + 1 = k by omega)
        clear ho2 hi2 hb2 e7 e8
        cases x with
        | true =>
          go_wp2
          go_roundw
          case rel => exact ⟨k - 1, n2, m2, A2, c2, B2, d2, by omega, by go_num, by omega, by omega, HX.out⟩
          case measure => simp [intOf]; omega
        | false =>
          go_wp2
          go_roundw
          case rel => exact ⟨k - 1, n, m, A, c, B, d, by omega, by go_num, by omega, by omega, HD5.out⟩
          case measure => simp [intOf]; omega
    · obtain rfl : k = 0 := by omega
      go_wp2_with fail
      refine (odd_any lim g _ 2 wr HD.out.rdr (by omega) (by omega)).mono ?_
      rintro e w2 ⟨x, rfl, hr2, hg2⟩
      have HD2 := Lib.hid ((HD.out.read hr2 hg2).mono (show _ ≤ N + 90 by omega))
      clear HD hr2 hg2
      cases x with
      | false =>
        obtain ⟨p0, p1, _, _⟩ := HD2.out.cells
        obtain ⟨v0, v1, v2, v3⟩ := HD2.out.ress
        have HE := Lib.hid (HD2.out.done (N := N) (M' := 100) (by omega) (by omega) (by omega))
        obtain ⟨⟨r0, r1⟩, _⟩ := HE.out
        go_wp2
        refine bodyPost_ret (v := .agg #[.slice A n c, .slice B m d]) (by simp [results, Try.results49, go_sem, r0, r1]) rfl HE.out.2
      | true =>
        go_wp2_with fail
        refine (pick_any lim g _ 4 w2 HD2.out.rdr (by omega)).mono ?_
        rintro e w3 ⟨y, rfl, hy, hyb, -, hr3, hg3⟩
        have hyc := hyb (by omega)
        have HD3 := Lib.hid ((HD2.out.read hr3 hg3).mono (show _ ≤ N + 91 by omega))
        clear HD2 hr3 hg3 hyb
        have hy4 : y = 0 ∨ y = 1 ∨ y = 2 ∨ y = 3 := by omega
        clear hy hyc
        obtain ⟨p0, p1, f0, f1⟩ := HD3.out.cells
        rcases hy4 with rfl | rfl | rfl | rfl
        · go_wp2
          refine wp_region_og (n := 66) (HoldS w lim g A n c B m d (N + 91)) (holdA g w.heap.size A n c B m d) (by kernel_rfl) rfl (by kernel_rfl) ?start (og_each ?steps) ?fin
          case start => exact HoldS.of HD3.out
          case steps =>
            clear HD3 p0 p1 f0 f1
            refine ⟨?_, ?_, ?_, ?_, ?_, ?_, ?_, ?_, ?_, ?_, ?_, ?_, trivial⟩
            · intro l a w4 hl hu hb hS hd _
              have hl12 : l.size = 12 := hl
              clear hl
              have e5 : a.tmps.getD 5 undef = .pointer (some ⟨w.heap.size + 1, 0, none⟩) := (hb.other 5 (og_free (by kernel_rfl))).trans rfl
              have e5 := og_slot e5
              refine og_value (v := .pointer (some ⟨w.heap.size + 1, 0, none⟩)) (w1 := w4) ?_ ⟨_, rfl, hS.same rfl, rfl, fun _ _ _ _ _ _ h => h⟩
              clear hS hd
              simp [go_sem, e5]
            · intro l a w4 hl hu hb hS hd hq
              have hl12 : l.size = 12 := hl
              clear hl
              have h11 := hq 11 _ rfl ⟨⟨1, .phase⟩, by simp, rfl, rfl⟩
              obtain ⟨u, hbx, hux⟩ := hS.box
              obtain rfl := hux h11
              have e0 : a.tmps.getD 34 undef = .pointer (some ⟨w.heap.size + 1, 0, none⟩) := hd ⟨0, .data⟩ (by simp) rfl
              have e0 := og_slot e0
              have q0 : w4.cell? ⟨w.heap.size + 1, 0, none⟩ = some (.slice A n c) := by rw [cell_of_row _ _ 0 _ _ _ hbx]; rfl
              refine og_value (v := .slice A n c) (w1 := w4) ?_ ⟨_, rfl, hS.same rfl, rfl, fun _ _ _ _ _ _ h => h⟩
              clear hS hd hq hbx
              simp [go_sem, e0, q0]
            · intro l a w4 hl hu hb hS hd _
              have hl12 : l.size = 12 := hl
              clear hl
              have hsz := hS.size
              have haH := hS.aH
              refine og_value (v := .slice (some ⟨w4.heap.size, 0, none⟩) 2 2) (w1 := w4.alloc (.cells #[vi 0, vi 8] 3)) ?_ ⟨_, rfl, (hS.same rfl).below ((Below.refl _ _).alloc (Nat.le_refl _) _), ⟨_, rfl, ⟨hsz, fun q e => by have := haH q e; omega⟩, heap_alloc_new w4 _⟩, fun j _ u _ _ _ h => holdA_below ((Below.refl _ _).alloc (Nat.le_refl _) _) j u h⟩
              clear hS hd
              simp [go_sem]
            · intro l a w4 hl hu hb hS hd _
              have hl12 : l.size = 12 := hl
              clear hl
              have e0 : a.eval (.tmp 0) = .pointer (some ⟨g, 0, none⟩) := (hb.other 0 (og_free (by kernel_rfl))).trans rfl
              exact og_value ((BigFrame.run_move (Operand.tmp 0) rfl _).trans (by rw [e0])) ⟨_, rfl, hS.same rfl, rfl, fun _ _ _ _ _ _ h => h⟩
            · intro l a w4 hl hu hb hS hd _
              have hl12 : l.size = 12 := hl
              clear hl
              have e0 : a.tmps.getD 37 undef = .pointer (some ⟨g, 0, none⟩) := hd ⟨3, .data⟩ (by simp) rfl
              have e0 := og_slot e0
              have hNl : (N + 91 + if l.getD 4 false then 1 else 0) ≤ 1000000000 := by split <;> omega
              refine og_enter (f := 47) (args := #[.pointer (some ⟨g, 0, none⟩), vi 2]) (w1 := w4) (by clear hS hd; simp [go_sem, e0]) ?_
              refine (pick_any lim g _ 2 w4 hS.rdr hNl).mono ?_
              rintro e w5 ⟨z, rfl, hz, hzb, -, hr, hg⟩
              have hzc := hzb (by omega)
              exact ⟨_, rfl, _, rfl, hS.pick hl12 hu hr hg, ⟨z, rfl, hz, by omega⟩, fun j _ u _ _ _ h => holdA_read hg hgs.2 j u h⟩
            · intro l a w4 hl hu hb hS hd _
              have hl12 : l.size = 12 := hl
              clear hl
              obtain ⟨b, e0, hnb, hbx⟩ : ∃ b, a.tmps.getD 36 undef = .slice (some ⟨b, 0, none⟩) 2 2 ∧ NewB (w.heap.size + 2) A b ∧ w4.heap[b]? = some (.cells #[vi 0, vi 8] 3 (0, 0)) := hd ⟨2, .data⟩ (by simp) rfl
              obtain ⟨z, e1, hz0, hz1⟩ : ∃ z : Int, a.tmps.getD 38 undef = vi z ∧ 0 ≤ z ∧ z ≤ 1 := hd ⟨4, .data⟩ (by simp) rfl
              have e0 := og_slot e0
              have e1 := og_slot e1
              obtain ⟨q, rfl⟩ : ∃ q : Nat, z = q := ⟨z.toNat, by omega⟩
              have hq2 : q < 2 := by omega
              refine og_value (v := .pointer (some ⟨b, q, none⟩)) (w1 := w4) ?_ ⟨_, rfl, hS.same rfl, ⟨b, q, rfl, hq2, hnb, hbx⟩, fun _ _ _ _ _ _ h => h⟩
              clear hS hd
              simp [go_sem, e0, e1]
              intro hq8
              omega
            · intro l a w4 hl hu hb hS hd _
              have hl12 : l.size = 12 := hl
              clear hl
              obtain ⟨b, q, e0, hq2, hnb, hbx⟩ : ∃ b q : Nat, a.tmps.getD 39 undef = .pointer (some ⟨b, q, none⟩) ∧ q < 2 ∧ NewB (w.heap.size + 2) A b ∧ w4.heap[b]? = some (.cells #[vi 0, vi 8] 3 (0, 0)) := hd ⟨5, .data⟩ (by simp) rfl
              have e0 := og_slot e0
              obtain ⟨z, hz⟩ : ∃ z : Int, w4.cell? ⟨b, q, none⟩ = some (vi z) := by
                rw [cell_of_row _ _ q _ _ _ hbx]
                match q, hq2 with
                | 0, _ => exact ⟨0, rfl⟩
                | 1, _ => exact ⟨8, rfl⟩
              refine og_value (v := vi z) (w1 := w4) ?_ ⟨_, rfl, hS.same rfl, ⟨z, rfl⟩, fun _ _ _ _ _ _ h => h⟩
              clear hS hd
              simp [go_sem, e0, hz]
            · intro l a w4 hl hu hb hS hd _
              have hl12 : l.size = 12 := hl
              clear hl
              obtain ⟨z, e0⟩ : ∃ z : Int, a.tmps.getD 40 undef = vi z := hd ⟨6, .data⟩ (by simp) rfl
              have e0 := og_slot e0
              refine og_value (v := .agg #[vi 500, vi z]) (w1 := w4) ?_ ⟨_, rfl, hS.same rfl, ⟨z, rfl⟩, fun _ _ _ _ _ _ h => h⟩
              clear hS hd
              simp [go_sem, e0]
            · intro l a w4 hl hu hb hS hd _
              have hl12 : l.size = 12 := hl
              clear hl
              obtain ⟨z, e0⟩ : ∃ z : Int, a.tmps.getD 41 undef = .agg #[vi 500, vi z] := hd ⟨7, .data⟩ (by simp) rfl
              have e0 := og_slot e0
              have hsz := hS.size
              have haH := hS.aH
              refine og_value (v := .slice (some ⟨w4.heap.size, 0, none⟩) 1 1) (w1 := w4.alloc (.cells #[vi 500, vi z] 51)) ?_ ⟨_, rfl, (hS.same rfl).below ((Below.refl _ _).alloc (Nat.le_refl _) _), ⟨_, z, rfl, ⟨hsz, fun q e => by have := haH q e; omega⟩, heap_alloc_new w4 _⟩, fun j _ u _ _ _ h => holdA_below ((Below.refl _ _).alloc (Nat.le_refl _) _) j u h⟩
              clear hS hd
              simp [go_sem, e0]
            · intro l a w4 hl hu hb hS hd _
              have hl12 : l.size = 12 := hl
              clear hl
              obtain ⟨hl, ho⟩ := hS.own (by simp [hl12] at hu ⊢; exact hu)
              have e0 : a.eval (.tmp 35) = .slice A n c := hd ⟨1, .data⟩ (by simp) rfl
              obtain ⟨b, z, e1, _, hbx⟩ : ∃ (b : Nat) (z : Int), a.eval (.tmp 42) = .slice (some ⟨b, 0, none⟩) 1 1 ∧ NewB (w.heap.size + 2) A b ∧ w4.heap[b]? = some (.cells #[vi 500, vi z] 51 (0, 0)) := hd ⟨8, .data⟩ (by simp) rfl
              have hstep := fun K Q o h1 h2 h3 => step_app_Hold (ops := #[]) (o := o) (a := a) (Q := Q) (K := K) (G := True) (w := w4) h1 (.tmp 35) (.tmp 42) h2 (w.heap.size + 2) A n c hl e0 ho (some ⟨b, 0, none⟩) 1 1 [(500, z)] e1 (one_hold hbx) rfl (n + 1) _ rfl rfl (by omega) hS.size h3
              have hend := fun K Q o (h1 : o.guard = none) h2 h3 => (if_pos (by simp [Region.wanted, h1] : Region.wanted o (yielded #[] a.tmps) = true)).mp (hstep K Q o h1 h2 h3)
              refine hend _ _ _ rfl rfl ?_
              intro A8 c8 w8 ho8 hg8
              refine ⟨_, rfl, hS.app hl12 hg8, ⟨A8, c8, _, rfl, ho8⟩, fun j oj u hj hne he h => holdA_app hg8 j hne (fun e => ?_) u h⟩
              subst e
              have hj2 := Option.some.inj hj
              subst hj2
              exact he ⟨9, .data⟩ (by simp) rfl rfl
            · intro l a w4 hl hu hb hS hd _
              have hl12 : l.size = 12 := hl
              clear hl
              have e5 : a.tmps.getD 5 undef = .pointer (some ⟨w.heap.size + 1, 0, none⟩) := (hb.other 5 (og_free (by kernel_rfl))).trans rfl
              have e5 := og_slot e5
              refine og_value (v := .pointer (some ⟨w.heap.size + 1, 0, none⟩)) (w1 := w4) ?_ ⟨_, rfl, hS.same rfl, rfl, fun _ _ _ _ _ _ h => h⟩
              clear hS hd
              simp [go_sem, e5]
            · intro l a w4 hl hu hb hS hd _
              have hl12 : l.size = 12 := hl
              clear hl
              have e0 : a.tmps.getD 44 undef = .pointer (some ⟨w.heap.size + 1, 0, none⟩) := hd ⟨10, .data⟩ (by simp) rfl
              obtain ⟨A8, c8, hl8, e1, ho8⟩ : ∃ (A8 : Option Addr) (c8 : Nat) (hl8 : List (Int × Int)), a.tmps.getD 43 undef = .slice A8 (n + 1) c8 ∧ Own encP 51 w4 (w.heap.size + 2) A8 (n + 1) c8 hl8 := hd ⟨9, .data⟩ (by simp) rfl
              have e0 := og_slot e0
              have e1 := og_slot e1
              obtain ⟨u, hbx, _⟩ := hS.box
              have q0 : w4.cell? ⟨w.heap.size + 1, 0, none⟩ = some u := by rw [cell_of_row _ _ 0 _ _ _ hbx]; rfl
              have f0 : w4.frozen? ⟨w.heap.size + 1, 0, none⟩ = false := frozen_of_row _ _ 0 _ _ hbx
              have hst := hS.store (A8 := A8) (n8 := n + 1) (c8 := c8) hl12
              refine og_skip (w1 := w4.setCell ⟨w.heap.size + 1, 0, none⟩ (.slice A8 (n + 1) c8)) ?_ ⟨_, rfl, hst.1, ⟨A8, c8, hl8, hst.2, ho8.farG (grown_set _ _ _ _) (by omega)⟩, fun j _ u _ hne _ h => holdA_store (grown_set _ _ _ _) j hne u h⟩
              clear hS hd hst ho8 hbx
              simp [go_sem, e0, e1, q0, f0]
          case fin =>
            intro l a w4 hb hS _ hA
            obtain ⟨A8, c8, hl8, hb8, ho8⟩ : ∃ (A8 : Option Addr) (c8 : Nat) (hl8 : List (Int × Int)), w4.heap[w.heap.size + 1]? = some (.cells #[.slice A8 (n + 1) c8, .slice B m d] 37 (0, 0)) ∧ Own encP 51 w4 (w.heap.size + 2) A8 (n + 1) c8 hl8 := hA 11 (by decide)
            have HW := Lib.hid (hS.end_ hb8 ho8)
            have hfr := og_frame hb [34, 35, 36, 37, 38, 39, 40, 41, 42, 43, 44] (by kernel_rfl)
            rw [hfr]
            clear hS hA hb hfr hb8 ho8 HD3 p0 p1 f0 f1
            simp only [List.foldl_cons, List.foldl_nil, Act.put, List.setIfInBounds_toArray, List.set_cons_zero, List.set_cons_succ]
            generalize a.tmps.getD 34 undef = v34
            generalize a.tmps.getD 35 undef = v35
            generalize a.tmps.getD 36 undef = v36
            generalize a.tmps.getD 37 undef = v37
            generalize a.tmps.getD 38 undef = v38
            generalize a.tmps.getD 39 undef = v39
            generalize a.tmps.getD 40 undef = v40
            generalize a.tmps.getD 41 undef = v41
            generalize a.tmps.getD 42 undef = v42
            generalize a.tmps.getD 43 undef = v43
            generalize a.tmps.getD 44 undef = v44
            obtain ⟨p0, p1, _, _⟩ := HW.out.cells
            obtain ⟨v0, v1, v2, v3⟩ := HW.out.ress
            have HE := Lib.hid (HW.out.done (N := N) (M' := 100) (by omega) (by omega) (by omega))
            obtain ⟨⟨r0, r1⟩, _⟩ := HE.out
            go_wp2
            refine bodyPost_ret (v := .agg #[.slice A8 (n + 1) c8, .slice B m d]) (by simp [results, Try.results49, go_sem, r0, r1]) rfl HE.out.2
        · obtain ⟨ll, hi⟩ := HD3.out.left
          have HI := Lib.hid hi
          have hsz := HD3.out.size
          clear hi
          go_wp2_with (at_builtin; refine app_int rfl (.tmp 48) (.tmp 49) rfl (w.heap.size + 2) B m d ll rfl (HI.out.alloc _) (some ⟨w3.heap.size, 0, none⟩) 1 1 [0] rfl (RdI.one _ _) rfl (by omega) (by simp; omega) ?_; intro B8 d8 w8 hi8 hg8; have HX := Lib.hid (HD3.out.appL ((Below.refl _ _).alloc (Nat.le_refl _) _) hg8 hi8); obtain ⟨q1, g1, _⟩ := HX.out; have HW := Lib.hid HX.out.2.2; obtain ⟨p0, p1, _, _⟩ := HW.out.cells; obtain ⟨v0, v1, v2, v3⟩ := HW.out.ress; have HE := Lib.hid (HW.out.done (N := N) (M' := 100) (by omega) (by omega) (by omega)); obtain ⟨⟨r0, r1⟩, _⟩ := HE.out; clear hi8 hg8)
          refine bodyPost_ret (v := .agg #[.slice A n c, .slice B8 (m + 1) d8]) (by simp [results, Try.results49, go_sem, r0, r1]) rfl HE.out.2
        · obtain ⟨hl, ho⟩ := HD3.out.own
          have HO := Lib.hid ho
          have hsz := HD3.out.size
          have HL := Lib.hid (Own.lit (E := 51) (e := encP) w3 #[vi 600, vi 1] ([(600, 1)] : List (Int × Int)) rfl (by simp [maxLen]))
          clear ho
          go_wp2_with (first
            | (at_builtin; refine app_Hold rfl (.tmp 55) (.tmp 57) rfl (w.heap.size + 2) A n c hl rfl (HO.out.alloc _) (some ⟨w3.heap.size, 0, none⟩) 1 1 [(600, 1)] rfl HL.out.rd rfl (by omega) (by simp; omega) ?_; intro A8 c8 w8 ho8 hg8; have HX := Lib.hid (HD3.out.appH ((Below.refl _ _).alloc (Nat.le_refl _) _) hg8 ho8); obtain ⟨q0, g0, _⟩ := HX.out; have HW0 := Lib.hid HX.out.2.2; obtain ⟨p0, p1, _, _⟩ := HW0.out.cells; obtain ⟨ll, hi⟩ := HW0.out.left; have HI := Lib.hid hi; have hsz2 := HW0.out.size; have HRI := Lib.hid (show RdI ((w8.setCell ⟨w.heap.size + 1, 0, none⟩ (.slice A8 (n + 1) c8)).alloc (.cells #[vi 600] 3)) (some ⟨w8.heap.size, 0, none⟩) [600] from by have := RdI.one (w8.setCell ⟨w.heap.size + 1, 0, none⟩ (.slice A8 (n + 1) c8)) 600; simpa using this); clear ho8 hg8 hi)
            | (at_builtin; refine app_int rfl (.tmp 61) (.tmp 62) rfl (w.heap.size + 2) B m d ll rfl (HI.out.alloc _) (some ⟨w8.heap.size, 0, none⟩) 1 1 [600] rfl HRI.out rfl (by omega) (by simp at hsz2 ⊢; omega) ?_; intro B9 d9 w9 hi9 hg9; have HX := Lib.hid (HW0.out.appL ((Below.refl _ _).alloc (Nat.le_refl _) _) hg9 hi9); obtain ⟨q1, g1, _⟩ := HX.out; have HW := Lib.hid HX.out.2.2; obtain ⟨p0, p1, _, _⟩ := HW.out.cells; obtain ⟨v0, v1, v2, v3⟩ := HW.out.ress; have HE := Lib.hid (HW.out.done (N := N) (M' := 100) (by omega) (by omega) (by omega)); obtain ⟨⟨r0, r1⟩, _⟩ := HE.out; clear hi9 hg9))
          refine bodyPost_ret (v := .agg #[.slice A8 (n + 1) c8, .slice B9 (m + 1) d9]) (by simp [results, Try.results49, go_sem, r0, r1]) rfl HE.out.2
        · have hmk : ∀ w : World, (Instr.makeSlice 30 (.int .i64 13) (.int .i64 13)).run Try.prog w = .ok (.slice (some ⟨w.heap.size, 0, none⟩) 13 13) (w.alloc (.cells (madeCells #[vi 0] 13) 3)) := fun w => make_int 13 (by omega) w
          have HM := Lib.hid (OwnI.made w3 13 (by simp [maxLen]))
          have hsz := HD3.out.size
          have HW := Lib.hid (HD3.out.putL ((Below.refl _ _).alloc (Nat.le_refl _) _) (HM.out.mono hsz))
          obtain ⟨_, q1, _, g1⟩ := (HD3.out.alloc (.cells (madeCells #[vi 0] 13) 3)).cells
          obtain ⟨p0, p1, _, _⟩ := HW.out.cells; obtain ⟨v0, v1, v2, v3⟩ := HW.out.ress; have HE := Lib.hid (HW.out.done (N := N) (M' := 100) (by omega) (by omega) (by omega)); obtain ⟨⟨r0, r1⟩, _⟩ := HE.out
          go_wp2
          refine bodyPost_ret (v := .agg #[.slice A n c, .slice (some ⟨w3.heap.size, 0, none⟩) 13 13]) (by simp [results, Try.results49, go_sem, r0, r1]) rfl HE.out.2
end Go.Proofs.Ytjhbmikohcbkkaa
