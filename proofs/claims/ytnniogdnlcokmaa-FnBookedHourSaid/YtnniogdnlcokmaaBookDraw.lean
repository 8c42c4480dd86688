/-
  Contracts: bookings are drawn.
-/
import Derived.Test.YtnniogdnlcokmaaReader
import Derived.Test.YtnniogdnlcokmaaBkH
import Derived.RegionTactic
import Derived.Deep.RegionWith
namespace Go.Proofs.Ytnniogdnlcokmaa
open Go.RowKit
set_option linter.unusedVariables false
set_option maxRecDepth 100000

/-- Bookings and a room, drawn. -/
def DrawBk (w : World) (lim g : Nat) (N M : Int) (e : Ending) (w' : World) : Prop :=
  ∃ (A : Option Addr) (c : Nat) (l : List (Int × Int)) (room : Int), e = .returned (.tuple #[.slice A l.length c, vi room]) ∧ Own encP 36 w' w.heap.size A l.length c l ∧ l.length ≤ 14 ∧ 0 ≤ room ∧ room ≤ 4 ∧ Rdr w' lim g (N + M) ∧ w.grownBy w' (some g)

set_option maxHeartbeats 4000000 in
theorem l20Bookings_any (lim g : Nat) (N n : Int) (w : World) (h : Rdr w lim g N) (hN : N ≤ 80000000) (hn : n ≤ 100) (hn1 : 1 ≤ n) :
    Calls Try.prog 44 #[.pointer (some ⟨g, 0, none⟩), vi n] w (DrawBk w lim g N 60) := by
  have hgs := h.lt
  have HH := Lib.hid h
  clear h
  go_enter Try.func44, Try.ntmps44
  go_wp2_with fail
  refine (pick_any lim g _ 3 _ HH.out (by omega)).mono ?_
  rintro e w1 ⟨x1, rfl, hx1, hx1b, -, hr1, hg1⟩
  have hx1c := hx1b (by omega)
  have HR1 := Lib.hid hr1
  have HG1 := Lib.hid hg1
  have hs1 := hg1.size
  clear hr1 hg1 hx1b
  go_wp2_with fail
  refine (pick_any lim g _ 11 _ (HR1.out.alloc _) (by omega)).mono ?_
  rintro e w2 ⟨x2, rfl, hx2, hx2b, -, hr2, hg2⟩
  have hx2c := hx2b (by omega)
  have HR2 := Lib.hid hr2
  have HG2 := Lib.hid ((grown_alloc HG1.out _).trans hg2)
  have HO2 := Lib.hid (((Own.none_made (e := encP) (E := 36) w1).mono hs1).farG hg2 (by omega))
  clear hr2 hg2 hx2b
  obtain ⟨n2, rfl⟩ : ∃ n2 : Nat, x2 = n2 := ⟨x2.toNat, by omega⟩
  go_wp2
  go_loopw [7, 8] (fun v i wr => ∃ (j : Nat) (A : Option Addr) (c : Nat) (l : List (Int × Int)), j ≤ 10 ∧ i = vi j ∧ v = .slice A l.length c ∧ l.length + j ≤ 10 ∧ Own encP 36 wr w.heap.size A l.length c l ∧ Rdr wr lim g (N + 2 + 2 * (10 - j)) ∧ w.grownBy wr (some g)) (fun _ i _ => (intOf i).toNat)
  case atStart => exact ⟨n2, some ⟨w1.heap.size, 0, none⟩, 0, [], by omega, rfl, rfl, by simp; omega, HO2.out, HR2.out.mono (by omega), HG2.out⟩
  case round =>
    obtain ⟨j, A, c, l, hj, rfl, rfl, hlj, ho, hr, hg⟩ := hrel
    have HO := Lib.hid ho
    have HR := Lib.hid hr
    have HG := Lib.hid hg
    have hsr := hg.size
    clear ho hr hg HO2 HR2 HG2 HH HR1 HG1
    by_cases hlt : 0 < j
    · go_wp2_with fail
      refine (pick_any lim g _ 20 _ HR.out (by omega)).mono ?_
      rintro e w3 ⟨x3, rfl, hx3, hx3b, -, hr3, hg3⟩
      have hx3c := hx3b (by omega)
      have HR3 := Lib.hid hr3
      have HG3 := Lib.hid (HG.out.trans hg3)
      have HO3 := Lib.hid (HO.out.farG hg3 hgs.2)
      clear hr3 hg3 hx3b
      go_wp2_with fail
      refine (pick_any lim g _ 6 _ HR3.out (by omega)).mono ?_
      rintro e w4 ⟨x4, rfl, hx4, hx4b, -, hr4, hg4⟩
      have hx4c := hx4b (by omega)
      have HR4 := Lib.hid hr4
      have HG4 := Lib.hid (HG3.out.trans hg4)
      have HO4 := Lib.hid (HO3.out.farG hg4 hgs.2)
      clear hr4 hg4 hx4b
      go_wp2_with fail
      refine (specBook A c l (1 + x1) x3 x4 w4 HO4.out.rd (by omega)).mono ?_
      rintro e w5 ⟨A5, c5, rfl, ho5, hb5⟩
      have HO5 := Lib.hid (HO4.out.below hb5)
      have HN5 := Lib.hid (ho5.mono (b' := w.heap.size) HG4.out.size)
      have HR5 := Lib.hid (HR4.out.below hb5)
      have HG5 := Lib.hid (grown_below HG4.out hb5)
      have hlb := length_bookL l (1 + x1) x3 x4
      clear ho5 hb5
      cases hv : bookB l (1 + x1) x3 x4 with
      | false =>
        go_wp2
        go_roundw
        case rel => exact ⟨j - 1, A, c, l, by omega, by go_num, rfl, by omega, HO5.out, HR5.out.mono (by omega), HG5.out⟩
        case measure => simp [intOf]; omega
      | true =>
        go_wp2
        go_roundw
        case rel => exact ⟨j - 1, A5, c5, bookL l (1 + x1) x3 x4, by omega, by go_num, rfl, by omega, HN5.out, HR5.out.mono (by omega), HG5.out⟩
        case measure => simp [intOf]; omega
    · obtain rfl : j = 0 := by omega
      go_wp2_with fail
      refine (odd_any lim g _ n _ HR.out (by omega) (by omega)).mono ?_
      rintro e w3 ⟨b, rfl, hr3, hg3⟩
      have HO3 := Lib.hid (HO.out.farG hg3 hgs.2)
      have HG3 := Lib.hid (HG.out.trans hg3)
      have HR3 := Lib.hid (hr3.mono (show _ ≤ N + 40 by omega))
      have hs3 := hg3.size
      clear hr3 hg3 HR HG HO
      cases b with
      | false =>
        go_wp2
        go_ret2
        exact ⟨_, c, l, _, rfl, HO3.out, by omega, by omega, by omega, HR3.out.mono (by omega), HG3.out⟩
      | true =>
        go_wp2_with fail
        refine (pick_any lim g _ 4 _ HR3.out (by omega)).mono ?_
        rintro e w4 ⟨y, rfl, hy, hyb, -, hr4, hg4⟩
        have hyc := hyb (by omega)
        have hs4 := hg4.size
        have HR4 := Lib.hid hr4
        have HG4 := Lib.hid (HG3.out.trans hg4)
        have HO4 := Lib.hid (HO3.out.farG hg4 hgs.2)
        have HI4 := Lib.hid HO4.out.in_
        clear hr4 hg4 hyb HO3 HG3 HR3
        have hy4 : y = 0 ∨ y = 1 ∨ y = 2 ∨ y = 3 := by omega
        clear hy hyc
        rcases hy4 with rfl | rfl | rfl | rfl
        · have HRA := Lib.hid (show Rdr (w4.alloc (.cells #[vi 0, vi 4] 3)).drew lim g (N + 40 + 1) from (HR4.out.alloc _).drewN 1)
          have HRB := Lib.hid (show Rdr w4.drew lim g (N + 40 + 1) from HR4.out.drewN 1)
          have HGA := Lib.hid (show w.grownBy (w4.alloc (.cells #[vi 0, vi 4] 3)).drew (some g) from only_drewN (grown_alloc HG4.out _) 1)
          have HGB := Lib.hid (show w.grownBy w4.drew (some g) from only_drewN HG4.out 1)
          have HOA := Lib.hid (show Own encP 36 (w4.alloc (.cells #[vi 0, vi 4] 3)).drew w.heap.size A l.length c l from HO4.out.alloc _)
          have HOB := Lib.hid (show Own encP 36 w4.drew w.heap.size A l.length c l from HO4.out)
          have hgs4 : g < w4.heap.size := by have := HG4.out.size; omega
          go_wp2
          go_region_with (first
            | (go_at_call 45
               refine (pick_any lim g _ 2 _ HRA.out (by omega)).mono ?_
               rintro e w5 ⟨v, rfl, hv, hvb, -, hr5, hg5⟩
               have hvc := hvb (by omega)
               have HR5 := Lib.hid hr5
               have HG5 := Lib.hid (HGA.out.trans hg5)
               have HO5 := Lib.hid (HOA.out.farG hg5 (by omega))
               have hbl : w5.heap[w4.heap.size]? = some (.cells #[vi 0, vi 4] 3 (0, 0)) := (hg5.block _ (by simp) (by intro e; injection e with e; omega)).trans (heap_alloc_new w4 _)
               have hcq : ∀ q : Nat, q < 2 → ∃ z : Int, 0 ≤ z ∧ z ≤ 4 ∧ w5.cell? ⟨w4.heap.size, q, none⟩ = some (vi z) := fun q hq => by
                 rw [cell_of_row _ _ q _ _ _ hbl]
                 match q, hq with
                 | 0, _ => exact ⟨0, by omega, by omega, rfl⟩
                 | 1, _ => exact ⟨4, by omega, by omega, rfl⟩
               obtain ⟨q, rfl⟩ : ∃ q : Nat, v = q := ⟨v.toNat, by omega⟩
               obtain ⟨z, hz0, hz4, hcz⟩ := hcq q (by omega)
               have hq2 : q < 2 := by omega
               clear hr5 hg5 hbl hvb hcq hv hvc)
            | (go_at_call 45
               refine (pick_any lim g _ 2 _ HRB.out (by omega)).mono ?_
               rintro e w5 ⟨v, rfl, hv, hvb, -, hr5, hg5⟩
               have hvc := hvb (by omega)
               have HR5 := Lib.hid (hr5.alloc (.cells #[vi 0, vi 4] 3))
               have HG5 := Lib.hid (grown_alloc (HGB.out.trans hg5) (.cells #[vi 0, vi 4] 3))
               have HO5 := Lib.hid ((HOB.out.farG hg5 hgs.2).alloc (.cells #[vi 0, vi 4] 3))
               obtain ⟨q, rfl⟩ : ∃ q : Nat, v = q := ⟨v.toNat, by omega⟩
               have hq2 : q < 2 := by omega
               have hcq : ∃ z : Int, 0 ≤ z ∧ z ≤ 4 ∧ (w5.alloc (.cells #[vi 0, vi 4] 3)).cell? ⟨w5.heap.size, q, none⟩ = some (vi z) := by
                 rw [cell_of_row _ _ q _ _ _ (heap_alloc_new w5 _)]
                 match q, hq2 with
                 | 0, _ => exact ⟨0, by omega, by omega, rfl⟩
                 | 1, _ => exact ⟨4, by omega, by omega, rfl⟩
               obtain ⟨z, hz0, hz4, hcz⟩ := hcq
               clear hr5 hg5 hvb hv hvc))
          all_goals
            go_wp2
            go_ret2
            exact ⟨A, c, l, _, rfl, HO5.out, by omega, by omega, by omega, HR5.out.mono (by omega), HG5.out⟩
        · skip
          have HL := Lib.hid (Own.lit (E := 36) (e := encP) w4 #[vi 50, vi 24] ([(50, 24)] : List (Int × Int)) rfl (by simp [maxLen]))
          go_wp2_with (at_builtin; refine app_Booking rfl (.tmp 56) (.tmp 58) rfl w.heap.size A l.length c l rfl (HO4.out.alloc _) (some ⟨w4.heap.size, 0, none⟩) 1 1 ([(50, 24)] : List (Int × Int)) rfl HL.out.rd rfl (by omega) (by have := HG4.out.size; simp; omega) ?_; intro A7 c7 w7 ho7 hg7; skip)
          have HO7 := Lib.hid ho7
          have HR7 := Lib.hid ((HR4.out.alloc (.cells #[vi 50, vi 24] 36)).far hg7 (fun k hk => by have := HI4.out k (.inr hk); omega))
          have HG7 := Lib.hid (grown_past (grown_alloc HG4.out (.cells #[vi 50, vi 24] 36)) hg7 (fun k hk => by have := HI4.out k (.inr hk); omega))
          clear ho7 hg7
          go_wp2
          go_ret2
          exact ⟨A7, c7, l ++ [(50, 24)], 1 + x1, by simp, by simpa using HO7.out, by simp; omega, by omega, by omega, HR7.out.mono (by omega), HG7.out⟩
        · skip
          have HL := Lib.hid (Own.lit (E := 36) (e := encP) w4 #[vi 50, vi 0, vi 50, vi 9] ([(50, 0), (50, 9)] : List (Int × Int)) rfl (by simp [maxLen]))
          go_wp2_with (at_builtin; refine app_Booking rfl (.tmp 63) (.tmp 66) rfl w.heap.size A l.length c l rfl (HO4.out.alloc _) (some ⟨w4.heap.size, 0, none⟩) 2 2 ([(50, 0), (50, 9)] : List (Int × Int)) rfl HL.out.rd rfl (by omega) (by have := HG4.out.size; simp; omega) ?_; intro A7 c7 w7 ho7 hg7; skip)
          have HO7 := Lib.hid ho7
          have HR7 := Lib.hid ((HR4.out.alloc (.cells #[vi 50, vi 0, vi 50, vi 9] 36)).far hg7 (fun k hk => by have := HI4.out k (.inr hk); omega))
          have HG7 := Lib.hid (grown_past (grown_alloc HG4.out (.cells #[vi 50, vi 0, vi 50, vi 9] 36)) hg7 (fun k hk => by have := HI4.out k (.inr hk); omega))
          clear ho7 hg7
          go_wp2
          go_ret2
          exact ⟨A7, c7, l ++ [(50, 0), (50, 9)], 1 + x1, by simp, by simpa using HO7.out, by simp; omega, by omega, by omega, HR7.out.mono (by omega), HG7.out⟩
        · skip
          have HL := Lib.hid (Own.lit (E := 36) (e := encP) w4 #[vi 60, vi 8, vi 61, vi 8, vi 62, vi 8, vi 63, vi 8] ([(60, 8), (61, 8), (62, 8), (63, 8)] : List (Int × Int)) rfl (by simp [maxLen]))
          go_wp2_with (at_builtin; refine app_Booking rfl (.tmp 38) (.tmp 43) rfl w.heap.size A l.length c l rfl (HO4.out.alloc _) (some ⟨w4.heap.size, 0, none⟩) 4 4 ([(60, 8), (61, 8), (62, 8), (63, 8)] : List (Int × Int)) rfl HL.out.rd rfl (by omega) (by have := HG4.out.size; simp; omega) ?_; intro A7 c7 w7 ho7 hg7; skip)
          have HO7 := Lib.hid ho7
          have HR7 := Lib.hid ((HR4.out.alloc (.cells #[vi 60, vi 8, vi 61, vi 8, vi 62, vi 8, vi 63, vi 8] 36)).far hg7 (fun k hk => by have := HI4.out k (.inr hk); omega))
          have HG7 := Lib.hid (grown_past (grown_alloc HG4.out (.cells #[vi 60, vi 8, vi 61, vi 8, vi 62, vi 8, vi 63, vi 8] 36)) hg7 (fun k hk => by have := HI4.out k (.inr hk); omega))
          clear ho7 hg7
          go_wp2
          go_ret2
          exact ⟨A7, c7, l ++ [(60, 8), (61, 8), (62, 8), (63, 8)], 1 + x1, by simp, by simpa using HO7.out, by simp; omega, by omega, by omega, HR7.out.mono (by omega), HG7.out⟩
end Go.Proofs.Ytnniogdnlcokmaa
