/-
  Contracts: the draws of the laws on bookings.
-/
import Derived.Test.YtnniogdnlcokmaaBookDraw
namespace Go.Proofs.Ytnniogdnlcokmaa
open Go.RowKit
set_option linter.unusedVariables false
set_option maxRecDepth 100000

theorem results_tmp3 {fn : Func} {t u v : Tmp} (h : fn.results = #[.tmp t, .tmp u, .tmp v]) (tmps : Array Value) (P : Program) (w : World) :
    (results fn tmps).run P w = .ok (.tuple #[tmps.getD t undef, tmps.getD u undef, tmps.getD v undef]) w := by
  simp [results, h]
theorem results_tmp4 {fn : Func} {t u v x : Tmp} (h : fn.results = #[.tmp t, .tmp u, .tmp v, .tmp x]) (tmps : Array Value) (P : Program) (w : World) :
    (results fn tmps).run P w = .ok (.tuple #[tmps.getD t undef, tmps.getD u undef, tmps.getD v undef, tmps.getD x undef]) w := by
  simp [results, h]

theorem DrawBookingsValid_any (A : Option Addr) (c : Nat) (l : List Int) (w : World) (h : RdB w w.heap.size A l) (hcap : l.length ≤ c) :
    Calls Try.prog 31 #[.slice A l.length c] w fun e w' => ∃ (A : Option Addr) (c : Nat) (l : List (Int × Int)) (room : Int), e = .returned (.tuple #[.slice A l.length c, vi room]) ∧ Own encP 36 w' w.heap.size A l.length c l ∧ l.length ≤ 14 ∧ (0 ≤ room ∧ room ≤ 4) ∧ Below w.heap.size w w' := by
  have H := Lib.hid (open_any A c l w h hcap)
  clear h hcap
  go_enter Try.func31, Try.ntmps31
  go_wp2_with fail
  refine H.out.mono ?_
  rintro e w1 ⟨rfl, hr1, hb1, hs1⟩
  have HR1 := Lib.hid hr1
  have HB1 := Lib.hid hb1
  have hlt1 := hr1.lt
  have hz1 := hb1.size
  clear hr1 hb1 hs1 H
  go_wp2_with fail
  refine (l20Bookings_any w.heap.size w.heap.size 0 2 w1 HR1.out (by omega) (by omega) (by omega)).mono ?_
  rintro e w2 ⟨A2, c2, l2, room, rfl, ho2, hhi, hrm1, hrm2, hr2, hg2⟩
  have HO2 := Lib.hid ho2
  have HG2 := Lib.hid hg2
  have HR2 := Lib.hid (hr2.mono (show _ ≤ (200 : Int) by omega))
  clear ho2 hr2 hg2
  have HBL := Lib.hid (grown_all HB1.out HG2.out (Nat.le_refl _))
  go_wp2
  go_ret2
  exact ⟨A2, c2, l2, room, rfl, HO2.out.mono hz1, hhi, ⟨by omega, by omega⟩, HBL.out⟩

theorem DrawBookedHour_any (A : Option Addr) (c : Nat) (l : List Int) (w : World) (h : RdB w w.heap.size A l) (hcap : l.length ≤ c) :
    Calls Try.prog 35 #[.slice A l.length c] w fun e w' => ∃ (A : Option Addr) (c : Nat) (l : List (Int × Int)) (room : Int) (z0 : Int), e = .returned (.tuple #[.slice A l.length c, vi room, vi z0]) ∧ Own encP 36 w' w.heap.size A l.length c l ∧ l.length ≤ 14 ∧ (0 ≤ room ∧ room ≤ 4) ∧ (0 ≤ z0 ∧ z0 ≤ 19) ∧ Below w.heap.size w w' := by
  have H := Lib.hid (open_any A c l w h hcap)
  clear h hcap
  go_enter Try.func35, Try.ntmps35
  go_wp2_with fail
  refine H.out.mono ?_
  rintro e w1 ⟨rfl, hr1, hb1, hs1⟩
  have HR1 := Lib.hid hr1
  have HB1 := Lib.hid hb1
  have hlt1 := hr1.lt
  have hz1 := hb1.size
  clear hr1 hb1 hs1 H
  go_wp2_with fail
  refine (l20Bookings_any w.heap.size w.heap.size 0 9 w1 HR1.out (by omega) (by omega) (by omega)).mono ?_
  rintro e w2 ⟨A2, c2, l2, room, rfl, ho2, hhi, hrm1, hrm2, hr2, hg2⟩
  have HO2 := Lib.hid ho2
  have HG2 := Lib.hid hg2
  have HR2 := Lib.hid (hr2.mono (show _ ≤ (200 : Int) by omega))
  clear ho2 hr2 hg2
  go_wp2_with fail
  refine (pick_any w.heap.size w.heap.size _ 20 _ HR2.out (by omega)).mono ?_
  rintro e w3 ⟨x3, rfl, hx3, hx3b, -, hr3, hg3⟩
  have hx3c := hx3b (by omega)
  clear hx3b
  have HR3 := Lib.hid (hr3.mono (show _ ≤ (210 : Int) by omega))
  have HG3 := Lib.hid (HG2.out.trans hg3)
  have HO3 := Lib.hid (HO2.out.farG hg3 hlt1.2)
  clear hr3 hg3
  have HBL := Lib.hid (grown_all HB1.out HG3.out (Nat.le_refl _))
  go_wp2
  refine bodyPost_ret (results_tmp3 rfl _ _ _) rfl ?_
  exact ⟨A2, c2, l2, room, _, rfl, HO3.out.mono hz1, hhi, ⟨by omega, by omega⟩, ⟨by omega, by omega⟩, HBL.out⟩

theorem DrawCancel_any (A : Option Addr) (c : Nat) (l : List Int) (w : World) (h : RdB w w.heap.size A l) (hcap : l.length ≤ c) :
    Calls Try.prog 27 #[.slice A l.length c] w fun e w' => ∃ (A : Option Addr) (c : Nat) (l : List (Int × Int)) (room : Int) (z0 : Int), e = .returned (.tuple #[.slice A l.length c, vi room, vi z0]) ∧ Own encP 36 w' w.heap.size A l.length c l ∧ l.length ≤ 14 ∧ (0 ≤ room ∧ room ≤ 4) ∧ (0 ≤ z0 ∧ z0 ≤ 19) ∧ Below w.heap.size w w' := by
  have H := Lib.hid (DrawBookedHour_any A c l w h hcap)
  clear h hcap
  go_enter Try.func27, Try.ntmps27
  go_wp2_with fail
  refine H.out.mono ?_
  rintro e w1 ⟨A1, c1, l1, room, z0, rfl, ho, hl, hr, hz, hb⟩
  have HO := Lib.hid ho
  have HB := Lib.hid hb
  clear ho hb H
  go_wp2
  refine bodyPost_ret (results_tmp3 rfl _ _ _) rfl ?_
  exact ⟨A1, c1, l1, room, z0, rfl, HO.out, hl, hr, hz, HB.out⟩

theorem DrawBook_any (A : Option Addr) (c : Nat) (l : List Int) (w : World) (h : RdB w w.heap.size A l) (hcap : l.length ≤ c) :
    Calls Try.prog 18 #[.slice A l.length c] w fun e w' => ∃ (A : Option Addr) (c : Nat) (l : List (Int × Int)) (room : Int) (z0 z1 : Int), e = .returned (.tuple #[.slice A l.length c, vi room, vi z0, vi z1]) ∧ Own encP 36 w' w.heap.size A l.length c l ∧ l.length ≤ 14 ∧ (0 ≤ room ∧ room ≤ 4) ∧ (-100 ≤ z0 ∧ z0 ≤ 100) ∧ (-100 ≤ z1 ∧ z1 ≤ 100) ∧ Below w.heap.size w w' := by
  have H := Lib.hid (open_any A c l w h hcap)
  clear h hcap
  go_enter Try.func18, Try.ntmps18
  go_wp2_with fail
  refine H.out.mono ?_
  rintro e w1 ⟨rfl, hr1, hb1, hs1⟩
  have HR1 := Lib.hid hr1
  have HB1 := Lib.hid hb1
  have hlt1 := hr1.lt
  have hz1 := hb1.size
  clear hr1 hb1 hs1 H
  go_wp2_with fail
  refine (l20Bookings_any w.heap.size w.heap.size 0 9 w1 HR1.out (by omega) (by omega) (by omega)).mono ?_
  rintro e w2 ⟨A2, c2, l2, room, rfl, ho2, hhi, hrm1, hrm2, hr2, hg2⟩
  have HO2 := Lib.hid ho2
  have HG2 := Lib.hid hg2
  have HR2 := Lib.hid (hr2.mono (show _ ≤ (200 : Int) by omega))
  clear ho2 hr2 hg2
  go_wp2_with fail
  refine (pick_any w.heap.size w.heap.size _ 20 _ HR2.out (by omega)).mono ?_
  rintro e w3 ⟨x3, rfl, hx3, hx3b, -, hr3, hg3⟩
  have hx3c := hx3b (by omega)
  clear hx3b
  have HR3 := Lib.hid (hr3.mono (show _ ≤ (210 : Int) by omega))
  have HG3 := Lib.hid (HG2.out.trans hg3)
  have HO3 := Lib.hid (HO2.out.farG hg3 hlt1.2)
  clear hr3 hg3
  go_wp2_with fail
  refine (pick_any w.heap.size w.heap.size _ 20 _ HR3.out (by omega)).mono ?_
  rintro e w4 ⟨x4, rfl, hx4, hx4b, -, hr4, hg4⟩
  have hx4c := hx4b (by omega)
  clear hx4b
  have HR4 := Lib.hid (hr4.mono (show _ ≤ (220 : Int) by omega))
  have HG4 := Lib.hid (HG3.out.trans hg4)
  have HO4 := Lib.hid (HO3.out.farG hg4 hlt1.2)
  clear hr4 hg4
  have e4 : Int.tdiv x4 19 = x4 / 19 := Int.tdiv_eq_ediv_of_nonneg hx4
  go_wp2_with fail
  refine (pick_any w.heap.size w.heap.size _ 6 _ HR4.out (by omega)).mono ?_
  rintro e w5 ⟨x5, rfl, hx5, hx5b, -, hr5, hg5⟩
  have hx5c := hx5b (by omega)
  clear hx5b
  have HR5 := Lib.hid (hr5.mono (show _ ≤ (230 : Int) by omega))
  have HG5 := Lib.hid (HG4.out.trans hg5)
  have HO5 := Lib.hid (HO4.out.farG hg5 hlt1.2)
  clear hr5 hg5
  go_wp2_with fail
  refine (pick_any w.heap.size w.heap.size _ 20 _ HR5.out (by omega)).mono ?_
  rintro e w6 ⟨x6, rfl, hx6, hx6b, -, hr6, hg6⟩
  have hx6c := hx6b (by omega)
  clear hx6b
  have HR6 := Lib.hid (hr6.mono (show _ ≤ (240 : Int) by omega))
  have HG6 := Lib.hid (HG5.out.trans hg6)
  have HO6 := Lib.hid (HO5.out.farG hg6 hlt1.2)
  clear hr6 hg6
  have e6 : Int.tdiv x6 19 = x6 / 19 := Int.tdiv_eq_ediv_of_nonneg hx6
  have HBL := Lib.hid (grown_all HB1.out HG6.out (Nat.le_refl _))
  go_wp2
  refine bodyPost_ret (results_tmp4 rfl _ _ _) rfl ?_
  exact ⟨A2, c2, l2, room, _, _, rfl, HO6.out.mono hz1, hhi, ⟨by omega, by omega⟩, ⟨by omega, by omega⟩, ⟨by omega, by omega⟩, HBL.out⟩

theorem DrawBookNext_any (A : Option Addr) (c : Nat) (l : List Int) (w : World) (h : RdB w w.heap.size A l) (hcap : l.length ≤ c) :
    Calls Try.prog 24 #[.slice A l.length c] w fun e w' => ∃ (A : Option Addr) (c : Nat) (l : List (Int × Int)) (room : Int) (z0 z1 : Int), e = .returned (.tuple #[.slice A l.length c, vi room, vi z0, vi z1]) ∧ Own encP 36 w' w.heap.size A l.length c l ∧ l.length ≤ 14 ∧ (0 ≤ room ∧ room ≤ 4) ∧ (-100 ≤ z0 ∧ z0 ≤ 100) ∧ (-100 ≤ z1 ∧ z1 ≤ 100) ∧ Below w.heap.size w w' := by
  have H := Lib.hid (open_any A c l w h hcap)
  clear h hcap
  go_enter Try.func24, Try.ntmps24
  go_wp2_with fail
  refine H.out.mono ?_
  rintro e w1 ⟨rfl, hr1, hb1, hs1⟩
  have HR1 := Lib.hid hr1
  have HB1 := Lib.hid hb1
  have hlt1 := hr1.lt
  have hz1 := hb1.size
  clear hr1 hb1 hs1 H
  go_wp2_with fail
  refine (l20Bookings_any w.heap.size w.heap.size 0 9 w1 HR1.out (by omega) (by omega) (by omega)).mono ?_
  rintro e w2 ⟨A2, c2, l2, room, rfl, ho2, hhi, hrm1, hrm2, hr2, hg2⟩
  have HO2 := Lib.hid ho2
  have HG2 := Lib.hid hg2
  have HR2 := Lib.hid (hr2.mono (show _ ≤ (200 : Int) by omega))
  clear ho2 hr2 hg2
  go_wp2_with fail
  refine (pick_any w.heap.size w.heap.size _ 20 _ HR2.out (by omega)).mono ?_
  rintro e w3 ⟨x3, rfl, hx3, hx3b, -, hr3, hg3⟩
  have hx3c := hx3b (by omega)
  clear hx3b
  have HR3 := Lib.hid (hr3.mono (show _ ≤ (210 : Int) by omega))
  have HG3 := Lib.hid (HG2.out.trans hg3)
  have HO3 := Lib.hid (HO2.out.farG hg3 hlt1.2)
  clear hr3 hg3
  go_wp2_with fail
  refine (pick_any w.heap.size w.heap.size _ 7 _ HR3.out (by omega)).mono ?_
  rintro e w4 ⟨x4, rfl, hx4, hx4b, -, hr4, hg4⟩
  have hx4c := hx4b (by omega)
  clear hx4b
  have HR4 := Lib.hid (hr4.mono (show _ ≤ (220 : Int) by omega))
  have HG4 := Lib.hid (HG3.out.trans hg4)
  have HO4 := Lib.hid (HO3.out.farG hg4 hlt1.2)
  clear hr4 hg4
  go_wp2_with fail
  refine (pick_any w.heap.size w.heap.size _ 12 _ HR4.out (by omega)).mono ?_
  rintro e w5 ⟨x5, rfl, hx5, hx5b, -, hr5, hg5⟩
  have hx5c := hx5b (by omega)
  clear hx5b
  have HR5 := Lib.hid (hr5.mono (show _ ≤ (230 : Int) by omega))
  have HG5 := Lib.hid (HG4.out.trans hg5)
  have HO5 := Lib.hid (HO4.out.farG hg5 hlt1.2)
  clear hr5 hg5
  have e5 : Int.tdiv x5 11 = x5 / 11 := Int.tdiv_eq_ediv_of_nonneg hx5
  go_wp2_with fail
  refine (pick_any w.heap.size w.heap.size _ 20 _ HR5.out (by omega)).mono ?_
  rintro e w6 ⟨x6, rfl, hx6, hx6b, -, hr6, hg6⟩
  have hx6c := hx6b (by omega)
  clear hx6b
  have HR6 := Lib.hid (hr6.mono (show _ ≤ (240 : Int) by omega))
  have HG6 := Lib.hid (HG5.out.trans hg6)
  have HO6 := Lib.hid (HO5.out.farG hg6 hlt1.2)
  clear hr6 hg6
  have e6 : Int.tdiv x6 19 = x6 / 19 := Int.tdiv_eq_ediv_of_nonneg hx6
  have HBL := Lib.hid (grown_all HB1.out HG6.out (Nat.le_refl _))
  go_wp2
  refine bodyPost_ret (results_tmp4 rfl _ _ _) rfl ?_
  exact ⟨A2, c2, l2, room, _, _, rfl, HO6.out.mono hz1, hhi, ⟨by omega, by omega⟩, ⟨by omega, by omega⟩, ⟨by omega, by omega⟩, HBL.out⟩
end Go.Proofs.Ytnniogdnlcokmaa
