/-
  Contracts: trains are drawn.
-/
import Derived.Test.YtdhpjajhkeanjaaBoxDraw2
import Derived.Test.YtdhpjajhkeanjaaWagonDraw
import Derived.Test.YtdhpjajhkeanjaaTrainC
namespace Go.Proofs.Ytdhpjajhkeanjaa
open Go.RowKit
set_option linter.unusedVariables false

/-- Wagons, boxes, and where these are. -/
def DrawTr (w : World) (lim g : Nat) (N M : Int) (e : Ending) (w' : World) : Prop :=
  ∃ (A1 : Option Addr) (c1 : Nat) (wl : List (Int × Int)) (A2 : Option Addr) (c2 : Nat) (l : List Bx) (A3 : Option Addr) (c3 : Nat) (ws : List Int),
    e = .returned (.tuple #[.slice A1 wl.length c1, .slice A2 l.length c2, .slice A3 ws.length c3]) ∧ Own encP 32 w' w.heap.size A1 wl.length c1 wl ∧ Own encB 52 w' w.heap.size A2 l.length c2 l ∧ OwnI w' w.heap.size A3 ws.length c3 ws ∧
      wl.length ≤ 7 ∧ l.length ≤ 12 ∧ ws.length ≤ 11 ∧ Rdr w' lim g (N + M) ∧ w.grownBy w' (some g)

theorem l20Train_any (lim g : Nat) (N n : Int) (w : World) (h : Rdr w lim g N) (hN : N ≤ 80000000) (hn : n ≤ 100) (hn1 : 1 ≤ n) :
    Calls Try.prog 54 #[.pointer (some ⟨g, 0, none⟩), vi n] w (DrawTr w lim g N 300) := by
  have hgs := h.lt
  have HH := Lib.hid h
  clear h
  go_enter Try.func54, Try.ntmps54
  go_wp2_with fail
  refine (l20Wagons_any lim g N _ _ HH.out (by omega) (by omega)).mono ?_
  rintro e w1 ⟨A1, c1, wl, rfl, ho1, -, hwl, hr1, hg1⟩
  have HW1 := Lib.hid ho1
  have HR1 := Lib.hid hr1
  have HG1 := Lib.hid hg1
  have HIW := Lib.hid ho1.in_
  have hs1 := hg1.size
  clear ho1 hr1 hg1
  go_wp2_with fail
  refine (l20Boxes_any lim g _ _ 10 _ HR1.out (by omega) (by omega) (by omega)).mono ?_
  rintro e w2 ⟨A2, c2, l, rfl, ho2, hl12, hr2, hg2⟩
  have HW2 := Lib.hid (HW1.out.farG hg2 hgs.2)
  have HL2 := Lib.hid (ho2.mono hs1)
  have HR2 := Lib.hid hr2
  have HG2 := Lib.hid (HG1.out.trans hg2)
  have HIL := Lib.hid ho2.in_
  have hs2 := hg2.size
  clear ho2 hr2 hg2
  go_wp2_with fail
  refine (specTrainFill A1 c1 wl A2 c2 l w2 HW2.out.rd HL2.out.rd (by omega) (by omega) HL2.out.cap.1).mono ?_
  rintro e w3 ⟨A3, c3, rfl, ho3, hb3⟩
  have HW3 := Lib.hid (HW2.out.below hb3)
  have HL3 := Lib.hid (HL2.out.below hb3)
  have HR3 := Lib.hid (HR2.out.below hb3)
  have HG3 := Lib.hid (grown_below HG2.out hb3)
  have hfl := length_fillL wl l
  have hs3 := hb3.size
  have HS3 := Lib.hid ho3
  clear ho3 hb3 HW2 HL2 HR2 HG2 HW1 HR1 HG1
  obtain ⟨m, hm⟩ : ∃ m, m = (fillL wl l).length := ⟨_, rfl⟩
  rw [← hm] at hfl
  have HM := Lib.hid (show ∃ ws : List Int, ws.length = m ∧ OwnI w3 w2.heap.size A3 m c3 ws from ⟨_, hm.symm, by rw [hm]; exact HS3.out⟩)
  rw [← hm]
  clear hm HS3
  go_wp2_with fail
  go_loopw [10] (fun i wr => ∃ (k : Nat) (ws : List Int), k ≤ m ∧ i = vi k ∧ ws.length = m ∧ OwnI wr w2.heap.size A3 m c3 ws ∧ Own encP 32 wr w.heap.size A1 wl.length c1 wl ∧ Own encB 52 wr w.heap.size A2 l.length c2 l ∧ Rdr wr lim g (N + 200 + k) ∧ w.grownBy wr (some g) ∧ w2.heap.size ≤ wr.heap.size)
    (fun i _ => m - (intOf i).toNat)
  case atStart =>
    obtain ⟨ws, h1, h2⟩ := HM.out
    exact ⟨0, ws, Nat.zero_le _, rfl, h1, h2, HW3.out, HL3.out, HR3.out.mono (by omega), HG3.out, hs3⟩
  case round =>
    obtain ⟨k, ws, hk, rfl, hws, hs, hw, hl, hr, hg, hsz⟩ := hrel
    have HS := Lib.hid hs
    have HW := Lib.hid hw
    have HL := Lib.hid hl
    have HR := Lib.hid hr
    have HG := Lib.hid hg
    have hgz := hg.size
    have HWS := Lib.hid hws
    clear hs hw hl hr hg hws HM HW3 HL3 HR3 HG3
    by_cases hlt : k < m
    · rcases HS.out.form with ⟨_, e0⟩ | ⟨g3, rfl, hg31, hg32⟩
      · have := HWS.out; rw [e0] at this; simp at this; omega
      go_wp2_with fail
      refine (pick_any lim g _ 4 _ HR.out (by omega)).mono ?_
      rintro e w4 ⟨x4, rfl, hx4, hx4b, -, hr4, hg4⟩
      have HR4 := Lib.hid hr4
      have HG4 := Lib.hid (HG.out.trans hg4)
      have HS4 := Lib.hid (HS.out.farG hg4 (by omega))
      have HW4 := Lib.hid (HW.out.farG hg4 hgs.2)
      have HL4 := Lib.hid (HL.out.farG hg4 hgs.2)
      have hs4 := hg4.size
      clear hr4 hg4 hx4b HS HW HL HR HG
      by_cases h0 : x4 = 0
      · subst h0
        have hcd := HS4.out.cell k hlt
        have hcf := HS4.out.frozen k
        have HP := Lib.hid (HS4.out.put k (-1))
        go_wp2
        go_roundw
        case rel => exact ⟨k + 1, ws.set k (-1), by omega, by go_num, by rw [List.length_set]; exact HWS.out, HP.out.1,
          HW4.out.far HP.out.2 (fun q e1 e2 => by injection e2 with e2; have := HIW.out q (.inl e1); omega), HL4.out.far HP.out.2 (fun q e1 e2 => by injection e2 with e2; have := HIL.out q (.inl e1); omega),
          (HR4.out.far HP.out.2 (fun q hq => by injection hq with hq; omega)).mono (by omega), grown_past HG4.out HP.out.2 (fun q hq => by injection hq with hq; omega), by simp; omega⟩
        case measure => simp [intOf]; omega
      · have h4b : (x4 == 0) = false := by simp [h0]
        go_wp2
        go_roundw
        case rel => exact ⟨k + 1, ws, by omega, by go_num, HWS.out, HS4.out, HW4.out, HL4.out, HR4.out.mono (by omega), HG4.out, by omega⟩
        case measure => simp [intOf]; omega
    · obtain rfl : k = m := by omega
      go_wp2_with fail
      refine (odd_any lim g _ _ _ HR.out (by omega) (by omega)).mono ?_
      rintro e w4 ⟨b, rfl, hr4, hg4⟩
      have HR4 := Lib.hid (hr4.mono (show _ ≤ N + 250 by omega))
      have HG4 := Lib.hid (HG.out.trans hg4)
      have HS4 := Lib.hid (HS.out.farG hg4 (by omega))
      have HW4 := Lib.hid (HW.out.farG hg4 hgs.2)
      have HL4 := Lib.hid (HL.out.farG hg4 hgs.2)
      have hs4 := HG4.out.size
      have hs42 := hg4.size
      clear hr4 hg4 HS HW HL HR HG
      cases b with
      | true =>
        have HIS := Lib.hid HS4.out.in_
        have HLW := Lib.hid HW4.out.in_
        have HLL := Lib.hid HL4.out.in_
        go_wp2_with (at_builtin; refine app_int rfl (.tmp 40) (.tmp 41) rfl w2.heap.size A3 k c3 ws rfl (HS4.out.alloc _) (some ⟨w4.heap.size, 0, none⟩) 1 1 [0] rfl (RdI.one _ _) rfl (by omega) (by simp; omega) ?_; intro A7 c7 w7 ho7 hg7; skip)
        have HO7 := Lib.hid (ho7.mono (show w.heap.size ≤ w2.heap.size by omega))
        have HW7 := Lib.hid ((HW4.out.alloc (.cells #[vi 0] 3)).far hg7 (apart HIW.out HIS.out (by omega)))
        have HL7 := Lib.hid ((HL4.out.alloc (.cells #[vi 0] 3)).far hg7 (apart HIL.out HIS.out (by omega)))
        have HR7 := Lib.hid ((HR4.out.alloc (.cells #[vi 0] 3)).far hg7 (fun q hq => by have := HIS.out q (.inr hq); omega))
        have HG7 := Lib.hid (grown_past (grown_alloc HG4.out (.cells #[vi 0] 3)) hg7 (fun q hq => by have := HIS.out q (.inr hq); omega))
        have hk1 : (ws ++ [(0 : Int)]).length = k + 1 := by rw [List.length_append, HWS.out]; rfl
        clear ho7 hg7
        go_wp2
        refine bodyPost_ret (results_tmp3 rfl _ _ _) rfl ?_
        exact ⟨A1, c1, wl, A2, c2, l, A7, c7, ws ++ [0], by rw [hk1]; rfl, HW7.out, HL7.out, by rw [hk1]; exact HO7.out, hwl, hl12, by rw [hk1]; omega, HR7.out.mono (by omega), HG7.out⟩
      | false =>
        by_cases hk0 : 0 < k
        · go_wp2_with fail
          refine (pick_any lim g _ _ _ HR4.out (by omega)).mono ?_
          rintro e w5 ⟨x5, rfl, hx5, hx5b, -, hr5, hg5⟩
          have HR5 := Lib.hid hr5
          have HG5 := Lib.hid (HG4.out.trans hg5)
          have HS5 := Lib.hid (HS4.out.farG hg5 (by omega))
          have HW5 := Lib.hid (HW4.out.farG hg5 hgs.2)
          have HL5 := Lib.hid (HL4.out.farG hg5 hgs.2)
          clear hr5 hg5 hx5b HS4 HW4 HL4 HR4 HG4
          by_cases h0 : x5 = 0
          · subst h0
            go_wp2_with fail
            refine (pick_any lim g _ _ _ HR5.out (by omega)).mono ?_
            rintro e w6 ⟨x6, rfl, hx6, hx6b, -, hr6, hg6⟩
            have hx6c := hx6b (by omega)
            have HR6 := Lib.hid hr6
            have HG6 := Lib.hid (HG5.out.trans hg6)
            have HS6 := Lib.hid (HS5.out.farG hg6 (by omega))
            have HW6 := Lib.hid (HW5.out.farG hg6 hgs.2)
            have HL6 := Lib.hid (HL5.out.farG hg6 hgs.2)
            clear hr6 hg6 hx6b HS5 HW5 HL5 HR5 HG5
            rcases HS6.out.form with ⟨_, e0⟩ | ⟨g3, rfl, hg31, hg32⟩
            · have := HWS.out; rw [e0] at this; simp at this; omega
            have hcd := HS6.out.cell 0 hk0
            have hcf := HS6.out.frozen 0
            have HP := Lib.hid (HS6.out.put 0 (x6 - 1))
            go_wp2
            refine bodyPost_ret (results_tmp3 rfl _ _ _) rfl ?_
            exact ⟨A1, c1, wl, A2, c2, l, _, c3, ws.set 0 (x6 - 1), by rw [List.length_set, HWS.out]; rfl, HW6.out.far HP.out.2 (fun q e1 e2 => by injection e2 with e2; have := HIW.out q (.inl e1); omega),
              HL6.out.far HP.out.2 (fun q e1 e2 => by injection e2 with e2; have := HIL.out q (.inl e1); omega), by rw [List.length_set, HWS.out]; exact HP.out.1.mono (by omega), hwl, hl12, by rw [List.length_set, HWS.out]; omega,
              (HR6.out.far HP.out.2 (fun q hq => by injection hq with hq; omega)).mono (by omega), grown_past HG6.out HP.out.2 (fun q hq => by injection hq with hq; omega)⟩
          · have h5b : (x5 == 0) = false := by simp [h0]
            go_wp2
            refine bodyPost_ret (results_tmp3 rfl _ _ _) rfl ?_
            exact ⟨A1, c1, wl, A2, c2, l, A3, c3, ws, by rw [HWS.out]; rfl, HW5.out, HL5.out, by rw [HWS.out]; exact HS5.out.mono (by omega), hwl, hl12, by rw [HWS.out]; omega, HR5.out.mono (by omega), HG5.out⟩
        · go_wp2
          refine bodyPost_ret (results_tmp3 rfl _ _ _) rfl ?_
          exact ⟨A1, c1, wl, A2, c2, l, A3, c3, ws, by rw [HWS.out]; rfl, HW4.out, HL4.out, by rw [HWS.out]; exact HS4.out.mono (by omega), hwl, hl12, by rw [HWS.out]; omega, HR4.out.mono (by omega), HG4.out⟩

theorem DrawTrainValid_any (A : Option Addr) (c : Nat) (l : List Int) (w : World) (h : RdB w w.heap.size A l) (hcap : l.length ≤ c) :
    Calls Try.prog 37 #[.slice A l.length c] w fun e w' => ∃ (A1 : Option Addr) (c1 : Nat) (wl : List (Int × Int)) (A2 : Option Addr) (c2 : Nat) (l : List Bx) (A3 : Option Addr) (c3 : Nat) (ws : List Int), e = .returned (.tuple #[.slice A1 wl.length c1, .slice A2 l.length c2, .slice A3 ws.length c3]) ∧ Own encP 32 w' w.heap.size A1 wl.length c1 wl ∧ Own encB 52 w' w.heap.size A2 l.length c2 l ∧ OwnI w' w.heap.size A3 ws.length c3 ws ∧ wl.length ≤ 7 ∧ l.length ≤ 12 ∧ ws.length ≤ 11 ∧ Below w.heap.size w w' := by
  have H := Lib.hid (open_any A c l w h hcap)
  clear h hcap
  go_enter Try.func37, Try.ntmps37
  go_wp2_with fail
  refine H.out.mono ?_
  rintro e w1 ⟨rfl, hr1, hb1, hs1⟩
  have HR1 := Lib.hid hr1
  have HB1 := Lib.hid hb1
  have hlt1 := hr1.lt
  have hz1 := hb1.size
  clear hr1 hb1 hs1 H
  go_wp2_with fail
  refine (l20Train_any w.heap.size w.heap.size 0 1 w1 HR1.out (by omega) (by omega) (by omega)).mono ?_
  rintro e w2 ⟨A1, c1, wl, A2, c2, l2, A3, c3, ws, rfl, ho1, ho2, ho3, hn1, hn2, hn3, hr2, hg2⟩
  have HW2 := Lib.hid ho1
  have HL2 := Lib.hid ho2
  have HS2 := Lib.hid ho3
  have HR2 := Lib.hid hr2
  have HG2 := Lib.hid hg2
  have HB2 := Lib.hid (grown_all HB1.out hg2 (Nat.le_refl _))
  have hs2 := hg2.size
  clear ho1 ho2 ho3 hr2 hg2
  go_wp2
  refine bodyPost_ret (results_tmp3 rfl _ _ _) rfl ?_
  exact ⟨A1, c1, wl, A2, c2, l2, A3, c3, ws, rfl, HW2.out.mono hz1, HL2.out.mono hz1, HS2.out.mono hz1, hn1, hn2, hn3, HB2.out⟩

theorem DrawTrainLeft_any (A : Option Addr) (c : Nat) (l : List Int) (w : World) (h : RdB w w.heap.size A l) (hcap : l.length ≤ c) :
    Calls Try.prog 42 #[.slice A l.length c] w fun e w' => ∃ (A1 : Option Addr) (c1 : Nat) (wl : List (Int × Int)) (A2 : Option Addr) (c2 : Nat) (l : List Bx) (A3 : Option Addr) (c3 : Nat) (ws : List Int), e = .returned (.tuple #[.slice A1 wl.length c1, .slice A2 l.length c2, .slice A3 ws.length c3]) ∧ Own encP 32 w' w.heap.size A1 wl.length c1 wl ∧ Own encB 52 w' w.heap.size A2 l.length c2 l ∧ OwnI w' w.heap.size A3 ws.length c3 ws ∧ wl.length ≤ 7 ∧ l.length ≤ 12 ∧ ws.length ≤ 11 ∧ Below w.heap.size w w' := by
  have H := Lib.hid (open_any A c l w h hcap)
  clear h hcap
  go_enter Try.func42, Try.ntmps42
  go_wp2_with fail
  refine H.out.mono ?_
  rintro e w1 ⟨rfl, hr1, hb1, hs1⟩
  have HR1 := Lib.hid hr1
  have HB1 := Lib.hid hb1
  have hlt1 := hr1.lt
  have hz1 := hb1.size
  clear hr1 hb1 hs1 H
  go_wp2_with fail
  refine (l20Train_any w.heap.size w.heap.size 0 3 w1 HR1.out (by omega) (by omega) (by omega)).mono ?_
  rintro e w2 ⟨A1, c1, wl, A2, c2, l2, A3, c3, ws, rfl, ho1, ho2, ho3, hn1, hn2, hn3, hr2, hg2⟩
  have HW2 := Lib.hid ho1
  have HL2 := Lib.hid ho2
  have HS2 := Lib.hid ho3
  have HR2 := Lib.hid hr2
  have HG2 := Lib.hid hg2
  have HB2 := Lib.hid (grown_all HB1.out hg2 (Nat.le_refl _))
  have hs2 := hg2.size
  clear ho1 ho2 ho3 hr2 hg2
  go_wp2
  refine bodyPost_ret (results_tmp3 rfl _ _ _) rfl ?_
  exact ⟨A1, c1, wl, A2, c2, l2, A3, c3, ws, rfl, HW2.out.mono hz1, HL2.out.mono hz1, HS2.out.mono hz1, hn1, hn2, hn3, HB2.out⟩

theorem DrawOnWagon_any (A : Option Addr) (c : Nat) (l : List Int) (w : World) (h : RdB w w.heap.size A l) (hcap : l.length ≤ c) :
    Calls Try.prog 29 #[.slice A l.length c] w fun e w' => ∃ (A2 : Option Addr) (c2 : Nat) (l : List Bx) (A3 : Option Addr) (c3 : Nat) (ws : List Int) (z : Int), e = .returned (.tuple #[.slice A2 l.length c2, .slice A3 ws.length c3, vi z]) ∧ Own encB 52 w' w.heap.size A2 l.length c2 l ∧ OwnI w' w.heap.size A3 ws.length c3 ws ∧ l.length ≤ 12 ∧ ws.length ≤ 11 ∧ Below w.heap.size w w' := by
  have H := Lib.hid (open_any A c l w h hcap)
  clear h hcap
  go_enter Try.func29, Try.ntmps29
  go_wp2_with fail
  refine H.out.mono ?_
  rintro e w1 ⟨rfl, hr1, hb1, hs1⟩
  have HR1 := Lib.hid hr1
  have HB1 := Lib.hid hb1
  have hlt1 := hr1.lt
  have hz1 := hb1.size
  clear hr1 hb1 hs1 H
  go_wp2_with fail
  refine (l20Train_any w.heap.size w.heap.size 0 4 w1 HR1.out (by omega) (by omega) (by omega)).mono ?_
  rintro e w2 ⟨A1, c1, wl, A2, c2, l2, A3, c3, ws, rfl, ho1, ho2, ho3, hn1, hn2, hn3, hr2, hg2⟩
  have HW2 := Lib.hid ho1
  have HL2 := Lib.hid ho2
  have HS2 := Lib.hid ho3
  have HR2 := Lib.hid hr2
  have HG2 := Lib.hid hg2
  have HB2 := Lib.hid (grown_all HB1.out hg2 (Nat.le_refl _))
  have hs2 := hg2.size
  clear ho1 ho2 ho3 hr2 hg2
  go_wp2_with fail
  refine (pick_any w.heap.size w.heap.size _ 5 _ HR2.out (by omega)).mono ?_
  rintro e w3 ⟨x3, rfl, hx3, hx3b, -, hr3, hg3⟩
  have hx3c := hx3b (by omega)
  have HL3 := Lib.hid ((HL2.out.farG hg3 hlt1.2).mono hz1)
  have HS3 := Lib.hid ((HS2.out.farG hg3 hlt1.2).mono hz1)
  have HB3 := Lib.hid (grown_all HB1.out (HG2.out.trans hg3) (Nat.le_refl _))
  clear hr3 hg3 hx3b
  go_wp2
  refine bodyPost_ret (results_tmp3 rfl _ _ _) rfl ?_
  exact ⟨A2, c2, l2, A3, c3, ws, _, rfl, HL3.out, HS3.out, hn2, hn3, HB3.out⟩

theorem DrawTrainFill_any (A : Option Addr) (c : Nat) (l : List Int) (w : World) (h : RdB w w.heap.size A l) (hcap : l.length ≤ c) :
    Calls Try.prog 40 #[.slice A l.length c] w fun e w' => ∃ (A1 : Option Addr) (c1 : Nat) (wl : List (Int × Int)) (A2 : Option Addr) (c2 : Nat) (l : List Bx), e = .returned (.tuple #[.slice A1 wl.length c1, .slice A2 l.length c2]) ∧ Own encP 32 w' w.heap.size A1 wl.length c1 wl ∧ Own encB 52 w' w.heap.size A2 l.length c2 l ∧ wl.length ≤ 7 ∧ l.length ≤ 12 ∧ Below w.heap.size w w' := by
  have H := Lib.hid (open_any A c l w h hcap)
  clear h hcap
  go_enter Try.func40, Try.ntmps40
  go_wp2_with fail
  refine H.out.mono ?_
  rintro e w1 ⟨rfl, hr1, hb1, hs1⟩
  have HR1 := Lib.hid hr1
  have HB1 := Lib.hid hb1
  have hlt1 := hr1.lt
  have hz1 := hb1.size
  clear hr1 hb1 hs1 H
  go_wp2_with fail
  refine (l20Wagons_any w.heap.size w.heap.size 0 9 w1 HR1.out (by omega) (by omega)).mono ?_
  rintro e w2 ⟨A1, c1, wl, rfl, ho1, -, hwl, hr2, hg2⟩
  have HW2 := Lib.hid ho1
  have HR2 := Lib.hid hr2
  have HG2 := Lib.hid hg2
  have hs2 := hg2.size
  clear ho1 hr2 hg2
  go_wp2_with fail
  refine (l20Boxes_any w.heap.size w.heap.size _ 9 10 _ HR2.out (by omega) (by omega) (by omega)).mono ?_
  rintro e w3 ⟨A2, c2, l2, rfl, ho2, hl2, hr3, hg3⟩
  have HW3 := Lib.hid ((HW2.out.farG hg3 hlt1.2).mono hz1)
  have HL3 := Lib.hid (ho2.mono (show w.heap.size ≤ w2.heap.size by omega))
  have HB3 := Lib.hid (grown_all HB1.out (HG2.out.trans hg3) (Nat.le_refl _))
  clear ho2 hr3 hg3
  go_wp2
  go_ret2
  exact ⟨A1, c1, wl, A2, c2, l2, rfl, HW3.out, HL3.out, hwl, hl2, HB3.out⟩
end Go.Proofs.Ytdhpjajhkeanjaa
