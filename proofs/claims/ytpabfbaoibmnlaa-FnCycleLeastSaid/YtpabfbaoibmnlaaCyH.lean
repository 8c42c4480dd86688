/-
  Contracts: tasks are drawn, with an order or without.
-/
import Derived.Test.YtpabfbaoibmnlaaCyG
import Derived.Test.YtpabfbaoibmnlaaPair
import Derived.Test.YtpabfbaoibmnlaaHaulDraw3
namespace Go.Proofs.Ytpabfbaoibmnlaa
open Go.RowKit
set_option linter.unusedVariables false
set_option maxRecDepth 100000

/-- Tasks, drawn. -/
def DrawT (w : World) (lim g : Nat) (N M : Int) (e : Ending) (w' : World) : Prop :=
  ∃ (A : Option Addr) (c : Nat) (l : List (Int × Int)), e = .returned (.slice A l.length c) ∧ Own encP 46 w' w.heap.size A l.length c l ∧ l.length ≤ 7 ∧ Rdr w' lim g (N + M) ∧ w.grownBy w' (some g)

set_option maxHeartbeats 4000000 in
theorem l20Tasks_any (lim g : Nat) (N n : Int) (w : World) (h : Rdr w lim g N) (hN : N ≤ 80000000) (hn : n ≤ 100) (hn1 : 1 ≤ n) :
    Calls Try.prog 54 #[.pointer (some ⟨g, 0, none⟩), vi n] w (DrawT w lim g N 60) := by
  have hmk : ∀ w : World, (Instr.makeSlice 41 (.int .i64 7) (.int .i64 7)).run Try.prog w = .ok (.slice (some ⟨w.heap.size, 0, none⟩) 7 7) (w.alloc (.cells (madeCells #[vi 0, vi 0] (7 * 2)) 46)) := fun w => make_Task 7 (by omega) w
  have hgs := h.lt
  have HH := Lib.hid h
  clear h
  go_enter Try.func54, Try.ntmps54
  go_wp2_with fail
  refine (pick_any lim g _ 7 _ (HH.out.alloc _) (by omega)).mono ?_
  rintro e w2 ⟨x2, rfl, hx2, hx2b, -, hr2, hg2⟩
  have hx2c := hx2b (by omega)
  have HR2 := Lib.hid hr2
  have HG2 := Lib.hid ((World.grownBy_alloc w _ (some g)).trans hg2)
  have HO2 := Lib.hid ((Own.none_made (e := encP) (E := 46) w).farG hg2 (by omega))
  clear hr2 hg2 hx2b
  obtain ⟨n2, rfl⟩ : ∃ n2 : Nat, x2 = n2 := ⟨x2.toNat, by omega⟩
  go_wp2
  go_loopw [5, 6] (fun v i wr => ∃ (j : Nat) (A : Option Addr) (c : Nat) (l : List (Int × Int)) (k : Nat), j ≤ 6 ∧ i = vi j ∧ v = .slice A k c ∧ k + j ≤ 6 ∧ Own encP 46 wr w.heap.size A k c l ∧ Rdr wr lim g (N + 1 + 2 * (6 - j)) ∧ w.grownBy wr (some g)) (fun _ i _ => (intOf i).toNat)
  case atStart => exact ⟨n2, some ⟨w.heap.size, 0, none⟩, 0, [], 0, by omega, rfl, rfl, by omega, HO2.out, HR2.out.mono (by omega), HG2.out⟩
  case round =>
    obtain ⟨j, A, c, l, k, hj, rfl, rfl, hlj, ho, hr, hg⟩ := hrel
    have hll := ho.len
    have HO := Lib.hid ho
    have HR := Lib.hid hr
    have HG := Lib.hid hg
    have hsr := hg.size
    clear ho hr hg HO2 HR2 HG2 HH
    by_cases hlt : 0 < j
    · clear hmk
      go_wp2_with fail
      refine (pick_any lim g _ 9 _ HR.out (by omega)).mono ?_
      rintro e w3 ⟨x3, rfl, hx3, hx3b, -, hr3, hg3⟩
      have hx3c := hx3b (by omega)
      have HR3 := Lib.hid hr3
      have HG3 := Lib.hid (HG.out.trans hg3)
      have HO3 := Lib.hid (HO.out.farG hg3 hgs.2)
      clear hr3 hg3 hx3b
      go_wp2_with fail
      refine (pick_any lim g _ 9 _ HR3.out (by omega)).mono ?_
      rintro e w4 ⟨x4, rfl, hx4, hx4b, -, hr4, hg4⟩
      have hx4c := hx4b (by omega)
      have HR4 := Lib.hid hr4
      have HG4 := Lib.hid (HG3.out.trans hg4)
      have HO4 := Lib.hid (HO3.out.farG hg4 hgs.2)
      have HI4 := Lib.hid HO4.out.in_
      clear hr4 hg4 hx4b
      have HL := Lib.hid (Own.lit (E := 46) (e := encP) w4 #[vi x3, vi x4] ([(x3, x4)] : List (Int × Int)) rfl (by simp [maxLen]))
      go_wp2_with (at_builtin; refine app_Task rfl (.tmp 14) (.tmp 20) rfl w.heap.size A k c l rfl (HO4.out.alloc _) (some ⟨w4.heap.size, 0, none⟩) 1 1 ([(x3, x4)] : List (Int × Int)) rfl HL.out.rd rfl (by omega) (by have := HG4.out.size; simp; omega) ?_; intro A7 c7 w7 ho7 hg7; have HO7 := Lib.hid ho7; have HR7 := Lib.hid ((HR4.out.alloc (.cells #[vi x3, vi x4] 46)).far hg7 (fun k hk => by have := HI4.out k (.inr hk); omega)); have HG7 := Lib.hid (grown_past (grown_alloc HG4.out (.cells #[vi x3, vi x4] 46)) hg7 (fun k hk => by have := HI4.out k (.inr hk); omega)); clear ho7 hg7)
      go_roundw
      case rel => exact ⟨j - 1, A7, c7, _, k + 1, by omega, by go_num, rfl, by omega, HO7.out, HR7.out.mono (by omega), HG7.out⟩
      case measure => simp [intOf]; omega
    · obtain rfl : j = 0 := by omega
      go_wp2_with fail
      refine (odd_any lim g _ n _ HR.out (by omega) (by omega)).mono ?_
      rintro e w3 ⟨b, rfl, hr3, hg3⟩
      have HO3 := Lib.hid (HO.out.farG hg3 hgs.2)
      have HG3 := Lib.hid (HG.out.trans hg3)
      have HR3 := Lib.hid (hr3.mono (show _ ≤ N + 40 by omega))
      have hs3 := hg3.size
      clear hr3 hg3 HR HG HO
      cases b with
      | false =>
        clear hmk
        go_wp2
        go_ret
        exact ⟨A, c, l, by rw [hll]; rfl, by rw [hll]; exact HO3.out, by omega, HR3.out.mono (by omega), HG3.out⟩
      | true =>
        go_wp2_with fail
        refine (pick_any lim g _ 3 _ HR3.out (by omega)).mono ?_
        rintro e w4 ⟨y, rfl, hy, hyb, -, hr4, hg4⟩
        have hyc := hyb (by omega)
        have hs4 := hg4.size
        have HR4 := Lib.hid hr4
        have HG4 := Lib.hid (HG3.out.trans hg4)
        have HO4 := Lib.hid (HO3.out.farG hg4 hgs.2)
        clear hr4 hg4 hyb HO3 HG3 HR3
        have hs04 := HG4.out.size
        have hy3 : y = 0 ∨ y = 1 ∨ y = 2 := by omega
        clear hy hyc
        rcases hy3 with rfl | rfl | rfl
        · have HM := Lib.hid (Own.made (e := encP) (E := 46) w4 #[vi 0, vi 0] rfl 7 (by simp only [maxLen]; omega))
          go_wp2
          go_ret
          exact ⟨some ⟨w4.heap.size, 0, none⟩, 7, List.replicate 7 default, by rw [List.length_replicate]; rfl, by rw [List.length_replicate]; exact HM.out.mono hs04, by simp, (HR4.out.alloc _).mono (by omega), grown_alloc HG4.out _⟩
        · clear hmk
          have HL := Lib.hid (Own.lit (E := 46) (e := encP) w4 #[vi (-1), vi 0] ([(-1, 0)] : List (Int × Int)) rfl (by simp [maxLen]))
          go_wp2_with (at_builtin; refine app_Task rfl (.tmp 37) (.tmp 38) rfl w4.heap.size (some ⟨w4.heap.size, 0, none⟩) 1 1 ([(-1, 0)] : List (Int × Int)) rfl HL.out A k c l rfl (HO4.out.rd.alloc _) hll (by omega) (by simp) ?_; intro A7 c7 w7 ho7 hg7; have HO7 := Lib.hid ho7; have HR7 := Lib.hid ((HR4.out.alloc (.cells #[vi (-1), vi 0] 46)).far hg7 (fun k hk => by simp [blk] at hk; omega)); have HG7 := Lib.hid (grown_past (grown_alloc HG4.out (.cells #[vi (-1), vi 0] 46)) hg7 (fun k hk => by simp [blk] at hk; omega)); clear ho7 hg7)
          go_wp2
          go_ret
          have hl7 := HO7.out.len
          exact ⟨A7, c7, [(-1, 0)] ++ l, by rw [hl7]; rfl, by rw [hl7]; exact HO7.out.mono hs04, by rw [hl7]; omega, HR7.out.mono (by omega), HG7.out⟩
        · clear hmk
          have HL := Lib.hid (Own.lit (E := 46) (e := encP) w4 #[vi 0, vi 100] ([(0, 100)] : List (Int × Int)) rfl (by simp [maxLen]))
          go_wp2_with (at_builtin; refine app_Task rfl (.tmp 28) (.tmp 29) rfl w4.heap.size (some ⟨w4.heap.size, 0, none⟩) 1 1 ([(0, 100)] : List (Int × Int)) rfl HL.out A k c l rfl (HO4.out.rd.alloc _) hll (by omega) (by simp) ?_; intro A7 c7 w7 ho7 hg7; have HO7 := Lib.hid ho7; have HR7 := Lib.hid ((HR4.out.alloc (.cells #[vi 0, vi 100] 46)).far hg7 (fun k hk => by simp [blk] at hk; omega)); have HG7 := Lib.hid (grown_past (grown_alloc HG4.out (.cells #[vi 0, vi 100] 46)) hg7 (fun k hk => by simp [blk] at hk; omega)); clear ho7 hg7)
          go_wp2
          go_ret
          have hl7 := HO7.out.len
          exact ⟨A7, c7, [(0, 100)] ++ l, by rw [hl7]; rfl, by rw [hl7]; exact HO7.out.mono hs04, by rw [hl7]; omega, HR7.out.mono (by omega), HG7.out⟩

/-- Tasks with an order, drawn; tasks alone, drawn. -/
def DrawnTW (w : World) (e : Ending) (w' : World) : Prop :=
  ∃ (A : Option Addr) (c : Nat) (l : List (Int × Int)) (B : Option Addr) (d : Nat) (who : List Int), e = .returned (.tuple #[.slice A l.length c, .slice B who.length d]) ∧ Own encP 46 w' w.heap.size A l.length c l ∧ OwnI w' w.heap.size B who.length d who ∧ l.length ≤ 7 ∧ who.length ≤ 11 ∧ Below w.heap.size w w'
def DrawnT (w : World) (e : Ending) (w' : World) : Prop :=
  ∃ (A : Option Addr) (c : Nat) (l : List (Int × Int)), e = .returned (.slice A l.length c) ∧ Own encP 46 w' w.heap.size A l.length c l ∧ l.length ≤ 7 ∧ Below w.heap.size w w'
theorem DrawCycleEnd_any (A : Option Addr) (c : Nat) (l : List Int) (w : World) (h : RdB w w.heap.size A l) (hcap : l.length ≤ c) :
    Calls Try.prog 35 #[.slice A l.length c] w (DrawnTW w) := by
  have H := Lib.hid (open_any A c l w h hcap)
  clear h hcap
  go_enter Try.func35, Try.ntmps35
  go_wp2_with fail
  refine H.out.mono ?_
  rintro e w1 ⟨rfl, hr1, hb1, hs1⟩
  have HR1 := Lib.hid hr1
  have HB1 := Lib.hid hb1
  have hlt1 := hr1.lt
  have hz1 := hb1.size
  clear hr1 hb1 hs1 H
  go_wp2_with fail
  refine (l20Tasks_any w.heap.size w.heap.size 0 12 w1 HR1.out (by omega) (by omega) (by omega)).mono ?_
  rintro e w2 ⟨A2, c2, L2, rfl, ho2, h7, hr2, hg2⟩
  have HO2 := Lib.hid ho2
  have HR2 := Lib.hid hr2
  have HG2 := Lib.hid hg2
  have hs2 := hg2.size
  clear ho2 hr2 hg2
  go_wp2_with fail
  refine (l20Shuffle_any w.heap.size w.heap.size _ 9 L2.length w2 HR2.out (by omega) (by omega) (by omega) (by omega)).mono ?_
  rintro e w3 ⟨A3, c3, who, rfl, ho3, -, h11, hr3, hg3⟩
  have HO3 := Lib.hid ho3
  have HM3 := Lib.hid (HO2.out.farG hg3 hlt1.2)
  have HBL := Lib.hid (grown_all HB1.out (HG2.out.trans hg3) (Nat.le_refl _))
  clear ho3 hr3 hg3
  go_wp2
  go_ret2
  exact ⟨A2, c2, L2, A3, c3, who, rfl, HM3.out.mono hz1, HO3.out.mono (by omega), h7, h11, HBL.out⟩
theorem DrawCycleLeast_any (A : Option Addr) (c : Nat) (l : List Int) (w : World) (h : RdB w w.heap.size A l) (hcap : l.length ≤ c) :
    Calls Try.prog 39 #[.slice A l.length c] w (DrawnT w) := by
  have H := Lib.hid (open_any A c l w h hcap)
  clear h hcap
  go_enter Try.func39, Try.ntmps39
  go_wp2_with fail
  refine H.out.mono ?_
  rintro e w1 ⟨rfl, hr1, hb1, hs1⟩
  have HR1 := Lib.hid hr1
  have HB1 := Lib.hid hb1
  have hz1 := hb1.size
  clear hr1 hb1 hs1 H
  go_wp2_with fail
  refine (l20Tasks_any w.heap.size w.heap.size 0 9 w1 HR1.out (by omega) (by omega) (by omega)).mono ?_
  rintro e w2 ⟨A2, c2, L2, rfl, ho2, h7, hr2, hg2⟩
  have HO2 := Lib.hid ho2
  have HBL := Lib.hid (grown_all HB1.out hg2 (Nat.le_refl _))
  clear ho2 hr2 hg2
  go_wp2
  go_ret
  exact ⟨A2, c2, L2, rfl, HO2.out.mono hz1, h7, HBL.out⟩
end Go.Proofs.Ytpabfbaoibmnlaa
