/-
  Contracts: wagons are drawn.
-/
import Derived.Test.YtdhpjajhkeanjaaReader
import Derived.Test.YtdhpjajhkeanjaaAlive
import Derived.Test.YtdhpjajhkeanjaaWagonA
import Derived.Deep.DeepCutAuto
namespace Go.Proofs.Ytdhpjajhkeanjaa
open Go.RowKit
set_option linter.unusedVariables false

/-- A draw of a list of pairs, of lo to hi of them. -/
def DrawP (T : TypeId) (w : World) (lim g : Nat) (N M : Int) (lo hi : Nat) (e : Ending) (w' : World) : Prop :=
  ∃ (A : Option Addr) (c : Nat) (l : List (Int × Int)), e = .returned (.slice A l.length c) ∧ Own encP T w' w.heap.size A l.length c l ∧ lo ≤ l.length ∧ l.length ≤ hi ∧ Rdr w' lim g (N + M) ∧ w.grownBy w' (some g)

theorem l20Wagons_any (lim g : Nat) (N n : Int) (w : World) (h : Rdr w lim g N) (hN : N ≤ 100000000) (hn : n ≤ 1000000000) :
    Calls Try.prog 48 #[.pointer (some ⟨g, 0, none⟩), vi n] w (DrawP 32 w lim g N 100 0 7) := by
  have hgs := h.lt
  have HH := Lib.hid (h.alloc (.cells #[] 32))
  have HG0 : Hid (w.grownBy (w.alloc (.cells #[] 32)) (some g)) := Lib.hid (grown_alloc (World.grownBy.refl _ _) _)
  have HO0 : Hid (Own encP 32 (w.alloc (.cells #[] 32)) w.heap.size (some ⟨w.heap.size, 0, none⟩) 0 0 []) := Lib.hid (Own.none_made w)
  clear h
  go_enter Try.func48, Try.ntmps48
  go_wp2_with fail
  refine (pick_any lim g N 7 _ HH.out (by omega)).mono ?_
  rintro e w2 ⟨x2, rfl, hx2, hx2b, -, hr2, hg2⟩
  have hx2c := hx2b (by omega)
  have hs2 := hg2.size
  have HR2 := Lib.hid hr2
  have HG2 := Lib.hid (HG0.out.trans hg2)
  have HO2 := Lib.hid (HO0.out.farG hg2 hgs.2)
  clear hr2 hg2 hx2b
  obtain ⟨p, rfl⟩ := Int.eq_ofNat_of_zero_le hx2
  have hpb : p ≤ 6 := by omega
  clear hx2 hx2c HH HG0 HO0
  go_wp2_with fail
  go_loopw [5, 6] (fun v i wr => ∃ (j : Nat) (A : Option Addr) (c : Nat) (l : List (Int × Int)), j ≤ p ∧ i = vi j ∧ v = .slice A l.length c ∧ l.length + j = p ∧ Own encP 32 wr w.heap.size A l.length c l ∧ Rdr wr lim g (N + 1 + 2 * ((p : Int) - j)) ∧ w.grownBy wr (some g))
    (fun _ i _ => (intOf i).toNat)
  case atStart => exact ⟨p, _, _, [], Nat.le_refl _, by go_num, rfl, by simp, HO2.out, HR2.out.mono (by omega), HG2.out⟩
  case round =>
    obtain ⟨j, A, c, l, hj, rfl, rfl, hlj, ho, hr, hg⟩ := hrel
    have HO := Lib.hid ho
    have HR := Lib.hid hr
    have HG := Lib.hid hg
    have hws := hg.size
    have HIx := Lib.hid ho.in_
    clear ho hr hg HO2 HR2 HG2
    have hl8 : l.length ≤ 6 := by omega
    by_cases hj0 : 0 < j
    · have Hlj := Lib.hid hlj
      clear hlj
      go_wp2_with fail
      refine (pick_any lim g _ 3 _ HR.out (by omega)).mono ?_
      rintro e w3 ⟨x3, rfl, hx3, hx3b, -, hr3, hg3⟩
      have hx3c := hx3b (by omega)
      have hs3 := hg3.size
      have HR3 := Lib.hid hr3
      have HG3 := Lib.hid (HG.out.trans hg3)
      have HO3 := Lib.hid (HO.out.farG hg3 hgs.2)
      clear hr3 hg3 hx3b
      go_wp2_with fail
      refine (pick_any lim g _ 60 _ HR3.out (by omega)).mono ?_
      rintro e w4 ⟨x4, rfl, hx4, hx4b, -, hr4, hg4⟩
      have hx4c := hx4b (by omega)
      have hs4 := hg4.size
      have HR4 := Lib.hid hr4
      have HG4 := Lib.hid (HG3.out.trans hg4)
      have HO4 := Lib.hid (HO3.out.farG hg4 hgs.2)
      clear hr4 hg4 hx4b
      have HL := Lib.hid (Own.lit (E := 32) (e := encP) w4 #[vi (1 + x3), vi (10 + x4)] [(1 + x3, 10 + x4)] rfl (by simp [maxLen]))
      go_wp2_with (at_builtin; refine app_Wagon rfl (.tmp 14) (.tmp 22) rfl w.heap.size A l.length c l rfl (HO4.out.alloc _) (some ⟨w4.heap.size, 0, none⟩) 1 1 [(1 + x3, 10 + x4)] rfl HL.out.rd rfl (by omega) (by have := HG4.out.size; simp; omega) ?_; intro A7 c7 w7 ho7 hg7; skip)
      have HO7 := Lib.hid ho7
      have HR7 := Lib.hid ((HR4.out.alloc (.cells #[vi (1 + x3), vi (10 + x4)] 32)).far hg7 (fun k hk => by have := HIx.out k (.inr hk); omega))
      have HG7 := Lib.hid (grown_past (grown_alloc HG4.out (.cells #[vi (1 + x3), vi (10 + x4)] 32)) hg7 (fun k hk => by have := HIx.out k (.inr hk); omega))
      clear ho7 hg7
      go_wp2
      go_roundw
      case rel => exact ⟨j - 1, A7, c7, l ++ [(1 + x3, 10 + x4)], by omega, by go_num, by simp, by have := Hlj.out; simp; omega, by simpa using HO7.out, HR7.out.mono (by omega), HG7.out⟩
      case measure => simp [intOf]; omega
    · obtain rfl : j = 0 := by omega
      have hcap := HO.out.cap
      go_wp2_with fail
      refine (odd_any lim g _ n _ HR.out (by omega) hn).mono ?_
      rintro e w3 ⟨b, rfl, hr3, hg3⟩
      have HO3 := Lib.hid (HO.out.farG hg3 hgs.2)
      have HG3 := Lib.hid (HG.out.trans hg3)
      have HR3 := Lib.hid (hr3.mono (show _ ≤ N + 30 by omega))
      have hs3 := hg3.size
      clear hr3 hg3 HR HG HO
      cases b with
      | false =>
        go_wp2
        go_ret
        exact ⟨_, c, l, rfl, HO3.out, by omega, by omega, HR3.out.mono (by omega), HG3.out⟩
      | true =>
        go_wp2_with fail
        refine (pick_any lim g _ 3 _ HR3.out (by omega)).mono ?_
        rintro e w4 ⟨y, rfl, hy, hyb, -, hr4, hg4⟩
        have hyc := hyb (by omega)
        have hs4 := hg4.size
        have HR4 := Lib.hid hr4
        have HG4 := Lib.hid (HG3.out.trans hg4)
        have HO4 := Lib.hid (HO3.out.farG hg4 hgs.2)
        clear hr4 hg4 hyb
        have hy4 : y = 0 ∨ y = 1 ∨ y = 2 := by omega
        clear hy
        clear hyc
        rcases hy4 with rfl | rfl | rfl
        · have hmk : ∀ w, (Instr.makeSlice 25 (.int .i64 7) (.int .i64 7)).run Try.prog w = .ok (.slice (some ⟨w.heap.size, 0, none⟩) 7 7) (w.alloc (.cells (madeCells #[vi 0, vi 0] (7 * 2)) 32)) := fun w => make_Wagon 7 (by omega) w
          go_wp2
          go_ret
          exact ⟨_, 7, List.replicate 7 (0, 0), rfl, (Own.made (e := encP) w4 #[vi 0, vi 0] rfl 7 (by simp [maxLen])).mono (by omega), by simp, by simp, (HR4.out.alloc _).mono (by omega), grown_alloc HG4.out _⟩
        · skip
          have HL := Lib.hid ((Own.lit (E := 32) (e := encP) w4 #[vi 0, vi 5] [((0 : Int), (5 : Int))] rfl (by simp [maxLen])).mono (show w.heap.size ≤ w4.heap.size by omega))
          have HO5 := Lib.hid (HO4.out.rd.alloc (.cells #[vi 0, vi 5] 32))
          go_wp2_with (at_builtin; refine app_Wagon rfl (.tmp 39) (.tmp 40) rfl w.heap.size _ 1 1 [((0 : Int), (5 : Int))] rfl HL.out A l.length c l rfl HO5.out rfl (by omega) (by simp; omega) ?_; intro A7 c7 w7 ho7 hg7; skip)
          have HO7 := Lib.hid ho7
          have HR7 := Lib.hid ((HR4.out.alloc (.cells #[vi 0, vi 5] 32)).far hg7 (fun k hk => by simp [blk] at hk; omega))
          have HG7 := Lib.hid (grown_past (grown_alloc HG4.out (.cells #[vi 0, vi 5] 32)) hg7 (fun k hk => by simp [blk] at hk; omega))
          clear ho7 hg7
          go_wp2
          go_ret
          exact ⟨A7, c7, ((0 : Int), (5 : Int)) :: l, by simp; omega, by simpa [Nat.add_comm] using HO7.out, by simp, by simp; omega, HR7.out.mono (by omega), HG7.out⟩
        · skip
          have HL := Lib.hid ((Own.lit (E := 32) (e := encP) w4 #[vi 1, vi 91] [((1 : Int), (91 : Int))] rfl (by simp [maxLen])).mono (show w.heap.size ≤ w4.heap.size by omega))
          have HO5 := Lib.hid (HO4.out.rd.alloc (.cells #[vi 1, vi 91] 32))
          go_wp2_with (at_builtin; refine app_Wagon rfl (.tmp 30) (.tmp 31) rfl w.heap.size _ 1 1 [((1 : Int), (91 : Int))] rfl HL.out A l.length c l rfl HO5.out rfl (by omega) (by simp; omega) ?_; intro A7 c7 w7 ho7 hg7; skip)
          have HO7 := Lib.hid ho7
          have HR7 := Lib.hid ((HR4.out.alloc (.cells #[vi 1, vi 91] 32)).far hg7 (fun k hk => by simp [blk] at hk; omega))
          have HG7 := Lib.hid (grown_past (grown_alloc HG4.out (.cells #[vi 1, vi 91] 32)) hg7 (fun k hk => by simp [blk] at hk; omega))
          clear ho7 hg7
          go_wp2
          go_ret
          exact ⟨A7, c7, ((1 : Int), (91 : Int)) :: l, by simp; omega, by simpa [Nat.add_comm] using HO7.out, by simp, by simp; omega, HR7.out.mono (by omega), HG7.out⟩

theorem DrawWagonsValid_any (A : Option Addr) (c : Nat) (l : List Int) (w : World) (h : RdB w w.heap.size A l) (hcap : l.length ≤ c) :
    Calls Try.prog 18 #[.slice A l.length c] w fun e w' => ∃ (A : Option Addr) (c : Nat) (l : List (Int × Int)), e = .returned (.slice A l.length c) ∧ Own encP 32 w' w.heap.size A l.length c l ∧ l.length ≤ 7 ∧ Below w.heap.size w w' := by
  have H := Lib.hid (open_any A c l w h hcap)
  clear h hcap
  go_enter Try.func18, Try.ntmps18
  go_wp2_with fail
  refine H.out.mono ?_
  rintro e w1 ⟨rfl, hr1, hb1, hs1⟩
  have HR1 := Lib.hid hr1
  have HB1 := Lib.hid hb1
  have hz1 := hb1.size
  clear hr1 hb1 hs1 H
  go_wp2_with fail
  refine (l20Wagons_any w.heap.size w.heap.size 0 2 w1 HR1.out (by omega) (by omega)).mono ?_
  rintro e w2 ⟨A2, c2, l2, rfl, ho2, -, hhi, hr2, hg2⟩
  have HO2 := Lib.hid (ho2.mono hz1)
  have HB2 := Lib.hid (grown_all HB1.out hg2 (Nat.le_refl _))
  clear ho2 hr2 hg2
  go_wp2
  go_ret
  exact ⟨A2, c2, l2, rfl, HO2.out, hhi, HB2.out⟩
end Go.Proofs.Ytdhpjajhkeanjaa
