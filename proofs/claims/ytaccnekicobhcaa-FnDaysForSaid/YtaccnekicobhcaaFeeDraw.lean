/-
  Contracts: rates and days are drawn.
-/
import Derived.Test.YtaccnekicobhcaaReader
import Derived.Test.YtaccnekicobhcaaAlive
import Derived.Test.YtaccnekicobhcaaFeeB
import Derived.Deep.DeepCutAuto
namespace Go.Proofs.Ytaccnekicobhcaa
open Go.RowKit
set_option linter.unusedVariables false

/-- A draw of a list of pairs, of lo to hi of them. -/
def DrawP (T : TypeId) (w : World) (lim g : Nat) (N M : Int) (lo hi : Nat) (e : Ending) (w' : World) : Prop :=
  ∃ (A : Option Addr) (c : Nat) (l : List (Int × Int)), e = .returned (.slice A l.length c) ∧ Own encP T w' w.heap.size A l.length c l ∧ lo ≤ l.length ∧ l.length ≤ hi ∧ Rdr w' lim g (N + M) ∧ w.grownBy w' (some g)

theorem l20Rates_any (lim g : Nat) (N n : Int) (w : World) (h : Rdr w lim g N) (hN : N ≤ 100000000) (hn : n ≤ 1000000000) :
    Calls Try.prog 37 #[.pointer (some ⟨g, 0, none⟩), vi n] w (DrawP 42 w lim g N 100 0 6) := by
  have hgs := h.lt
  have HH := Lib.hid h
  clear h
  go_enter Try.func37, Try.ntmps37
  go_wp2_with fail
  refine (pick_any lim g N 20 _ HH.out (by omega)).mono ?_
  rintro e w1 ⟨x1, rfl, hx1, hx1b, -, hr1, hg1⟩
  have hs1 := hg1.size
  have HR1 := Lib.hid hr1
  clear hr1 hx1b
  have HR1a := Lib.hid (HR1.out.alloc (.cells #[vi 0, vi x1] 42))
  have HG1 := Lib.hid (grown_alloc hg1 (.cells #[vi 0, vi x1] 42))
  have HO1 := Lib.hid ((Own.lit (E := 42) (e := encP) w1 #[vi 0, vi x1] [(0, x1)] rfl (by simp [maxLen])).mono hs1)
  clear hg1
  go_wp2_with fail
  refine (pick_any lim g (N + 1) 5 _ HR1a.out (by omega)).mono ?_
  rintro e w2 ⟨x2, rfl, hx2, hx2b, -, hr2, hg2⟩
  have hx2c := hx2b (by omega)
  have hs2 := hg2.size
  have HR2 := Lib.hid hr2
  have HG2 := Lib.hid (HG1.out.trans hg2)
  have HO2 := Lib.hid (HO1.out.farG hg2 hgs.2)
  clear hr2 hg2 hx2b
  obtain ⟨p, rfl⟩ := Int.eq_ofNat_of_zero_le hx2
  have hpb : p ≤ 4 := by omega
  clear hx2 hx2c HR1 HR1a HG1 HO1
  go_wp2_with fail
  go_loopw [5, 6, 7] (fun v f i wr => ∃ (j : Nat) (z : Int) (A : Option Addr) (c : Nat) (l : List (Int × Int)), j ≤ p ∧ i = vi j ∧ f = vi z ∧ 0 ≤ z ∧ z ≤ 10 * ((p : Int) - j) ∧ v = .slice A l.length c ∧ l.length + j = 1 + p ∧ Own encP 42 wr w.heap.size A l.length c l ∧ Rdr wr lim g (N + 2 + 2 * ((p : Int) - j)) ∧ w.grownBy wr (some g))
    (fun _ _ i _ => (intOf i).toNat)
  case atStart => exact ⟨p, 0, _, _, [(0, x1)], Nat.le_refl _, by go_num, rfl, by omega, by omega, rfl, by simp, HO2.out, HR2.out.mono (by omega), HG2.out⟩
  case round =>
    obtain ⟨j, z, A, c, l, hj, rfl, rfl, hz0, hz1, rfl, hlj, ho, hr, hg⟩ := hrel
    have HO := Lib.hid ho
    have HR := Lib.hid hr
    have HG := Lib.hid hg
    have hws := hg.size
    have HIx := Lib.hid ho.in_
    clear ho hr hg HO2 HR2 HG2
    have hl8 : l.length ≤ 5 := by omega
    by_cases hj0 : 0 < j
    · have Hlj := Lib.hid hlj
      clear hlj
      go_wp2_with fail
      refine (pick_any lim g _ 9 _ HR.out (by omega)).mono ?_
      rintro e w3 ⟨x3, rfl, hx3, hx3b, -, hr3, hg3⟩
      have hx3c := hx3b (by omega)
      have hs3 := hg3.size
      have HR3 := Lib.hid hr3
      have HG3 := Lib.hid (HG.out.trans hg3)
      have HO3 := Lib.hid (HO.out.farG hg3 hgs.2)
      clear hr3 hg3 hx3b
      go_wp2_with fail
      refine (pick_any lim g _ 30 _ HR3.out (by omega)).mono ?_
      rintro e w4 ⟨x4, rfl, hx4, hx4b, -, hr4, hg4⟩
      have hx4c := hx4b (by omega)
      have hs4 := hg4.size
      have HR4 := Lib.hid hr4
      have HG4 := Lib.hid (HG3.out.trans hg4)
      have HO4 := Lib.hid (HO3.out.farG hg4 hgs.2)
      clear hr4 hg4 hx4b
      have HL := Lib.hid (Own.lit (E := 42) (e := encP) w4 #[vi (z + 1 + x3), vi x4] [(z + 1 + x3, x4)] rfl (by simp [maxLen]))
      go_wp2_with (at_builtin; refine app_Rate rfl (.tmp 23) (.tmp 28) rfl w.heap.size A l.length c l rfl (HO4.out.alloc _) (some ⟨w4.heap.size, 0, none⟩) 1 1 [(z + 1 + x3, x4)] rfl HL.out.rd rfl (by omega) (by have := HG4.out.size; simp; omega) ?_; intro A7 c7 w7 ho7 hg7; skip)
      have HO7 := Lib.hid ho7
      have HR7 := Lib.hid ((HR4.out.alloc (.cells #[vi (z + 1 + x3), vi x4] 42)).far hg7 (fun k hk => by have := HIx.out k (.inr hk); omega))
      have HG7 := Lib.hid (grown_past (grown_alloc HG4.out (.cells #[vi (z + 1 + x3), vi x4] 42)) hg7 (fun k hk => by have := HIx.out k (.inr hk); omega))
      clear ho7 hg7
      go_wp2
      go_roundw
      case rel => exact ⟨j - 1, z + 1 + x3, A7, c7, l ++ [(z + 1 + x3, x4)], by omega, by go_num, by go_num, by omega, by omega, by simp, by have := Hlj.out; simp; omega, by simpa using HO7.out, HR7.out.mono (by omega), HG7.out⟩
      case measure => simp [intOf]; omega
    · obtain rfl : j = 0 := by omega
      have hl1 : 1 ≤ l.length := by omega
      have hcap := HO.out.cap
      go_wp2_with fail
      refine (odd_any lim g _ n _ HR.out (by omega) hn).mono ?_
      rintro e w3 ⟨b, rfl, hr3, hg3⟩
      have HO3 := Lib.hid (HO.out.farG hg3 hgs.2)
      have HG3 := Lib.hid (HG.out.trans hg3)
      have HR3 := Lib.hid (hr3.mono (show _ ≤ N + 30 by omega))
      have hs3 := hg3.size
      clear hr3 hg3 HR HG HO
      rcases HO3.out.form with ⟨_, e⟩ | ⟨g1, rfl, hgb, hgs1⟩
      · rw [e] at hl1; simp at hl1
      cases b with
      | false =>
        go_wp2
        go_ret
        exact ⟨_, c, l, rfl, HO3.out, by omega, by omega, HR3.out.mono (by omega), HG3.out⟩
      | true =>
        go_wp2_with fail
        refine (pick_any lim g _ 4 _ HR3.out (by omega)).mono ?_
        rintro e w4 ⟨y, rfl, hy, hyb, -, hr4, hg4⟩
        have hyc := hyb (by omega)
        have hs4 := hg4.size
        have HR4 := Lib.hid hr4
        have HG4 := Lib.hid (HG3.out.trans hg4)
        have HO4 := Lib.hid (HO3.out.farG hg4 hgs.2)
        clear hr4 hg4 hyb
        have hy4 : y = 0 ∨ y = 1 ∨ y = 2 ∨ y = 3 := by omega
        clear hy
        have Hc := HO4.out.cell2 0 (by omega)
        simp only [Nat.zero_mul, Nat.zero_add] at Hc
        obtain ⟨hq0, hq1⟩ := Hc
        have hf0 := HO4.out.frozen 0
        have hf1 := HO4.out.frozen 1
        clear hyc
        rcases hy4 with rfl | rfl | rfl | rfl
        · go_wp2
          go_ret
          exact ⟨_, 0, [], rfl, (Own.none_made w4).mono (by omega), by simp, by simp, (HR4.out.alloc _).mono (by omega), grown_alloc HG4.out _⟩
        · have hp := HO4.out.put_fst 0 (by omega) 1
          simp only [Nat.zero_mul] at hp
          have HP := Lib.hid hp
          clear hp
          go_wp2
          go_ret
          exact ⟨some ⟨g1, 0, none⟩, c, l.set 0 (1, (nth l 0).2), by simp, by simpa using HP.out.1, by simp, by simp; omega, (HR4.out.far HP.out.2 (fun k hk => by injection hk with hk; omega)).mono (by omega), grown_past HG4.out HP.out.2 (fun k hk => by injection hk with hk; omega)⟩
        · clear hq0 hq1 hf0 hf1
          go_wp2_with fail
          have hr4b := HR4.out.alloc (.cells #[vi (-1), vi 100] 3)
          refine (pick_any lim g _ 2 _ hr4b (by omega)).mono ?_
          rintro e w5 ⟨v, rfl, hv, hvb, -, hr5, hg5⟩
          have hbl : w5.heap[w4.heap.size]? = some (.cells #[vi (-1), vi 100] 3 (0, 0)) := (hg5.block _ (by simp) (by intro e; injection e with e; omega)).trans (heap_alloc_new w4 _)
          have HO5 := Lib.hid ((HO4.out.alloc (.cells #[vi (-1), vi 100] 3)).farG hg5 hgs.2)
          have HG5 := Lib.hid ((grown_alloc HG4.out (.cells #[vi (-1), vi 100] 3)).trans hg5)
          have HR5 := Lib.hid hr5
          have hc0 : w5.cell? ⟨w4.heap.size, 0, none⟩ = some (vi (-1)) := by rw [cell_of_row _ _ 0 _ _ _ hbl]; rfl
          have hc1 : w5.cell? ⟨w4.heap.size, 1, none⟩ = some (vi 100) := by rw [cell_of_row _ _ 1 _ _ _ hbl]; rfl
          have Hc := HO5.out.cell2 0 (by omega)
          simp only [Nat.zero_mul, Nat.zero_add] at Hc
          obtain ⟨hq0, hq1⟩ := Hc
          have hf1 := HO5.out.frozen 1
          clear hr5 hg5 hbl hr4b
          have hvc : v = 0 ∨ v = 1 := by have := hvb (by omega); omega
          clear hv hvb
          have hp : ∀ q : Int, _ := fun q => HO5.out.put_snd 0 (by omega) q
          simp only [Nat.zero_mul, Nat.zero_add] at hp
          have HP := Lib.hid hp
          clear hp
          rcases hvc with rfl | rfl
          · go_wp2
            go_ret
            exact ⟨some ⟨g1, 0, none⟩, c, l.set 0 ((nth l 0).1, -1), by simp, by simpa using (HP.out (-1)).1, by simp, by simp; omega, (HR5.out.far (HP.out (-1)).2 (fun k hk => by injection hk with hk; omega)).mono (by omega), grown_past HG5.out (HP.out (-1)).2 (fun k hk => by injection hk with hk; omega)⟩
          · go_wp2
            go_ret
            exact ⟨some ⟨g1, 0, none⟩, c, l.set 0 ((nth l 0).1, 100), by simp, by simpa using (HP.out 100).1, by simp, by simp; omega, (HR5.out.far (HP.out 100).2 (fun k hk => by injection hk with hk; omega)).mono (by omega), grown_past HG5.out (HP.out 100).2 (fun k hk => by injection hk with hk; omega)⟩
        · clear hq0 hq1 hf0 hf1
          have HL := Lib.hid (Own.lit (E := 42) (e := encP) w4 #[vi 100, vi 0] [((100 : Int), (0 : Int))] rfl (by simp [maxLen]))
          go_wp2_with (at_builtin; refine app_Rate rfl (.tmp 35) (.tmp 37) rfl w.heap.size (some ⟨g1, 0, none⟩) l.length c l rfl (HO4.out.alloc _) (some ⟨w4.heap.size, 0, none⟩) 1 1 [((100 : Int), (0 : Int))] rfl HL.out.rd rfl (by omega) (by have := HG4.out.size; simp; omega) ?_; intro A7 c7 w7 ho7 hg7; skip)
          have HO7 := Lib.hid ho7
          have HR7 := Lib.hid ((HR4.out.alloc (.cells #[vi 100, vi 0] 42)).far hg7 (fun k hk => by have := HIx.out k (.inr hk); omega))
          have HG7 := Lib.hid (grown_past (grown_alloc HG4.out (.cells #[vi 100, vi 0] 42)) hg7 (fun k hk => by have := HIx.out k (.inr hk); omega))
          clear ho7 hg7
          go_wp2
          go_ret
          exact ⟨A7, c7, l ++ [(100, 0)], by simp, by simpa using HO7.out, by simp, by simp; omega, HR7.out.mono (by omega), HG7.out⟩

/-- A number is drawn. -/
def DrawN (w : World) (lim g : Nat) (N M lo hi : Int) (e : Ending) (w' : World) : Prop :=
  ∃ z : Int, e = .returned (vi z) ∧ lo ≤ z ∧ z ≤ hi ∧ Rdr w' lim g (N + M) ∧ w.grownBy w' (some g)

theorem l20Day_any (lim g : Nat) (N : Int) (w : World) (h : Rdr w lim g N) (hN : N ≤ 100000000) :
    Calls Try.prog 40 #[.pointer (some ⟨g, 0, none⟩)] w (DrawN w lim g N 3 (-1000) 1000) := by
  have hgs := h.lt
  have HH := Lib.hid h
  have HG0 : Hid (w.grownBy w (some g)) := Lib.hid (World.grownBy.refl _ _)
  clear h
  go_enter Try.func40, Try.ntmps40
  go_wp2_with fail
  refine (pick_any lim g N 40 _ HH.out (by omega)).mono ?_
  rintro e w1 ⟨x1, rfl, hx1, hx1b, -, hr1, hg1⟩
  have hx1c := hx1b (by omega)
  have hs1 := hg1.size
  have HR1 := Lib.hid hr1
  have HG1 := Lib.hid (HG0.out.trans hg1)
  clear hr1 hg1 hx1b
  go_wp2_with fail
  refine (pick_any lim g _ 20 _ HR1.out (by omega)).mono ?_
  rintro e w2 ⟨x2, rfl, hx2, hx2b, -, hr2, hg2⟩
  have hx2c := hx2b (by omega)
  have hs2 := hg2.size
  have HR2 := Lib.hid hr2
  have HG2 := Lib.hid (HG1.out.trans hg2)
  clear hr2 hg2 hx2b
  have e2 : Int.tdiv x2 19 = x2 / 19 := Int.tdiv_eq_ediv_of_nonneg hx2
  go_wp2_with fail
  refine (pick_any lim g _ 30 _ HR2.out (by omega)).mono ?_
  rintro e w3 ⟨x3, rfl, hx3, hx3b, -, hr3, hg3⟩
  have hx3c := hx3b (by omega)
  have hs3 := hg3.size
  have HR3 := Lib.hid hr3
  have HG3 := Lib.hid (HG2.out.trans hg3)
  clear hr3 hg3 hx3b
  have e3 : Int.tdiv x3 29 = x3 / 29 := Int.tdiv_eq_ediv_of_nonneg hx3
  go_wp2
  go_ret
  exact ⟨_, rfl, by omega, by omega, HR3.out.mono (by omega), HG3.out⟩
end Go.Proofs.Ytaccnekicobhcaa
