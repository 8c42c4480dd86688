/-
  Contracts: rings are drawn.
-/
import Derived.Test.YtkgfcgdihnhflaaReader
import Derived.Test.YtkgfcgdihnhflaaAlive
import Derived.Test.YtkgfcgdihnhflaaRingE
import Derived.Deep.DeepCutAuto
namespace Go.Proofs.Ytkgfcgdihnhflaa
open Go.RowKit
set_option linter.unusedVariables false

theorem l20Ring_any (lim g : Nat) (N n : Int) (w : World) (h : Rdr w lim g N) (hN : N ≤ 100000000) (hn : n ≤ 1000000000) :
    Calls Try.prog 43 #[.pointer (some ⟨g, 0, none⟩), vi n] w (DrawI w lim g N 100 1 9) := by
  have hgs := h.lt
  have HH := Lib.hid (h.alloc (.cells #[] 3))
  clear h
  go_enter Try.func43, Try.ntmps43
  go_wp2_with fail
  refine (pick_any lim g N 4 _ HH.out (by omega)).mono ?_
  rintro e w1 ⟨x1, rfl, hx1, hx1b, -, hr1, hg1⟩
  have hx1c := hx1b (by omega)
  have HR1 := Lib.hid hr1
  have HG1 : Hid (w.grownBy w1 (some g)) := Lib.hid ((grown_alloc (World.grownBy.refl _ _) _).trans hg1)
  have HO1 : Hid (OwnI w1 w.heap.size (some ⟨w.heap.size, 0, none⟩) 0 0 []) := Lib.hid ((OwnI.none_made w).farG hg1 hgs.2)
  clear hr1 hg1 HH hx1b
  go_wp2_with fail
  refine (pick_any lim g (N + 1) 7 _ HR1.out (by omega)).mono ?_
  rintro e w2 ⟨x2, rfl, hx2, hx2b, -, hr2, hg2⟩
  have hx2c := hx2b (by omega)
  have HR2 := Lib.hid hr2
  have HG2 := Lib.hid (HG1.out.trans hg2)
  have HO2 := Lib.hid (HO1.out.farG hg2 hgs.2)
  clear hr2 hg2 HR1 HG1 HO1 hx2b
  obtain ⟨p, rfl⟩ := Int.eq_ofNat_of_zero_le hx2
  have hpb : p ≤ 6 := by omega
  clear hx2 hx2c
  go_wp2_with fail
  go_loopw [5, 7] (fun v i wr => ∃ (j : Nat) (A : Option Addr) (c : Nat) (l : List Int), j ≤ 2 + p ∧ i = vi j ∧ v = .slice A l.length c ∧ l.length + j = 2 + p ∧ OwnI wr w.heap.size A l.length c l ∧ Rdr wr lim g (N + 2 + 3 * (2 + (p : Int) - j)) ∧ w.grownBy wr (some g))
    (fun _ i _ => (intOf i).toNat)
  case atStart => exact ⟨2 + p, _, _, [], Nat.le_refl _, by go_num, rfl, by simp, HO2.out, HR2.out.mono (by omega), HG2.out⟩
  case round =>
    obtain ⟨j, A, c, l, hj, rfl, rfl, hlj, ho, hr, hg⟩ := hrel
    have HO := Lib.hid ho
    have HR := Lib.hid hr
    have HG := Lib.hid hg
    have hws := hg.size
    clear ho hr hg HO2 HR2 HG2
    have hl8 : l.length ≤ 8 := by omega
    by_cases hj0 : 0 < j
    · have Hlj := Lib.hid hlj
      clear hlj
      go_upto_region 7 with fail
      go_cut [33] (fun s wx => ∃ b : Bool, s = .bool b ∧ Rdr wx lim g (N + 2 + 3 * (2 + (p : Int) - j) + 2) ∧ wr.grownBy wx (some g))
      case first =>
        go_wp2_with fail
        refine (pick_any lim g _ 5 _ HR.out (by omega)).mono ?_
        rintro e w3 ⟨x3, rfl, hx3, hx3b, -, hr3, hg3⟩
        have HR3 := Lib.hid hr3
        have HG3 := Lib.hid hg3
        clear hr3 hg3
        by_cases hlt : x3 < 1 + x1
        · go_wp2_with fail
          go_meet
          exact ⟨true, by simp, HR3.out.mono (by omega), HG3.out⟩
        · by_cases h4 : 1 + x1 = 4
          · have hb4 : (1 + x1 == 4) = true := by simp [h4]
            have H4 := Lib.hid h4
            clear h4
            go_wp2_with fail
            refine (pick_any lim g _ 3 _ HR3.out (by omega)).mono ?_
            rintro e w4 ⟨x4, rfl, hx4, hx4b, -, hr4, hg4⟩
            have HR4 := Lib.hid hr4
            have HG4 := Lib.hid (HG3.out.trans hg4)
            clear hr4 hg4
            go_wp2_with fail
            go_meet
            exact ⟨_, rfl, HR4.out.mono (by omega), HG4.out⟩
          · have hb4 : (1 + x1 == 4) = false := by simp [h4]
            go_wp2_with fail
            go_meet
            exact ⟨false, by simp; omega, HR3.out.mono (by omega), HG3.out⟩
      case rest =>
        obtain ⟨b, rfl, hr3, hg3⟩ := hcut
        have HO3 := Lib.hid (HO.out.farG hg3 hgs.2)
        have HG3 := Lib.hid (HG.out.trans hg3)
        have HR3 := Lib.hid hr3
        have HIx := Lib.hid HO.out.in_
        clear hr3 hg3
        cases b with
        | true =>
          go_wp2_with fail
          refine (pick_any lim g _ 13 _ HR3.out (by omega)).mono ?_
          rintro e w5 ⟨x5, rfl, hx5, hx5b, -, hr5, hg5⟩
          have HO5 := Lib.hid (HO3.out.farG hg5 hgs.2)
          have HGx := Lib.hid (HG3.out.trans hg5)
          have HRx := Lib.hid hr5
          clear hr5 hg5
          go_wp2_with (at_builtin; refine app_int rfl (.tmp 36) (.tmp 38) rfl w.heap.size A l.length c l rfl (HO5.out.alloc _) (some ⟨w5.heap.size, 0, none⟩) 1 1 [x5] rfl (RdI.one _ _) rfl (by omega) (by have := HGx.out.size; simp; omega) ?_; intro A7 c7 w7 ho7 hg7; skip)
          have HO7 := Lib.hid ho7
          have HR7 := Lib.hid ((HRx.out.alloc (.cells #[vi (x5)] 3)).far hg7 (fun k hk => by have := HIx.out k (.inr hk); omega))
          have HG7 := Lib.hid (grown_past (grown_alloc HGx.out (.cells #[vi (x5)] 3)) hg7 (fun k hk => by have := HIx.out k (.inr hk); omega))
          clear ho7 hg7
          go_wp2
          go_roundw
          case rel => exact ⟨j - 1, A7, c7, l ++ [x5], by omega, by go_num, by simp, by have := Hlj.out; simp; omega, by simpa using HO7.out, HR7.out.mono (by omega), HG7.out⟩
          case measure => simp [intOf]; omega
        | false =>
          have HGx := HG3
          have HRx := HR3
          go_wp2_with (at_builtin; refine app_int rfl (.tmp 36) (.tmp 38) rfl w.heap.size A l.length c l rfl (HO3.out.alloc _) (some ⟨wc.heap.size, 0, none⟩) 1 1 [-1] rfl (RdI.one _ _) rfl (by omega) (by have := HGx.out.size; simp; omega) ?_; intro A7 c7 w7 ho7 hg7; skip)
          have HO7 := Lib.hid ho7
          have HR7 := Lib.hid ((HRx.out.alloc (.cells #[vi (-1)] 3)).far hg7 (fun k hk => by have := HIx.out k (.inr hk); omega))
          have HG7 := Lib.hid (grown_past (grown_alloc HGx.out (.cells #[vi (-1)] 3)) hg7 (fun k hk => by have := HIx.out k (.inr hk); omega))
          clear ho7 hg7
          go_wp2
          go_roundw
          case rel => exact ⟨j - 1, A7, c7, l ++ [-1], by omega, by go_num, by simp, by have := Hlj.out; simp; omega, by simpa using HO7.out, HR7.out.mono (by omega), HG7.out⟩
          case measure => simp [intOf]; omega
    · obtain rfl : j = 0 := by omega
      have hl2 : 2 ≤ l.length := by omega
      have hcap := HO.out.cap
      go_wp2_with fail
      refine (odd_any lim g _ n _ HR.out (by omega) hn).mono ?_
      rintro e w3 ⟨b, rfl, hr3, hg3⟩
      have HO3 := Lib.hid (HO.out.farG hg3 hgs.2)
      have HG3 := Lib.hid (HG.out.trans hg3)
      have HR3 := Lib.hid (hr3.mono (show _ ≤ N + 30 by omega))
      have hs3 := hg3.size
      clear hr3 hg3 HR HG HO
      rcases HO3.out.form with ⟨_, e⟩ | ⟨g1, rfl, hgb, hgs1⟩
      · rw [e] at hl2; simp at hl2
      go_upto_if 42 with fail
      go_cut [] (fun wx => ∃ l' : List Int, OwnI wx w.heap.size (some ⟨g1, 0, none⟩) l.length c l' ∧ Rdr wx lim g (N + 40) ∧ w.grownBy wx (some g))
      case first =>
        cases b with
        | false =>
          go_wp2_with fail
          go_meet
          exact ⟨l, HO3.out, HR3.out.mono (by omega), HG3.out⟩
        | true =>
          go_wp2_with fail
          refine (pick_any lim g _ 3 _ HR3.out (by omega)).mono ?_
          rintro e w4 ⟨y, rfl, hy, hyb, -, hr4, hg4⟩
          have HO4 := Lib.hid (HO3.out.farG hg4 hgs.2)
          have HG4 := Lib.hid (HG3.out.trans hg4)
          have HR4 := Lib.hid hr4
          have hs4 := hg4.size
          clear hr4 hg4
          have hmk : ∀ w, (Instr.makeSlice 22 (.int .i64 9) (.int .i64 9)).run Try.prog w = .ok (.slice (some ⟨w.heap.size, 0, none⟩) 9 9) (w.alloc (.cells (madeCells #[vi 0] 9) 3)) := fun w => make_int 9 (by omega) w
          have hyc : y = 0 ∨ y = 1 ∨ y = 2 := by have := hyb (by omega); omega
          clear hy hyb
          rcases hyc with rfl | rfl | rfl
          · go_wp2
            go_ret
            exact ⟨_, c, l.take 1, by rw [show (l.take 1).length = 1 by simp; omega]; rfl, by rw [show (l.take 1).length = 1 by simp; omega]; exact HO4.out.cut 1 (by omega) (by omega), by simp; omega, by simp; omega, HR4.out.mono (by omega), HG4.out⟩
          · clear hmk
            go_wp2_with fail
            have hr4b := HR4.out.alloc (.cells #[vi (-2), vi 13] 3)
            refine (pick_any lim g _ 2 _ hr4b (by omega)).mono ?_
            rintro e w5 ⟨z, rfl, hz, hzb, -, hr5, hg5⟩
            have hbl : w5.heap[w4.heap.size]? = some (.cells #[vi (-2), vi 13] 3 (0, 0)) := (hg5.block _ (by simp) (by intro e; injection e with e; omega)).trans (heap_alloc_new w4 _)
            have HO5 := Lib.hid ((HO4.out.alloc (.cells #[vi (-2), vi 13] 3)).farG hg5 hgs.2)
            have HG5 := Lib.hid ((grown_alloc HG4.out (.cells #[vi (-2), vi 13] 3)).trans hg5)
            have HR5 := Lib.hid hr5
            have hq0 : w5.cell? ⟨w4.heap.size, 0, none⟩ = some (vi (-2)) := by rw [cell_of_row _ _ 0 _ _ _ hbl]; rfl
            have hq1 : w5.cell? ⟨w4.heap.size, 1, none⟩ = some (vi 13) := by rw [cell_of_row _ _ 1 _ _ _ hbl]; rfl
            have hq2 := HO5.out.cell 0 (by omega)
            have hq3 := HO5.out.frozen 0
            clear hr5 hg5 hbl hr4b
            have hzc : z = 0 ∨ z = 1 := by have := hzb (by omega); omega
            clear hz hzb
            rcases hzc with rfl | rfl
            · go_wp2_with fail
              go_meet
              refine ⟨_, (HO5.out.put 0 (-2)).1, (HR5.out.far (HO5.out.put 0 (-2)).2 (fun k hk => by injection hk with hk; omega)).mono (by omega), grown_past HG5.out (HO5.out.put 0 (-2)).2 (fun k hk => by injection hk with hk; omega)⟩
            · go_wp2_with fail
              go_meet
              refine ⟨_, (HO5.out.put 0 13).1, (HR5.out.far (HO5.out.put 0 13).2 (fun k hk => by injection hk with hk; omega)).mono (by omega), grown_past HG5.out (HO5.out.put 0 13).2 (fun k hk => by injection hk with hk; omega)⟩
          · go_wp2
            go_ret
            exact ⟨_, 9, List.replicate 9 0, rfl, (OwnI.made w4 9 (by simp [maxLen])).mono (by have := HG4.out.size; omega), by simp, by simp, (HR4.out.alloc _).mono (by omega), grown_alloc HG4.out _⟩
      case rest =>
        obtain ⟨l', ho, hr, hg⟩ := hcut
        have HO4 := Lib.hid ho
        have HR4 := Lib.hid hr
        have HG4 := Lib.hid hg
        clear ho hr hg HO3 HR3 HG3
        go_wp2_with fail
        refine (odd_any lim g _ 9 _ HR4.out (by omega) (by omega)).mono ?_
        rintro e w5 ⟨b2, rfl, hr5, hg5⟩
        have HO5 := Lib.hid (HO4.out.farG hg5 hgs.2)
        have HG5 := Lib.hid (HG4.out.trans hg5)
        have HR5 := Lib.hid hr5
        clear hr5 hg5 HR4 HG4 HO4
        have Hll := Lib.hid HO5.out.len
        cases b2 with
        | false =>
          go_wp2
          go_ret
          exact ⟨_, c, l', by rw [Hll.out]; rfl, by rw [Hll.out]; exact HO5.out, by rw [Hll.out]; omega, by rw [Hll.out]; omega, HR5.out.mono (by omega), HG5.out⟩
        | true =>
          go_wp2
          go_loopw [9] (fun i wr => ∃ (k : Nat) (m : List Int), k ≤ l.length ∧ i = vi k ∧ OwnI wr w.heap.size (some ⟨g1, 0, none⟩) l.length c m ∧ Rdr wr lim g (N + 41 + k) ∧ w.grownBy wr (some g)) (fun i _ => l.length - (intOf i).toNat)
          case atStart => exact ⟨0, l', Nat.zero_le _, rfl, HO5.out, HR5.out.mono (by omega), HG5.out⟩
          case round =>
            obtain ⟨k, m, hk, rfl, ho, hr, hg⟩ := hrel
            have HO6 := Lib.hid ho
            have HR6 := Lib.hid hr
            have HG6 := Lib.hid hg
            have Hlm := Lib.hid ho.len
            clear ho hr hg
            by_cases hlt : k < l.length
            · go_wp2_with fail
              refine (pick_any lim g _ 12 _ HR6.out (by omega)).mono ?_
              rintro e w7 ⟨x7, rfl, hx7, hx7b, -, hr7, hg7⟩
              have hx7c := hx7b (by omega)
              have HO7 := Lib.hid (HO6.out.farG hg7 hgs.2)
              have HG7 := Lib.hid (HG6.out.trans hg7)
              have HR7 := Lib.hid hr7
              have hq2 := HO7.out.cell k hlt
              have hq3 := HO7.out.frozen k
              clear hr7 hg7 hx7b
              go_wp2
              go_roundw
              case rel => exact ⟨k + 1, _, by omega, by go_num, (HO7.out.put k _).1, (HR7.out.far (HO7.out.put k (1 + x7)).2 (fun k hk => by injection hk with hk; omega)).mono (by omega), grown_past HG7.out (HO7.out.put k (1 + x7)).2 (fun k hk => by injection hk with hk; omega)⟩
              case measure => simp [intOf]; omega
            · go_wp2
              go_ret
              exact ⟨_, c, m, by rw [Hlm.out]; rfl, by rw [Hlm.out]; exact HO6.out, by rw [Hlm.out]; omega, by rw [Hlm.out]; omega, HR6.out.mono (by omega), HG6.out⟩
end Go.Proofs.Ytkgfcgdihnhflaa
