/-
  Contracts: boxes that were told and boxes that were seen are drawn.
-/
import Derived.Test.YtjhbmikohcbkkaaDiffDraw
namespace Go.Proofs.Ytjhbmikohcbkkaa
open Go.RowKit
set_option linter.unusedVariables false
set_option maxRecDepth 100000

/-- Two lists of boxes. -/
def DrawTold (w : World) (lim g : Nat) (N M : Int) (e : Ending) (w' : World) : Prop :=
  ∃ (A1 : Option Addr) (c1 : Nat) (l1 : List Bx) (A2 : Option Addr) (c2 : Nat) (l2 : List Bx), e = .returned (.tuple #[.slice A1 l1.length c1, .slice A2 l2.length c2]) ∧ Own encB 57 w' w.heap.size A1 l1.length c1 l1 ∧ Own encB 57 w' w.heap.size A2 l2.length c2 l2 ∧
    l1.length ≤ 20 ∧ l2.length ≤ 20 ∧ Rdr w' lim g (N + M) ∧ w.grownBy w' (some g)

theorem l20Told_any (lim g : Nat) (N n : Int) (w : World) (h : Rdr w lim g N) (hN : N ≤ 80000000) (hn : n ≤ 1000) (hn0 : 0 ≤ n) :
    Calls Try.prog 45 #[.pointer (some ⟨g, 0, none⟩), vi n] w (DrawTold w lim g N 300) := by
  have hgs := h.lt
  have HH := Lib.hid h
  clear h
  go_enter Try.func45, Try.ntmps45
  go_wp2_with fail
  refine (l20Boxes_any lim g N _ 8 _ HH.out (by omega) (by omega) (by omega)).mono ?_
  rintro e w1 ⟨A1, c1, l1, rfl, ho1, hl12, hr1, hg1⟩
  have HIT := Lib.hid ho1.in_
  have hs1 := hg1.size
  have HT1 := Lib.hid (ho1.alloc (.cells #[] 57))
  have HO1 := Lib.hid (Own.none_made (e := encB) (E := 57) w1)
  have HR1 := Lib.hid (hr1.alloc (.cells #[] 57))
  have HG1 := Lib.hid (grown_alloc hg1 (.cells #[] 57))
  clear ho1 hr1 hg1
  go_wp2
  go_loopw [7, 8] (fun v i wr => ∃ (j : Nat) (A : Option Addr) (c : Nat) (l2 : List Bx), j ≤ l1.length ∧ i = vi ((j : Int) - 1) ∧ v = .slice A l2.length c ∧ l2.length + j ≤ l1.length ∧ Own encB 57 wr w1.heap.size A l2.length c l2 ∧ Own encB 57 wr w.heap.size A1 l1.length c1 l1 ∧ Rdr wr lim g (N + 100 + 2 * ((l1.length : Int) - j)) ∧ w.grownBy wr (some g) ∧ w1.heap.size ≤ wr.heap.size)
    (fun _ i _ => (intOf i + 1).toNat)
  case atStart => exact ⟨l1.length, _, _, [], Nat.le_refl _, by go_num, rfl, by simp, HO1.out, HT1.out, HR1.out.mono (by omega), HG1.out, by simp⟩
  case round =>
    obtain ⟨j, A, c, l2, hj, rfl, rfl, hlj, ho, ht, hr, hg, hsz⟩ := hrel
    have HO := Lib.hid ho
    have HT := Lib.hid ht
    have HR := Lib.hid hr
    have HG := Lib.hid hg
    clear ho ht hr hg HO1 HT1 HR1 HG1
    by_cases hj0 : 0 < j
    · obtain ⟨k, rfl⟩ : ∃ k, j = k + 1 := ⟨j - 1, by omega⟩
      have hk1 : ((k + 1 : Nat) : Int) - 1 = (k : Int) := by omega
      rw [hk1]
      have hkl : k < l1.length := by omega
      rcases HT.out.form with ⟨_, e0⟩ | ⟨g1, rfl, hg11, hg12⟩
      · rw [e0] at hkl; simp at hkl
      obtain ⟨hc0, hc1, hc2, hc3, hc4⟩ := HT.out.cell5 k hkl
      have HB := Lib.hid ((Own.lit (E := 57) (e := encB) wr #[vi (nth l1 k).id, vi (nth l1 k).wt, vi (nth l1 k).cls, vi (nth l1 k).port, .bool (nth l1 k).cold] [nth l1 k] rfl (by simp [maxLen])).mono (show w1.heap.size ≤ wr.heap.size by omega))
      go_wp2_with fail
      refine (pick_any lim g _ 4 _ (HR.out.alloc _) (by omega)).mono ?_
      rintro e w3 ⟨x3, rfl, hx3, hx3b, -, hr3, hg3⟩
      have HB3 := Lib.hid (HB.out.farG hg3 (by omega))
      have HO3 := Lib.hid ((HO.out.alloc (.cells #[vi (nth l1 k).id, vi (nth l1 k).wt, vi (nth l1 k).cls, vi (nth l1 k).port, .bool (nth l1 k).cold] 57)).farG hg3 (by omega))
      have HT3 := Lib.hid ((HT.out.alloc (.cells #[vi (nth l1 k).id, vi (nth l1 k).wt, vi (nth l1 k).cls, vi (nth l1 k).port, .bool (nth l1 k).cold] 57)).farG hg3 hgs.2)
      have HR3 := Lib.hid hr3
      have HG3 := Lib.hid ((grown_alloc HG.out (.cells #[vi (nth l1 k).id, vi (nth l1 k).wt, vi (nth l1 k).cls, vi (nth l1 k).port, .bool (nth l1 k).cold] 57)).trans hg3)
      have hs3 := hg3.size
      simp only [World.size_alloc] at hs3
      have HIO := Lib.hid HO.out.in_
      clear hr3 hg3 hx3b hc0 hc1 hc2 hc3 hc4 HO HT HR HG HB
      by_cases h3 : x3 = 0
      · subst h3
        obtain ⟨hb0, hb1, hb2, hb3, hb4⟩ := HB3.out.cell5h
        have hfb := HB3.out.frozen 1
        by_cases hw : 1 < (nth l1 k).wt
        · have HP := Lib.hid (fun z => HB3.out.put1 1 (by omega) (⟨(nth l1 k).id, z, (nth l1 k).cls, (nth l1 k).port, (nth l1 k).cold⟩ : Bx) (vi z) rfl)
          have HRx := Lib.hid (fun z => HR3.out.far (HP.out z).2 (fun q hq => by injection hq with hq; omega))
          have HGx := Lib.hid (fun z => grown_past HG3.out (HP.out z).2 (fun q hq => by injection hq with hq; omega))
          have HOx := Lib.hid (fun z => HO3.out.far (HP.out z).2 (fun q e1 e2 => by injection e2 with e2; have := HIO.out q (.inl e1); omega))
          have HTx := Lib.hid (fun z => HT3.out.far (HP.out z).2 (fun q e1 e2 => by injection e2 with e2; injection e1 with e1; injection e1 with e1; omega))
          go_wp2_with fail
          refine (pick_any lim g _ 5 _ (HRx.out _) (by omega)).mono ?_
          rintro e w4 ⟨x4, rfl, hx4, hx4b, -, hr4, hg4⟩
          have HB4 := Lib.hid ((HP.out _).1.farG hg4 (by omega))
          have HO4 := Lib.hid ((HOx.out _).farG hg4 (by omega))
          have HT4 := Lib.hid ((HTx.out _).farG hg4 hgs.2)
          have HG4 := Lib.hid ((HGx.out _).trans hg4)
          have HR4 := Lib.hid hr4
          have hs4 := hg4.size
          simp only [World.size_setCell] at hs4
          clear hr4 hg4 HP HRx HGx HOx HTx hb0 hb1 hb2 hb3 hb4 hfb
          obtain ⟨bx, hbx⟩ : ∃ bx, Own encB 57 w4 w1.heap.size (some ⟨wr.heap.size, 0, none⟩) 1 1 [bx] := ⟨_, HB4.out⟩
          clear HB4 HB3 HO3 HT3 HR3 HG3
          obtain ⟨hb0, hb1, hb2, hb3, hb4⟩ := hbx.cell5h
          clear hbx
          have hlq : l2.length ≤ 12 := by omega
          have HT := HT4
          have HIx := Lib.hid HO4.out.in_
          by_cases h5 : 0 < x4
          · skip
            have HL := Lib.hid (Own.lit (E := 57) (e := encB) w4 #[vi bx.id, vi bx.wt, vi bx.cls, vi bx.port, .bool bx.cold] [bx] rfl (by simp [maxLen]))
            go_wp2_with (at_builtin; refine app_Box rfl (.tmp 42) (.tmp 44) rfl w1.heap.size A l2.length c l2 rfl (HO4.out.alloc _) (some ⟨w4.heap.size, 0, none⟩) 1 1 [bx] rfl HL.out.rd rfl (by omega) (by simp; omega) ?_; intro A7 c7 w7 ho7 hg7; skip)
            have HO7 := Lib.hid ho7
            have HR7 := Lib.hid ((HR4.out.alloc (.cells #[vi bx.id, vi bx.wt, vi bx.cls, vi bx.port, .bool bx.cold] 57)).far hg7 (fun q hq => by have := HIx.out q (.inr hq); omega))
            have HG7 := Lib.hid (grown_past (grown_alloc HG4.out (.cells #[vi bx.id, vi bx.wt, vi bx.cls, vi bx.port, .bool bx.cold] 57)) hg7 (fun q hq => by have := HIx.out q (.inr hq); omega))
            have HT7 := Lib.hid ((HT.out.alloc (.cells #[vi bx.id, vi bx.wt, vi bx.cls, vi bx.port, .bool bx.cold] 57)).far hg7 (apart HIT.out HIx.out (by omega)))
            have hs7 := hg7.size
            simp only [World.size_alloc] at hs7
            clear ho7 hg7
            go_wp2
            go_roundw
            case rel => exact ⟨k, A7, c7, l2 ++ [bx], by omega, by go_num, by simp, by simp; omega, by simpa using HO7.out, HT7.out, HR7.out.mono (by omega), HG7.out, by omega⟩
            case measure => first | (simp [intOf]; done) | (simp [intOf]; omega)
          · go_wp2
            go_roundw
            case rel => exact ⟨k, A, c, l2, by omega, by go_num, rfl, by omega, HO4.out, HT4.out, HR4.out.mono (by omega), HG4.out, by omega⟩
            case measure => first | (simp [intOf]; done) | (simp [intOf]; omega)
        · go_wp2_with fail
          refine (pick_any lim g _ 5 _ HR3.out (by omega)).mono ?_
          rintro e w4 ⟨x4, rfl, hx4, hx4b, -, hr4, hg4⟩
          have HB4 := Lib.hid (HB3.out.farG hg4 (by omega))
          have HO4 := Lib.hid (HO3.out.farG hg4 (by omega))
          have HT4 := Lib.hid (HT3.out.farG hg4 hgs.2)
          have HG4 := Lib.hid (HG3.out.trans hg4)
          have HR4 := Lib.hid hr4
          have hs4 := hg4.size
          clear hr4 hg4
          clear hb0 hb1 hb2 hb3 hb4 hfb
          obtain ⟨bx, hbx⟩ : ∃ bx, Own encB 57 w4 w1.heap.size (some ⟨wr.heap.size, 0, none⟩) 1 1 [bx] := ⟨_, HB4.out⟩
          clear HB4 HB3 HO3 HT3 HR3 HG3
          obtain ⟨hb0, hb1, hb2, hb3, hb4⟩ := hbx.cell5h
          clear hbx
          have hlq : l2.length ≤ 12 := by omega
          have HT := HT4
          have HIx := Lib.hid HO4.out.in_
          by_cases h5 : 0 < x4
          · skip
            have HL := Lib.hid (Own.lit (E := 57) (e := encB) w4 #[vi bx.id, vi bx.wt, vi bx.cls, vi bx.port, .bool bx.cold] [bx] rfl (by simp [maxLen]))
            go_wp2_with (at_builtin; refine app_Box rfl (.tmp 42) (.tmp 44) rfl w1.heap.size A l2.length c l2 rfl (HO4.out.alloc _) (some ⟨w4.heap.size, 0, none⟩) 1 1 [bx] rfl HL.out.rd rfl (by omega) (by simp; omega) ?_; intro A7 c7 w7 ho7 hg7; skip)
            have HO7 := Lib.hid ho7
            have HR7 := Lib.hid ((HR4.out.alloc (.cells #[vi bx.id, vi bx.wt, vi bx.cls, vi bx.port, .bool bx.cold] 57)).far hg7 (fun q hq => by have := HIx.out q (.inr hq); omega))
            have HG7 := Lib.hid (grown_past (grown_alloc HG4.out (.cells #[vi bx.id, vi bx.wt, vi bx.cls, vi bx.port, .bool bx.cold] 57)) hg7 (fun q hq => by have := HIx.out q (.inr hq); omega))
            have HT7 := Lib.hid ((HT.out.alloc (.cells #[vi bx.id, vi bx.wt, vi bx.cls, vi bx.port, .bool bx.cold] 57)).far hg7 (apart HIT.out HIx.out (by omega)))
            have hs7 := hg7.size
            simp only [World.size_alloc] at hs7
            clear ho7 hg7
            go_wp2
            go_roundw
            case rel => exact ⟨k, A7, c7, l2 ++ [bx], by omega, by go_num, by simp, by simp; omega, by simpa using HO7.out, HT7.out, HR7.out.mono (by omega), HG7.out, by omega⟩
            case measure => first | (simp [intOf]; done) | (simp [intOf]; omega)
          · go_wp2
            go_roundw
            case rel => exact ⟨k, A, c, l2, by omega, by go_num, rfl, by omega, HO4.out, HT4.out, HR4.out.mono (by omega), HG4.out, by omega⟩
            case measure => first | (simp [intOf]; done) | (simp [intOf]; omega)
      · have h3b : (x3 == 0) = false := by simp [h3]
        go_wp2_with fail
        refine (pick_any lim g _ 5 _ HR3.out (by omega)).mono ?_
        rintro e w4 ⟨x4, rfl, hx4, hx4b, -, hr4, hg4⟩
        have HB4 := Lib.hid (HB3.out.farG hg4 (by omega))
        have HO4 := Lib.hid (HO3.out.farG hg4 (by omega))
        have HT4 := Lib.hid (HT3.out.farG hg4 hgs.2)
        have HG4 := Lib.hid (HG3.out.trans hg4)
        have HR4 := Lib.hid hr4
        have hs4 := hg4.size
        clear hr4 hg4
        obtain ⟨bx, hbx⟩ : ∃ bx, Own encB 57 w4 w1.heap.size (some ⟨wr.heap.size, 0, none⟩) 1 1 [bx] := ⟨_, HB4.out⟩
        clear HB4 HB3 HO3 HT3 HR3 HG3
        obtain ⟨hb0, hb1, hb2, hb3, hb4⟩ := hbx.cell5h
        clear hbx
        have hlq : l2.length ≤ 12 := by omega
        have HT := HT4
        have HIx := Lib.hid HO4.out.in_
        by_cases h5 : 0 < x4
        · skip
          have HL := Lib.hid (Own.lit (E := 57) (e := encB) w4 #[vi bx.id, vi bx.wt, vi bx.cls, vi bx.port, .bool bx.cold] [bx] rfl (by simp [maxLen]))
          go_wp2_with (at_builtin; refine app_Box rfl (.tmp 42) (.tmp 44) rfl w1.heap.size A l2.length c l2 rfl (HO4.out.alloc _) (some ⟨w4.heap.size, 0, none⟩) 1 1 [bx] rfl HL.out.rd rfl (by omega) (by simp; omega) ?_; intro A7 c7 w7 ho7 hg7; skip)
          have HO7 := Lib.hid ho7
          have HR7 := Lib.hid ((HR4.out.alloc (.cells #[vi bx.id, vi bx.wt, vi bx.cls, vi bx.port, .bool bx.cold] 57)).far hg7 (fun q hq => by have := HIx.out q (.inr hq); omega))
          have HG7 := Lib.hid (grown_past (grown_alloc HG4.out (.cells #[vi bx.id, vi bx.wt, vi bx.cls, vi bx.port, .bool bx.cold] 57)) hg7 (fun q hq => by have := HIx.out q (.inr hq); omega))
          have HT7 := Lib.hid ((HT.out.alloc (.cells #[vi bx.id, vi bx.wt, vi bx.cls, vi bx.port, .bool bx.cold] 57)).far hg7 (apart HIT.out HIx.out (by omega)))
          have hs7 := hg7.size
          simp only [World.size_alloc] at hs7
          clear ho7 hg7
          go_wp2
          go_roundw
          case rel => exact ⟨k, A7, c7, l2 ++ [bx], by omega, by go_num, by simp, by simp; omega, by simpa using HO7.out, HT7.out, HR7.out.mono (by omega), HG7.out, by omega⟩
          case measure => first | (simp [intOf]; done) | (simp [intOf]; omega)
        · go_wp2
          go_roundw
          case rel => exact ⟨k, A, c, l2, by omega, by go_num, rfl, by omega, HO4.out, HT4.out, HR4.out.mono (by omega), HG4.out, by omega⟩
          case measure => first | (simp [intOf]; done) | (simp [intOf]; omega)
    · obtain rfl : j = 0 := by omega
      have hl2 : l2.length ≤ 12 := by omega
      have hm1 : ((0 : Nat) : Int) - 1 = -1 := by omega
      rw [hm1]
      clear hlj
      go_wp2_with fail
      refine (pick_any lim g _ 3 _ HR.out (by omega)).mono ?_
      rintro e w3 ⟨x3, rfl, hx3, hx3b, -, hr3, hg3⟩
      have hx3c := hx3b (by omega)
      have HO3 := Lib.hid (HO.out.farG hg3 (by omega))
      have HT3 := Lib.hid (HT.out.farG hg3 hgs.2)
      have HG3 := Lib.hid (HG.out.trans hg3)
      have HR3 := Lib.hid (hr3.mono (show _ ≤ N + 150 by omega))
      have hs3 := hg3.size
      clear hr3 hg3 hx3b HO HT HR HG
      obtain ⟨p, rfl⟩ := Int.eq_ofNat_of_zero_le hx3
      have hp3 : p ≤ 2 := by omega
      clear hx3 hx3c
      go_wp2
      go_loopw [7, 10] (fun v i wr => ∃ (j : Nat) (A : Option Addr) (c : Nat) (l2 : List Bx), j ≤ p ∧ i = vi j ∧ v = .slice A l2.length c ∧ l2.length + j ≤ 12 + p ∧ Own encB 57 wr w1.heap.size A l2.length c l2 ∧ Own encB 57 wr w.heap.size A1 l1.length c1 l1 ∧ Rdr wr lim g (N + 150 + 9 * ((p : Int) - j)) ∧ w.grownBy wr (some g) ∧ w1.heap.size ≤ wr.heap.size)
        (fun _ i _ => (intOf i).toNat)
      case atStart => exact ⟨p, A, c, l2, Nat.le_refl _, by go_num, rfl, by omega, HO3.out, HT3.out, HR3.out.mono (by omega), HG3.out, by omega⟩
      case round =>
        obtain ⟨j, A, c, l2, hj, rfl, rfl, hlj, ho, ht, hr, hg, hsz2⟩ := hrel
        have HO := Lib.hid ho
        have HIx := Lib.hid ho.in_
        have HT := Lib.hid ht
        have HR := Lib.hid hr
        have HG := Lib.hid hg
        clear ho ht hr hg HO3 HT3 HR3 HG3
        by_cases hj0 : 0 < j
        · go_wp2_with fail
          refine (l20Box_any lim g _ _ 0 _ HR.out (by omega) (by omega)).mono ?_
          rintro e w5 ⟨bx, rfl, hr5, hg5⟩
          have HR5 := Lib.hid hr5
          have HO5 := Lib.hid (HO.out.farG hg5 (by omega))
          have HTa := Lib.hid (HT.out.farG hg5 hgs.2)
          have HT := HTa
          have HG5 := Lib.hid (HG.out.trans hg5)
          have hs5 := hg5.size
          clear hr5 hg5
          have HL := Lib.hid (Own.lit (E := 57) (e := encB) w5 #[vi bx.id, vi bx.wt, vi bx.cls, vi bx.port, .bool bx.cold] [bx] rfl (by simp [maxLen]))
          go_wp2_with (at_builtin; refine app_Box rfl (.tmp 52) (.tmp 57) rfl w1.heap.size A l2.length c l2 rfl (HO5.out.alloc _) (some ⟨w5.heap.size, 0, none⟩) 1 1 [bx] rfl HL.out.rd rfl (by omega) (by simp; omega) ?_; intro A7 c7 w7 ho7 hg7; skip)
          have HO7 := Lib.hid ho7
          have HR7 := Lib.hid ((HR5.out.alloc (.cells #[vi bx.id, vi bx.wt, vi bx.cls, vi bx.port, .bool bx.cold] 57)).far hg7 (fun q hq => by have := HIx.out q (.inr hq); omega))
          have HG7 := Lib.hid (grown_past (grown_alloc HG5.out (.cells #[vi bx.id, vi bx.wt, vi bx.cls, vi bx.port, .bool bx.cold] 57)) hg7 (fun q hq => by have := HIx.out q (.inr hq); omega))
          have HT7 := Lib.hid ((HT.out.alloc (.cells #[vi bx.id, vi bx.wt, vi bx.cls, vi bx.port, .bool bx.cold] 57)).far hg7 (apart HIT.out HIx.out (by omega)))
          have hs7 := hg7.size
          simp only [World.size_alloc] at hs7
          clear ho7 hg7
          go_wp2
          go_roundw
          case rel => exact ⟨j - 1, A7, c7, l2 ++ [bx], by omega, by go_num, by simp, by simp; omega, by simpa using HO7.out, HT7.out, HR7.out.mono (by omega), HG7.out, by omega⟩
          case measure => simp [intOf]; omega
        · obtain rfl : j = 0 := by omega
          go_wp2_with fail
          refine (odd_any lim g _ _ _ HR.out (by omega) (by omega)).mono ?_
          rintro e w5 ⟨o, rfl, hr5, hg5⟩
          have HR5 := Lib.hid hr5
          have HO5 := Lib.hid (HO.out.farG hg5 (by omega))
          have HT5 := Lib.hid (HT.out.farG hg5 hgs.2)
          have HG5 := Lib.hid (HG.out.trans hg5)
          have hs5 := hg5.size
          clear hr5 hg5
          cases o with
          | false =>
            go_wp2
            go_ret2
            exact ⟨A1, c1, l1, A, c, l2, rfl, HT5.out, HO5.out.mono (by omega), by omega, by omega, HR5.out.mono (by omega), HG5.out⟩
          | true =>
            go_wp2_with fail
            refine (l20Boxes_any lim g _ 1 8 _ HR5.out (by omega) (by omega) (by omega)).mono ?_
            rintro e w6 ⟨A6, c6, l6, rfl, ho6, hl6, hr6, hg6⟩
            have HO6 := Lib.hid (ho6.mono (show w.heap.size ≤ w5.heap.size by omega))
            have HT6 := Lib.hid (HT5.out.farG hg6 hgs.2)
            have HR6 := Lib.hid hr6
            have HG6 := Lib.hid (HG5.out.trans hg6)
            clear ho6 hr6 hg6
            go_wp2
            go_ret2
            exact ⟨A1, c1, l1, A6, c6, l6, rfl, HT6.out, HO6.out, by omega, by omega, HR6.out.mono (by omega), HG6.out⟩

theorem DrawDiffMany_any (A : Option Addr) (c : Nat) (l : List Int) (w : World) (h : RdB w w.heap.size A l) (hcap : l.length ≤ c) :
    Calls Try.prog 21 #[.slice A l.length c] w fun e w' => ∃ (A : Option Addr) (c : Nat) (dl : List (Int × Bx)) (z : Int), e = .returned (.tuple #[.slice A dl.length c, vi z]) ∧ Own encD 59 w' w.heap.size A dl.length c dl ∧ Kinds dl ∧ dl.length ≤ 999 ∧ Below w.heap.size w w' := by
  have H := Lib.hid (open_any A c l w h hcap)
  clear h hcap
  go_enter Try.func21, Try.ntmps21
  go_wp2_with fail
  refine H.out.mono ?_
  rintro e w1 ⟨rfl, hr1, hb1, hs1⟩
  have HR1 := Lib.hid hr1
  have HB1 := Lib.hid hb1
  have hlt1 := hr1.lt
  have hz1 := hb1.size
  clear hr1 hb1 hs1 H
  go_wp2_with fail
  refine (l20Told_any w.heap.size w.heap.size 0 9 w1 HR1.out (by omega) (by omega) (by omega)).mono ?_
  rintro e w2 ⟨A1, c1, l1, A2, c2, l2, rfl, ho1, ho2, hl1, hl2, hr2, hg2⟩
  have HT2 := Lib.hid ho1
  have HS2 := Lib.hid ho2
  have HR2 := Lib.hid hr2
  have HG2 := Lib.hid hg2
  have hs2 := hg2.size
  clear ho1 ho2 hr2 hg2
  go_wp2_with fail
  refine (specDiffsOf A1 c1 l1 A2 c2 l2 w2 HT2.out.rd HS2.out.rd (by omega) (by omega)).mono ?_
  rintro e w3 ⟨dl, ⟨A3, c3, rfl, ho3, hb3⟩, hkd, hdl⟩
  have HO3 := Lib.hid ho3
  have HR3 := Lib.hid (HR2.out.below hb3)
  have HG3 := Lib.hid (grown_below HG2.out hb3)
  have hs3 := hb3.size
  have HK := Lib.hid hkd
  clear ho3 hb3 hkd
  go_wp2_with fail
  refine (pick_any w.heap.size w.heap.size _ 4 _ HR3.out (by omega)).mono ?_
  rintro e w4 ⟨x4, rfl, hx4, hx4b, -, hr4, hg4⟩
  have hx4c := hx4b (by omega)
  have HR4 := Lib.hid hr4
  have HG4 := Lib.hid (HG3.out.trans hg4)
  have HO4 := Lib.hid (HO3.out.farG hg4 (by omega))
  clear hr4 hg4 hx4b
  go_wp2_with fail
  refine (pick_any w.heap.size w.heap.size _ 9 _ HR4.out (by omega)).mono ?_
  rintro e w5 ⟨x5, rfl, hx5, hx5b, -, hr5, hg5⟩
  have hx5c := hx5b (by omega)
  have HG5 := Lib.hid (HG4.out.trans hg5)
  have HO5 := Lib.hid (HO4.out.farG hg5 (by omega))
  clear hr5 hg5 hx5b
  have e5 : Int.tdiv x5 8 = x5 / 8 := Int.tdiv_eq_ediv_of_nonneg hx5
  have HB5 := Lib.hid (grown_all HB1.out HG5.out (Nat.le_refl _))
  go_wp2
  go_ret2
  exact ⟨A3, c3, dl, _, rfl, HO5.out.mono (by omega), HK.out, hdl, HB5.out⟩
end Go.Proofs.Ytjhbmikohcbkkaa
