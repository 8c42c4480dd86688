/-
  Contracts: lists of boxes are drawn.
-/
import Derived.Test.YtjhbmikohcbkkaaBoxDraw
namespace Go.Proofs.Ytjhbmikohcbkkaa
open Go.RowKit
set_option linter.unusedVariables false
set_option maxRecDepth 100000

/-- A draw of boxes. -/
def DrawBs (w : World) (lim g : Nat) (N M : Int) (hi : Nat) (e : Ending) (w' : World) : Prop :=
  ∃ (A : Option Addr) (c : Nat) (l : List Bx), e = .returned (.slice A l.length c) ∧ Own encB 57 w' w.heap.size A l.length c l ∧ l.length ≤ hi ∧ Rdr w' lim g (N + M) ∧ w.grownBy w' (some g)

theorem l20Boxes_any (lim g : Nat) (N n : Int) (many : Nat) (w : World) (h : Rdr w lim g N) (hN : N ≤ 90000000) (hn : n ≤ 1000000000) (hm : many ≤ 10) :
    Calls Try.prog 58 #[.pointer (some ⟨g, 0, none⟩), vi many, vi n] w (DrawBs w lim g N 100 12) := by
  have hgs := h.lt
  have HH := Lib.hid (h.alloc (.cells #[] 57))
  have HG0 : Hid (w.grownBy (w.alloc (.cells #[] 57)) (some g)) := Lib.hid (grown_alloc (World.grownBy.refl _ _) _)
  have HO0 : Hid (Own encB 57 (w.alloc (.cells #[] 57)) w.heap.size (some ⟨w.heap.size, 0, none⟩) 0 0 []) := Lib.hid (Own.none_made w)
  clear h
  go_enter Try.func58, Try.ntmps58
  go_wp2_with fail
  refine (pick_any lim g N ((many : Int) + 1) _ HH.out (by omega)).mono ?_
  rintro e w2 ⟨x2, rfl, hx2, hx2b, -, hr2, hg2⟩
  have hx2c := hx2b (by omega)
  have HR2 := Lib.hid hr2
  have HG2 := Lib.hid (HG0.out.trans hg2)
  have HO2 := Lib.hid (HO0.out.farG hg2 hgs.2)
  clear hr2 hg2 hx2b
  obtain ⟨p, rfl⟩ := Int.eq_ofNat_of_zero_le hx2
  have hpb : p ≤ many := by omega
  clear hx2 hx2c HH HG0 HO0
  go_wp2_with fail
  go_loopw [7, 8] (fun v i wr => ∃ (j : Nat) (A : Option Addr) (c : Nat) (l : List Bx), j ≤ p ∧ i = vi j ∧ v = .slice A l.length c ∧ l.length + j = p ∧ Own encB 57 wr w.heap.size A l.length c l ∧ Rdr wr lim g (N + 1 + 8 * ((p : Int) - j)) ∧ w.grownBy wr (some g))
    (fun _ i _ => (intOf i).toNat)
  case atStart => exact ⟨p, _, _, [], Nat.le_refl _, by go_num, rfl, by simp, HO2.out, HR2.out.mono (by omega), HG2.out⟩
  case round =>
    obtain ⟨j, A, c, l, hj, rfl, rfl, hlj, ho, hr, hg⟩ := hrel
    have HO := Lib.hid ho
    have HR := Lib.hid hr
    have HG := Lib.hid hg
    have hws := hg.size
    have HIx := Lib.hid ho.in_
    clear ho hr hg HO2 HR2 HG2
    have hl8 : l.length ≤ 10 := by omega
    by_cases hj0 : 0 < j
    · have Hlj := Lib.hid hlj
      clear hlj
      go_wp2_with fail
      refine (l20Box_any lim g _ _ 0 _ HR.out (by omega) (by omega)).mono ?_
      rintro e w3 ⟨bx, rfl, hr3, hg3⟩
      have HR3 := Lib.hid hr3
      have hs3 := hg3.size
      have HO3 := Lib.hid (HO.out.farG hg3 hgs.2)
      have HG3 := Lib.hid (HG.out.trans hg3)
      clear hr3 hg3
      have HL := Lib.hid (Own.lit (E := 57) (e := encB) w3 #[vi bx.id, vi bx.wt, vi bx.cls, vi bx.port, .bool bx.cold] [bx] rfl (by simp [maxLen]))
      go_wp2_with (at_builtin; refine app_Box rfl (.tmp 18) (.tmp 24) rfl w.heap.size A l.length c l rfl (HO3.out.alloc _) (some ⟨w3.heap.size, 0, none⟩) 1 1 [bx] rfl HL.out.rd rfl (by omega) (by have := HG3.out.size; simp; omega) ?_; intro A7 c7 w7 ho7 hg7; skip)
      have HO7 := Lib.hid ho7
      have HR7 := Lib.hid ((HR3.out.alloc (.cells #[vi bx.id, vi bx.wt, vi bx.cls, vi bx.port, .bool bx.cold] 57)).far hg7 (fun k hk => by have := HIx.out k (.inr hk); omega))
      have HG7 := Lib.hid (grown_past (grown_alloc HG3.out (.cells #[vi bx.id, vi bx.wt, vi bx.cls, vi bx.port, .bool bx.cold] 57)) hg7 (fun k hk => by have := HIx.out k (.inr hk); omega))
      clear ho7 hg7
      go_wp2
      go_roundw
      case rel => exact ⟨j - 1, A7, c7, l ++ [bx], by omega, by go_num, by simp, by have := Hlj.out; simp; omega, by simpa using HO7.out, HR7.out.mono (by omega), HG7.out⟩
      case measure => simp [intOf]; omega
    · obtain rfl : j = 0 := by omega
      have hcap := HO.out.cap
      go_wp2_with fail
      refine (odd_any lim g _ n _ HR.out (by omega) hn).mono ?_
      rintro e w3 ⟨b, rfl, hr3, hg3⟩
      have HO3 := Lib.hid (HO.out.farG hg3 hgs.2)
      have HG3 := Lib.hid (HG.out.trans hg3)
      have HR3 := Lib.hid (hr3.mono (show _ ≤ N + 83 by omega))
      have hs3 := hg3.size
      clear hr3 hg3 HR HG HO
      cases b with
      | false =>
        go_wp2
        go_ret
        exact ⟨_, c, l, rfl, HO3.out, by omega, HR3.out.mono (by omega), HG3.out⟩
      | true =>
        go_wp2_with fail
        refine (pick_any lim g _ 3 _ HR3.out (by omega)).mono ?_
        rintro e w4 ⟨y, rfl, hy, hyb, -, hr4, hg4⟩
        have hyc := hyb (by omega)
        have HR4 := Lib.hid hr4
        have HG4 := Lib.hid (HG3.out.trans hg4)
        have HO4 := Lib.hid (HO3.out.farG hg4 hgs.2)
        have hs4 := hg4.size
        clear hr4 hg4 hyb
        have hy4 : y = 0 ∨ y = 1 ∨ y = 2 := by omega
        clear hy hyc
        rcases hy4 with rfl | rfl | rfl
        · have hmk : ∀ w, (Instr.makeSlice 75 (.int .i64 11) (.int .i64 11)).run Try.prog w = .ok (.slice (some ⟨w.heap.size, 0, none⟩) 11 11) (w.alloc (.cells (madeCells #[vi 0, vi 0, vi 0, vi 0, .bool false] (11 * 5)) 57)) := fun w => make_Box 11 (by omega) w
          go_wp2
          go_ret
          exact ⟨_, 11, List.replicate 11 default, rfl, (Own.made (e := encB) w4 #[vi 0, vi 0, vi 0, vi 0, .bool false] rfl 11 (by simp [maxLen])).mono (by omega), by simp, (HR4.out.alloc _).mono (by omega), grown_alloc HG4.out _⟩
        · go_wp2_with fail
          refine (l20Box_any lim g _ _ 1 _ HR4.out (by omega) (by omega)).mono ?_
          rintro e w5 ⟨bx, rfl, hr5, hg5⟩
          have HR5 := Lib.hid hr5
          have hs5 := hg5.size
          have HO5 := Lib.hid (HO4.out.farG hg5 hgs.2)
          have HG5 := Lib.hid (HG4.out.trans hg5)
          clear hr5 hg5
          have HL := Lib.hid (Own.lit (E := 57) (e := encB) w5 #[vi bx.id, vi bx.wt, vi bx.cls, vi bx.port, .bool bx.cold] [bx] rfl (by simp [maxLen]))
          go_wp2_with (at_builtin; refine app_Box rfl (.tmp 41) (.tmp 44) rfl w.heap.size A l.length c l rfl (HO5.out.alloc _) (some ⟨w5.heap.size, 0, none⟩) 1 1 [bx] rfl HL.out.rd rfl (by omega) (by have := HG5.out.size; simp; omega) ?_; intro A7 c7 w7 ho7 hg7; skip)
          have HO7 := Lib.hid ho7
          have HR7 := Lib.hid ((HR5.out.alloc (.cells #[vi bx.id, vi bx.wt, vi bx.cls, vi bx.port, .bool bx.cold] 57)).far hg7 (fun k hk => by have := HIx.out k (.inr hk); omega))
          have HG7 := Lib.hid (grown_past (grown_alloc HG5.out (.cells #[vi bx.id, vi bx.wt, vi bx.cls, vi bx.port, .bool bx.cold] 57)) hg7 (fun k hk => by have := HIx.out k (.inr hk); omega))
          clear ho7 hg7
          go_wp2
          go_ret
          exact ⟨A7, c7, l ++ [bx], by simp, by simpa using HO7.out, by simp; omega, HR7.out.mono (by omega), HG7.out⟩
        · skip
          have HL := Lib.hid (Own.lit (E := 57) (e := encB) w4 #[vi 7, vi 3, vi 0, vi 0, .bool false, vi 7, vi 4, vi 0, vi 0, .bool false] [(⟨7, 3, 0, 0, false⟩ : Bx), ⟨7, 4, 0, 0, false⟩] rfl (by simp [maxLen]))
          go_wp2_with (at_builtin; refine app_Box rfl (.tmp 31) (.tmp 34) rfl w.heap.size A l.length c l rfl (HO4.out.alloc _) (some ⟨w4.heap.size, 0, none⟩) 2 2 [(⟨7, 3, 0, 0, false⟩ : Bx), ⟨7, 4, 0, 0, false⟩] rfl HL.out.rd rfl (by omega) (by have := HG4.out.size; simp; omega) ?_; intro A7 c7 w7 ho7 hg7; skip)
          have HO7 := Lib.hid ho7
          have HR7 := Lib.hid ((HR4.out.alloc (.cells #[vi 7, vi 3, vi 0, vi 0, .bool false, vi 7, vi 4, vi 0, vi 0, .bool false] 57)).far hg7 (fun k hk => by have := HIx.out k (.inr hk); omega))
          have HG7 := Lib.hid (grown_past (grown_alloc HG4.out (.cells #[vi 7, vi 3, vi 0, vi 0, .bool false, vi 7, vi 4, vi 0, vi 0, .bool false] 57)) hg7 (fun k hk => by have := HIx.out k (.inr hk); omega))
          clear ho7 hg7
          go_wp2
          go_ret
          exact ⟨A7, c7, l ++ [(⟨7, 3, 0, 0, false⟩ : Bx), ⟨7, 4, 0, 0, false⟩], by simp, by simpa using HO7.out, by simp; omega, HR7.out.mono (by omega), HG7.out⟩
end Go.Proofs.Ytjhbmikohcbkkaa
