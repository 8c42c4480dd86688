/-
  Contracts: the order of tasks that is told by counting, and its end.
-/
import Derived.Test.YtpabfbaoibmnlaaCyF
namespace Go.Proofs.Ytpabfbaoibmnlaa
open Go.RowKit
set_option linter.unusedVariables false
set_option maxRecDepth 100000

theorem app_below {w wr w7 : World} {B : Option Addr} {n c : Nat} {y : List Int} {o : Obj} (hb : Below w.heap.size w wr) (ho : OwnI wr w.heap.size B n c y) (m : Nat) (hg : ((wr.drewN m).alloc o).grownBy w7 (blk B)) : Below w.heap.size w w7 :=
  ((below_drewN hb m).alloc hb.size o).grown hg (by have := hb.size; simp; omega) (fun q hq => (ho.in_ q (.inr hq)).1)

set_option maxRecDepth 4000 in
set_option maxHeartbeats 8000000 in
theorem specCycleOrder (A : Option Addr) (c : Nat) (l : List (Int × Int)) (w : World) (h : Rd encP w A l) (ht : tasksOk l = true) :
    Calls Try.prog 57 #[.slice A l.length c] w (NewG w l) := by
  have hl6 := (tasksOk_t ht).2
  have HG := Lib.hid (told_good ht)
  have HT := Lib.hid ht
  have HTV := Lib.hid (specTasksValid A c l (w.alloc (.cells #[] 3)) (h.alloc _) (by omega))
  rw [ht] at HTV
  have HR := Lib.hid h
  have HN := Lib.hid (OwnI.none_made w)
  have HB0 := Lib.hid ((Below.refl w.heap.size w).alloc (Nat.le_refl _) (.cells #[] 3))
  clear h ht
  go_enter Try.func57, Try.ntmps57
  go_wp2_with fail
  refine HTV.out.mono ?_
  rintro e w' ⟨rfl, rfl⟩
  go_wp2
  go_loopw [3, 4] (fun o t wr => ∃ (k : Nat) (B : Option Addr) (d : Nat) (y : List Int) (n : Nat), k ≤ 100 ∧ t = vi k ∧ o = .slice B n d ∧ y = frT l k ∧ n ≤ 6 * k ∧ OwnI wr w.heap.size B n d y ∧ Below w.heap.size w wr) (fun _ t _ => 100 - (intOf t).toNat)
  case atStart => exact ⟨0, _, _, _, 0, by omega, rfl, rfl, frT_zero.symm, by omega, HN.out, HB0.out⟩
  case round =>
    obtain ⟨k, B, d, y, n, hk, rfl, rfl, hy, hyl, ho, hb⟩ := hrel
    have HY := Lib.hid hy
    have HO := Lib.hid ho
    have HB := Lib.hid hb
    clear hy ho hb
    by_cases hk9 : k ≤ 99
    · have hk9i : (k : Int) ≤ 99 := by omega
      go_wp2
      go_loopw [3, 5] (fun o i wr => ∃ (m : Nat) (B : Option Addr) (d : Nat) (y : List Int) (n : Nat), m ≤ l.length ∧ i = vi m ∧ o = .slice B n d ∧ y = frT l k ++ frK l (k : Int) m ∧ n ≤ 6 * k + m ∧ OwnI wr w.heap.size B n d y ∧ Below w.heap.size w wr) (fun _ i _ => l.length - (intOf i).toNat)
      case atStart => exact ⟨0, B, d, y, n, by omega, rfl, rfl, by rw [frK_zero, List.append_nil]; exact HY.out, by omega, HO.out, HB.out⟩
      case round =>
        clear HY HO HB hyl
        obtain ⟨m, B, d, y, n, hm, rfl, rfl, hy, hyl, ho, hb⟩ := hrel
        have HY := Lib.hid hy
        have HO := Lib.hid ho
        have HB := Lib.hid hb
        clear hy
        by_cases hlt : m < l.length
        · obtain ⟨b, oo, hAe, hbl, _⟩ := HR.out.below hb (by omega)
          subst hAe
          obtain ⟨hc1, hc2⟩ := (HR.out.below hb).at2 m hlt
          have hbd := tOk_t ((tasksOk_t HT.out).1 m hlt)
          obtain ⟨x1, hx1⟩ : ∃ x, x = (nth l m).1 := ⟨_, rfl⟩
          obtain ⟨x2, hx2⟩ : ∃ x, x = (nth l m).2 := ⟨_, rfl⟩
          have H1 : Hid (∀ h : ¬ x1 < x2, frK l (k : Int) (m + 1) = frK l (k : Int) m) := Lib.hid (fun h => frK_n1 (by rw [← hx1, ← hx2]; exact h))
          have H2 : Hid (∀ h : ¬ x1 = (k : Int), frK l (k : Int) (m + 1) = frK l (k : Int) m) := Lib.hid (fun h => frK_n2 (by rw [← hx1]; exact h))
          have H3 : Hid (∀ (h : x1 < x2) (h2 : x1 = (k : Int)), frK l (k : Int) (m + 1) = frK l (k : Int) m ++ [(m : Int)]) := Lib.hid (fun h h2 => frK_yes (by rw [← hx1, ← hx2]; exact h) (by rw [← hx1]; exact h2))
          rw [← hx1] at hc1 hbd
          rw [← hx2] at hc2 hbd
          clear hx1 hx2 ho hb
          obtain ⟨⟨hb1, hb2⟩, hb3, hb4⟩ := hbd
          by_cases hq : x1 < x2
          · by_cases he : x1 = (k : Int)
            · have HE := Lib.hid (H3.out hq he)
              have he1 : (x1 == (k : Int)) = true := by simp [he]
              have hq1 : decide (x1 < x2) = true := by simpa using hq
              clear he
              go_wp2
              go_quiet (fail)
              go_wp2_with (at_builtin; refine app_int rfl (.tmp 43) (.tmp 45) rfl w.heap.size B n d y rfl (HO.out.alloc _) (some ⟨wr.heap.size, 0, none⟩) 1 1 [_] rfl (RdI.one _ _) rfl (by omega) (by have := HB.out.size; simp; omega) ?_; intro A7 c7 w7 ho7 hg7; have HO7 := Lib.hid ho7; have HB7 := Lib.hid (app_below HB.out HO.out _ hg7); clear ho7 hg7)
              go_roundw
              case rel => exact ⟨m + 1, A7, c7, _, n + 1, by omega, by go_num, rfl, by rw [HE.out, ← List.append_assoc, ← HY.out], by omega, HO7.out, HB7.out⟩
              case measure => simp [intOf]; omega
            · have HE := Lib.hid (H2.out he)
              have he1 : (x1 == (k : Int)) = false := beq_false_of_ne he
              have hq1 : decide (x1 < x2) = true := by simpa using hq
              clear he
              go_wp2
              go_quiet (fail)
              go_wp2
              go_roundw
              case rel => exact ⟨m + 1, B, d, y, n, by omega, by go_num, rfl, by rw [HE.out]; exact HY.out, by omega, HO.out.drewN _, below_drewN HB.out _⟩
              case measure => simp [intOf]; omega
          · have HE := Lib.hid (H1.out hq)
            have hq1 : decide (x1 < x2) = false := by simpa using hq
            have hq2 : x2 ≤ x1 := by omega
            go_wp2
            go_quiet (fail)
            go_wp2
            go_roundw
            case rel => exact ⟨m + 1, B, d, y, n, by omega, by go_num, rfl, by rw [HE.out]; exact HY.out, by omega, HO.out.drewN _, below_drewN HB.out _⟩
            case measure => simp [intOf]; omega
        · obtain rfl : m = l.length := by omega
          clear ho hb
          go_wp2
          go_roundw
          case rel => exact ⟨k + 1, B, d, y, n, by omega, by go_num, rfl, by rw [frT_succ]; exact HY.out, by omega, HO.out, HB.out⟩
          case measure => simp [intOf]; omega
    · have hk0 : k = 100 := by omega
      have HS : Hid (y = frT l 100) := Lib.hid (by rw [HY.out, hk0])
      have hn6 : n ≤ 600 := by omega
      obtain ⟨z, hz⟩ : ∃ z : Int, z = (k : Int) := ⟨_, rfl⟩
      have hz1 : z = 100 := by omega
      have hz2 : 99 < z := by omega
      rw [← hz]
      have HZE := Lib.hid hz1
      clear hk0 hz hk hyl hk9 HY hz1
      go_wp2
      go_loopw [3, 6] (fun o t wr => ∃ (k : Nat) (B : Option Addr) (d : Nat) (y : List Int) (n : Nat), k ≤ 100 ∧ t = vi (99 - (k : Int)) ∧ o = .slice B n d ∧ y = frT l 100 ++ bkT l k ∧ n ≤ 600 + 6 * k ∧ OwnI wr w.heap.size B n d y ∧ Below w.heap.size w wr) (fun _ t _ => (1 + intOf t).toNat)
      case atStart => exact ⟨0, B, d, y, n, by omega, by go_num, rfl, by rw [bkT_zero, List.append_nil]; exact HS.out, by omega, HO.out, HB.out⟩
      case round =>
        obtain ⟨k, B, d, y, n, hk, rfl, rfl, hy, hyl, ho, hb⟩ := hrel
        have HY := Lib.hid hy
        have HO := Lib.hid ho
        have HB := Lib.hid hb
        clear hy ho hb
        by_cases hk9 : k ≤ 99
        · obtain ⟨s, hs⟩ : ∃ s : Int, s = 99 - (k : Int) := ⟨_, rfl⟩
          have hs0 : 0 ≤ s := by omega
          have hs9 : s ≤ 99 := by omega
          rw [← hs]
          have HSE := Lib.hid hs
          clear hs
          go_wp2
          go_loopw [3, 7] (fun o i wr => ∃ (m : Nat) (B : Option Addr) (d : Nat) (y : List Int) (n : Nat), m ≤ l.length ∧ i = vi m ∧ o = .slice B n d ∧ y = frT l 100 ++ bkT l k ++ bkK l s m ∧ n ≤ 600 + 6 * k + m ∧ OwnI wr w.heap.size B n d y ∧ Below w.heap.size w wr) (fun _ i _ => l.length - (intOf i).toNat)
          case atStart => exact ⟨0, B, d, y, n, by omega, rfl, rfl, by rw [bkK_zero, List.append_nil]; exact HY.out, by omega, HO.out, HB.out⟩
          case round =>
            clear HY HO HB hyl
            obtain ⟨m, B, d, y, n, hm, rfl, rfl, hy, hyl, ho, hb⟩ := hrel
            have HY := Lib.hid hy
            have HO := Lib.hid ho
            have HB := Lib.hid hb
            clear hy
            by_cases hlt : m < l.length
            · obtain ⟨b, oo, hAe, hbl, _⟩ := HR.out.below hb (by omega)
              subst hAe
              obtain ⟨hc1, hc2⟩ := (HR.out.below hb).at2 m hlt
              have hbd := tOk_t ((tasksOk_t HT.out).1 m hlt)
              obtain ⟨x1, hx1⟩ : ∃ x, x = (nth l m).1 := ⟨_, rfl⟩
              obtain ⟨x2, hx2⟩ : ∃ x, x = (nth l m).2 := ⟨_, rfl⟩
              have H1 : Hid (∀ h : ¬ x2 ≤ x1, bkK l s (m + 1) = bkK l s m) := Lib.hid (fun h => bkK_n1 (by rw [← hx1, ← hx2]; exact h))
              have H2 : Hid (∀ h : ¬ x2 = s, bkK l s (m + 1) = bkK l s m) := Lib.hid (fun h => bkK_n2 (by rw [← hx2]; exact h))
              have H3 : Hid (∀ (h : x2 ≤ x1) (h2 : x2 = s), bkK l s (m + 1) = bkK l s m ++ [(m : Int)]) := Lib.hid (fun h h2 => bkK_yes (by rw [← hx1, ← hx2]; exact h) (by rw [← hx2]; exact h2))
              rw [← hx1] at hc1 hbd
              rw [← hx2] at hc2 hbd
              clear hx1 hx2 ho hb
              obtain ⟨⟨hb1, hb2⟩, hb3, hb4⟩ := hbd
              by_cases hq : x2 ≤ x1
              · by_cases he : x2 = s
                · have HE := Lib.hid (H3.out hq he)
                  have he1 : (x2 == s) = true := by simp [he]
                  have hq1 : decide (x2 ≤ x1) = true := by simpa using hq
                  clear he
                  go_wp2
                  go_quiet (fail)
                  go_wp2_with (at_builtin; refine app_int rfl (.tmp 77) (.tmp 79) rfl w.heap.size B n d y rfl (HO.out.alloc _) (some ⟨wr.heap.size, 0, none⟩) 1 1 [_] rfl (RdI.one _ _) rfl (by omega) (by have := HB.out.size; simp; omega) ?_; intro A7 c7 w7 ho7 hg7; have HO7 := Lib.hid ho7; have HB7 := Lib.hid (app_below HB.out HO.out _ hg7); clear ho7 hg7)
                  go_roundw
                  case rel => exact ⟨m + 1, A7, c7, _, n + 1, by omega, by go_num, rfl, by rw [HE.out, ← List.append_assoc, ← HY.out], by omega, HO7.out, HB7.out⟩
                  case measure => simp [intOf]; omega
                · have HE := Lib.hid (H2.out he)
                  have he1 : (x2 == s) = false := beq_false_of_ne he
                  have hq1 : decide (x2 ≤ x1) = true := by simpa using hq
                  clear he
                  go_wp2
                  go_quiet (fail)
                  go_wp2
                  go_roundw
                  case rel => exact ⟨m + 1, B, d, y, n, by omega, by go_num, rfl, by rw [HE.out]; exact HY.out, by omega, HO.out.drewN _, below_drewN HB.out _⟩
                  case measure => simp [intOf]; omega
              · have HE := Lib.hid (H1.out hq)
                have hq1 : decide (x2 ≤ x1) = false := by simpa using hq
                have hq2 : x1 < x2 := by omega
                go_wp2
                go_quiet (fail)
                go_wp2
                go_roundw
                case rel => exact ⟨m + 1, B, d, y, n, by omega, by go_num, rfl, by rw [HE.out]; exact HY.out, by omega, HO.out.drewN _, below_drewN HB.out _⟩
                case measure => simp [intOf]; omega
            · obtain rfl : m = l.length := by omega
              clear ho hb
              go_wp2
              go_roundw
              case rel => exact ⟨k + 1, B, d, y, n, by omega, by rw [HSE.out]; go_num, rfl, by rw [bkT_succ, ← HSE.out, ← List.append_assoc]; exact HY.out, by omega, HO.out, HB.out⟩
              case measure => simp [intOf]; omega
        · obtain rfl : k = 100 := by omega
          have hyn := HO.out.len
          have HGG : Hid (Good l y) := Lib.hid (by rw [HY.out]; exact HG.out)
          have hyl2 : Hid (n = l.length) := Lib.hid (by rw [← hyn]; exact (isPerm_t HGG.out.1).2)
          go_wp2
          go_ret
          have e := hyl2.out
          subst e
          exact ⟨B, d, y, rfl, HO.out, HGG.out, HB.out⟩

set_option maxHeartbeats 2000000 in
theorem specCycleLeast (A : Option Addr) (c : Nat) (l : List (Int × Int)) (w : World) (h : Rd encP w A l) (hl1 : l.length ≤ 1000000000) :
    Calls Try.prog 40 #[.slice A l.length c] w fun e w' => (∃ v, e = .returned (vi v) ∧ Least l v) ∧ Below w.heap.size w w' := by
  have HC := Lib.hid (specTasksValid A c l w h hl1)
  cases hc : tasksOk l with
  | false =>
    have Hr := Lib.hid (cyl_no hc)
    rw [hc] at HC
    go_enter Try.func40, Try.ntmps40
    go_wp2_with fail
    refine HC.out.mono ?_
    rintro e w' ⟨rfl, rfl⟩
    go_wp2
    go_ret
    exact ⟨⟨-1, rfl, Hr.out⟩, Below.refl _ _⟩
  | true =>
    rw [hc] at HC
    have hl6 := (tasksOk_t hc).2
    have HT := Lib.hid hc
    have HR := Lib.hid h
    clear h hc
    go_enter Try.func40, Try.ntmps40
    go_wp2_with fail
    refine HC.out.mono ?_
    rintro e w1 ⟨rfl, rfl⟩
    go_wp2_with fail
    refine (specCycleOrder A c l w HR.out HT.out).mono ?_
    rintro e w2 ⟨B, d, o, rfl, ho, hg, hb2⟩
    have hol := ho.len
    have HE := Lib.hid (specCycleEnd A c l B d o w2 (HR.out.below hb2) ho.rd hl1 (by omega) (by have := ho.cap; omega))
    rw [hol] at HE
    have HG := Lib.hid hg
    have HB2 := Lib.hid hb2
    clear ho hg hb2 hol
    go_wp2_with fail
    refine HE.out.mono ?_
    rintro e w3 ⟨rfl, hd⟩
    have HB3 := Lib.hid (bthen HB2.out (drewBelow hd))
    clear hd
    go_wp2
    go_ret
    exact ⟨⟨_, rfl, cyl_yes HT.out HG.out⟩, HB3.out⟩
end Go.Proofs.Ytpabfbaoibmnlaa
