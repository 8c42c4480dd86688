/-
  Contracts: who is on a wagon; trains are valid.
-/
import Derived.Test.YtdhpjajhkeanjaaBoxA
import Derived.Test.YtdhpjajhkeanjaaWagonA
import Derived.Test.YtdhpjajhkeanjaaTrain
namespace Go.Proofs.Ytdhpjajhkeanjaa
open Go.RowKit
set_option linter.unusedVariables false

theorem implOnWagon (A : Option Addr) (c : Nat) (l : List Bx) (B : Option Addr) (d : Nat) (ws : List Int) (k : Int) (w : World) (h : Rd encB w A l) (hw : RdI w B ws) (hl : l.length ≤ 1000000000) (hwl : ws.length ≤ 1000000000) (hcap : l.length ≤ c) :
    Calls Try.prog 24 #[.slice A l.length c, .slice B ws.length d, vi k] w fun e w' => e = .returned (.tuple #[vi (onP l ws k).1, vi (onP l ws k).2]) ∧ Below w.heap.size w w' := by
  have HC := Lib.hid (implBoxesValid A c l w h hl hcap)
  cases hok : boxesOk l with
  | false =>
    have hon := Lib.hid (onP_f k (onOk_f1 (ws := ws) hok))
    go_enter Try.func24, Try.ntmps24
    go_wp2_with fail
    refine HC.out.mono ?_
    rw [hok]
    rintro e w1 ⟨rfl, hb1⟩
    have HB1 := Lib.hid hb1
    clear hb1 HC
    go_wp2
    go_ret2
    exact ⟨by rw [hon.out]; rfl, HB1.out⟩
  | true =>
    by_cases hlen : ws.length = l.length
    · have hne : ((ws.length : Int) != (l.length : Int)) = false := by simp [hlen]
      have hon := Lib.hid (onP_t k (onOk_mk hok hlen))
      have Hlen := Lib.hid hlen
      have hl10 := (boxesOk_t hok).2
      have Hok := Lib.hid hok
      clear hlen
      go_enter Try.func24, Try.ntmps24
      go_wp2_with fail
      refine HC.out.mono ?_
      rw [hok]
      rintro e w1 ⟨rfl, hb1⟩
      have H1 := Lib.hid hb1
      have hR := h.below hb1
      have hW := hw.below hb1
      clear hb1 HC h hw hok
      go_wp2
      go_loopw [8, 9, 24] (fun m u v wr => ∃ j : Nat, j ≤ l.length ∧ v = vi j ∧ m = vi (onMany ws k j) ∧ u = vi (onWt l ws k j) ∧ Below w1.heap.size w1 wr) (fun _ _ v _ => l.length - (intOf v).toNat)
      case atStart => exact ⟨0, Nat.zero_le _, rfl, rfl, rfl, Below.refl _ _⟩
      case round =>
        obtain ⟨j, hj, rfl, rfl, rfl, hb⟩ := hrel
        have HB := Lib.hid hb
        have hm := onMany_bd ws k j
        have hu := onWt_bd Hok.out ws k j hj
        by_cases hlt : j < l.length
        · obtain ⟨b, o, rfl, hbl, _⟩ := hR.below hb (by omega)
          obtain ⟨hc1, hc2, hc3, hc4, hc5⟩ := (hR.below hb).at5 j hlt
          have hlw : j < ws.length := by rw [Hlen.out]; exact hlt
          obtain ⟨b2, o2, rfl, hbl2, hcw⟩ := hW.below hb (by omega)
          have hcw2 := hcw j hlw
          have hwt := boxesOk_wt Hok.out j hlt
          clear hR hW hb hcw
          by_cases he : nth ws j = k
          · have he1 : (nth ws j == k) = true := by simp [he]
            have Hm := Lib.hid (onMany_hit he)
            have Hu := Lib.hid (onWt_hit (l := l) he)
            clear he
            go_wp2
            go_roundw
            case rel => exact ⟨j + 1, by omega, by go_num, by rw [Hm.out], by rw [Hu.out], (HB.out.alloc HB.out.size _)⟩
            case measure => simp [intOf]; omega
          · have he1 : (nth ws j == k) = false := by simp [he]
            have Hm := Lib.hid (onMany_miss he)
            have Hu := Lib.hid (onWt_miss (l := l) he)
            clear he
            go_wp2
            go_roundw
            case rel => exact ⟨j + 1, by omega, by go_num, by rw [Hm.out], by rw [Hu.out], (HB.out.alloc HB.out.size _)⟩
            case measure => simp [intOf]; omega
        · obtain rfl : j = l.length := by omega
          clear hb
          go_wp2
          go_ret2
          exact ⟨by rw [hon.out]; rfl, bthen H1.out HB.out⟩
    · have hne : ((ws.length : Int) != (l.length : Int)) = true := by simp; omega
      have hon := Lib.hid (onP_f k (onOk_f2 hlen))
      clear hlen
      go_enter Try.func24, Try.ntmps24
      go_wp2_with fail
      refine HC.out.mono ?_
      rw [hok]
      rintro e w1 ⟨rfl, hb1⟩
      have HB1 := Lib.hid hb1
      clear hb1 HC
      go_wp2
      go_ret2
      exact ⟨by rw [hon.out]; rfl, HB1.out⟩

theorem specOnWagon (A : Option Addr) (c : Nat) (l : List Bx) (B : Option Addr) (d : Nat) (ws : List Int) (k : Int) (w : World) (h : Rd encB w A l) (hw : RdI w B ws) (hl : l.length ≤ 1000000000) (hwl : ws.length ≤ 1000000000) :
    Calls Try.prog 21 #[.slice A l.length c, .slice B ws.length d, vi k] w fun e w' => e = .returned (.tuple #[vi (onP l ws k).1, vi (onP l ws k).2]) ∧ Below w.heap.size w w' := by
  have HC := Lib.hid (specBoxesValid A c l w h hl)
  cases hok : boxesOk l with
  | false =>
    have hon := Lib.hid (onP_f k (onOk_f1 (ws := ws) hok))
    go_enter Try.func21, Try.ntmps21
    go_wp2_with fail
    refine HC.out.mono ?_
    rw [hok]
    rintro e w1 ⟨rfl, hb1⟩
    have HB1 := Lib.hid hb1
    clear hb1 HC
    go_wp2
    go_ret2
    exact ⟨by rw [hon.out]; rfl, HB1.out⟩
  | true =>
    by_cases hlen : ws.length = l.length
    · have hne : ((ws.length : Int) != (l.length : Int)) = false := by simp [hlen]
      have hon := Lib.hid (onP_t k (onOk_mk hok hlen))
      have Hlen := Lib.hid hlen
      have hl10 := (boxesOk_t hok).2
      have Hok := Lib.hid hok
      clear hlen
      go_enter Try.func21, Try.ntmps21
      go_wp2_with fail
      refine HC.out.mono ?_
      rw [hok]
      rintro e w1 ⟨rfl, hb1⟩
      have H1 := Lib.hid hb1
      have hR := h.below hb1
      have hW := hw.below hb1
      clear hb1 HC h hw hok
      go_wp2
      go_loopw [8, 9, 10] (fun m u v wr => ∃ j : Nat, j ≤ l.length ∧ v = vi j ∧ m = vi (onMany ws k j) ∧ u = vi (onWt l ws k j) ∧ Below w1.heap.size w1 wr) (fun _ _ v _ => l.length - (intOf v).toNat)
      case atStart => exact ⟨0, Nat.zero_le _, rfl, rfl, rfl, Below.refl _ _⟩
      case round =>
        obtain ⟨j, hj, rfl, rfl, rfl, hb⟩ := hrel
        have HB := Lib.hid hb
        have hm := onMany_bd ws k j
        have hu := onWt_bd Hok.out ws k j hj
        by_cases hlt : j < l.length
        · obtain ⟨b, o, rfl, hbl, _⟩ := hR.below hb (by omega)
          obtain ⟨hc1, hc2, hc3, hc4, hc5⟩ := (hR.below hb).at5 j hlt
          have hlw : j < ws.length := by rw [Hlen.out]; exact hlt
          obtain ⟨b2, o2, rfl, hbl2, hcw⟩ := hW.below hb (by omega)
          have hcw2 := hcw j hlw
          have hwt := boxesOk_wt Hok.out j hlt
          clear hR hW hb hcw
          by_cases he : nth ws j = k
          · have he1 : (nth ws j == k) = true := by simp [he]
            have Hm := Lib.hid (onMany_hit he)
            have Hu := Lib.hid (onWt_hit (l := l) he)
            clear he
            go_wp2
            go_roundw
            case rel => exact ⟨j + 1, by omega, by go_num, by rw [Hm.out], by rw [Hu.out], HB.out⟩
            case measure => simp [intOf]; omega
          · have he1 : (nth ws j == k) = false := by simp [he]
            have Hm := Lib.hid (onMany_miss he)
            have Hu := Lib.hid (onWt_miss (l := l) he)
            clear he
            go_wp2
            go_roundw
            case rel => exact ⟨j + 1, by omega, by go_num, by rw [Hm.out], by rw [Hu.out], HB.out⟩
            case measure => simp [intOf]; omega
        · obtain rfl : j = l.length := by omega
          clear hb
          go_wp2
          go_ret2
          exact ⟨by rw [hon.out]; rfl, bthen H1.out HB.out⟩
    · have hne : ((ws.length : Int) != (l.length : Int)) = true := by simp; omega
      have hon := Lib.hid (onP_f k (onOk_f2 hlen))
      clear hlen
      go_enter Try.func21, Try.ntmps21
      go_wp2_with fail
      refine HC.out.mono ?_
      rw [hok]
      rintro e w1 ⟨rfl, hb1⟩
      have HB1 := Lib.hid hb1
      clear hb1 HC
      go_wp2
      go_ret2
      exact ⟨by rw [hon.out]; rfl, HB1.out⟩

theorem implTrainValid (C : Option Addr) (cc : Nat) (wl : List (Int × Int)) (A : Option Addr) (c : Nat) (l : List Bx) (B : Option Addr) (d : Nat) (ws : List Int) (w : World)
    (hwg : Rd encP w C wl) (h : Rd encB w A l) (hw : RdI w B ws) (hgl : wl.length ≤ 1000000000) (hl : l.length ≤ 1000000000) (hwl : ws.length ≤ 1000000000) (hcap : l.length ≤ c) :
    Calls Try.prog 28 #[.slice C wl.length cc, .slice A l.length c, .slice B ws.length d] w fun e w' => e = .returned (.bool (trainOk wl l ws)) ∧ Below w.heap.size w w' := by
  have HA := Lib.hid (implWagonsValid C cc wl w hwg hgl)
  cases hok1 : wagonsOk wl with
  | false =>
    have Hr := Lib.hid (trainOk_f1 (l := l) (ws := ws) hok1)
    go_enter Try.func28, Try.ntmps28
    go_wp2_with fail
    refine HA.out.mono ?_
    rw [hok1]
    rintro e w1 ⟨rfl, hb1⟩
    have H1 := Lib.hid hb1
    have hWl := hwg.below hb1
    have hR := h.below hb1
    have hW := hw.below hb1
    clear hb1 HA hwg h hw
    go_wp2
    go_ret
    exact ⟨by rw [Hr.out]; rfl, H1.out⟩
  | true =>
    cases hok2 : boxesOk l with
    | false =>
      have Hr := Lib.hid (trainOk_f2 (wl := wl) (onOk_f1 (ws := ws) hok2))
      go_enter Try.func28, Try.ntmps28
      go_wp2_with fail
      refine HA.out.mono ?_
      rw [hok1]
      rintro e w1 ⟨rfl, hb1⟩
      have H1 := Lib.hid hb1
      have hWl := hwg.below hb1
      have hR := h.below hb1
      have hW := hw.below hb1
      clear hb1 HA hwg h hw
      go_wp2_with fail
      refine (implBoxesValid A c l w1 hR hl hcap).mono ?_
      rw [hok2]
      rintro e w2 ⟨rfl, hb2⟩
      have H2 := Lib.hid (bthen H1.out hb2)
      replace hWl := hWl.below hb2
      replace hR := hR.below hb2
      replace hW := hW.below hb2
      clear hb2
      go_wp2
      go_ret
      exact ⟨by rw [Hr.out]; rfl, H2.out⟩
    | true =>
      by_cases hlen : ws.length = l.length
      · have hne : ((ws.length : Int) != (l.length : Int)) = false := by simp [hlen]
        have Hlen := Lib.hid hlen
        have Hok1 := Lib.hid hok1
        have Hok := Lib.hid (onOk_mk hok2 hlen)
        have Hon := Lib.hid (fun k => onP_t (l := l) (ws := ws) k Hok.out)
        have hl10 := (boxesOk_t hok2).2
        have hl6 := (wagonsOk_t hok1).2
        have Hok2 := Lib.hid hok2
        clear hlen
        go_enter Try.func28, Try.ntmps28
        go_wp2_with fail
        refine HA.out.mono ?_
        rw [hok1]
        rintro e w1 ⟨rfl, hb1⟩
        have H1 := Lib.hid hb1
        have hWl := hwg.below hb1
        have hR := h.below hb1
        have hW := hw.below hb1
        clear hb1 HA hwg h hw
        go_wp2_with fail
        refine (implBoxesValid A c l w1 hR hl hcap).mono ?_
        rw [hok2]
        rintro e w2 ⟨rfl, hb2⟩
        have H2 := Lib.hid (bthen H1.out hb2)
        replace hWl := hWl.below hb2
        replace hR := hR.below hb2
        replace hW := hW.below hb2
        clear hb2
        clear hok1 hok2
        go_wp2
        go_loopw [30] (fun v wr => ∃ j : Nat, j ≤ ws.length ∧ v = vi j ∧ (∀ i, i < j → whOk wl ws i = true) ∧ w2 = wr) (fun v _ => ws.length - (intOf v).toNat)
        case atStart => exact ⟨0, Nat.zero_le _, rfl, (fun i hi => absurd hi (by omega)), rfl⟩
        case round =>
        obtain ⟨j, hj, rfl, hj1, rfl⟩ := hrel
        have Hj := Lib.hid hj1
        clear hj1
        by_cases hlt : j < ws.length
        · obtain ⟨b2, o2, rfl, hbl2, hcw⟩ := hW (by omega)
          have hcw2 := hcw j hlt
          clear hR hW hWl hcw
          cases hv : win (nth ws j) (-1) ((wl.length : Int) - 1) with
          | false =>
            have Hr := Lib.hid (trainOk_f3 (wl := wl) (l := l) hlt hv)
            go_wp2_with (go_at_call 46; refine (within_any _ _ _ _).mono ?_; rintro e w' ⟨rfl, rfl⟩)
            go_ret
            exact ⟨by rw [Hr.out]; rfl, H2.out⟩
          | true =>
            have Hv := Lib.hid (show whOk wl ws j = true from hv)
            go_wp2_with (go_at_call 46; refine (within_any _ _ _ _).mono ?_; rintro e w' ⟨rfl, rfl⟩)
            go_roundw
            case rel => exact ⟨j + 1, by omega, by go_num, (fun i hi => by
              rcases Nat.lt_succ_iff_lt_or_eq.1 hi with h1 | h1
              · exact Hj.out i h1
              · subst h1; exact Hv.out), by first | rfl | trivial⟩
            case measure => simp [intOf]; omega
        obtain rfl : j = ws.length := by omega
        go_wp2
        go_loopw [43] (fun v wr => ∃ k : Nat, k ≤ wl.length ∧ v = vi k ∧ (∀ i, i < k → fitOk wl l ws i = true) ∧ Below w2.heap.size w2 wr) (fun v _ => wl.length - (intOf v).toNat)
        case atStart => exact ⟨0, Nat.zero_le _, rfl, (fun i hi => absurd hi (by omega)), Below.refl _ _⟩
        case round =>
        obtain ⟨k, hk, rfl, hk1, hb⟩ := hrel
        have HB := Lib.hid hb
        have Hk := Lib.hid hk1
        clear hk1
        have hm := onMany_bd ws k l.length
        have hu := onWt_bd Hok2.out ws k l.length (Nat.le_refl _)
        by_cases hlt : k < wl.length
        · have hwr := (hWl.below hb)
          obtain ⟨b, o, rfl, hbl, _⟩ := hwr (by omega)
          obtain ⟨hc1, hc2⟩ := hwr.at2 k hlt
          have Hon := Lib.hid (Hon.out k)
          clear hwr
          go_wp2_with fail
          refine (implOnWagon A c l B d ws k _ ((hR.below hb).alloc _) ((hW.below hb).alloc _) hl hwl hcap).mono ?_
          rw [Hon.out]
          rintro e w4 ⟨rfl, hb4⟩
          have HB4 := Lib.hid (bthen (HB.out.alloc HB.out.size (.cells #[vi (nth wl k).1, vi (nth wl k).2] 32)) hb4)
          have hq1 := (hb4.cell (p := ⟨wr.heap.size, 0, none⟩) (by simp)).trans (show _ = some (vi (nth wl k).1) by simp)
          have hq2 := (hb4.cell (p := ⟨wr.heap.size, 1, none⟩) (by simp)).trans (show _ = some (vi (nth wl k).2) by simp)
          clear hb4 hR hW hWl hb
          by_cases hg1 : (nth wl k).1 < onMany ws k l.length
          · have Hr := Lib.hid (trainOk_f4 hlt (fitOk_f1 hg1))
            go_wp2
            go_ret
            exact ⟨by rw [Hr.out]; rfl, bthen H2.out HB4.out⟩
          · by_cases hg2 : (nth wl k).2 < onWt l ws k l.length
            · have Hr := Lib.hid (trainOk_f4 hlt (fitOk_f2 hg2))
              go_wp2
              go_ret
              exact ⟨by rw [Hr.out]; rfl, bthen H2.out HB4.out⟩
            · have Hv := Lib.hid (fitOk_mk hg1 hg2)
              go_wp2
              go_roundw
              case rel => exact ⟨k + 1, by omega, by go_num, (fun i hi => by
                rcases Nat.lt_succ_iff_lt_or_eq.1 hi with h1 | h1
                · exact Hk.out i h1
                · subst h1; exact Hv.out), HB4.out⟩
              case measure => simp [intOf]; omega
        · obtain rfl : k = wl.length := by omega
          have Hr := Lib.hid (trainOk_mk Hok1.out Hok.out Hj.out Hk.out)
          clear hb
          go_wp2
          go_ret
          exact ⟨by rw [Hr.out]; rfl, bthen H2.out HB.out⟩
      · have hne : ((ws.length : Int) != (l.length : Int)) = true := by simp; omega
        have Hr := Lib.hid (trainOk_f2 (wl := wl) (onOk_f2 hlen))
        clear hlen
        go_enter Try.func28, Try.ntmps28
        go_wp2_with fail
        refine HA.out.mono ?_
        rw [hok1]
        rintro e w1 ⟨rfl, hb1⟩
        have H1 := Lib.hid hb1
        have hWl := hwg.below hb1
        have hR := h.below hb1
        have hW := hw.below hb1
        clear hb1 HA hwg h hw
        go_wp2_with fail
        refine (implBoxesValid A c l w1 hR hl hcap).mono ?_
        rw [hok2]
        rintro e w2 ⟨rfl, hb2⟩
        have H2 := Lib.hid (bthen H1.out hb2)
        replace hWl := hWl.below hb2
        replace hR := hR.below hb2
        replace hW := hW.below hb2
        clear hb2
        go_wp2
        go_ret
        exact ⟨by rw [Hr.out]; rfl, H2.out⟩

theorem specTrainValid (C : Option Addr) (cc : Nat) (wl : List (Int × Int)) (A : Option Addr) (c : Nat) (l : List Bx) (B : Option Addr) (d : Nat) (ws : List Int) (w : World)
    (hwg : Rd encP w C wl) (h : Rd encB w A l) (hw : RdI w B ws) (hgl : wl.length ≤ 1000000000) (hl : l.length ≤ 1000000000) (hwl : ws.length ≤ 1000000000) :
    Calls Try.prog 27 #[.slice C wl.length cc, .slice A l.length c, .slice B ws.length d] w fun e w' => e = .returned (.bool (trainOk wl l ws)) ∧ Below w.heap.size w w' := by
  have HA := Lib.hid (specWagonsValid C cc wl w hwg hgl)
  cases hok1 : wagonsOk wl with
  | false =>
    have Hr := Lib.hid (trainOk_f1 (l := l) (ws := ws) hok1)
    go_enter Try.func27, Try.ntmps27
    go_wp2_with fail
    refine HA.out.mono ?_
    rw [hok1]
    rintro e w1 ⟨rfl, hb1⟩
    have H1 := Lib.hid hb1
    have hWl := hwg.below hb1
    have hR := h.below hb1
    have hW := hw.below hb1
    clear hb1 HA hwg h hw
    go_wp2
    go_ret
    exact ⟨by rw [Hr.out]; rfl, H1.out⟩
  | true =>
    cases hok2 : boxesOk l with
    | false =>
      have Hr := Lib.hid (trainOk_f2 (wl := wl) (onOk_f1 (ws := ws) hok2))
      go_enter Try.func27, Try.ntmps27
      go_wp2_with fail
      refine HA.out.mono ?_
      rw [hok1]
      rintro e w1 ⟨rfl, hb1⟩
      have H1 := Lib.hid hb1
      have hWl := hwg.below hb1
      have hR := h.below hb1
      have hW := hw.below hb1
      clear hb1 HA hwg h hw
      go_wp2_with fail
      refine (specBoxesValid A c l w1 hR hl).mono ?_
      rw [hok2]
      rintro e w2 ⟨rfl, hb2⟩
      have H2 := Lib.hid (bthen H1.out hb2)
      replace hWl := hWl.below hb2
      replace hR := hR.below hb2
      replace hW := hW.below hb2
      clear hb2
      go_wp2
      go_ret
      exact ⟨by rw [Hr.out]; rfl, H2.out⟩
    | true =>
      by_cases hlen : ws.length = l.length
      · have hne : ((ws.length : Int) != (l.length : Int)) = false := by simp [hlen]
        have Hlen := Lib.hid hlen
        have Hok1 := Lib.hid hok1
        have Hok := Lib.hid (onOk_mk hok2 hlen)
        have Hon := Lib.hid (fun k => onP_t (l := l) (ws := ws) k Hok.out)
        have hl10 := (boxesOk_t hok2).2
        have hl6 := (wagonsOk_t hok1).2
        have Hok2 := Lib.hid hok2
        clear hlen
        go_enter Try.func27, Try.ntmps27
        go_wp2_with fail
        refine HA.out.mono ?_
        rw [hok1]
        rintro e w1 ⟨rfl, hb1⟩
        have H1 := Lib.hid hb1
        have hWl := hwg.below hb1
        have hR := h.below hb1
        have hW := hw.below hb1
        clear hb1 HA hwg h hw
        go_wp2_with fail
        refine (specBoxesValid A c l w1 hR hl).mono ?_
        rw [hok2]
        rintro e w2 ⟨rfl, hb2⟩
        have H2 := Lib.hid (bthen H1.out hb2)
        replace hWl := hWl.below hb2
        replace hR := hR.below hb2
        replace hW := hW.below hb2
        clear hb2
        clear hok1 hok2
        go_wp2
        go_loopw [7] (fun v wr => ∃ j : Nat, j ≤ ws.length ∧ v = vi j ∧ (∀ i, i < j → whOk wl ws i = true) ∧ w2 = wr) (fun v _ => ws.length - (intOf v).toNat)
        case atStart => exact ⟨0, Nat.zero_le _, rfl, (fun i hi => absurd hi (by omega)), rfl⟩
        case round =>
        obtain ⟨j, hj, rfl, hj1, rfl⟩ := hrel
        have Hj := Lib.hid hj1
        clear hj1
        by_cases hlt : j < ws.length
        · obtain ⟨b2, o2, rfl, hbl2, hcw⟩ := hW (by omega)
          have hcw2 := hcw j hlt
          clear hR hW hWl hcw
          cases hv : win (nth ws j) (-1) ((wl.length : Int) - 1) with
          | false =>
            have Hr := Lib.hid (trainOk_f3 (wl := wl) (l := l) hlt hv)
            go_wp2_with (go_at_call 44; refine (l1In_any _ _ _ _).mono ?_; rintro e w' ⟨rfl, rfl⟩)
            go_ret
            exact ⟨by rw [Hr.out]; rfl, H2.out⟩
          | true =>
            have Hv := Lib.hid (show whOk wl ws j = true from hv)
            go_wp2_with (go_at_call 44; refine (l1In_any _ _ _ _).mono ?_; rintro e w' ⟨rfl, rfl⟩)
            go_roundw
            case rel => exact ⟨j + 1, by omega, by go_num, (fun i hi => by
              rcases Nat.lt_succ_iff_lt_or_eq.1 hi with h1 | h1
              · exact Hj.out i h1
              · subst h1; exact Hv.out), by first | rfl | trivial⟩
            case measure => simp [intOf]; omega
        obtain rfl : j = ws.length := by omega
        go_wp2
        go_loopw [8] (fun v wr => ∃ k : Nat, k ≤ wl.length ∧ v = vi k ∧ (∀ i, i < k → fitOk wl l ws i = true) ∧ Below w2.heap.size w2 wr) (fun v _ => wl.length - (intOf v).toNat)
        case atStart => exact ⟨0, Nat.zero_le _, rfl, (fun i hi => absurd hi (by omega)), Below.refl _ _⟩
        case round =>
        obtain ⟨k, hk, rfl, hk1, hb⟩ := hrel
        have HB := Lib.hid hb
        have Hk := Lib.hid hk1
        clear hk1
        have hm := onMany_bd ws k l.length
        have hu := onWt_bd Hok2.out ws k l.length (Nat.le_refl _)
        by_cases hlt : k < wl.length
        · have hwr := (hWl.below hb)
          obtain ⟨b, o, rfl, hbl, _⟩ := hwr (by omega)
          obtain ⟨hc1, hc2⟩ := hwr.at2 k hlt
          have Hon := Lib.hid (Hon.out k)
          clear hwr
          go_wp2_with fail
          refine (specOnWagon A c l B d ws k _ (hR.below hb) (hW.below hb) hl hwl).mono ?_
          rw [Hon.out]
          rintro e w4 ⟨rfl, hb4⟩
          have HB4 := Lib.hid (bthen HB.out hb4)
          have hq1 := (hb4.cell (p := ⟨b, o + k * 2, none⟩) hbl).trans hc1
          have hq2 := (hb4.cell (p := ⟨b, o + k * 2 + 1, none⟩) hbl).trans hc2
          clear hb4 hR hW hWl hb hc1 hc2
          by_cases hg1 : (nth wl k).1 < onMany ws k l.length
          · have Hr := Lib.hid (trainOk_f4 hlt (fitOk_f1 hg1))
            go_wp2
            go_ret
            exact ⟨by rw [Hr.out]; rfl, bthen H2.out HB4.out⟩
          · by_cases hg2 : (nth wl k).2 < onWt l ws k l.length
            · have Hr := Lib.hid (trainOk_f4 hlt (fitOk_f2 hg2))
              go_wp2
              go_ret
              exact ⟨by rw [Hr.out]; rfl, bthen H2.out HB4.out⟩
            · have Hv := Lib.hid (fitOk_mk hg1 hg2)
              go_wp2
              go_roundw
              case rel => exact ⟨k + 1, by omega, by go_num, (fun i hi => by
                rcases Nat.lt_succ_iff_lt_or_eq.1 hi with h1 | h1
                · exact Hk.out i h1
                · subst h1; exact Hv.out), HB4.out⟩
              case measure => simp [intOf]; omega
        · obtain rfl : k = wl.length := by omega
          have Hr := Lib.hid (trainOk_mk Hok1.out Hok.out Hj.out Hk.out)
          clear hb
          go_wp2
          go_ret
          exact ⟨by rw [Hr.out]; rfl, bthen H2.out HB.out⟩
      · have hne : ((ws.length : Int) != (l.length : Int)) = true := by simp; omega
        have Hr := Lib.hid (trainOk_f2 (wl := wl) (onOk_f2 hlen))
        clear hlen
        go_enter Try.func27, Try.ntmps27
        go_wp2_with fail
        refine HA.out.mono ?_
        rw [hok1]
        rintro e w1 ⟨rfl, hb1⟩
        have H1 := Lib.hid hb1
        have hWl := hwg.below hb1
        have hR := h.below hb1
        have hW := hw.below hb1
        clear hb1 HA hwg h hw
        go_wp2_with fail
        refine (specBoxesValid A c l w1 hR hl).mono ?_
        rw [hok2]
        rintro e w2 ⟨rfl, hb2⟩
        have H2 := Lib.hid (bthen H1.out hb2)
        replace hWl := hWl.below hb2
        replace hR := hR.below hb2
        replace hW := hW.below hb2
        clear hb2
        go_wp2
        go_ret
        exact ⟨by rw [Hr.out]; rfl, H2.out⟩
end Go.Proofs.Ytdhpjajhkeanjaa
