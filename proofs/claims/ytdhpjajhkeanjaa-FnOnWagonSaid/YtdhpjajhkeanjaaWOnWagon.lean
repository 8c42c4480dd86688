/-
  The walk of 'FnOnWagon'.
-/
import Derived.Test.YtdhpjajhkeanjaaTrainDraw
import Derived.Test.YtdhpjajhkeanjaaTrainD
import Derived.Test.YtdhpjajhkeanjaaTrainP
namespace Go.Proofs.Ytdhpjajhkeanjaa
open Go.RowKit
set_option linter.unusedVariables false

theorem walkFnOnWagon (w : World) (A0a : Option Addr) (c0a : Nat) (l0 : List Int) (rd0 : RdB w w.heap.size A0a l0) (cap0 : l0.length ≤ c0a) :
    Calls Try.prog 7 #[.slice A0a l0.length c0a] w fun e w' => e = .returned (.bool true) ∧ Below w.heap.size w w' := by
  by_cases hbig0 : 1048576 < l0.length
  · go_enter Try.func7, Try.ntmps7
    go_wp2
    go_ret
    exact ⟨rfl, Below.refl _ _⟩
  go_enter Try.func7, Try.ntmps7
  go_wp2_with fail
  refine (DrawOnWagon_any A0a c0a l0 w rd0 cap0).mono ?_
  rintro e w1 ⟨A2, c2, l, A3, c3, ws, z, rfl, hL, hS, hl, hws, hb1⟩
  have HB1 := Lib.hid hb1
  have hs1 := hb1.size
  have HL1 := Lib.hid hL
  have HS1 := Lib.hid hS
  clear hb1 hL hS rd0 cap0
  cases hok : boxesOk l with
  | false =>
    have Hp := Lib.hid (onP_f z (onOk_f1 (ws := ws) hok))
    go_wp2_with fail
    refine (implOnWagon A2 c2 l A3 c3 ws z w1 HL1.out.rd HS1.out.rd (by omega) (by omega) HL1.out.cap.1).mono ?_
    rintro e w2 ⟨he, hb2⟩
    rw [Hp.out] at he
    subst he
    have HB2 := Lib.hid (bthen HB1.out hb2)
    have hs2 : w1.heap.size ≤ w2.heap.size := hb2.size
    have HL2 := Lib.hid (HL1.out.below hb2)
    have HS2 := Lib.hid (HS1.out.below hb2)
    clear hb2
    go_wp2_with fail
    refine (specOnWagon A2 c2 l A3 c3 ws z w2 HL2.out.rd HS2.out.rd (by omega) (by omega)).mono ?_
    rintro e w3 ⟨he, hb3⟩
    rw [Hp.out] at he
    subst he
    have HB3 := Lib.hid (bthen HB2.out hb3)
    have hs3 : w2.heap.size ≤ w3.heap.size := hb3.size
    have HL3 := Lib.hid (HL2.out.below hb3)
    have HS3 := Lib.hid (HS2.out.below hb3)
    clear hb3
    go_wp2_with fail
    refine (specBoxesValid A2 c2 l w3 HL3.out.rd (by omega)).mono ?_
    rintro e w4 ⟨he, hb4⟩
    rw [hok] at he
    subst he
    have HB4 := Lib.hid (bthen HB3.out hb4)
    have hs4 : w3.heap.size ≤ w4.heap.size := hb4.size
    have HL4 := Lib.hid (HL3.out.below hb4)
    have HS4 := Lib.hid (HS3.out.below hb4)
    clear hb4
    go_wp2_with fail
    refine (alive_any w4).mono ?_
    rintro e w' ⟨rfl, rfl⟩
    go_wp2
    go_ret
    first | exact ⟨rfl, HB4.out⟩ | exact ⟨by simp; omega, HB4.out⟩
  | true =>
    by_cases hlen : ws.length = l.length
    · skip
      have Hok := Lib.hid hok
      have Hon := Lib.hid (onOk_mk hok hlen)
      have Hlen := Lib.hid hlen
      have hl10 := (boxesOk_t hok).2
      have hne : ((ws.length : Int) != (l.length : Int)) = false := by simp [hlen]
      have hself : ∀ x : Int, (x != x) = false := fun x => by simp
      clear hlen
      go_wp2_with fail
      refine (implOnWagon A2 c2 l A3 c3 ws z w1 HL1.out.rd HS1.out.rd (by omega) (by omega) HL1.out.cap.1).mono ?_
      rintro e w2 ⟨he, hb2⟩
      subst he
      have HB2 := Lib.hid (bthen HB1.out hb2)
      have hs2 : w1.heap.size ≤ w2.heap.size := hb2.size
      have HL2 := Lib.hid (HL1.out.below hb2)
      have HS2 := Lib.hid (HS1.out.below hb2)
      clear hb2
      go_wp2_with fail
      refine (specOnWagon A2 c2 l A3 c3 ws z w2 HL2.out.rd HS2.out.rd (by omega) (by omega)).mono ?_
      rintro e w3 ⟨he, hb3⟩
      subst he
      have HB3 := Lib.hid (bthen HB2.out hb3)
      have hs3 : w2.heap.size ≤ w3.heap.size := hb3.size
      have HL3 := Lib.hid (HL2.out.below hb3)
      have HS3 := Lib.hid (HS2.out.below hb3)
      clear hb3
      go_wp2_with fail
      refine (specBoxesValid A2 c2 l w3 HL3.out.rd (by omega)).mono ?_
      rintro e w4 ⟨he, hb4⟩
      rw [hok] at he
      subst he
      have HB4 := Lib.hid (bthen HB3.out hb4)
      have hs4 : w3.heap.size ≤ w4.heap.size := hb4.size
      have HL4 := Lib.hid (HL3.out.below hb4)
      have HS4 := Lib.hid (HS3.out.below hb4)
      clear hb4
      clear hok
      go_wp2
      clear hself
      go_loopw [10, 11, 12] (fun u v i wr => ∃ j : Nat, j ≤ 8 ∧ i = vi ((j : Int) - 1) ∧ u = vi (manyTo ws l.length j) ∧ v = vi (wtTo l ws l.length j) ∧ Below w4.heap.size w4 wr) (fun _ _ i _ => (8 - intOf i).toNat)
      case atStart => exact ⟨0, by omega, by go_num, rfl, rfl, Below.refl _ _⟩
      case round =>
        obtain ⟨j, hj, rfl, rfl, rfl, hb⟩ := hrel
        have HB := Lib.hid hb
        have hm := manyTo_bd ws l.length j (by omega)
        have hw := wtTo_bd Hok.out ws l.length j (Nat.le_refl _)
        have hm1 := onMany_bd ws ((j : Int) - 1) l.length
        have hw1 := onWt_bd Hok.out ws ((j : Int) - 1) l.length (Nat.le_refl _)
        have HLr := Lib.hid (HL4.out.below hb)
        have HSr := Lib.hid (HS4.out.below hb)
        clear hb
        by_cases hlt : j < 8
        · have Hm := Lib.hid (manyTo_succ ws l.length j)
          have Hw := Lib.hid (wtTo_succ l ws l.length j)
          have Hp := Lib.hid (onP_t ((j : Int) - 1) Hon.out)
          go_wp2_with fail
          refine (implOnWagon A2 c2 l A3 c3 ws ((j : Int) - 1) wr HLr.out.rd HSr.out.rd (by omega) (by omega) HLr.out.cap.1).mono ?_
          rw [Hp.out]
          rintro e w5 ⟨rfl, hb5⟩
          have HB5 := Lib.hid (bthen HB.out hb5)
          clear hb5
          go_wp2
          go_roundw
          case rel => exact ⟨j + 1, by omega, by go_num, by rw [Hm.out], by rw [Hw.out], HB5.out⟩
          case measure => simp [intOf]; omega
        · obtain rfl : j = 8 := by omega
          go_wp2
          go_loop [15, 16, 17] (fun u v i => ∃ n : Nat, n ≤ l.length ∧ i = vi n ∧ u = vi (wtSum l n) ∧ v = .bool (wIn ws n)) (fun _ _ i => l.length - (intOf i).toNat)
          case atStart => exact ⟨0, Nat.zero_le _, rfl, rfl, rfl⟩
          case round =>
            obtain ⟨n, hn, rfl, rfl, rfl⟩ := hrel
            have hws := wtSum_bd Hok.out n hn
            by_cases hlt2 : n < l.length
            · have hlw : n < ws.length := by rw [Hlen.out]; exact hlt2
              obtain ⟨b, o, rfl, hbl, _⟩ := HLr.out.rd (by omega)
              obtain ⟨_, hc2, _, _, _⟩ := HLr.out.rd.at5 n hlt2
              obtain ⟨b2, o2, rfl, hbl2, hcw⟩ := HSr.out.rd (by omega)
              have hcw2 := hcw n hlw
              have hwt := boxesOk_wt Hok.out n hlt2
              have Hs := Lib.hid (wtSum_succ l n)
              clear hcw
              cases hw0 : wIn ws n with
              | false =>
                have Hi : Hid (wIn ws (n + 1) = false) := Lib.hid (by simp [wIn, hw0])
                clear hw0
                go_wp2
                go_round
                case rel => exact ⟨n + 1, by omega, by go_num, by rw [Hs.out], by rw [Hi.out]⟩
                case measure => simp [intOf]; omega
              | true =>
                rcases Int.lt_or_le (nth ws n) (-1) with h1 | h1
                · have Hi : Hid (wIn ws (n + 1) = false) := Lib.hid (by simp only [wIn, hw0, win_lo h1]; rfl)
                  have e1 : decide ((-1 : Int) ≤ nth ws n) = false := by simp; omega
                  clear hw0 h1
                  generalize nth ws n = y at *
                  go_wp2
                  go_round
                  case rel => exact ⟨n + 1, by omega, by go_num, by rw [Hs.out], by rw [Hi.out]⟩
                  case measure => simp [intOf]; omega
                · rcases Int.lt_or_le 6 (nth ws n) with h2 | h2
                  · have Hi : Hid (wIn ws (n + 1) = false) := Lib.hid (by simp only [wIn, hw0, win_hi h2]; rfl)
                    have e1 : decide ((-1 : Int) ≤ nth ws n) = true := by simp; omega
                    have e2 : decide (nth ws n ≤ 6) = false := by simp; omega
                    clear hw0 h1 h2
                    generalize nth ws n = y at *
                    go_wp2
                    go_round
                    case rel => exact ⟨n + 1, by omega, by go_num, by rw [Hs.out], by rw [Hi.out]⟩
                    case measure => simp [intOf]; omega
                  · have Hi : Hid (wIn ws (n + 1) = true) := Lib.hid (by simp only [wIn, hw0, win_mk h1 h2]; rfl)
                    have e1 : decide ((-1 : Int) ≤ nth ws n) = true := by simp; omega
                    have e2 : decide (nth ws n ≤ 6) = true := by simp; omega
                    clear hw0 h1 h2
                    generalize nth ws n = y at *
                    go_wp2
                    go_round
                    case rel => exact ⟨n + 1, by omega, by go_num, by rw [Hs.out], by rw [Hi.out]⟩
                    case measure => simp [intOf]; omega
            · obtain rfl : n = l.length := by omega
              cases hw0 : wIn ws l.length with
              | false =>
                clear hw0
                go_wp2
                go_ret
                first | exact ⟨rfl, (bthen HB4.out HB.out)⟩ | exact ⟨by simp; omega, (bthen HB4.out HB.out)⟩
              | true =>
                have e1 : manyTo ws l.length 8 = (l.length : Int) := many_all hw0
                have e2 : wtTo l ws l.length 8 = wtSum l l.length := wt_all hw0
                rw [e1, e2]
                clear hw0 e1 e2
                go_wp2
                go_ret
                first | exact ⟨rfl, (bthen HB4.out HB.out)⟩ | exact ⟨by simp; omega, (bthen HB4.out HB.out)⟩
    · have hne : ((ws.length : Int) != (l.length : Int)) = true := by simp; omega
      have Hp := Lib.hid (onP_f z (onOk_f2 hlen))
      go_wp2_with fail
      refine (implOnWagon A2 c2 l A3 c3 ws z w1 HL1.out.rd HS1.out.rd (by omega) (by omega) HL1.out.cap.1).mono ?_
      rintro e w2 ⟨he, hb2⟩
      rw [Hp.out] at he
      subst he
      have HB2 := Lib.hid (bthen HB1.out hb2)
      have hs2 : w1.heap.size ≤ w2.heap.size := hb2.size
      have HL2 := Lib.hid (HL1.out.below hb2)
      have HS2 := Lib.hid (HS1.out.below hb2)
      clear hb2
      go_wp2_with fail
      refine (specOnWagon A2 c2 l A3 c3 ws z w2 HL2.out.rd HS2.out.rd (by omega) (by omega)).mono ?_
      rintro e w3 ⟨he, hb3⟩
      rw [Hp.out] at he
      subst he
      have HB3 := Lib.hid (bthen HB2.out hb3)
      have hs3 : w2.heap.size ≤ w3.heap.size := hb3.size
      have HL3 := Lib.hid (HL2.out.below hb3)
      have HS3 := Lib.hid (HS2.out.below hb3)
      clear hb3
      go_wp2_with fail
      refine (specBoxesValid A2 c2 l w3 HL3.out.rd (by omega)).mono ?_
      rintro e w4 ⟨he, hb4⟩
      rw [hok] at he
      subst he
      have HB4 := Lib.hid (bthen HB3.out hb4)
      have hs4 : w3.heap.size ≤ w4.heap.size := hb4.size
      have HL4 := Lib.hid (HL3.out.below hb4)
      have HS4 := Lib.hid (HS3.out.below hb4)
      clear hb4
      clear hlen hok
      go_wp2_with fail
      refine (alive_any w4).mono ?_
      rintro e w' ⟨rfl, rfl⟩
      go_wp2
      go_ret
      first | exact ⟨rfl, HB4.out⟩ | exact ⟨by simp; omega, HB4.out⟩
end Go.Proofs.Ytdhpjajhkeanjaa
