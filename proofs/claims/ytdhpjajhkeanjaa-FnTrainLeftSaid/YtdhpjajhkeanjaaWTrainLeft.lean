/-
  The walk of 'FnTrainLeft'.
-/
import Derived.Test.YtdhpjajhkeanjaaTrainDraw
import Derived.Test.YtdhpjajhkeanjaaTrainD
import Derived.Test.YtdhpjajhkeanjaaTrainP
namespace Go.Proofs.Ytdhpjajhkeanjaa
open Go.RowKit
set_option linter.unusedVariables false

theorem leftIds_many (l : List Bx) (ws : List Int) (n : Nat) : ((leftIds l ws n).length : Int) = onMany ws (-1) n := by
  induction n with
  | zero => rfl
  | succ n ih =>
    by_cases h : nth ws n = -1
    · rw [leftIds_hit h, onMany_hit h, List.length_append, ← ih]; simp
    · rw [leftIds_miss h, onMany_miss h, ih]
theorem leftIds_nth (l : List Bx) (ws : List Int) (n k : Nat) (hk : k < (leftIds l ws n).length) : ∃ i, i < n ∧ nth ws i = -1 ∧ nth (leftIds l ws n) k = (nth l i).id := by
  induction n with
  | zero => simp [leftIds] at hk
  | succ n ih =>
    by_cases h : nth ws n = -1
    · rw [leftIds_hit h] at hk ⊢
      rcases Nat.lt_or_ge k (leftIds l ws n).length with h1 | h1
      · obtain ⟨i, h2, h3, h4⟩ := ih h1
        exact ⟨i, by omega, h3, by rw [nth_snoc_lt _ _ _ h1]; exact h4⟩
      · simp at hk
        obtain rfl : k = (leftIds l ws n).length := by omega
        exact ⟨n, by omega, h, nth_snoc _ _⟩
    · rw [leftIds_miss h] at hk ⊢
      obtain ⟨i, h2, h3, h4⟩ := ih hk
      exact ⟨i, by omega, h3, h4⟩
theorem idPos_own {l : List Bx} (h : boxesOk l = true) {i : Nat} (hi : i < l.length) : idPos l (nth l i).id = i := by
  have h1 := (boxesOk_t h).1 i hi
  simp only [bxOk, Bool.and_eq_true, decide_eq_true_eq] at h1
  have h2 := idPos_here hi
  omega
theorem findBox_any (A : Option Addr) (c : Nat) (l : List Bx) (i : Int) (w : World) (h : Rd encB w A l) (hl : l.length ≤ 1000000000) (hcap : l.length ≤ c) (hok : boxesOk l = true) :
    Calls Try.prog 43 #[.slice A l.length c, vi i] w fun e w' => e = .returned (vi (idPos l i)) ∧ Below w.heap.size w w' := by
  have HA := Lib.hid (implBoxesValid A c l w h hl hcap)
  go_enter Try.func43, Try.ntmps43
  go_wp2_with fail
  refine HA.out.mono ?_
  rw [hok]
  rintro e w1 ⟨rfl, hb1⟩
  have HB1 := Lib.hid hb1
  have hR := h.below hb1
  clear hb1 HA hok
  go_wp2_with fail
  refine (boxAt_any A c l i w1 hR hl).mono ?_
  rintro e w2 ⟨rfl, hb2⟩
  have HB2 := Lib.hid (bthen HB1.out hb2)
  clear hb2
  go_wp2
  go_ret
  exact ⟨rfl, HB2.out⟩

theorem walkFnTrainLeft (w : World) (A0a : Option Addr) (c0a : Nat) (l0 : List Int) (rd0 : RdB w w.heap.size A0a l0) (cap0 : l0.length ≤ c0a) :
    Calls Try.prog 12 #[.slice A0a l0.length c0a] w fun e w' => e = .returned (.bool true) ∧ Below w.heap.size w w' := by
  by_cases hbig0 : 1048576 < l0.length
  · go_enter Try.func12, Try.ntmps12
    go_wp2
    go_ret
    exact ⟨rfl, Below.refl _ _⟩
  go_enter Try.func12, Try.ntmps12
  go_wp2_with fail
  refine (DrawTrainLeft_any A0a c0a l0 w rd0 cap0).mono ?_
  rintro e w1 ⟨A1, c1, wl, A2, c2, l, A3, c3, ws, rfl, hW, hL, hS, hwl, hl, hws, hb1⟩
  have HB1 := Lib.hid hb1
  have hs1 := hb1.size
  have HW1 := Lib.hid hW
  have HL1 := Lib.hid hL
  have HS1 := Lib.hid hS
  clear hb1 hW hL hS rd0 cap0
  have hfl := length_trainLeft wl l ws
  have hsm := same_self (trainLeft wl l ws)
  go_wp2_with fail
  refine (implTrainLeft A1 c1 wl A2 c2 l A3 c3 ws w1 HW1.out.rd HL1.out.rd HS1.out.rd (by omega) (by omega) (by omega) HL1.out.cap.1).mono ?_
  rintro e w2 ⟨AX, cX, rfl, ho2, hb2⟩
  have HB2 := Lib.hid (bthen HB1.out hb2)
  have hs2 : w1.heap.size ≤ w2.heap.size := hb2.size
  have HIX := Lib.hid ho2.in_
  have HW2 := Lib.hid (HW1.out.below hb2)
  have HL2 := Lib.hid (HL1.out.below hb2)
  have HS2 := Lib.hid (HS1.out.below hb2)
  have HX2 := Lib.hid ho2
  clear hb2 ho2
  go_wp2_with fail
  refine (specTrainLeft A1 c1 wl A2 c2 l A3 c3 ws w2 HW2.out.rd HL2.out.rd HS2.out.rd (by omega) (by omega) (by omega) HL2.out.cap.1).mono ?_
  rintro e w3 ⟨AY, cY, rfl, ho3, hb3⟩
  have HB3 := Lib.hid (bthen HB2.out hb3)
  have hs3 : w2.heap.size ≤ w3.heap.size := hb3.size
  have HIY := Lib.hid ho3.in_
  have HW3 := Lib.hid (HW2.out.below hb3)
  have HL3 := Lib.hid (HL2.out.below hb3)
  have HS3 := Lib.hid (HS2.out.below hb3)
  have HX3 := Lib.hid (HX2.out.below hb3)
  have HY3 := Lib.hid ho3
  clear hb3 ho3
  go_wp2_with fail
  refine (sameInts_any AX AY cX cY (trainLeft wl l ws) (trainLeft wl l ws) w3 HX3.out.rd HY3.out.rd (by omega) (by omega)).mono ?_
  rintro e w4 ⟨rfl, hd4⟩
  have hb4 := of_draws hd4
  have HB4 := Lib.hid (bthen HB3.out hb4)
  have hs4 : w3.heap.size ≤ w4.heap.size := hb4.size
  have HW4 := Lib.hid (HW3.out.below hb4)
  have HL4 := Lib.hid (HL3.out.below hb4)
  have HS4 := Lib.hid (HS3.out.below hb4)
  have HX4 := Lib.hid (HX3.out.below hb4)
  have HY4 := Lib.hid (HY3.out.below hb4)
  clear hb4 hd4
  cases hok : trainOk wl l ws with
  | false =>
    have Hz := Lib.hid (show (trainLeft wl l ws).length = 0 by rw [trainLeft_f hok]; rfl)
    go_wp2_with fail
    refine (specTrainValid A1 c1 wl A2 c2 l A3 c3 ws w4 HW4.out.rd HL4.out.rd HS4.out.rd (by omega) (by omega) (by omega)).mono ?_
    rintro e w5 ⟨he, hb5⟩
    rw [hok] at he
    subst he
    have HB5 := Lib.hid (bthen HB4.out hb5)
    have hs5 : w4.heap.size ≤ w5.heap.size := hb5.size
    have HW5 := Lib.hid (HW4.out.below hb5)
    have HL5 := Lib.hid (HL4.out.below hb5)
    have HS5 := Lib.hid (HS4.out.below hb5)
    have HX5 := Lib.hid (HX4.out.below hb5)
    clear hb5
    rw [Hz.out]
    go_wp2_with fail
    refine (alive_any w5).mono ?_
    rintro e w' ⟨rfl, rfl⟩
    go_wp2
    go_ret
    first | exact ⟨rfl, HB5.out⟩ | exact ⟨by simp; omega, HB5.out⟩
  | true =>
    obtain ⟨hlen, hl10⟩ := trainOk_len hok
    have Hok := Lib.hid hok
    have Hbx := Lib.hid (onOk_t (trainOk_t hok).2.1).1
    have Hon := Lib.hid (trainOk_t hok).2.1
    have Hlen := Lib.hid hlen
    have Hlf := Lib.hid (show trainLeft wl l ws = leftIds l ws l.length by rw [trainLeft_t hok, hlen])
    clear hlen
    go_wp2_with fail
    refine (specTrainValid A1 c1 wl A2 c2 l A3 c3 ws w4 HW4.out.rd HL4.out.rd HS4.out.rd (by omega) (by omega) (by omega)).mono ?_
    rintro e w5 ⟨he, hb5⟩
    rw [hok] at he
    subst he
    have HB5 := Lib.hid (bthen HB4.out hb5)
    have hs5 : w4.heap.size ≤ w5.heap.size := hb5.size
    have HW5 := Lib.hid (HW4.out.below hb5)
    have HL5 := Lib.hid (HL4.out.below hb5)
    have HS5 := Lib.hid (HS4.out.below hb5)
    have HX5 := Lib.hid (HX4.out.below hb5)
    clear hb5
    clear hok hsm
    have HX := Lib.hid (by have := HX5.out; rw [Hlf.out] at this; exact this)
    rw [Hlf.out]
    rw [Hlf.out] at hfl
    go_wp2
    go_loopw [7] (fun i wr => ∃ k : Nat, k ≤ (leftIds l ws l.length).length ∧ i = vi k ∧ Below w5.heap.size w5 wr) (fun i _ => (leftIds l ws l.length).length - (intOf i).toNat)
    case atStart => exact ⟨0, Nat.zero_le _, rfl, Below.refl _ _⟩
    case round =>
      obtain ⟨k, hk, rfl, hb⟩ := hrel
      have HB := Lib.hid hb
      have hz := hb.size
      have HLr := Lib.hid (HL5.out.below hb)
      have HSr := Lib.hid (HS5.out.below hb)
      have HXr := Lib.hid (HX.out.below hb)
      clear hb
      by_cases hlt : k < (leftIds l ws l.length).length
      · obtain ⟨i, hi, hwi, hni⟩ := leftIds_nth l ws l.length k hlt
        have hip := idPos_own Hbx.out hi
        obtain ⟨b2, o2, rfl, hbl2, hcw⟩ := HXr.out.rd (by omega)
        have hcw2 := hcw k hlt
        rw [hni] at hcw2
        clear hcw hni
        have hcl := findBox_any A2 c2 l (nth l i).id wr HLr.out.rd (by omega) HLr.out.cap.1 Hbx.out
        rw [hip] at hcl
        have Hcl := Lib.hid hcl
        clear hcl hip
        go_wp2_with fail
        refine Hcl.out.mono ?_
        rintro e w6 ⟨rfl, hb6⟩
        have HB6 := Lib.hid (bthen HB.out hb6)
        have HS6 := Lib.hid (HSr.out.below hb6)
        clear hb6
        have hiw : i < ws.length := by rw [Hlen.out]; exact hi
        obtain ⟨b3, o3, rfl, hbl3, hcs⟩ := HS6.out.rd (by omega)
        have hcs2 := hcs i hiw
        rw [hwi] at hcs2
        clear hcs hwi
        go_wp2
        go_roundw
        case rel => exact ⟨k + 1, by omega, by go_num, HB6.out⟩
        case measure => simp [intOf]; omega
      · obtain rfl : k = (leftIds l ws l.length).length := by omega
        have hcl := implOnWagon A2 c2 l A3 c3 ws (-1) wr HLr.out.rd HSr.out.rd (by omega) (by omega) HLr.out.cap.1
        rw [onP_t (-1) Hon.out, ← leftIds_many l ws l.length] at hcl
        have Hcl := Lib.hid hcl
        clear hcl
        go_wp2_with fail
        refine Hcl.out.mono ?_
        rintro e w6 ⟨rfl, hb6⟩
        have HB6 := Lib.hid (bthen HB.out hb6)
        clear hb6
        go_wp2
        go_ret
        first | exact ⟨rfl, (bthen HB5.out HB6.out)⟩ | exact ⟨by simp; omega, (bthen HB5.out HB6.out)⟩
end Go.Proofs.Ytdhpjajhkeanjaa
