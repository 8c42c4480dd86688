/-
  The walk of 'FnTrainFill'.
-/
import Derived.Test.YtdhpjajhkeanjaaTrainDraw
import Derived.Test.YtdhpjajhkeanjaaTrainD
import Derived.Test.YtdhpjajhkeanjaaTrainP
namespace Go.Proofs.Ytdhpjajhkeanjaa
open Go.RowKit
set_option linter.unusedVariables false

theorem walkFnTrainFill (w : World) (A0a : Option Addr) (c0a : Nat) (l0 : List Int) (rd0 : RdB w w.heap.size A0a l0) (cap0 : l0.length ≤ c0a) :
    Calls Try.prog 11 #[.slice A0a l0.length c0a] w fun e w' => e = .returned (.bool true) ∧ Below w.heap.size w w' := by
  by_cases hbig0 : 1048576 < l0.length
  · go_enter Try.func11, Try.ntmps11
    go_wp2
    go_ret
    exact ⟨rfl, Below.refl _ _⟩
  go_enter Try.func11, Try.ntmps11
  go_wp2_with fail
  refine (DrawTrainFill_any A0a c0a l0 w rd0 cap0).mono ?_
  rintro e w1 ⟨A1, c1, wl, A2, c2, l, rfl, hW, hL, hwl, hl, hb1⟩
  have HB1 := Lib.hid hb1
  have hs1 := hb1.size
  have HW1 := Lib.hid hW
  have HL1 := Lib.hid hL
  clear hb1 hW hL rd0 cap0
  have hfl := length_fillL wl l
  have hsm := same_self (fillL wl l)
  go_wp2_with fail
  refine (implTrainFill A1 c1 wl A2 c2 l w1 HW1.out.rd HL1.out.rd (by omega) (by omega) HL1.out.cap.1).mono ?_
  rintro e w2 ⟨AX, cX, rfl, ho2, hb2⟩
  have HB2 := Lib.hid (bthen HB1.out hb2)
  have hs2 : w1.heap.size ≤ w2.heap.size := hb2.size
  have HIX := Lib.hid ho2.in_
  have HW2 := Lib.hid (HW1.out.below hb2)
  have HL2 := Lib.hid (HL1.out.below hb2)
  have HX2 := Lib.hid ho2
  clear hb2 ho2
  go_wp2_with fail
  refine (specTrainFill A1 c1 wl A2 c2 l w2 HW2.out.rd HL2.out.rd (by omega) (by omega) HL2.out.cap.1).mono ?_
  rintro e w3 ⟨AY, cY, rfl, ho3, hb3⟩
  have HB3 := Lib.hid (bthen HB2.out hb3)
  have hs3 : w2.heap.size ≤ w3.heap.size := hb3.size
  have HIY := Lib.hid ho3.in_
  have HW3 := Lib.hid (HW2.out.below hb3)
  have HL3 := Lib.hid (HL2.out.below hb3)
  have HX3 := Lib.hid (HX2.out.below hb3)
  have HY3 := Lib.hid ho3
  clear hb3 ho3
  go_wp2_with fail
  refine (sameInts_any AX AY cX cY (fillL wl l) (fillL wl l) w3 HX3.out.rd HY3.out.rd (by omega) (by omega)).mono ?_
  rintro e w4 ⟨rfl, hd4⟩
  have hb4 := of_draws hd4
  have HB4 := Lib.hid (bthen HB3.out hb4)
  have hs4 : w3.heap.size ≤ w4.heap.size := hb4.size
  have HW4 := Lib.hid (HW3.out.below hb4)
  have HL4 := Lib.hid (HL3.out.below hb4)
  have HX4 := Lib.hid (HX3.out.below hb4)
  have HY4 := Lib.hid (HY3.out.below hb4)
  clear hb4 hd4
  cases hok1 : wagonsOk wl with
  | false =>
    have Hz := Lib.hid (show (fillL wl l).length = 0 by rw [fillL_f1 hok1]; rfl)
    go_wp2_with fail
    refine (specWagonsValid A1 c1 wl w4 HW4.out.rd (by omega)).mono ?_
    rintro e w5 ⟨he, hb5⟩
    rw [hok1] at he
    subst he
    have HB5 := Lib.hid (bthen HB4.out hb5)
    have hs5 : w4.heap.size ≤ w5.heap.size := hb5.size
    have HW5 := Lib.hid (HW4.out.below hb5)
    have HL5 := Lib.hid (HL4.out.below hb5)
    have HX5 := Lib.hid (HX4.out.below hb5)
    clear hb5
    rw [Hz.out]
    go_wp2_with fail
    refine (alive_any w5).mono ?_
    rintro e w' ⟨rfl, rfl⟩
    go_wp2
    go_ret
    first | exact ⟨rfl, HB5.out⟩ | exact ⟨by simp; omega, HB5.out⟩
  | true =>
    cases hok2 : boxesOk l with
    | false =>
      have Hz := Lib.hid (show (fillL wl l).length = 0 by rw [fillL_f2 hok2]; rfl)
      go_wp2_with fail
      refine (specWagonsValid A1 c1 wl w4 HW4.out.rd (by omega)).mono ?_
      rintro e w5 ⟨he, hb5⟩
      rw [hok1] at he
      subst he
      have HB5 := Lib.hid (bthen HB4.out hb5)
      have hs5 : w4.heap.size ≤ w5.heap.size := hb5.size
      have HW5 := Lib.hid (HW4.out.below hb5)
      have HL5 := Lib.hid (HL4.out.below hb5)
      have HX5 := Lib.hid (HX4.out.below hb5)
      clear hb5
      go_wp2_with fail
      refine (specBoxesValid A2 c2 l w5 HL5.out.rd (by omega)).mono ?_
      rintro e w6 ⟨he, hb6⟩
      rw [hok2] at he
      subst he
      have HB6 := Lib.hid (bthen HB5.out hb6)
      have hs6 : w5.heap.size ≤ w6.heap.size := hb6.size
      have HW6 := Lib.hid (HW5.out.below hb6)
      have HL6 := Lib.hid (HL5.out.below hb6)
      have HX6 := Lib.hid (HX5.out.below hb6)
      clear hb6
      rw [Hz.out]
      go_wp2_with fail
      refine (alive_any w6).mono ?_
      rintro e w' ⟨rfl, rfl⟩
      go_wp2
      go_ret
      first | exact ⟨rfl, HB6.out⟩ | exact ⟨by simp; omega, HB6.out⟩
    | true =>
      have Hok1 := Lib.hid hok1
      have Hok2 := Lib.hid hok2
      have hl10 := (boxesOk_t hok2).2
      have Hfl := Lib.hid (fillL_t hok1 hok2)
      have Hn := Lib.hid (show (fillL wl l).length = l.length by rw [fillL_t hok1 hok2, length_fill])
      go_wp2_with fail
      refine (specWagonsValid A1 c1 wl w4 HW4.out.rd (by omega)).mono ?_
      rintro e w5 ⟨he, hb5⟩
      rw [hok1] at he
      subst he
      have HB5 := Lib.hid (bthen HB4.out hb5)
      have hs5 : w4.heap.size ≤ w5.heap.size := hb5.size
      have HW5 := Lib.hid (HW4.out.below hb5)
      have HL5 := Lib.hid (HL4.out.below hb5)
      have HX5 := Lib.hid (HX4.out.below hb5)
      clear hb5
      go_wp2_with fail
      refine (specBoxesValid A2 c2 l w5 HL5.out.rd (by omega)).mono ?_
      rintro e w6 ⟨he, hb6⟩
      rw [hok2] at he
      subst he
      have HB6 := Lib.hid (bthen HB5.out hb6)
      have hs6 : w5.heap.size ≤ w6.heap.size := hb6.size
      have HW6 := Lib.hid (HW5.out.below hb6)
      have HL6 := Lib.hid (HL5.out.below hb6)
      have HX6 := Lib.hid (HX5.out.below hb6)
      clear hb6
      clear hok1 hok2 hsm
      have HX := Lib.hid (by have := HX6.out; rw [Hn.out, Hfl.out] at this; exact this)
      rw [Hn.out]
      go_wp2
      go_loopw [6] (fun i wr => ∃ k : Nat, k ≤ l.length ∧ i = vi k ∧ Below w6.heap.size w6 wr) (fun i _ => l.length - (intOf i).toNat)
      case atStart => exact ⟨0, Nat.zero_le _, rfl, Below.refl _ _⟩
      case round =>
        obtain ⟨k, hk, rfl, hb⟩ := hrel
        obtain ⟨wo, hwo⟩ : ∃ x, x = wr := ⟨wr, rfl⟩
        subst hwo
        have HB := Lib.hid hb
        have hz := hb.size
        have HWr := Lib.hid (HW6.out.below hb)
        have HLr := Lib.hid (HL6.out.below hb)
        have HXr := Lib.hid (HX.out.below hb)
        clear hb
        by_cases hlt : k < l.length
        · skip
          go_wp2
          go_loopw [7] (fun i wr => ∃ j : Nat, j ≤ wl.length ∧ i = vi j ∧ Below wo.heap.size wo wr) (fun i _ => wl.length - (intOf i).toNat)
          case atStart => exact ⟨0, Nat.zero_le _, rfl, Below.refl _ _⟩
          case round =>
            obtain ⟨j, hj, rfl, hb⟩ := hrel
            obtain ⟨wq, hwq⟩ : ∃ x, x = wr := ⟨wr, rfl⟩
            subst hwq
            have HBQ := Lib.hid hb
            have hzq := hb.size
            have HWq := Lib.hid (HWr.out.below hb)
            have HLq := Lib.hid (HLr.out.below hb)
            have HXq := Lib.hid (HXr.out.below hb)
            clear hb
            obtain ⟨b2, o2, rfl, hbl2, hcw⟩ := HXq.out.rd (by rw [length_fill]; omega)
            have hcw2 := hcw k (by rw [length_fill]; exact hlt)
            clear hcw
            by_cases hlj : j < wl.length
            · by_cases hneg : nth (fill wl l l.length) k < 0
              · have Hno := Lib.hid (fill_no Hok1.out Hok2.out hlt hlj hneg)
                have HBa := Lib.hid (HBQ.out.alloc HBQ.out.size (.cells #[] 3))
                go_wp2_with (at_builtin; refine app_int rfl (.tmp 59) (.tmp 60) rfl wq.heap.size (some ⟨wq.heap.size, 0, none⟩) 0 0 [] rfl (OwnI.none_made wq) (some ⟨b2, o2, none⟩) l.length cX (fill wl l l.length) rfl (HXq.out.rd.alloc _) (length_fill _ _ _) (by omega) (by simp) ?_; intro A7 c7 w7 ho7 hg7; simp only [Nat.zero_add, List.nil_append] at ho7; skip)
                have HB7 := Lib.hid (HBa.out.grown hg7 (by simp; omega) (fun q hq => by simp [blk] at hq; omega))
                have hs7 := hg7.size
                simp only [World.size_alloc] at hs7
                rcases ho7.form with ⟨_, e0⟩ | ⟨g7, rfl, hg71, hg72⟩
                · have := ho7.len; rw [e0] at this; simp at this; omega
                have hcd := ho7.cell k hlt
                have hcf := ho7.frozen k
                have HP := Lib.hid (ho7.put k (j : Int))
                clear ho7 hg7
                have HB8 := Lib.hid (HB7.out.grown HP.out.2 (by omega) (fun q hq => by injection hq with hq; omega))
                have hlset : ((fill wl l l.length).set k (j : Int)).length = l.length := by rw [List.length_set, length_fill]
                have hcl := implTrainValid A1 c1 wl A2 c2 l (some ⟨g7, 0, none⟩) c7 ((fill wl l l.length).set k (j : Int)) (w7.setCell ⟨g7, k, none⟩ (vi (j : Int))) (HWr.out.below HB8.out).rd (HLr.out.below HB8.out).rd HP.out.1.rd (by omega) (by omega) (by omega) HLr.out.cap.1
                rw [Hno.out, hlset] at hcl
                have Hcl := Lib.hid hcl
                clear hcl hlset
                go_simp
                go_wp2_with fail
                refine Hcl.out.mono ?_
                rintro e w9 ⟨rfl, hb9⟩
                have HB9 := Lib.hid (bthen HB8.out hb9)
                clear hb9
                go_wp2
                go_roundw
                case rel => exact ⟨j + 1, by omega, by go_num, HB9.out⟩
                case measure => simp [intOf]; omega
              · obtain hneg : ¬ nth (fill wl l l.length) k < 0 := hneg
                go_wp2
                go_roundw
                case rel => exact ⟨k + 1, by omega, by go_num, bthen HB.out HBQ.out⟩
                case measure => simp [intOf]; omega
            · obtain rfl : j = wl.length := by omega
              go_wp2
              go_roundw
              case rel => exact ⟨k + 1, by omega, by go_num, bthen HB.out HBQ.out⟩
              case measure => simp [intOf]; omega
        · obtain rfl : k = l.length := by omega
          have hcl := implTrainValid A1 c1 wl A2 c2 l AX cX (fill wl l l.length) wo HWr.out.rd HLr.out.rd HXr.out.rd (by omega) (by omega) (by rw [length_fill]; omega) HLr.out.cap.1
          rw [fill_ok Hok1.out Hok2.out, length_fill] at hcl
          have Hcl := Lib.hid hcl
          clear hcl
          go_wp2_with fail
          refine Hcl.out.mono ?_
          rintro e w9 ⟨rfl, hb9⟩
          have HB9 := Lib.hid (bthen HB.out hb9)
          clear hb9
          go_wp2
          go_ret
          first | exact ⟨rfl, (bthen HB6.out HB9.out)⟩ | exact ⟨by simp; omega, (bthen HB6.out HB9.out)⟩
end Go.Proofs.Ytdhpjajhkeanjaa
