/-
  The walk of 'FnBookedHour'.
-/
import Derived.Test.YtnniogdnlcokmaaBookDraw2
import Derived.Test.YtnniogdnlcokmaaBkN
import Derived.Test.YtnniogdnlcokmaaBkP
import Derived.Test.YtnniogdnlcokmaaBkQ
import Derived.Test.YtnniogdnlcokmaaAlive
namespace Go.Proofs.Ytnniogdnlcokmaa
open Go.RowKit
set_option linter.unusedVariables false
set_option maxRecDepth 100000

set_option maxHeartbeats 4000000 in
theorem walkFnBookedHour (w : World) (A0a : Option Addr) (c0a : Nat) (l0 : List Int) (rd0 : RdB w w.heap.size A0a l0) (cap0 : l0.length ≤ c0a) :
    Calls Try.prog 10 #[.slice A0a l0.length c0a] w fun e w' => e = .returned (.bool true) ∧ Below w.heap.size w w' := by
  by_cases hbig0 : 1048576 < l0.length
  · go_enter Try.func10, Try.ntmps10
    go_wp2
    go_ret
    exact ⟨rfl, Below.refl _ _⟩
  go_enter Try.func10, Try.ntmps10
  go_wp2_with fail
  refine (DrawBookedHour_any A0a c0a l0 w rd0 cap0).mono ?_
  rintro e w1 ⟨A1, c1, l, room, t, rfl, ho1, hhi, ⟨hrm1, hrm2⟩, ⟨ht1, ht2⟩, hb1⟩
  have HO1 := Lib.hid ho1
  have HB1 := Lib.hid hb1
  have hs1 := hb1.size
  clear ho1 hb1 hbig0
  go_wp2_with fail
  refine (implBookedHour A1 c1 l room t w1 HO1.out.rd (by omega)).mono ?_
  rintro e w2 ⟨he, hb2⟩
  subst he
  have HB2 := Lib.hid (bthen HB1.out hb2)
  have HO2 := Lib.hid (HO1.out.below hb2)
  have hs2 := hb2.size
  clear hb2
  go_wp2_with fail
  refine (specBookedHour A1 c1 l room t w2 HO2.out.rd (by omega)).mono ?_
  rintro e w3 ⟨he, hb3⟩
  subst he
  have HB3 := Lib.hid (bthen HB2.out hb3)
  have HO3 := Lib.hid (HO2.out.below hb3)
  have hs3 := hb3.size
  clear hb3
  go_wp2_with fail
  refine (implCancel A1 c1 l room t w3 HO3.out.rd (by omega)).mono ?_
  rintro e w4 ⟨XA, Xc, rfl, ho4, hb4⟩
  have HB4 := Lib.hid (bthen HB3.out hb4)
  have HO4 := Lib.hid (HO3.out.below hb4)
  have X4 := Lib.hid ho4
  have hs4 := hb4.size
  clear hb4 ho4
  by_cases hx : hourOf l room t < 0
  · obtain ⟨h1, h2⟩ := hour_no hx
    rw [h1, h2]
    clear h1 h2 hx
    go_wp2_with fail
    refine (alive_any w4).mono ?_
    rintro e w' ⟨rfl, rfl⟩
    go_wp2
    go_ret
    first | exact ⟨rfl, HB4.out⟩ | exact ⟨by simp; done, HB4.out⟩ | exact ⟨by simp; omega, HB4.out⟩
  · obtain ⟨hk, hm, hc⟩ := hour_yes (Int.not_lt.1 hx)
    rw [hc]
    obtain ⟨x, hxx⟩ : ∃ x, x = hourOf l room t := ⟨_, rfl⟩
    rw [← hxx] at hx hm ⊢
    obtain ⟨i, hi, hit⟩ := mem_nth hm
    have HIT := Lib.hid hit
    clear hxx hc hm hk hit
    go_wp2
    go_loop [9, 10] (fun b q => ∃ (k : Nat) (bb : Bool), k ≤ l.length ∧ q = vi k ∧ b = .bool bb ∧ (i < k → bb = true)) (fun _ q => l.length - (intOf q).toNat)
    case atStart => exact ⟨0, false, Nat.zero_le _, rfl, rfl, fun h => absurd h (by omega)⟩
    case round =>
      obtain ⟨k, bb, hk, rfl, rfl, hbb⟩ := hrel
      have HBB := Lib.hid hbb
      clear hbb
      by_cases hlt : k < l.length
      · obtain ⟨b, o, hA, hbl, _⟩ := HO4.out.rd (by omega)
        subst hA
        obtain ⟨hc1, hc2⟩ := HO4.out.rd.at2 k hlt
        cases bb with
        | true =>
          go_wp2
          go_round
          case rel => exact ⟨k + 1, true, by omega, by go_num, rfl, fun _ => rfl⟩
          case measure => simp [intOf]; omega
        | false =>
          have hik : k ≤ i := by
            rcases Nat.lt_or_ge i k with h1 | h1
            · have := HBB.out h1; cases this
            · exact h1
          by_cases e1 : (nth l k).1 = t
          · by_cases e2 : (nth l k).2 = x
            · have f1 : ((nth l k).1 == t) = true := by simp [e1]
              have f2 : ((nth l k).2 == x) = true := by simp [e2]
              clear e1 e2
              go_wp2
              go_round
              case rel => exact ⟨k + 1, true, by omega, by go_num, by simp, fun _ => rfl⟩
              case measure => simp [intOf]; omega
            · have f1 : ((nth l k).1 == t) = true := by simp [e1]
              have f2 : ((nth l k).2 == x) = false := by simp [e2]
              have f3 : i < k + 1 → False := fun h1 => by
                obtain rfl : i = k := by omega
                exact e2 (by rw [HIT.out])
              have F3 := Lib.hid f3
              clear e1 e2 f3
              go_wp2
              go_round
              case rel => exact ⟨k + 1, false, by omega, by go_num, by simp, fun h => (F3.out h).elim⟩
              case measure => simp [intOf]; omega
          · have f1 : ((nth l k).1 == t) = false := by simp [e1]
            have f3 : i < k + 1 → False := fun h1 => by
              obtain rfl : i = k := by omega
              exact e1 (by rw [HIT.out])
            have F3 := Lib.hid f3
            clear e1 f3
            go_wp2
            go_round
            case rel => exact ⟨k + 1, false, by omega, by go_num, by simp, fun h => (F3.out h).elim⟩
            case measure => simp [intOf]; omega
      · obtain rfl : k = l.length := by omega
        obtain rfl : bb = true := HBB.out hi
        go_wp2
        go_ret
        first | exact ⟨rfl, HB4.out⟩ | exact ⟨by simp; done, HB4.out⟩ | exact ⟨by simp; omega, HB4.out⟩
end Go.Proofs.Ytnniogdnlcokmaa
