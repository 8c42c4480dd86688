/-
  Contracts: the rate of a day, fees.
-/
import Derived.Test.YtaccnekicobhcaaFeeA
namespace Go.Proofs.Ytaccnekicobhcaa
open Go.RowKit
set_option linter.unusedVariables false

theorem implRateAt (A : Option Addr) (c : Nat) (l : List (Int × Int)) (day : Int) (w : World) (h : Rd encP w A l) (hl : l.length ≤ 1000000000) :
    Calls Try.prog 19 #[.slice A l.length c, vi day] w fun e w' => e = .returned (vi (rateV l day)) ∧ Below w.heap.size w w' := by
  cases hr : ratesOk l with
  | false =>
    have Hr := Lib.hid (rateV_f1 (day := day) hr)
    go_enter Try.func19, Try.ntmps19
    go_wp2_with fail
    refine (implRatesValid A c l w h hl).mono ?_
    rintro e w1 ⟨rfl, hb1⟩
    have HB1 := Lib.hid hb1
    have hs1 := hb1.size
    clear hb1
    go_wp2
    go_ret
    exact ⟨by rw [Hr.out]; rfl, HB1.out⟩
  | true =>
    have Hok := Lib.hid hr
    cases hw : win day 0 99 with
    | false =>
      have Hr := Lib.hid (rateV_f2 (l := l) hw)
      go_enter Try.func19, Try.ntmps19
      go_wp2_with fail
      refine (implRatesValid A c l w h hl).mono ?_
      rintro e w1 ⟨rfl, hb1⟩
      have HB1 := Lib.hid hb1
      have hs1 := hb1.size
      clear hb1
      go_wp2_with (go_at_call 34; refine (isDay_any _ _).mono ?_; rintro e w' ⟨rfl, rfl⟩)
      go_ret
      exact ⟨by rw [Hr.out]; rfl, HB1.out⟩
    | true =>
      have Hr := Lib.hid (rateV_t hr hw)
      go_enter Try.func19, Try.ntmps19
      go_wp2_with fail
      refine (implRatesValid A c l w h hl).mono ?_
      rintro e w1 ⟨rfl, hb1⟩
      have HB1 := Lib.hid hb1
      have hs1 := hb1.size
      clear hb1
      go_wp2_with (go_at_call 34; refine (isDay_any _ _).mono ?_; rintro e w' ⟨rfl, rfl⟩)
      go_loopw [5, 18] (fun p i wr => ∃ k : Nat, k ≤ l.length ∧ p = vi (rateTo l day k) ∧ i = vi k ∧ Below w.heap.size w wr) (fun p i _ => l.length - (intOf i).toNat)
      case atStart => exact ⟨0, Nat.zero_le _, rfl, rfl, HB1.out⟩
      case round =>
        obtain ⟨k, hk, rfl, rfl, hb⟩ := hrel
        have HB := Lib.hid hb
        by_cases hlt : k < l.length
        · obtain ⟨b, o, rfl, hbl, _⟩ := h.below hb (by omega)
          obtain ⟨hc1, hc2⟩ := (h.below hb).at2 k hlt
          clear h hb
          by_cases hd : (nth l k).1 ≤ day
          · have Hk := Lib.hid (rateTo_yes hd)
            go_wp2
            go_roundw
            case rel => exact ⟨k + 1, by omega, by rw [Hk.out], by go_num, HB.out.alloc HB.out.size _⟩
            case measure => simp [intOf]; omega
          · have Hk := Lib.hid (rateTo_nope hd)
            go_wp2
            go_roundw
            case rel => exact ⟨k + 1, by omega, by rw [Hk.out], by go_num, HB.out.alloc HB.out.size _⟩
            case measure => simp [intOf]; omega
        · obtain rfl : k = l.length := by omega
          clear hb
          go_wp2
          go_ret
          exact ⟨by rw [Hr.out]; rfl, HB.out⟩

theorem implFeeOf (A : Option Addr) (c : Nat) (l : List (Int × Int)) (free days : Int) (w : World) (h : Rd encP w A l) (hl : l.length ≤ 1000000000) :
    Calls Try.prog 21 #[.slice A l.length c, vi free, vi days] w fun e w' => e = .returned (vi (feeOf l free days)) ∧ Below w.heap.size w w' := by
  cases hr : ratesOk l with
  | false =>
    have Hr := Lib.hid (feeOf_f1 (free := free) (days := days) hr)
    go_enter Try.func21, Try.ntmps21
    go_wp2_with fail
    refine (implRatesValid A c l w h hl).mono ?_
    rintro e w1 ⟨rfl, hb1⟩
    have HB1 := Lib.hid hb1
    have hs1 := hb1.size
    clear hb1
    go_wp2
    go_ret
    exact ⟨by rw [Hr.out]; rfl, HB1.out⟩
  | true =>
    have Hok := Lib.hid hr
    cases hw : win free 0 99 with
    | false =>
      have Hr := Lib.hid (feeOf_f2 (l := l) (days := days) hw)
      go_enter Try.func21, Try.ntmps21
      go_wp2_with fail
      refine (implRatesValid A c l w h hl).mono ?_
      rintro e w1 ⟨rfl, hb1⟩
      have HB1 := Lib.hid hb1
      have hs1 := hb1.size
      clear hb1
      go_wp2_with (go_at_call 34; refine (isDay_any _ _).mono ?_; rintro e w' ⟨rfl, rfl⟩)
      go_ret
      exact ⟨by rw [Hr.out]; rfl, HB1.out⟩
    | true =>
      cases hw2 : win days 0 99 with
      | false =>
        have Hr := Lib.hid (feeOf_f3 (l := l) (free := free) hw2)
        go_enter Try.func21, Try.ntmps21
        go_wp2_with fail
        refine (implRatesValid A c l w h hl).mono ?_
        rintro e w1 ⟨rfl, hb1⟩
        have HB1 := Lib.hid hb1
        have hs1 := hb1.size
        clear hb1
        go_wp2_with (go_at_call 34; refine (isDay_any _ _).mono ?_; rintro e w' ⟨rfl, rfl⟩)
        go_ret
        exact ⟨by rw [Hr.out]; rfl, HB1.out⟩
      | true =>
        have Hr := Lib.hid (feeOf_t hr hw hw2)
        obtain ⟨hf0, hf1⟩ := win_t hw
        obtain ⟨hd0, hd1⟩ := win_t hw2
        have ht : ∃ m : Nat, m = (days - free).toNat := ⟨_, rfl⟩
        obtain ⟨m, hm⟩ := ht
        have ew : wrap64 (days - free) = days - free := Go.IntWalk.wrap64_in _ (by omega)
        go_enter Try.func21, Try.ntmps21
        go_wp2_with fail
        refine (implRatesValid A c l w h hl).mono ?_
        rintro e w1 ⟨rfl, hb1⟩
        have HB1 := Lib.hid hb1
        have hs1 := hb1.size
        clear hb1
        go_wp2_with (go_at_call 34; refine (isDay_any _ _).mono ?_; rintro e w' ⟨rfl, rfl⟩)
        go_loopw [7, 25] (fun p i wr => ∃ k : Nat, k ≤ m ∧ p = vi (feeSum l k) ∧ i = vi k ∧ Below w.heap.size w wr) (fun p i _ => m - (intOf i).toNat)
        case atStart => exact ⟨0, Nat.zero_le _, rfl, rfl, HB1.out⟩
        case round =>
          obtain ⟨k, hk, rfl, rfl, hb⟩ := hrel
          have HB := Lib.hid hb
          have h1 := h.below hb
          clear hb
          have hs3 := HB.out.size
          by_cases hlt : k < m
          · have Hv := Lib.hid (rateV_t (day := (k : Int)) Hok.out (win_mk (by omega) (by omega)))
            have hx : (k : Int) < days - free := by omega
            obtain ⟨hb0, hb9⟩ := feeSum_bd Hok.out k
            obtain ⟨hc0, hc9⟩ := rateAt_bd Hok.out (k : Int)
            go_wp2_with fail
            refine (implRateAt A c l (k : Int) _ h1 hl).mono ?_
            rintro e w2 ⟨he, hb2⟩
            rw [Hv.out] at he
            subst he
            have HB2 := Lib.hid (bthen HB.out hb2)
            clear hb2 h1
            go_wp2
            go_roundw
            case rel => exact ⟨k + 1, by omega, by show _ = vi (feeSum l k + rateAt l (k : Int)); go_num, by go_num, HB2.out⟩
            case measure => simp [intOf]; omega
          · obtain rfl : k = m := by omega
            have Hm : Hid (feeOf l free days = feeSum l k) := Lib.hid (by rw [Hr.out, hm]; rfl)
            have hx : ¬ (k : Int) < days - free := by omega
            clear hm
            go_wp2
            go_ret
            exact ⟨by rw [Hm.out]; rfl, HB.out⟩

theorem implFeeMore (A : Option Addr) (c : Nat) (l : List (Int × Int)) (free before days : Int) (w : World) (h : Rd encP w A l) (hl : l.length ≤ 1000000000) :
    Calls Try.prog 25 #[.slice A l.length c, vi free, vi before, vi days] w fun e w' => e = .returned (vi (feeMore l free before days)) ∧ Below w.heap.size w w' := by
  obtain ⟨hx1, hx2⟩ := feeOf_bd l free before
  obtain ⟨hy1, hy2⟩ := feeOf_bd l free days
  by_cases h1 : days < before
  · have Hr := Lib.hid (feeMore_no (l := l) (free := free) (.inl h1))
    go_enter Try.func25, Try.ntmps25
    go_wp2
    go_ret
    exact ⟨by rw [Hr.out]; rfl, Below.refl _ _⟩
  · by_cases h2 : feeOf l free before < 0
    · have Hr := Lib.hid (feeMore_no (days := days) (.inr (.inl h2)))
      go_enter Try.func25, Try.ntmps25
      go_wp2_with fail
      refine (implFeeOf A c l free before w h hl).mono ?_
      rintro e w1 ⟨rfl, hb1⟩
      have HB1 := Lib.hid hb1
      clear hb1
      go_wp2
      go_ret
      exact ⟨by rw [Hr.out]; rfl, HB1.out⟩
    · by_cases h3 : feeOf l free days < 0
      · have Hr := Lib.hid (feeMore_no (before := before) (.inr (.inr h3)))
        go_enter Try.func25, Try.ntmps25
        go_wp2_with fail
        refine (implFeeOf A c l free before w h hl).mono ?_
        rintro e w1 ⟨rfl, hb1⟩
        have HB1 := Lib.hid hb1
        clear hb1
        go_wp2_with fail
        refine (implFeeOf A c l free days w1 (h.below HB1.out) hl).mono ?_
        rintro e w2 ⟨rfl, hb2⟩
        have HB2 := Lib.hid (bthen HB1.out hb2)
        clear hb2
        go_wp2
        go_ret
        exact ⟨by rw [Hr.out]; rfl, HB2.out⟩
      · have Hr := Lib.hid (feeMore_yes h1 h2 h3)
        go_enter Try.func25, Try.ntmps25
        go_wp2_with fail
        refine (implFeeOf A c l free before w h hl).mono ?_
        rintro e w1 ⟨rfl, hb1⟩
        have HB1 := Lib.hid hb1
        clear hb1
        go_wp2_with fail
        refine (implFeeOf A c l free days w1 (h.below HB1.out) hl).mono ?_
        rintro e w2 ⟨rfl, hb2⟩
        have HB2 := Lib.hid (bthen HB1.out hb2)
        clear hb2
        go_wp2_with fail
        refine (implFeeOf A c l free days w2 (h.below HB2.out) hl).mono ?_
        rintro e w3 ⟨rfl, hb3⟩
        have HB3 := Lib.hid (bthen HB2.out hb3)
        clear hb3
        go_wp2_with fail
        refine (implFeeOf A c l free before w3 (h.below HB3.out) hl).mono ?_
        rintro e w4 ⟨rfl, hb4⟩
        have HB4 := Lib.hid (bthen HB3.out hb4)
        clear hb4
        go_wp2
        go_ret
        exact ⟨by rw [Hr.out]; go_num, HB4.out⟩

theorem implDaysFor (A : Option Addr) (c : Nat) (l : List (Int × Int)) (free sum : Int) (w : World) (h : Rd encP w A l) (hl : l.length ≤ 1000000000) :
    Calls Try.prog 27 #[.slice A l.length c, vi free, vi sum] w fun e w' => e = .returned (vi (daysFor l free sum)) ∧ Below w.heap.size w w' := by
  cases hr : ratesOk l with
  | false =>
    have Hr := Lib.hid (daysFor_f1 (free := free) (sum := sum) hr)
    go_enter Try.func27, Try.ntmps27
    go_wp2_with fail
    refine (implRatesValid A c l w h hl).mono ?_
    rintro e w1 ⟨rfl, hb1⟩
    have HB1 := Lib.hid hb1
    have hs1 := hb1.size
    clear hb1
    go_wp2
    go_ret
    exact ⟨by rw [Hr.out]; rfl, HB1.out⟩
  | true =>
    have Hok := Lib.hid hr
    cases hw : win free 0 99 with
    | false =>
      have Hr := Lib.hid (daysFor_f2 (l := l) (sum := sum) hw)
      go_enter Try.func27, Try.ntmps27
      go_wp2_with fail
      refine (implRatesValid A c l w h hl).mono ?_
      rintro e w1 ⟨rfl, hb1⟩
      have HB1 := Lib.hid hb1
      have hs1 := hb1.size
      clear hb1
      go_wp2_with (go_at_call 34; refine (isDay_any _ _).mono ?_; rintro e w' ⟨rfl, rfl⟩)
      go_ret
      exact ⟨by rw [Hr.out]; rfl, HB1.out⟩
    | true =>
      by_cases hneg : sum < 0
      · have Hr := Lib.hid (daysFor_f3 (l := l) (free := free) hneg)
        go_enter Try.func27, Try.ntmps27
        go_wp2_with fail
        refine (implRatesValid A c l w h hl).mono ?_
        rintro e w1 ⟨rfl, hb1⟩
        have HB1 := Lib.hid hb1
        have hs1 := hb1.size
        clear hb1
        go_wp2_with (go_at_call 34; refine (isDay_any _ _).mono ?_; rintro e w' ⟨rfl, rfl⟩)
        go_ret
        exact ⟨by rw [Hr.out]; rfl, HB1.out⟩
      · have Hr := Lib.hid (daysFor_t hr hw (Int.not_lt.1 hneg))
        go_enter Try.func27, Try.ntmps27
        go_wp2_with fail
        refine (implRatesValid A c l w h hl).mono ?_
        rintro e w1 ⟨rfl, hb1⟩
        have HB1 := Lib.hid hb1
        have hs1 := hb1.size
        clear hb1
        go_wp2_with (go_at_call 34; refine (isDay_any _ _).mono ?_; rintro e w' ⟨rfl, rfl⟩)
        obtain ⟨hf0, hf1⟩ := win_t hw
        have Hw := Lib.hid hw
        go_loopw [7] (fun p wr => ∃ k : Nat, k ≤ 99 ∧ p = vi k ∧ (∀ j : Nat, k < j → j ≤ 99 → sum < feeN l free (j : Int)) ∧ Below w.heap.size w wr) (fun p _ => (intOf p).toNat)
        case atStart => exact ⟨99, Nat.le_refl _, rfl, fun j h1 h2 => absurd h1 (by omega), HB1.out⟩
        case round =>
          obtain ⟨k, hk, rfl, hj, hb⟩ := hrel
          have Hj := Lib.hid hj
          clear hj
          have HB := Lib.hid hb
          have h1 := h.below hb
          clear hb
          have Hv := Lib.hid (feeOf_t (days := (k : Int)) Hok.out Hw.out (win_mk (by omega) (by omega)))
          obtain ⟨hv0, hv1⟩ := feeN_bd Hok.out hf0 (show (k : Int) ≤ 99 by omega)
          go_wp2_with fail
          refine (implFeeOf A c l free (k : Int) _ h1 hl).mono ?_
          rintro e w2 ⟨he, hb2⟩
          rw [Hv.out] at he
          subst he
          have HB2 := Lib.hid (bthen HB.out hb2)
          clear hb2 h1
          by_cases hgt : sum < feeN l free (k : Int)
          · have hk0 : 0 < k := by
              rcases Nat.eq_zero_or_pos k with h0 | h0
              · rw [h0, feeN_none (by omega)] at hgt; omega
              · exact h0
            have Hg := Lib.hid hgt
            go_wp2
            go_roundw
            case rel => exact ⟨k - 1, by omega, by go_num, fun j h1 h2 => by
              rcases Nat.eq_or_lt_of_le (show k ≤ j by omega) with e | e
              · rw [← e]; exact Hg.out
              · exact Hj.out j e h2, HB2.out⟩
            case measure => simp [intOf]; omega
          · have Hd : Hid (daysFor l free sum = (k : Int)) := Lib.hid (by rw [Hr.out, dfDown_spec l free sum k (.inr (Int.not_lt.1 hgt)) 99 hk Hj.out])
            go_wp2
            go_ret
            exact ⟨by rw [Hd.out]; rfl, HB2.out⟩

theorem specRateAt (A : Option Addr) (c : Nat) (l : List (Int × Int)) (day : Int) (w : World) (h : Rd encP w A l) (hl : l.length ≤ 1000000000) :
    Calls Try.prog 18 #[.slice A l.length c, vi day] w fun e w' => e = .returned (vi (rateV l day)) ∧ Below w.heap.size w w' := by
  cases hr : ratesOk l with
  | false =>
    have Hr := Lib.hid (rateV_f1 (day := day) hr)
    go_enter Try.func18, Try.ntmps18
    go_wp2_with fail
    refine (specRatesValid A c l w h hl).mono ?_
    rintro e w1 ⟨rfl, hb1⟩
    have HB1 := Lib.hid hb1
    have hs1 := hb1.size
    clear hb1
    go_wp2
    go_ret
    exact ⟨by rw [Hr.out]; rfl, HB1.out⟩
  | true =>
    have Hok := Lib.hid hr
    cases hw : win day 0 99 with
    | false =>
      have Hr := Lib.hid (rateV_f2 (l := l) hw)
      go_enter Try.func18, Try.ntmps18
      go_wp2_with fail
      refine (specRatesValid A c l w h hl).mono ?_
      rintro e w1 ⟨rfl, hb1⟩
      have HB1 := Lib.hid hb1
      have hs1 := hb1.size
      clear hb1
      go_wp2_with (go_at_call 32; refine (l1In_any _ _ _ _).mono ?_; rintro e w' ⟨rfl, rfl⟩)
      go_ret
      exact ⟨by rw [Hr.out]; rfl, HB1.out⟩
    | true =>
      have Hr := Lib.hid (rateV_t hr hw)
      go_enter Try.func18, Try.ntmps18
      go_wp2_with fail
      refine (specRatesValid A c l w h hl).mono ?_
      rintro e w1 ⟨rfl, hb1⟩
      have HB1 := Lib.hid hb1
      have hs1 := hb1.size
      clear hb1
      go_wp2_with (go_at_call 32; refine (l1In_any _ _ _ _).mono ?_; rintro e w' ⟨rfl, rfl⟩)
      go_loopw [5, 6] (fun p i wr => ∃ k : Nat, k ≤ l.length ∧ p = vi (rateTo l day k) ∧ i = vi k ∧ Below w.heap.size w wr) (fun p i _ => l.length - (intOf i).toNat)
      case atStart => exact ⟨0, Nat.zero_le _, rfl, rfl, HB1.out⟩
      case round =>
        obtain ⟨k, hk, rfl, rfl, hb⟩ := hrel
        have HB := Lib.hid hb
        by_cases hlt : k < l.length
        · obtain ⟨b, o, rfl, hbl, _⟩ := h.below hb (by omega)
          obtain ⟨hc1, hc2⟩ := (h.below hb).at2 k hlt
          clear h hb
          by_cases hd : (nth l k).1 ≤ day
          · have Hk := Lib.hid (rateTo_yes hd)
            go_wp2
            go_roundw
            case rel => exact ⟨k + 1, by omega, by rw [Hk.out], by go_num, HB.out⟩
            case measure => simp [intOf]; omega
          · have Hk : Hid (rateV l day = rateTo l day k) := Lib.hid (by rw [Hr.out]; exact rateTo_stop Hok.out (Int.not_le.1 hd) _ hk (Nat.le_refl _))
            go_wp2
            go_ret
            exact ⟨by rw [Hk.out]; rfl, HB.out⟩
        · obtain rfl : k = l.length := by omega
          clear hb
          go_wp2
          go_ret
          exact ⟨by rw [Hr.out]; rfl, HB.out⟩

theorem specFeeOf (A : Option Addr) (c : Nat) (l : List (Int × Int)) (free days : Int) (w : World) (h : Rd encP w A l) (hl : l.length ≤ 1000000000) :
    Calls Try.prog 20 #[.slice A l.length c, vi free, vi days] w fun e w' => e = .returned (vi (feeOf l free days)) ∧ Below w.heap.size w w' := by
  cases hr : ratesOk l with
  | false =>
    have Hr := Lib.hid (feeOf_f1 (free := free) (days := days) hr)
    go_enter Try.func20, Try.ntmps20
    go_wp2_with fail
    refine (specRatesValid A c l w h hl).mono ?_
    rintro e w1 ⟨rfl, hb1⟩
    have HB1 := Lib.hid hb1
    have hs1 := hb1.size
    clear hb1
    go_wp2
    go_ret
    exact ⟨by rw [Hr.out]; rfl, HB1.out⟩
  | true =>
    have Hok := Lib.hid hr
    cases hw : win free 0 99 with
    | false =>
      have Hr := Lib.hid (feeOf_f2 (l := l) (days := days) hw)
      go_enter Try.func20, Try.ntmps20
      go_wp2_with fail
      refine (specRatesValid A c l w h hl).mono ?_
      rintro e w1 ⟨rfl, hb1⟩
      have HB1 := Lib.hid hb1
      have hs1 := hb1.size
      clear hb1
      go_wp2_with (go_at_call 32; refine (l1In_any _ _ _ _).mono ?_; rintro e w' ⟨rfl, rfl⟩)
      go_ret
      exact ⟨by rw [Hr.out]; rfl, HB1.out⟩
    | true =>
      cases hw2 : win days 0 99 with
      | false =>
        have Hr := Lib.hid (feeOf_f3 (l := l) (free := free) hw2)
        go_enter Try.func20, Try.ntmps20
        go_wp2_with fail
        refine (specRatesValid A c l w h hl).mono ?_
        rintro e w1 ⟨rfl, hb1⟩
        have HB1 := Lib.hid hb1
        have hs1 := hb1.size
        clear hb1
        go_wp2_with (go_at_call 32; refine (l1In_any _ _ _ _).mono ?_; rintro e w' ⟨rfl, rfl⟩)
        go_ret
        exact ⟨by rw [Hr.out]; rfl, HB1.out⟩
      | true =>
        have Hr := Lib.hid (feeOf_t hr hw hw2)
        obtain ⟨hf0, hf1⟩ := win_t hw
        obtain ⟨hd0, hd1⟩ := win_t hw2
        have ht : ∃ m : Nat, m = (days - free).toNat := ⟨_, rfl⟩
        obtain ⟨m, hm⟩ := ht
        have ew : wrap64 (days - free) = days - free := Go.IntWalk.wrap64_in _ (by omega)
        go_enter Try.func20, Try.ntmps20
        go_wp2_with fail
        refine (specRatesValid A c l w h hl).mono ?_
        rintro e w1 ⟨rfl, hb1⟩
        have HB1 := Lib.hid hb1
        have hs1 := hb1.size
        clear hb1
        go_wp2_with (go_at_call 32; refine (l1In_any _ _ _ _).mono ?_; rintro e w' ⟨rfl, rfl⟩)
        go_loopw [7, 8] (fun p i wr => ∃ k : Nat, k ≤ m ∧ p = vi (feeSum l k) ∧ i = vi k ∧ Below w.heap.size w wr) (fun p i _ => m - (intOf i).toNat)
        case atStart => exact ⟨0, Nat.zero_le _, rfl, rfl, HB1.out⟩
        case round =>
          obtain ⟨k, hk, rfl, rfl, hb⟩ := hrel
          have HB := Lib.hid hb
          have h1 := h.below hb
          clear hb
          have hs3 := HB.out.size
          by_cases hlt : k < m
          · have Hv := Lib.hid (rateV_t (day := (k : Int)) Hok.out (win_mk (by omega) (by omega)))
            have hx : (k : Int) < days - free := by omega
            obtain ⟨hb0, hb9⟩ := feeSum_bd Hok.out k
            obtain ⟨hc0, hc9⟩ := rateAt_bd Hok.out (k : Int)
            go_wp2_with fail
            refine (specRateAt A c l (k : Int) _ h1 hl).mono ?_
            rintro e w2 ⟨he, hb2⟩
            rw [Hv.out] at he
            subst he
            have HB2 := Lib.hid (bthen HB.out hb2)
            clear hb2 h1
            go_wp2
            go_roundw
            case rel => exact ⟨k + 1, by omega, by show _ = vi (feeSum l k + rateAt l (k : Int)); go_num, by go_num, HB2.out⟩
            case measure => simp [intOf]; omega
          · obtain rfl : k = m := by omega
            have Hm : Hid (feeOf l free days = feeSum l k) := Lib.hid (by rw [Hr.out, hm]; rfl)
            have hx : ¬ (k : Int) < days - free := by omega
            clear hm
            go_wp2
            go_ret
            exact ⟨by rw [Hm.out]; rfl, HB.out⟩

theorem specFeeMore (A : Option Addr) (c : Nat) (l : List (Int × Int)) (free before days : Int) (w : World) (h : Rd encP w A l) (hl : l.length ≤ 1000000000) :
    Calls Try.prog 24 #[.slice A l.length c, vi free, vi before, vi days] w fun e w' => e = .returned (vi (feeMore l free before days)) ∧ Below w.heap.size w w' := by
  obtain ⟨hx1, hx2⟩ := feeOf_bd l free before
  obtain ⟨hy1, hy2⟩ := feeOf_bd l free days
  by_cases h1 : days < before
  · have Hr := Lib.hid (feeMore_no (l := l) (free := free) (.inl h1))
    go_enter Try.func24, Try.ntmps24
    go_wp2
    go_ret
    exact ⟨by rw [Hr.out]; rfl, Below.refl _ _⟩
  · by_cases h2 : feeOf l free before < 0
    · have Hr := Lib.hid (feeMore_no (days := days) (.inr (.inl h2)))
      go_enter Try.func24, Try.ntmps24
      go_wp2_with fail
      refine (specFeeOf A c l free before w h hl).mono ?_
      rintro e w1 ⟨rfl, hb1⟩
      have HB1 := Lib.hid hb1
      clear hb1
      go_wp2
      go_ret
      exact ⟨by rw [Hr.out]; rfl, HB1.out⟩
    · by_cases h3 : feeOf l free days < 0
      · have Hr := Lib.hid (feeMore_no (before := before) (.inr (.inr h3)))
        go_enter Try.func24, Try.ntmps24
        go_wp2_with fail
        refine (specFeeOf A c l free before w h hl).mono ?_
        rintro e w1 ⟨rfl, hb1⟩
        have HB1 := Lib.hid hb1
        clear hb1
        go_wp2_with fail
        refine (specFeeOf A c l free days w1 (h.below HB1.out) hl).mono ?_
        rintro e w2 ⟨rfl, hb2⟩
        have HB2 := Lib.hid (bthen HB1.out hb2)
        clear hb2
        go_wp2
        go_ret
        exact ⟨by rw [Hr.out]; rfl, HB2.out⟩
      · have Hr := Lib.hid (feeMore_yes h1 h2 h3)
        go_enter Try.func24, Try.ntmps24
        go_wp2_with fail
        refine (specFeeOf A c l free before w h hl).mono ?_
        rintro e w1 ⟨rfl, hb1⟩
        have HB1 := Lib.hid hb1
        clear hb1
        go_wp2_with fail
        refine (specFeeOf A c l free days w1 (h.below HB1.out) hl).mono ?_
        rintro e w2 ⟨rfl, hb2⟩
        have HB2 := Lib.hid (bthen HB1.out hb2)
        clear hb2
        go_wp2_with fail
        refine (specFeeOf A c l free days w2 (h.below HB2.out) hl).mono ?_
        rintro e w3 ⟨rfl, hb3⟩
        have HB3 := Lib.hid (bthen HB2.out hb3)
        clear hb3
        go_wp2_with fail
        refine (specFeeOf A c l free before w3 (h.below HB3.out) hl).mono ?_
        rintro e w4 ⟨rfl, hb4⟩
        have HB4 := Lib.hid (bthen HB3.out hb4)
        clear hb4
        go_wp2
        go_ret
        exact ⟨by rw [Hr.out]; go_num, HB4.out⟩

theorem specDaysFor (A : Option Addr) (c : Nat) (l : List (Int × Int)) (free sum : Int) (w : World) (h : Rd encP w A l) (hl : l.length ≤ 1000000000) :
    Calls Try.prog 26 #[.slice A l.length c, vi free, vi sum] w fun e w' => e = .returned (vi (daysFor l free sum)) ∧ Below w.heap.size w w' := by
  by_cases hneg : sum < 0
  · have Hr := Lib.hid (daysFor_f3 (l := l) (free := free) hneg)
    go_enter Try.func26, Try.ntmps26
    go_wp2
    go_ret
    exact ⟨by rw [Hr.out]; rfl, Below.refl _ _⟩
  · cases hr : ratesOk l with
    | false =>
      have Hr := Lib.hid (daysFor_f1 (free := free) (sum := sum) hr)
      have Hz := Lib.hid (feeOf_f1 (free := free) (days := 0) hr)
      go_enter Try.func26, Try.ntmps26
      go_wp2_with fail
      refine (specFeeOf A c l free 0 w h hl).mono ?_
      rintro e w1 ⟨he, hb1⟩
      rw [Hz.out] at he
      subst he
      have HB1 := Lib.hid hb1
      clear hb1
      go_wp2
      go_ret
      exact ⟨by rw [Hr.out]; rfl, HB1.out⟩
    | true =>
      have Hok := Lib.hid hr
      cases hw : win free 0 99 with
      | false =>
        have Hr := Lib.hid (daysFor_f2 (l := l) (sum := sum) hw)
        have Hz := Lib.hid (feeOf_f2 (l := l) (days := 0) hw)
        go_enter Try.func26, Try.ntmps26
        go_wp2_with fail
        refine (specFeeOf A c l free 0 w h hl).mono ?_
        rintro e w1 ⟨he, hb1⟩
        rw [Hz.out] at he
        subst he
        have HB1 := Lib.hid hb1
        clear hb1
        go_wp2
        go_ret
        exact ⟨by rw [Hr.out]; rfl, HB1.out⟩
      | true =>
        have Hr := Lib.hid (daysFor_t hr hw (Int.not_lt.1 hneg))
        obtain ⟨hf0, hf1⟩ := win_t hw
        have Hw := Lib.hid hw
        have Hz : Hid (feeOf l free 0 = 0) := Lib.hid (by rw [feeOf_t hr hw rfl]; exact feeN_none hf0)
        go_enter Try.func26, Try.ntmps26
        go_wp2_with fail
        refine (specFeeOf A c l free 0 w h hl).mono ?_
        rintro e w1 ⟨he, hb1⟩
        rw [Hz.out] at he
        subst he
        have HB1 := Lib.hid hb1
        clear hb1
        go_wp2
        go_loopw [7] (fun p wr => ∃ k : Nat, k ≤ 99 ∧ p = vi k ∧ feeN l free (k : Int) ≤ sum ∧ Below w.heap.size w wr) (fun p _ => 99 - (intOf p).toNat)
        case atStart => exact ⟨0, Nat.zero_le _, rfl, by rw [feeN_none (by omega)]; omega, HB1.out⟩
        case round =>
          obtain ⟨k, hk, rfl, hj, hb⟩ := hrel
          have Hj := Lib.hid hj
          clear hj
          have HB := Lib.hid hb
          have h1 := h.below hb
          clear hb
          by_cases hlt : k < 99
          · have Hv := Lib.hid (feeOf_t (days := (k : Int) + 1) Hok.out Hw.out (win_mk (by omega) (by omega)))
            obtain ⟨hv0, hv1⟩ := feeN_bd Hok.out hf0 (show (k : Int) + 1 ≤ 99 by omega)
            go_wp2_with fail
            refine (specFeeOf A c l free ((k : Int) + 1) _ h1 hl).mono ?_
            rintro e w2 ⟨he, hb2⟩
            rw [Hv.out] at he
            subst he
            have HB2 := Lib.hid (bthen HB.out hb2)
            clear hb2 h1
            by_cases hle : feeN l free ((k : Int) + 1) ≤ sum
            · have Hg : Hid (feeN l free ((k + 1 : Nat) : Int) ≤ sum) := Lib.hid (by rw [Int.natCast_add]; exact hle)
              go_wp2
              go_roundw
              case rel => exact ⟨k + 1, by omega, by go_num, Hg.out, HB2.out⟩
              case measure => simp [intOf]; omega
            · have Hd : Hid (daysFor l free sum = (k : Int)) := Lib.hid (by
                rw [Hr.out, dfDown_spec l free sum k (.inr Hj.out) 99 hk fun j h1 h2 => ?_]
                have := feeN_mono Hok.out (free := free) (show (k : Int) + 1 ≤ (j : Int) by omega)
                omega)
              go_wp2
              go_ret
              exact ⟨by rw [Hd.out]; rfl, HB2.out⟩
          · obtain rfl : k = 99 := by omega
            have Hd : Hid (daysFor l free sum = 99) := Lib.hid (by rw [Hr.out, dfDown_spec l free sum 99 (.inr Hj.out) 99 hk fun j h1 h2 => absurd h1 (by omega)]; rfl)
            clear h1
            go_wp2
            go_ret
            exact ⟨by rw [Hd.out]; rfl, HB.out⟩
end Go.Proofs.Ytaccnekicobhcaa
