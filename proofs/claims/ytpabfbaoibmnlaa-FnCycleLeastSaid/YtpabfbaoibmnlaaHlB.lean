/-
  Contracts: what hauls cost.
-/
import Derived.Test.YtpabfbaoibmnlaaHlA
namespace Go.Proofs.Ytpabfbaoibmnlaa
open Go.RowKit
set_option linter.unusedVariables false
set_option maxRecDepth 100000

set_option maxHeartbeats 1000000 in
theorem isPermutation_any (A : Option Addr) (c : Nat) (who : List Int) (n : Nat) (w : World) (h : RdI w A who) (hl : who.length ≤ 1000000000) (hcap : who.length ≤ c) (hn : n ≤ 1000000000) :
    Calls Try.prog 49 #[.slice A who.length c, vi n] w fun e w' => e = .returned (.bool (isPerm who n)) ∧ w = w' := by
  have hw1 : IntKind.i64.wrap ((n : Int) - 1) = (n : Int) - 1 := by rw [IntKind.wrap_i64]; omega
  go_enter Try.func49, Try.ntmps49
  go_wp2
  go_loop [9] (fun i => ∃ k : Nat, k ≤ who.length ∧ i = vi k ∧ ∀ j, j < k → permOk who n j = true) (fun i => who.length - (intOf i).toNat)
  case atStart => exact ⟨0, Nat.zero_le _, rfl, fun j hj => absurd hj (by omega)⟩
  case round =>
    obtain ⟨k, hk, rfl, hall⟩ := hrel
    have HAL := Lib.hid hall
    clear hall
    by_cases hlt : k < who.length
    · obtain ⟨b, o, rfl, hbl, hc⟩ := h (by omega)
      have hck := hc k hlt
      have hlk : (who.take k).length = k := by rw [List.length_take]; omega
      have HC := Lib.hid (fun cc => contains_any (some ⟨b, o, none⟩) cc (who.take k) (nth who k) w (h.take k) (by omega))
      rw [hlk] at HC
      clear hlk h hc
      cases hw : win (nth who k) 0 ((n : Int) - 1) with
      | false =>
        have Hr := Lib.hid (isPerm_no hlt (permOk_f1 hw))
        go_wp2_with (go_at_call 44; refine (within_any _ _ _ _).mono ?_; rintro e w' ⟨rfl, rfl⟩)
        go_ret
        exact ⟨by rw [Hr.out]; rfl, rfl⟩
      | true =>
        cases hh : hasI (who.take k) (nth who k) with
        | true =>
          have Hr := Lib.hid (isPerm_no hlt (permOk_f2 (n := n) hh))
          go_wp2_with (first | (go_at_call 44; refine (within_any _ _ _ _).mono ?_; rintro e w' ⟨rfl, rfl⟩) | (go_at_call 64; refine (HC.out _).mono ?_; rintro e w' ⟨rfl, rfl⟩))
          go_ret
          exact ⟨by rw [Hr.out]; rfl, rfl⟩
        | false =>
          have Hk := Lib.hid (permOk_mk hw hh)
          go_wp2_with (first | (go_at_call 44; refine (within_any _ _ _ _).mono ?_; rintro e w' ⟨rfl, rfl⟩) | (go_at_call 64; refine (HC.out _).mono ?_; rintro e w' ⟨rfl, rfl⟩))
          go_round
          case rel => exact ⟨k + 1, by omega, by go_num, fun j hj => by
            rcases Nat.lt_succ_iff_lt_or_eq.1 hj with h1 | h1
            · exact HAL.out j h1
            · subst h1; exact Hk.out⟩
          case measure => simp [intOf]; omega
    · obtain rfl : k = who.length := by omega
      by_cases he : who.length = n
      · have h1 : (who.length == n) = true := by simp [he]
        have h2 : ((who.length : Int) == (n : Int)) = true := by simp [he]
        have Hr : Hid (isPerm who n = true) := Lib.hid (by rw [isPerm_mk HAL.out]; simpa using he)
        clear he
        go_wp2
        go_ret
        exact ⟨by rw [Hr.out]; first | rfl | (simp; done), rfl⟩
      · have h1 : (who.length == n) = false := by simp [he]
        have h2 : ((who.length : Int) == (n : Int)) = false := beq_false_of_ne (by omega)
        have Hr : Hid (isPerm who n = false) := Lib.hid (isPerm_len he)
        clear he
        go_wp2
        go_ret
        exact ⟨by rw [Hr.out]; first | rfl | (simp; done), rfl⟩

set_option maxHeartbeats 1000000 in
theorem implHaulCost (A : Option Addr) (c : Nat) (L : List (List Int)) (B : Option Addr) (d : Nat) (who : List Int) (w : World) (h : RdM w A L) (h2 : RdI w B who) (hl : Small L) (hl2 : who.length ≤ 1000000000) (hcap : who.length ≤ d) :
    Calls Try.prog 22 #[.slice A L.length c, .slice B who.length d] w fun e w' => e = .returned (vi (haulCost L who)) ∧ w = w' := by
  have HC := Lib.hid (implCostsValid A c L w h hl)
  have HP := Lib.hid (isPermutation_any B d who L.length w h2 hl2 hcap hl.1)
  obtain ⟨hl1, _⟩ := hl
  cases hc : costsOk L with
  | false =>
    have Hr := Lib.hid (haulCost_c (who := who) hc)
    go_enter Try.func22, Try.ntmps22
    go_wp2_with fail
    refine HC.out.mono ?_
    rintro e w' ⟨rfl, rfl⟩
    go_wp2
    go_ret
    exact ⟨by rw [Hr.out]; rfl, rfl⟩
  | true =>
    cases hp : isPerm who L.length with
    | false =>
      have Hr := Lib.hid (haulCost_p hp)
      go_enter Try.func22, Try.ntmps22
      go_wp2_with fail
      refine HC.out.mono ?_
      rintro e w' ⟨rfl, rfl⟩
      go_wp2_with fail
      refine HP.out.mono ?_
      rintro e w' ⟨rfl, rfl⟩
      go_wp2
      go_ret
      exact ⟨by rw [Hr.out]; rfl, rfl⟩
    | true =>
      have Hr := Lib.hid (haulCost_ok hc hp)
      have HCO := Lib.hid hc
      have HPO := Lib.hid (isPerm_t hp)
      have hl5 := (costsOk_t hc).2
      go_enter Try.func22, Try.ntmps22
      go_wp2_with fail
      refine HC.out.mono ?_
      rintro e w' ⟨rfl, rfl⟩
      go_wp2_with fail
      refine HP.out.mono ?_
      rintro e w' ⟨rfl, rfl⟩
      go_wp2
      go_loop [5, 20] (fun s i => ∃ k : Nat, k ≤ who.length ∧ i = vi k ∧ s = vi (hsum L who k)) (fun _ i => who.length - (intOf i).toNat)
      case atStart => exact ⟨0, Nat.zero_le _, rfl, rfl⟩
      case round =>
        obtain ⟨k, hk, rfl, rfl⟩ := hrel
        have hwl : who.length = L.length := HPO.out.2
        have HWL := Lib.hid hwl
        by_cases hlt : k < who.length
        · have hkL : k < L.length := by omega
          obtain ⟨hv0, hv1⟩ := (permOk_t (HPO.out.1 k hlt)).1
          obtain ⟨hs0, hs1⟩ := hsum_bd HCO.out HWL.out hk (fun j hj => HPO.out.1 j (by omega))
          obtain ⟨v, hv⟩ : ∃ v : Nat, nth who k = (v : Int) := ⟨(nth who k).toNat, by omega⟩
          have hvL : v < L.length := by omega
          have hrl := (rowOk_t ((costsOk_t HCO.out).1 k hkL)).1
          obtain ⟨hx0, hx1⟩ := cost_bd HCO.out hkL hvL
          obtain ⟨b2, o2, rfl, hbl2, hc2⟩ := h2 (by omega)
          have hck := hc2 k hlt
          rw [hv] at hck hv0 hv1
          obtain ⟨b, o, R, cc, rfl, hb, hcr, hri⟩ := h.at_ hkL
          obtain ⟨b3, o3, rfl, hbl3, hc3⟩ := hri (by omega)
          have hcv := hc3 v (by omega)
          have hvr : v < (nth L k).length := by omega
          have Hst : Hid (hsum L who (k + 1) = hsum L who k + nth (nth L k) v) := Lib.hid (by simp only [hsum]; rw [hv]; rfl)
          obtain ⟨s, hs⟩ : ∃ s, s = hsum L who k := ⟨_, rfl⟩
          obtain ⟨x, hx⟩ : ∃ x, x = nth (nth L k) v := ⟨_, rfl⟩
          rw [← hs, ← hx] at Hst
          rw [← hs] at hs0 hs1 ⊢
          rw [← hx] at hx0 hx1 hcv
          clear hs hx hc2 hc3 hri h h2 hwl hrl hv HC HP
          go_wp2
          go_round
          case rel => exact ⟨k + 1, by omega, by go_num, by rw [Hst.out]⟩
          case measure => simp [intOf]; omega
        · obtain rfl : k = who.length := by omega
          clear hwl
          go_wp2
          go_ret
          exact ⟨by rw [Hr.out]; rfl, rfl⟩

theorem drewAfter {w wr : World} (h : ∃ n, wr = w.drewN n) (m : Nat) : ∃ n, wr.drewN m = w.drewN n := by
  obtain ⟨n, rfl⟩ := h
  exact ⟨n + m, by simp⟩
theorem drewAfter2 {w wr : World} (h : ∃ n, wr = w.drewN n) (m k : Nat) : ∃ n, (wr.drewN m).drewN k = w.drewN n := drewAfter (drewAfter h m) k
theorem drewBelow {w wr : World} (h : ∃ n, wr = w.drewN n) : Below w.heap.size w wr := by
  obtain ⟨n, rfl⟩ := h
  exact below_drewN (Below.refl _ _) n
set_option maxHeartbeats 2000000 in
theorem specHaulCost (A : Option Addr) (c : Nat) (L : List (List Int)) (B : Option Addr) (d : Nat) (who : List Int) (w : World) (h : RdM w A L) (h2 : RdI w B who) (hl : Small L) (hl2 : who.length ≤ 1000000000) (hcap : who.length ≤ d) :
    Calls Try.prog 20 #[.slice A L.length c, .slice B who.length d] w fun e w' => e = .returned (vi (haulCost L who)) ∧ ∃ n, w' = w.drewN n := by
  have HC := Lib.hid (specCostsValid A c L w h hl)
  obtain ⟨hl1, _⟩ := hl
  cases hc : costsOk L with
  | false =>
    have Hr := Lib.hid (haulCost_c (who := who) hc)
    go_enter Try.func20, Try.ntmps20
    go_wp2_with fail
    refine HC.out.mono ?_
    rintro e w' ⟨rfl, rfl⟩
    go_wp2
    go_ret
    exact ⟨by rw [Hr.out]; rfl, 0, rfl⟩
  | true =>
    by_cases hne : who.length = L.length
    · have hn1 : (who.length != L.length) = false := by simp [hne]
      have hn2 : ((who.length : Int) != (L.length : Int)) = false := by simp [hne]
      have HNE := Lib.hid hne
      have HCO := Lib.hid hc
      have hl5 := (costsOk_t hc).2
      have hw1 : IntKind.i64.wrap ((L.length : Int) - 1) = (L.length : Int) - 1 := by rw [IntKind.wrap_i64]; omega
      clear hne
      go_enter Try.func20, Try.ntmps20
      go_wp2_with fail
      refine HC.out.mono ?_
      rintro e w' ⟨rfl, rfl⟩
      go_wp2
      go_loopw [5, 6] (fun s i wr => ∃ k : Nat, k ≤ who.length ∧ i = vi k ∧ s = vi (hsum L who k) ∧ (∀ j, j < k → permOk who L.length j = true) ∧ ∃ n, wr = w.drewN n) (fun _ i _ => who.length - (intOf i).toNat)
      case atStart => exact ⟨0, Nat.zero_le _, rfl, rfl, (fun j hj => absurd hj (by omega)), 0, rfl⟩
      case round =>
        obtain ⟨k, hk, rfl, rfl, hall, hwr⟩ := hrel
        have HAL := Lib.hid hall
        have HW := Lib.hid hwr
        have h := h.below (drewBelow hwr)
        have h2 := h2.below (drewBelow hwr)
        clear hall hwr
        by_cases hlt : k < who.length
        · have hlk : (who.take k).length = k := by rw [List.length_take]; omega
          obtain ⟨b2, o2, rfl, hbl2, hc2⟩ := h2 (by omega)
          have HH := Lib.hid (fun (cc m : Nat) => l1Has_any (some ⟨b2, o2, none⟩) cc (who.take k) (nth who k) (wr.drewN m) (h2.take k) (by omega))
          rw [hlk] at HH
          have hck := hc2 k hlt
          have HX := Lib.hid hc2
          clear hlk hc2
          cases hw : win (nth who k) 0 ((L.length : Int) - 1) with
          | false =>
            have Hr := Lib.hid (haulCost_p (isPerm_no hlt (permOk_f1 hw)))
            go_wp2
            go_quiet ((go_at_call 43; exact quiet_left (l1In_any _ _ _ _)))
            go_wp2
            go_ret
            exact ⟨by rw [Hr.out]; rfl, drewAfter HW.out _⟩
          | true =>
            cases hh : hasI (who.take k) (nth who k) with
            | true =>
              have Hr := Lib.hid (haulCost_p (isPerm_no hlt (permOk_f2 (n := L.length) hh)))
              go_wp2
              go_quiet ((first | (go_at_call 43; exact quiet_left (l1In_any _ _ _ _)) | (go_at_call 48; exact quiet_left (HH.out _ _))))
              go_wp2
              go_ret
              exact ⟨by rw [Hr.out]; rfl, drewAfter HW.out _⟩
            | false =>
              have Hk := Lib.hid (permOk_mk hw hh)
              have hkL : k < L.length := by have := HNE.out; omega
              obtain ⟨hv0, hv1⟩ := win_t hw
              obtain ⟨hs0, hs1⟩ := hsum_bd HCO.out HNE.out hk HAL.out
              obtain ⟨v, hv⟩ : ∃ v : Nat, nth who k = (v : Int) := ⟨(nth who k).toNat, by omega⟩
              have hvL : v < L.length := by omega
              have hrl := (rowOk_t ((costsOk_t HCO.out).1 k hkL)).1
              obtain ⟨hx0, hx1⟩ := cost_bd HCO.out hkL hvL
              obtain ⟨b, o, R, cc, rfl, hb, hcr, hri⟩ := h.at_ hkL
              obtain ⟨b3, o3, rfl, hbl3, hc3⟩ := hri (by omega)
              have hcv := hc3 v (by omega)
              have hvr : v < (nth L k).length := by omega
              have Hst : Hid (hsum L who (k + 1) = hsum L who k + nth (nth L k) v) := Lib.hid (by simp only [hsum]; rw [hv]; rfl)
              obtain ⟨s, hs⟩ : ∃ s, s = hsum L who k := ⟨_, rfl⟩
              obtain ⟨x, hx⟩ : ∃ x, x = nth (nth L k) v := ⟨_, rfl⟩
              rw [← hs, ← hx] at Hst
              rw [← hs] at hs0 hs1 ⊢
              rw [← hx] at hx0 hx1 hcv
              have hw2 : IntKind.i64.wrap (s + x) = s + x := by rw [IntKind.wrap_i64]; omega
              rw [hv] at hck hv0 hv1 hw hh HH
              clear hs hx hc3 hri h h2 hrl hv HC
              go_wp2
              go_quiet ((first | (go_at_call 43; exact quiet_left (l1In_any _ _ _ _)) | (go_at_call 48; exact quiet_left (HH.out _ _))))
              go_wp2
              go_quiet (fail)
              go_wp2
              go_roundw
              case rel => exact ⟨k + 1, by omega, by go_num, by rw [Hst.out], (fun j hj => by
                rcases Nat.lt_succ_iff_lt_or_eq.1 hj with h1 | h1
                · exact HAL.out j h1
                · subst h1; exact Hk.out), by first | exact drewAfter2 HW.out _ _ | exact drewAfter HW.out _⟩
              case measure => simp [intOf]; omega
        · obtain rfl : k = who.length := by omega
          have Hr : Hid (haulCost L who = hsum L who who.length) := Lib.hid (haulCost_ok HCO.out (by rw [isPerm_mk HAL.out]; simpa using HNE.out))
          go_wp2
          go_ret
          exact ⟨by rw [Hr.out]; rfl, HW.out⟩
    · have hn1 : (who.length != L.length) = true := by simp [hne]
      have hn2 : ((who.length : Int) != (L.length : Int)) = true := by simp; omega
      have Hr := Lib.hid (haulCost_p (isPerm_len hne))
      clear hne
      go_enter Try.func20, Try.ntmps20
      go_wp2_with fail
      refine HC.out.mono ?_
      rintro e w' ⟨rfl, rfl⟩
      go_wp2
      go_ret
      exact ⟨by rw [Hr.out]; rfl, 0, rfl⟩
theorem specHaulCostB (A : Option Addr) (c : Nat) (L : List (List Int)) (B : Option Addr) (d : Nat) (who : List Int) (w : World) (h : RdM w A L) (h2 : RdI w B who) (hl : Small L) (hl2 : who.length ≤ 1000000000) (hcap : who.length ≤ d) :
    Calls Try.prog 20 #[.slice A L.length c, .slice B who.length d] w fun e w' => e = .returned (vi (haulCost L who)) ∧ Below w.heap.size w w' :=
  (specHaulCost A c L B d who w h h2 hl hl2 hcap).mono fun _ _ ⟨he, hd⟩ => ⟨he, drewBelow hd⟩
theorem implHaulCostB (A : Option Addr) (c : Nat) (L : List (List Int)) (B : Option Addr) (d : Nat) (who : List Int) (w : World) (h : RdM w A L) (h2 : RdI w B who) (hl : Small L) (hl2 : who.length ≤ 1000000000) (hcap : who.length ≤ d) :
    Calls Try.prog 22 #[.slice A L.length c, .slice B who.length d] w fun e w' => e = .returned (vi (haulCost L who)) ∧ Below w.heap.size w w' :=
  (implHaulCost A c L B d who w h h2 hl hl2 hcap).mono fun _ _ ⟨he, hd⟩ => ⟨he, hd ▸ Below.refl _ _⟩
end Go.Proofs.Ytpabfbaoibmnlaa
