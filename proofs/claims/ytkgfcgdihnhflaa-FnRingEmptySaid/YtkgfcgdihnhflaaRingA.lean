/-
  Contracts of the functions of rings: valid, what is left, a step.
-/
import Derived.Test.YtkgfcgdihnhflaaBase2
import Derived.Test.YtkgfcgdihnhflaaRing
namespace Go.Proofs.Ytkgfcgdihnhflaa
open Go.RowKit
set_option linter.unusedVariables false

theorem implRingValid (A : Option Addr) (c : Nat) (l : List Int) (w : World) (h : RdI w A l) (hl : l.length ≤ 1000000000) :
    Calls Try.prog 17 #[.slice A l.length c] w fun e w' => e = .returned (.bool (ringOk l)) ∧ w = w' := by
  go_enter Try.func17, Try.ntmps17
  go_wp2
  go_loop [7] (fun i => ∃ k : Nat, k ≤ l.length ∧ i = vi k ∧ ∀ j, j < k → win (nth l j) (-1) 12 = true) (fun i => l.length - (intOf i).toNat)
  case atStart => exact ⟨0, Nat.zero_le _, rfl, fun j hj => absurd hj (by omega)⟩
  case round =>
    obtain ⟨k, hk, rfl, hj⟩ := hrel
    have Hj := Lib.hid hj
    clear hj
    by_cases hlt : k < l.length
    · obtain ⟨b, o, rfl, hbl, hc⟩ := h (by omega)
      have hck := hc k hlt
      clear hc h
      cases hw : win (nth l k) (-1) 12 with
      | false =>
        have Hr := Lib.hid (ringOk_no k hlt hw)
        go_wp2_with (go_at_call 40; refine (within_any _ _ _ _).mono ?_; rintro e w' ⟨rfl, rfl⟩)
        go_ret
        exact ⟨by rw [Hr.out]; rfl, rfl⟩
      | true =>
        have Hw := Lib.hid hw
        go_wp2_with (go_at_call 40; refine (within_any _ _ _ _).mono ?_; rintro e w' ⟨rfl, rfl⟩)
        go_round
        case rel => exact ⟨k + 1, by omega, by go_num, fun j hj => by
          rcases Nat.lt_succ_iff_lt_or_eq.1 hj with h1 | h1
          · exact Hj.out j h1
          · subst h1; exact Hw.out⟩
        case measure => simp [intOf]; omega
    · have Hr := Lib.hid (ringOk_mk fun j hj => Hj.out j (by omega))
      go_wp2_with (go_at_call 40; refine (within_any _ _ _ _).mono ?_; rintro e w' ⟨rfl, rfl⟩)
      go_ret
      exact ⟨by rw [Hr.out]; rfl, rfl⟩

theorem specRingValid (A : Option Addr) (c : Nat) (l : List Int) (w : World) (h : RdI w A l) (hl : l.length ≤ 1000000000) :
    Calls Try.prog 15 #[.slice A l.length c] w fun e w' => e = .returned (.bool (ringOk l)) ∧ w = w' := by
  go_enter Try.func15, Try.ntmps15
  go_wp2
  go_loop [3] (fun i => ∃ k : Nat, k ≤ l.length ∧ i = vi k ∧ ∀ j, j < k → win (nth l j) (-1) 12 = true) (fun i => l.length - (intOf i).toNat)
  case atStart => exact ⟨0, Nat.zero_le _, rfl, fun j hj => absurd hj (by omega)⟩
  case round =>
    obtain ⟨k, hk, rfl, hj⟩ := hrel
    have Hj := Lib.hid hj
    clear hj
    by_cases hlt : k < l.length
    · obtain ⟨b, o, rfl, hbl, hc⟩ := h (by omega)
      have hck := hc k hlt
      clear hc h
      cases hw : win (nth l k) (-1) 12 with
      | false =>
        have Hr := Lib.hid (ringOk_no k hlt hw)
        go_wp2_with (go_at_call 39; refine (l1In_any _ _ _ _).mono ?_; rintro e w' ⟨rfl, rfl⟩)
        go_ret
        exact ⟨by rw [Hr.out]; rfl, rfl⟩
      | true =>
        have Hw := Lib.hid hw
        go_wp2_with (go_at_call 39; refine (l1In_any _ _ _ _).mono ?_; rintro e w' ⟨rfl, rfl⟩)
        go_round
        case rel => exact ⟨k + 1, by omega, by go_num, fun j hj => by
          rcases Nat.lt_succ_iff_lt_or_eq.1 hj with h1 | h1
          · exact Hj.out j h1
          · subst h1; exact Hw.out⟩
        case measure => simp [intOf]; omega
    · have Hr := Lib.hid (ringOk_mk fun j hj => Hj.out j (by omega))
      go_wp2_with (go_at_call 39; refine (l1In_any _ _ _ _).mono ?_; rintro e w' ⟨rfl, rfl⟩)
      go_ret
      exact ⟨by rw [Hr.out]; rfl, rfl⟩

theorem implRingLeft (A : Option Addr) (c : Nat) (l : List Int) (w : World) (h : RdI w A l) (hl : l.length ≤ 1000000000) :
    Calls Try.prog 20 #[.slice A l.length c] w fun e w' => e = .returned (.tuple #[vi (many l), vi (steps l)]) ∧ w = w' := by
  have hv := implRingValid A c l w h hl
  have Hv := Lib.hid hv
  clear hv
  cases ho : ringOk l with
  | false =>
    have Hm1 := Lib.hid (many_f ho)
    have Hm2 := Lib.hid (steps_f ho)
    go_enter Try.func20, Try.ntmps20
    go_wp2_with (go_at_call 17; refine Hv.out.mono ?_; rintro e w' ⟨rfl, rfl⟩)
    go_ret2
    exact ⟨by rw [Hm1.out, Hm2.out]; rfl, rfl⟩
  | true =>
    have Ho := Lib.hid ho
    have Hm1 := Lib.hid (many_t ho)
    have Hm2 := Lib.hid (steps_t ho)
    go_enter Try.func20, Try.ntmps20
    go_wp2_with (go_at_call 17; refine Hv.out.mono ?_; rintro e w' ⟨rfl, rfl⟩)
    clear Hv ho
    go_loop [4, 5, 13] (fun v s i => ∃ k : Nat, k ≤ l.length ∧ i = vi k ∧ v = vi (cnt (l.take k)) ∧ s = vi (stp (l.take k))) (fun _ _ i => l.length - (intOf i).toNat)
    case atStart => exact ⟨0, Nat.zero_le _, rfl, rfl, rfl⟩
    case round =>
      obtain ⟨k, hk, rfl, rfl, rfl⟩ := hrel
      by_cases hlt : k < l.length
      · obtain ⟨b, o, rfl, hbl, hc⟩ := h (by omega)
        have hck := hc k hlt
        clear hc h
        have hb1 := ringOk_at Ho.out k hlt
        have hb2 := ringOk_len Ho.out
        have hb3 := cnt_nn (l.take k)
        have hb4 := stp_nn (l.take k)
        have hb5 : cnt (l.take k) ≤ 1000 := by have := cnt_le (l.take k); have := List.length_take_le k l; omega
        have hb6 : stp (l.take k) ≤ 1000 := by
          have := stp_le (l.take k) fun x hx => by
            obtain ⟨j, hj, rfl⟩ := List.getElem_of_mem (List.mem_of_mem_take hx)
            have := ringOk_at Ho.out j hj
            rw [nth_eq l j hj] at this; omega
          have := List.length_take_le k l; omega
        have E1 : Hid (cnt (l.take (k + 1)) = cnt (l.take k) + one (nth l k)) := sumBy_take _ _ _ hlt
        have E2 : Hid (stp (l.take (k + 1)) = stp (l.take k) + togo (nth l k)) := sumBy_take _ _ _ hlt
        by_cases hx : 0 ≤ nth l k
        · have E3 : Hid (one (nth l k) = 1) := Lib.hid (by simp [one, hx])
          have E4 : Hid (togo (nth l k) = nth l k + 1) := Lib.hid (by simp [togo, hx])
          go_wp2
          go_round
          case rel => exact ⟨k + 1, by omega, by go_num, by rw [E1.out, E3.out]; all_goals go_num, by rw [E2.out, E4.out]; all_goals go_num⟩
          case measure => simp [intOf]; omega
        · have E3 : Hid (one (nth l k) = 0) := Lib.hid (by simp [one, hx])
          have E4 : Hid (togo (nth l k) = 0) := Lib.hid (by simp [togo, hx])
          go_wp2
          go_round
          case rel => exact ⟨k + 1, by omega, by go_num, by rw [E1.out, E3.out]; all_goals go_num, by rw [E2.out, E4.out]; all_goals go_num⟩
          case measure => simp [intOf]; omega
      · obtain rfl : k = l.length := by omega
        go_wp2
        go_ret2
        exact ⟨by rw [Hm1.out, Hm2.out]; first | rfl | (rw [List.take_length]; rfl), rfl⟩

theorem specRingLeft (A : Option Addr) (c : Nat) (l : List Int) (w : World) (h : RdI w A l) (hl : l.length ≤ 1000000000) :
    Calls Try.prog 19 #[.slice A l.length c] w fun e w' => e = .returned (.tuple #[vi (many l), vi (steps l)]) ∧ w = w' := by
  have hv := specRingValid A c l w h hl
  have Hv := Lib.hid hv
  clear hv
  cases ho : ringOk l with
  | false =>
    have Hm1 := Lib.hid (many_f ho)
    have Hm2 := Lib.hid (steps_f ho)
    go_enter Try.func19, Try.ntmps19
    go_wp2_with (go_at_call 15; refine Hv.out.mono ?_; rintro e w' ⟨rfl, rfl⟩)
    go_ret2
    exact ⟨by rw [Hm1.out, Hm2.out]; rfl, rfl⟩
  | true =>
    have Ho := Lib.hid ho
    have Hm1 := Lib.hid (many_t ho)
    have Hm2 := Lib.hid (steps_t ho)
    go_enter Try.func19, Try.ntmps19
    go_wp2_with (go_at_call 15; refine Hv.out.mono ?_; rintro e w' ⟨rfl, rfl⟩)
    clear Hv ho
    go_loop [4, 5, 6] (fun v s i => ∃ k : Nat, k ≤ l.length ∧ i = vi k ∧ v = vi (cnt (l.take k)) ∧ s = vi (stp (l.take k))) (fun _ _ i => l.length - (intOf i).toNat)
    case atStart => exact ⟨0, Nat.zero_le _, rfl, rfl, rfl⟩
    case round =>
      obtain ⟨k, hk, rfl, rfl, rfl⟩ := hrel
      by_cases hlt : k < l.length
      · obtain ⟨b, o, rfl, hbl, hc⟩ := h (by omega)
        have hck := hc k hlt
        clear hc h
        have hb1 := ringOk_at Ho.out k hlt
        have hb2 := ringOk_len Ho.out
        have hb3 := cnt_nn (l.take k)
        have hb4 := stp_nn (l.take k)
        have hb5 : cnt (l.take k) ≤ 1000 := by have := cnt_le (l.take k); have := List.length_take_le k l; omega
        have hb6 : stp (l.take k) ≤ 1000 := by
          have := stp_le (l.take k) fun x hx => by
            obtain ⟨j, hj, rfl⟩ := List.getElem_of_mem (List.mem_of_mem_take hx)
            have := ringOk_at Ho.out j hj
            rw [nth_eq l j hj] at this; omega
          have := List.length_take_le k l; omega
        have E1 : Hid (cnt (l.take (k + 1)) = cnt (l.take k) + one (nth l k)) := sumBy_take _ _ _ hlt
        have E2 : Hid (stp (l.take (k + 1)) = stp (l.take k) + togo (nth l k)) := sumBy_take _ _ _ hlt
        by_cases hx : 0 ≤ nth l k
        · have E3 : Hid (one (nth l k) = 1) := Lib.hid (by simp [one, hx])
          have E4 : Hid (togo (nth l k) = nth l k + 1) := Lib.hid (by simp [togo, hx])
          go_wp2
          go_round
          case rel => exact ⟨k + 1, by omega, by go_num, by rw [E1.out, E3.out]; all_goals go_num, by rw [E2.out, E4.out]; all_goals go_num⟩
          case measure => simp [intOf]; omega
        · have E3 : Hid (one (nth l k) = 0) := Lib.hid (by simp [one, hx])
          have E4 : Hid (togo (nth l k) = 0) := Lib.hid (by simp [togo, hx])
          go_wp2
          go_round
          case rel => exact ⟨k + 1, by omega, by go_num, by rw [E1.out, E3.out]; all_goals go_num, by rw [E2.out, E4.out]; all_goals go_num⟩
          case measure => simp [intOf]; omega
      · obtain rfl : k = l.length := by omega
        go_wp2
        go_ret2
        exact ⟨by rw [Hm1.out, Hm2.out]; first | rfl | (rw [List.take_length]; rfl), rfl⟩
end Go.Proofs.Ytkgfcgdihnhflaa
