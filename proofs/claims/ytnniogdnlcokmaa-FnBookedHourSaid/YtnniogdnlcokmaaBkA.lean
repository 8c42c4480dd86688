/-
  Contracts: bookings are valid.
-/
import Derived.Test.YtnniogdnlcokmaaPair
import Derived.Test.YtnniogdnlcokmaaBk
import Derived.Test.YtnniogdnlcokmaaPast
namespace Go.Proofs.Ytnniogdnlcokmaa
open Go.RowKit
set_option linter.unusedVariables false
set_option maxRecDepth 100000

theorem many_any (A : Option Addr) (c : Nat) (l : List (Int × Int)) (x : Int) (w : World) (h : Rd encP w A l) (hl : l.length ≤ 1000000000) :
    Calls Try.prog 37 #[.slice A l.length c, vi x] w fun e w' => e = .returned (vi (many l x : Int)) ∧ w = w' := by
  go_enter Try.func37, Try.ntmps37
  go_wp2
  go_loop [5, 6] (fun m i => ∃ k : Nat, k ≤ l.length ∧ i = vi k ∧ m = vi (many (l.take k) x : Int)) (fun _ i => l.length - (intOf i).toNat)
  case atStart => exact ⟨0, Nat.zero_le _, rfl, by rw [many_zero]; rfl⟩
  case round =>
    obtain ⟨k, hk, rfl, rfl⟩ := hrel
    have hmk := many_le l x k
    by_cases hlt : k < l.length
    · obtain ⟨b, o, rfl, hbl, _⟩ := h (by omega)
      obtain ⟨hc1, hc2⟩ := h.at2 k hlt
      clear h
      by_cases he : (nth l k).2 = x
      · have he1 : ((nth l k).2 == x) = true := by simp [he]
        have Hs := Lib.hid (many_yes l x k hlt he)
        clear he
        go_wp2
        go_round
        case rel => exact ⟨k + 1, by omega, by go_num, by rw [Hs.out]; go_num⟩
        case measure => simp [intOf]; omega
      · have he1 : ((nth l k).2 == x) = false := by simp [he]
        have Hs := Lib.hid (many_no l x k hlt he)
        clear he
        go_wp2
        go_round
        case rel => exact ⟨k + 1, by omega, by go_num, by rw [Hs.out]⟩
        case measure => simp [intOf]; omega
    · obtain rfl : k = l.length := by omega
      have Hl := Lib.hid (List.take_length (l := l))
      go_wp2
      go_ret
      exact ⟨by first | rfl | rw [Hl.out], rfl⟩

theorem max_any (A : Option Addr) (c : Nat) (l : List Int) (w : World) (h : RdI w A l) (h0 : 0 < l.length) (hl : l.length ≤ 1000000000) :
    Calls Try.prog 41 #[.slice A l.length c] w fun e w' => e = .returned (vi (mx l (l.length - 1))) ∧ w = w' := by
  obtain ⟨b, o, rfl, hbl, hc⟩ := h h0
  have hc0 := hc 0 h0
  rw [Nat.add_zero] at hc0
  go_enter Try.func41, Try.ntmps41
  go_wp2
  go_loop [3, 4] (fun m i => ∃ k : Nat, k + 1 ≤ l.length ∧ i = vi ((k : Int) + 1) ∧ m = vi (mx l k)) (fun _ i => l.length - (intOf i).toNat)
  case atStart => exact ⟨0, by omega, by go_num, rfl⟩
  case round =>
    obtain ⟨k, hk, rfl, rfl⟩ := hrel
    by_cases hlt : k + 1 < l.length
    · have hck := hc (k + 1) hlt
      clear hc hc0
      go_wp2
      go_round
      case rel => exact ⟨k + 1, by omega, by go_num, by simp [mx]⟩
      case measure => simp [intOf]; omega
    · obtain rfl : k = l.length - 1 := by omega
      go_wp2
      go_ret
      exact ⟨rfl, rfl⟩

theorem isDayHour_any (x : Int) (w : World) : Calls Try.prog 40 #[vi x] w fun e w' => e = .returned (.bool (win x 0 23)) ∧ w = w' := by
  go_enter Try.func40, Try.ntmps40
  go_wp2_with (go_at_call 39; refine (within_any _ _ _ _).mono ?_; rintro e w' ⟨rfl, rfl⟩)
  go_ret
  exact ⟨rfl, rfl⟩

set_option maxHeartbeats 4000000 in
theorem specBookingsValid (A : Option Addr) (c : Nat) (l : List (Int × Int)) (room : Int) (w : World) (h : Rd encP w A l) (hl : l.length ≤ 1000000000) :
    Calls Try.prog 14 #[.slice A l.length c, vi room] w fun e w' => e = .returned (.bool (booksOk l room)) ∧ Below w.heap.size w w' := by
  go_enter Try.func14, Try.ntmps14
  go_wp2
  go_loopw [5] (fun i wr => ∃ k : Nat, k ≤ l.length ∧ i = vi k ∧ (∀ j, j < k → bkOk l j = true ∧ (many l (nth l j).2 : Int) ≤ room) ∧ Below w.heap.size w wr) (fun i _ => l.length - (intOf i).toNat)
  case atStart => exact ⟨0, Nat.zero_le _, rfl, (fun j hj => absurd hj (by omega)), Below.refl _ _⟩
  case round =>
    obtain ⟨k, hk, rfl, hj, hb⟩ := hrel
    have Hj := Lib.hid hj
    have HB := Lib.hid hb
    clear hj
    by_cases hlt : k < l.length
    · have HM := Lib.hid (fun n : Nat => many_any A c l (nth l k).2 (wr.drewN n) ((h.below hb).drewN n) hl)
      obtain ⟨b, o, rfl, hbl, _⟩ := h.below hb (by omega)
      obtain ⟨hc1, hc2⟩ := (h.below hb).at2 k hlt
      have HP := Lib.hid (fun h0 : 0 < k => ((h.below hb).at2 (k - 1) (by omega)).1)
      clear h hb
      cases hw1 : win (nth l k).1 0 99 with
      | false =>
        have Hr := Lib.hid (booksOk_no (room := room) hlt (bkOk_f1 hw1))
        go_wp2
        go_quiet ((first | (go_at_call 40; exact quiet_left (isDayHour_any _ _)) | (go_at_call 39; exact quiet_left (within_any _ _ _ _)) | (go_at_call 36; exact quiet_left (l1In_any _ _ _ _)) | (go_at_call 37; exact quiet_left (HM.out _))))
        go_wp2
        go_ret
        exact ⟨by rw [Hr.out]; rfl, below_drewN HB.out _⟩
      | true =>
        cases hw2 : win (nth l k).2 0 23 with
        | false =>
          have Hr := Lib.hid (booksOk_no (room := room) hlt (bkOk_f2 hw2))
          go_wp2
          go_quiet ((first | (go_at_call 40; exact quiet_left (isDayHour_any _ _)) | (go_at_call 39; exact quiet_left (within_any _ _ _ _)) | (go_at_call 36; exact quiet_left (l1In_any _ _ _ _)) | (go_at_call 37; exact quiet_left (HM.out _))))
          go_wp2
          go_ret
          exact ⟨by rw [Hr.out]; rfl, below_drewN HB.out _⟩
        | true =>
          by_cases hk0 : k = 0
          · subst hk0
            simp only [Nat.add_zero, Nat.zero_mul] at hc1 hc2
            have Hk := Lib.hid (bkOk_mk (k := 0) hw1 hw2 (fun h => absurd h (by omega)))
            by_cases hrm : room < (many l (nth l 0).2 : Int)
            · have HN := Lib.hid hrm
              have Hr := Lib.hid (roomy_no hlt hrm)
              go_wp2
              go_quiet ((first | (go_at_call 40; exact quiet_left (isDayHour_any _ _)) | (go_at_call 39; exact quiet_left (within_any _ _ _ _)) | (go_at_call 36; exact quiet_left (l1In_any _ _ _ _)) | (go_at_call 37; exact quiet_left (HM.out _))))
              go_wp2
              go_ret
              exact ⟨by rw [Hr.out]; rfl, below_drewN HB.out _⟩
            · have HN := Lib.hid (show (many l (nth l 0).2 : Int) ≤ room by omega)
              go_wp2
              go_quiet ((first | (go_at_call 40; exact quiet_left (isDayHour_any _ _)) | (go_at_call 39; exact quiet_left (within_any _ _ _ _)) | (go_at_call 36; exact quiet_left (l1In_any _ _ _ _)) | (go_at_call 37; exact quiet_left (HM.out _))))
              go_wp2
              go_roundw
              case rel => exact ⟨1, by omega, by go_num, (fun j hj => by
                rcases Nat.lt_succ_iff_lt_or_eq.1 hj with h1 | h1
                · exact Hj.out j h1
                · subst h1; exact ⟨Hk.out, HN.out⟩), below_drewN HB.out _⟩
              case measure => simp [intOf]; omega
          · have hkp : 0 < k := by omega
            have hkp2 : (0 : Int) < (k : Int) := by omega
            have hc3 := HP.out hkp
            have ek : ((k : Int) - 1) = ((k - 1 : Nat) : Int) := by omega
            have hkw2 : IntKind.i64.wrap ((k - 1 : Nat) : Int) = ((k - 1 : Nat) : Int) := by rw [IntKind.wrap_i64]; omega
            by_cases hle : (nth l k).1 ≤ (nth l (k - 1)).1
            · have hle2 : (nth l (k - 1)).1 ≥ (nth l k).1 := hle
              have Hr := Lib.hid (booksOk_no (room := room) hlt (bkOk_f3 hkp hle))
              go_wp2
              go_quiet ((first | (go_at_call 40; exact quiet_left (isDayHour_any _ _)) | (go_at_call 39; exact quiet_left (within_any _ _ _ _)) | (go_at_call 36; exact quiet_left (l1In_any _ _ _ _)) | (go_at_call 37; exact quiet_left (HM.out _))))
              go_wp2
              go_ret
              exact ⟨by rw [Hr.out]; rfl, below_drewN HB.out _⟩
            · have Hk := Lib.hid (bkOk_mk hw1 hw2 (fun _ => hle))
              have hgt : (nth l (k - 1)).1 < (nth l k).1 := by omega
              have hgd : decide ((nth l k).1 ≤ (nth l (k - 1)).1) = false := by simpa using hgt
              clear hle
              by_cases hrm : room < (many l (nth l k).2 : Int)
              · have HN := Lib.hid hrm
                have Hr := Lib.hid (roomy_no hlt hrm)
                go_wp2
                go_quiet ((first | (go_at_call 40; exact quiet_left (isDayHour_any _ _)) | (go_at_call 39; exact quiet_left (within_any _ _ _ _)) | (go_at_call 36; exact quiet_left (l1In_any _ _ _ _)) | (go_at_call 37; exact quiet_left (HM.out _))))
                go_wp2
                go_ret
                exact ⟨by rw [Hr.out]; rfl, below_drewN HB.out _⟩
              · have HN := Lib.hid (show (many l (nth l k).2 : Int) ≤ room by omega)
                go_wp2
                go_quiet ((first | (go_at_call 40; exact quiet_left (isDayHour_any _ _)) | (go_at_call 39; exact quiet_left (within_any _ _ _ _)) | (go_at_call 36; exact quiet_left (l1In_any _ _ _ _)) | (go_at_call 37; exact quiet_left (HM.out _))))
                go_wp2
                go_roundw
                case rel => exact ⟨k + 1, by omega, by go_num, (fun j hj => by
                  rcases Nat.lt_succ_iff_lt_or_eq.1 hj with h1 | h1
                  · exact Hj.out j h1
                  · subst h1; exact ⟨Hk.out, HN.out⟩), below_drewN HB.out _⟩
                case measure => simp [intOf]; omega
    · obtain rfl : k = l.length := by omega
      have Hr : Hid (booksOk l room = (decide ((l.length : Int) ≤ 10) && win room 1 3)) := Lib.hid (by rw [booksOk_mk (fun j hj => (Hj.out j hj).1), roomy_mk (fun j hj => (Hj.out j hj).2), Bool.and_true])
      clear hb
      cases hw1 : win room 1 3 with
      | false =>
        go_wp2_with (go_at_call 36; refine (l1In_any _ _ _ _).mono ?_; rintro e w' ⟨rfl, rfl⟩)
        go_ret
        exact ⟨by rw [Hr.out, hw1, Bool.and_false]; rfl, HB.out⟩
      | true =>
        go_wp2_with (go_at_call 36; refine (l1In_any _ _ _ _).mono ?_; rintro e w' ⟨rfl, rfl⟩)
        go_ret
        exact ⟨by rw [Hr.out, hw1, Bool.and_true]; rfl, HB.out⟩
end Go.Proofs.Ytnniogdnlcokmaa
