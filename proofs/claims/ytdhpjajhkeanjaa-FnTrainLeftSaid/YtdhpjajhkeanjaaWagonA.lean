/-
  Contracts: wagons are valid.
-/
import Derived.Test.YtdhpjajhkeanjaaPair
import Derived.Test.YtdhpjajhkeanjaaWagon
namespace Go.Proofs.Ytdhpjajhkeanjaa
open Go.RowKit
set_option linter.unusedVariables false

theorem implWagonsValid (A : Option Addr) (c : Nat) (l : List (Int × Int)) (w : World) (h : Rd encP w A l) (hl : l.length ≤ 1000000000) :
    Calls Try.prog 16 #[.slice A l.length c] w fun e w' => e = .returned (.bool (wagonsOk l)) ∧ Below w.heap.size w w' := by
  go_enter Try.func16, Try.ntmps16
  go_wp2
  go_loopw [7] (fun i wr => ∃ k : Nat, k ≤ l.length ∧ i = vi k ∧ (∀ j, j < k → wagOk l j = true) ∧ Below w.heap.size w wr) (fun i _ => l.length - (intOf i).toNat)
  case atStart => exact ⟨0, Nat.zero_le _, rfl, fun j hj => absurd hj (by omega), Below.refl _ _⟩
  case round =>
    obtain ⟨k, hk, rfl, hj, hb⟩ := hrel
    have Hj := Lib.hid hj
    have HB := Lib.hid hb
    have hsz := hb.size
    clear hj
    by_cases hlt : k < l.length
    · obtain ⟨b, o, rfl, hbl, _⟩ := h.below hb (by omega)
      obtain ⟨hc1, hc2⟩ := (h.below hb).at2 k hlt
      clear h hb
      cases hw1 : win (nth l k).1 1 3 with
      | false =>
        have Hr := Lib.hid (wagonsOk_no k hlt (wagOk_f1 hw1))
        go_wp2_with (go_at_call 46; refine (within_any _ _ _ _).mono ?_; rintro e w' ⟨rfl, rfl⟩)
        go_ret
        exact ⟨by rw [Hr.out]; rfl, (HB.out.alloc HB.out.size _)⟩
      | true =>
        cases hw2 : win (nth l k).2 1 90 with
        | false =>
          have Hr := Lib.hid (wagonsOk_no k hlt (wagOk_f2 hw2))
          go_wp2_with (go_at_call 46; refine (within_any _ _ _ _).mono ?_; rintro e w' ⟨rfl, rfl⟩)
          go_ret
          exact ⟨by rw [Hr.out]; rfl, (HB.out.alloc HB.out.size _)⟩
        | true =>
          have Hk := Lib.hid (wagOk_mk hw1 hw2)
          go_wp2_with (go_at_call 46; refine (within_any _ _ _ _).mono ?_; rintro e w' ⟨rfl, rfl⟩)
          go_roundw
          case rel => exact ⟨k + 1, by omega, by go_num, fun j hj => by
            rcases Nat.lt_succ_iff_lt_or_eq.1 hj with h1 | h1
            · exact Hj.out j h1
            · subst h1; exact Hk.out, (HB.out.alloc HB.out.size _)⟩
          case measure => simp [intOf]; omega
    · obtain rfl : k = l.length := by omega
      have Hr : Hid (wagonsOk l = decide ((l.length : Int) ≤ 6)) := Lib.hid (wagonsOk_mk Hj.out)
      clear hb
      go_wp2
      go_ret
      exact ⟨by rw [Hr.out]; rfl, HB.out⟩

theorem specWagonsValid (A : Option Addr) (c : Nat) (l : List (Int × Int)) (w : World) (h : Rd encP w A l) (hl : l.length ≤ 1000000000) :
    Calls Try.prog 14 #[.slice A l.length c] w fun e w' => e = .returned (.bool (wagonsOk l)) ∧ Below w.heap.size w w' := by
  go_enter Try.func14, Try.ntmps14
  go_wp2
  go_loopw [3] (fun i wr => ∃ k : Nat, k ≤ l.length ∧ i = vi k ∧ (∀ j, j < k → wagOk l j = true) ∧ Below w.heap.size w wr) (fun i _ => l.length - (intOf i).toNat)
  case atStart => exact ⟨0, Nat.zero_le _, rfl, fun j hj => absurd hj (by omega), Below.refl _ _⟩
  case round =>
    obtain ⟨k, hk, rfl, hj, hb⟩ := hrel
    have Hj := Lib.hid hj
    have HB := Lib.hid hb
    have hsz := hb.size
    clear hj
    by_cases hlt : k < l.length
    · obtain ⟨b, o, rfl, hbl, _⟩ := h.below hb (by omega)
      obtain ⟨hc1, hc2⟩ := (h.below hb).at2 k hlt
      clear h hb
      cases hw1 : win (nth l k).1 1 3 with
      | false =>
        have Hr := Lib.hid (wagonsOk_no k hlt (wagOk_f1 hw1))
        go_wp2_with (go_at_call 44; refine (l1In_any _ _ _ _).mono ?_; rintro e w' ⟨rfl, rfl⟩)
        go_ret
        exact ⟨by rw [Hr.out]; rfl, HB.out⟩
      | true =>
        cases hw2 : win (nth l k).2 1 90 with
        | false =>
          have Hr := Lib.hid (wagonsOk_no k hlt (wagOk_f2 hw2))
          go_wp2_with (go_at_call 44; refine (l1In_any _ _ _ _).mono ?_; rintro e w' ⟨rfl, rfl⟩)
          go_ret
          exact ⟨by rw [Hr.out]; rfl, HB.out⟩
        | true =>
          have Hk := Lib.hid (wagOk_mk hw1 hw2)
          go_wp2_with (go_at_call 44; refine (l1In_any _ _ _ _).mono ?_; rintro e w' ⟨rfl, rfl⟩)
          go_roundw
          case rel => exact ⟨k + 1, by omega, by go_num, fun j hj => by
            rcases Nat.lt_succ_iff_lt_or_eq.1 hj with h1 | h1
            · exact Hj.out j h1
            · subst h1; exact Hk.out, HB.out⟩
          case measure => simp [intOf]; omega
    · obtain rfl : k = l.length := by omega
      have Hr : Hid (wagonsOk l = decide ((l.length : Int) ≤ 6)) := Lib.hid (wagonsOk_mk Hj.out)
      clear hb
      go_wp2
      go_ret
      exact ⟨by rw [Hr.out]; rfl, HB.out⟩
end Go.Proofs.Ytdhpjajhkeanjaa
