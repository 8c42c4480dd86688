/-
  Contracts: how many differences there are of a kind.
-/
import Derived.Test.YtjhbmikohcbkkaaDiffS
namespace Go.Proofs.Ytjhbmikohcbkkaa
open Go.RowKit
set_option linter.unusedVariables false
set_option maxRecDepth 100000

theorem implDiffMany (A : Option Addr) (c : Nat) (l : List (Int × Bx)) (kind : Int) (w : World) (h : Rd encD w A l) (hl : l.length ≤ 1000000000) :
    Calls Try.prog 12 #[.slice A l.length c, vi kind] w fun e w' => e = .returned (vi (diffMany l kind)) ∧ Below w.heap.size w w' := by
  cases hw : win kind 0 2 with
  | false =>
    have Hr := Lib.hid (diffMany_f (l := l) hw)
    go_enter Try.func12, Try.ntmps12
    go_wp2_with (go_at_call 33; refine (within_any _ _ _ _).mono ?_; rintro e w' ⟨rfl, rfl⟩)
    go_ret
    exact ⟨by rw [Hr.out]; rfl, Below.refl _ _⟩
  | true =>
    have Hr := Lib.hid (diffMany_t (l := l) hw)
    go_enter Try.func12, Try.ntmps12
    go_wp2_with (go_at_call 33; refine (within_any _ _ _ _).mono ?_; rintro e w' ⟨rfl, rfl⟩)
    go_loopw [5, 13] (fun m i wr => ∃ k : Nat, k ≤ l.length ∧ i = vi k ∧ m = vi (cntD l kind k) ∧ Below w.heap.size w wr) (fun _ i _ => l.length - (intOf i).toNat)
    case atStart => exact ⟨0, Nat.zero_le _, rfl, rfl, Below.refl _ _⟩
    case round =>
      obtain ⟨k, hk, rfl, rfl, hb⟩ := hrel
      have HB := Lib.hid hb
      have hm := cntD_bd l kind k
      by_cases hlt : k < l.length
      · obtain ⟨b, o, rfl, hbl, _⟩ := h.below hb (by omega)
        obtain ⟨hc1, hc2, hc3, hc4, hc5, hc6⟩ := (h.below hb).at6 k hlt
        clear h hb
        by_cases he : (nth l k).1 = kind
        · have he1 : ((nth l k).1 == kind) = true := by simp [he]
          have Hm := Lib.hid (cntD_hit he)
          clear he
          go_wp2
          go_roundw
          case rel => exact ⟨k + 1, by omega, by go_num, by rw [Hm.out], HB.out.alloc HB.out.size _⟩
          case measure => simp [intOf]; omega
        · have he1 : ((nth l k).1 == kind) = false := by simp [he]
          have Hm := Lib.hid (cntD_miss he)
          clear he
          go_wp2
          go_roundw
          case rel => exact ⟨k + 1, by omega, by go_num, by rw [Hm.out], HB.out.alloc HB.out.size _⟩
          case measure => simp [intOf]; omega
      · obtain rfl : k = l.length := by omega
        clear hb
        go_wp2
        go_ret
        exact ⟨by rw [Hr.out]; rfl, HB.out⟩

theorem specDiffMany (A : Option Addr) (c : Nat) (l : List (Int × Bx)) (kind : Int) (w : World) (h : Rd encD w A l) (hl : l.length ≤ 1000000000) :
    Calls Try.prog 10 #[.slice A l.length c, vi kind] w fun e w' => e = .returned (vi (diffMany l kind)) ∧ Below w.heap.size w w' := by
  cases hw : win kind 0 2 with
  | false =>
    have Hr := Lib.hid (diffMany_f (l := l) hw)
    go_enter Try.func10, Try.ntmps10
    go_wp2
    go_loop [5, 6] (fun m i => ∃ k : Nat, k ≤ l.length ∧ i = vi k ∧ m = vi 0) (fun _ i => l.length - (intOf i).toNat)
    case atStart => exact ⟨0, Nat.zero_le _, rfl, rfl⟩
    case round =>
      obtain ⟨k, hk, rfl, rfl⟩ := hrel
      by_cases hlt : k < l.length
      · obtain ⟨b, o, rfl, hbl, _⟩ := h (by omega)
        obtain ⟨hc1, _⟩ := h.at6 k hlt
        clear h
        cases he1 : ((nth l k).1 == kind) with
        | true =>
          go_wp2_with (go_at_call 31; refine (l1In_any _ _ _ _).mono ?_; rintro e w' ⟨rfl, rfl⟩)
          go_round
          case rel => exact ⟨k + 1, by omega, by go_num, rfl⟩
          case measure => simp [intOf]; omega
        | false =>
          go_wp2_with (go_at_call 31; refine (l1In_any _ _ _ _).mono ?_; rintro e w' ⟨rfl, rfl⟩)
          go_round
          case rel => exact ⟨k + 1, by omega, by go_num, rfl⟩
          case measure => simp [intOf]; omega
      · obtain rfl : k = l.length := by omega
        go_wp2
        go_ret
        exact ⟨by rw [Hr.out]; rfl, Below.refl _ _⟩
  | true =>
    have Hr := Lib.hid (diffMany_t (l := l) hw)
    go_enter Try.func10, Try.ntmps10
    go_wp2
    go_loop [5, 6] (fun m i => ∃ k : Nat, k ≤ l.length ∧ i = vi k ∧ m = vi (cntD l kind k)) (fun _ i => l.length - (intOf i).toNat)
    case atStart => exact ⟨0, Nat.zero_le _, rfl, rfl⟩
    case round =>
      obtain ⟨k, hk, rfl, rfl⟩ := hrel
      have hm := cntD_bd l kind k
      by_cases hlt : k < l.length
      · obtain ⟨b, o, rfl, hbl, _⟩ := h (by omega)
        obtain ⟨hc1, _⟩ := h.at6 k hlt
        clear h
        by_cases he : (nth l k).1 = kind
        · have he1 : ((nth l k).1 == kind) = true := by simp [he]
          have Hm := Lib.hid (cntD_hit he)
          clear he
          go_wp2_with (go_at_call 31; refine (l1In_any _ _ _ _).mono ?_; rintro e w' ⟨rfl, rfl⟩)
          go_round
          case rel => exact ⟨k + 1, by omega, by go_num, by rw [Hm.out]⟩
          case measure => simp [intOf]; omega
        · have he1 : ((nth l k).1 == kind) = false := by simp [he]
          have Hm := Lib.hid (cntD_miss he)
          clear he
          go_wp2_with (go_at_call 31; refine (l1In_any _ _ _ _).mono ?_; rintro e w' ⟨rfl, rfl⟩)
          go_round
          case rel => exact ⟨k + 1, by omega, by go_num, by rw [Hm.out]⟩
          case measure => simp [intOf]; omega
      · obtain rfl : k = l.length := by omega
        go_wp2
        go_ret
        exact ⟨by rw [Hr.out]; rfl, Below.refl _ _⟩
end Go.Proofs.Ytjhbmikohcbkkaa
