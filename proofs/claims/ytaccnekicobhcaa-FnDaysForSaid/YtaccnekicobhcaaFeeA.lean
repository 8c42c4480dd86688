/-
  Contracts: rates are valid.
-/
import Derived.Test.YtaccnekicobhcaaPair
import Derived.Test.YtaccnekicobhcaaFee
namespace Go.Proofs.Ytaccnekicobhcaa
open Go.RowKit
set_option linter.unusedVariables false

theorem isDay_any (n : Int) (w : World) :
    Calls Try.prog 34 #[vi n] w fun e w' => e = .returned (.bool (win n 0 99)) ∧ w = w' := by
  go_enter Try.func34, Try.ntmps34
  go_wp2_with (go_at_call 35; refine (within_any _ _ _ _).mono ?_; rintro e w' ⟨rfl, rfl⟩)
  go_ret
  exact ⟨rfl, rfl⟩

theorem implRatesValid (A : Option Addr) (c : Nat) (l : List (Int × Int)) (w : World) (h : Rd encP w A l) (hl : l.length ≤ 1000000000) :
    Calls Try.prog 16 #[.slice A l.length c] w fun e w' => e = .returned (.bool (ratesOk l)) ∧ Below w.heap.size w w' := by
  go_enter Try.func16, Try.ntmps16
  go_wp2
  go_loopw [7] (fun i wr => ∃ k : Nat, k ≤ l.length ∧ i = vi k ∧ (∀ j, j < k → rOk l j = true) ∧ (0 < k → (nth l 0).1 = 0) ∧ Below w.heap.size w wr) (fun i _ => l.length - (intOf i).toNat)
  case atStart => exact ⟨0, Nat.zero_le _, rfl, fun j hj => absurd hj (by omega), fun h => absurd h (by omega), Below.refl _ _⟩
  case round =>
    obtain ⟨k, hk, rfl, hj, h00, hb⟩ := hrel
    have Hj := Lib.hid hj
    have HB := Lib.hid hb
    have H00 := Lib.hid h00
    clear hj h00
    by_cases hlt : k < l.length
    · obtain ⟨b, o, rfl, hbl, _⟩ := h.below hb (by omega)
      obtain ⟨hc1, hc2⟩ := (h.below hb).at2 k hlt
      have hp : 0 < k → wr.cell? ⟨b, o + (k - 1) * 2, none⟩ = some (vi (nth l (k - 1)).1) := fun h0 => ((h.below hb).at2 (k - 1) (by omega)).1
      have Hp := Lib.hid hp
      clear h hb hp
      cases hw1 : win (nth l k).1 0 99 with
      | false =>
        have Hr := Lib.hid (ratesOk_no k hlt (rOk_f1 hw1))
        go_wp2
        go_quiet ((first | (go_at_call 34; exact quiet_left (isDay_any _ _)) | (go_at_call 35; exact quiet_left (within_any _ _ _ _)) | (go_at_call 32; exact quiet_left (l1In_any _ _ _ _))))
        go_wp2
        go_ret
        exact ⟨by rw [Hr.out]; rfl, below_drewN (HB.out.alloc HB.out.size _) _⟩
      | true =>
        cases hw2 : win (nth l k).2 0 99 with
        | false =>
          have Hr := Lib.hid (ratesOk_no k hlt (rOk_f2 hw2))
          go_wp2
          go_quiet ((first | (go_at_call 34; exact quiet_left (isDay_any _ _)) | (go_at_call 35; exact quiet_left (within_any _ _ _ _)) | (go_at_call 32; exact quiet_left (l1In_any _ _ _ _))))
          go_wp2
          go_ret
          exact ⟨by rw [Hr.out]; rfl, below_drewN (HB.out.alloc HB.out.size _) _⟩
        | true =>
          by_cases hk0 : k = 0
          · subst hk0
            simp only [Nat.zero_mul, Nat.add_zero] at hc1 hc2
            have e0 : ((0 : Int) == 0) = true := rfl
            have Hk := Lib.hid (rOk_mk hw1 hw2 (fun h => absurd h (by omega)))
            by_cases hf : (nth l 0).1 = 0
            · have H0k : 0 < 0 + 1 → (nth l 0).1 = 0 := fun _ => hf
              have H0h := Lib.hid H0k
              have e1 : ((nth l 0).1 != 0) = false := by simp [hf]
              clear H0k hf
              go_wp2
              go_quiet ((first | (go_at_call 34; exact quiet_left (isDay_any _ _)) | (go_at_call 35; exact quiet_left (within_any _ _ _ _)) | (go_at_call 32; exact quiet_left (l1In_any _ _ _ _))))
              go_wp2
              go_roundw
              case rel => exact ⟨1, by omega, by go_num, fun j hj => by
                rcases Nat.lt_succ_iff_lt_or_eq.1 (show j < 0 + 1 from hj) with h1 | h1
                · exact Hj.out j h1
                · subst h1; exact Hk.out, H0h.out, below_drewN (HB.out.alloc HB.out.size _) _⟩
              case measure => simp [intOf]; omega
            · have Hr := Lib.hid (ratesOk_first hf)
              have e1 : ((nth l 0).1 != 0) = true := by simp [hf]
              clear hf
              go_wp2
              go_quiet ((first | (go_at_call 34; exact quiet_left (isDay_any _ _)) | (go_at_call 35; exact quiet_left (within_any _ _ _ _)) | (go_at_call 32; exact quiet_left (l1In_any _ _ _ _))))
              go_wp2
              go_ret
              exact ⟨by rw [Hr.out]; rfl, below_drewN (HB.out.alloc HB.out.size _) _⟩
          · have hkp : 0 < k := by omega
            have e0 : ((k : Int) == 0) = false := by simp [hk0]
            have hcp := Hp.out hkp
            have ek : ((k : Int) - 1) = ((k - 1 : Nat) : Int) := by omega
            have H0k := H00.out hkp
            have H0h : Hid (0 < k + 1 → (nth l 0).1 = 0) := Lib.hid (fun _ => H0k)
            clear hk0 H0k
            by_cases hlt2 : (nth l (k - 1)).1 < (nth l k).1
            · have Hk := Lib.hid (rOk_mk hw1 hw2 (fun _ => hlt2))
              go_wp2
              go_quiet ((first | (go_at_call 34; exact quiet_left (isDay_any _ _)) | (go_at_call 35; exact quiet_left (within_any _ _ _ _)) | (go_at_call 32; exact quiet_left (l1In_any _ _ _ _))))
              go_wp2
              go_roundw
              case rel => exact ⟨k + 1, by omega, by go_num, fun j hj => by
                rcases Nat.lt_succ_iff_lt_or_eq.1 hj with h1 | h1
                · exact Hj.out j h1
                · subst h1; exact Hk.out, H0h.out, below_drewN (HB.out.alloc HB.out.size _) _⟩
              case measure => simp [intOf]; omega
            · have Hr := Lib.hid (ratesOk_no k hlt (rOk_f3 hkp (by omega)))
              have hle : (nth l k).1 ≤ (nth l (k - 1)).1 := by omega
              clear hlt2
              go_wp2
              go_quiet ((first | (go_at_call 34; exact quiet_left (isDay_any _ _)) | (go_at_call 35; exact quiet_left (within_any _ _ _ _)) | (go_at_call 32; exact quiet_left (l1In_any _ _ _ _))))
              go_wp2
              go_ret
              exact ⟨by rw [Hr.out]; rfl, below_drewN (HB.out.alloc HB.out.size _) _⟩
    · obtain rfl : k = l.length := by omega
      have Hr : Hid (ratesOk l = win l.length 1 5) := Lib.hid (by
        rw [ratesOk_mk Hj.out]
        rcases Nat.eq_zero_or_pos l.length with h0 | h0
        · rw [win_lo (n := (l.length : Int)) (a := 1) (b := 5) (by omega)]; rfl
        · simp [H00.out h0])
      clear hb
      go_wp2_with (go_at_call 35; refine (within_any _ _ _ _).mono ?_; rintro e w' ⟨rfl, rfl⟩)
      go_ret
      exact ⟨by rw [Hr.out]; rfl, HB.out⟩

theorem specRatesValid (A : Option Addr) (c : Nat) (l : List (Int × Int)) (w : World) (h : Rd encP w A l) (hl : l.length ≤ 1000000000) :
    Calls Try.prog 14 #[.slice A l.length c] w fun e w' => e = .returned (.bool (ratesOk l)) ∧ Below w.heap.size w w' := by
  go_enter Try.func14, Try.ntmps14
  go_wp2
  go_loopw [3] (fun i wr => ∃ k : Nat, k ≤ l.length ∧ i = vi k ∧ (∀ j, j < k → rOk l j = true) ∧ Below w.heap.size w wr) (fun i _ => l.length - (intOf i).toNat)
  case atStart => exact ⟨0, Nat.zero_le _, rfl, fun j hj => absurd hj (by omega), Below.refl _ _⟩
  case round =>
    obtain ⟨k, hk, rfl, hj, hb⟩ := hrel
    have Hj := Lib.hid hj
    have HB := Lib.hid hb
    have hsz := hb.size
    clear hj
    by_cases hlt : k < l.length
    · obtain ⟨b, o, rfl, hbl, _⟩ := h.below hb (by omega)
      obtain ⟨hc1, hc2⟩ := (h.below hb).at2 k hlt
      have hp : 0 < k → wr.cell? ⟨b, o + (k - 1) * 2, none⟩ = some (vi (nth l (k - 1)).1) := fun h0 => ((h.below hb).at2 (k - 1) (by omega)).1
      have Hp := Lib.hid hp
      clear h hb hp
      cases hw1 : win (nth l k).1 0 99 with
      | false =>
        have Hr := Lib.hid (ratesOk_no k hlt (rOk_f1 hw1))
        go_wp2
        go_quiet ((first | (go_at_call 34; exact quiet_left (isDay_any _ _)) | (go_at_call 35; exact quiet_left (within_any _ _ _ _)) | (go_at_call 32; exact quiet_left (l1In_any _ _ _ _))))
        go_wp2
        go_ret
        exact ⟨by rw [Hr.out]; rfl, below_drewN HB.out _⟩
      | true =>
        cases hw2 : win (nth l k).2 0 99 with
        | false =>
          have Hr := Lib.hid (ratesOk_no k hlt (rOk_f2 hw2))
          go_wp2
          go_quiet ((first | (go_at_call 34; exact quiet_left (isDay_any _ _)) | (go_at_call 35; exact quiet_left (within_any _ _ _ _)) | (go_at_call 32; exact quiet_left (l1In_any _ _ _ _))))
          go_wp2
          go_ret
          exact ⟨by rw [Hr.out]; rfl, below_drewN HB.out _⟩
        | true =>
          by_cases hk0 : k = 0
          · subst hk0
            simp only [Nat.zero_mul, Nat.add_zero] at hc1 hc2
            have Hk := Lib.hid (rOk_mk hw1 hw2 (fun h => absurd h (by omega)))
            go_wp2
            go_quiet ((first | (go_at_call 34; exact quiet_left (isDay_any _ _)) | (go_at_call 35; exact quiet_left (within_any _ _ _ _)) | (go_at_call 32; exact quiet_left (l1In_any _ _ _ _))))
            go_wp2
            go_roundw
            case rel => exact ⟨1, by omega, by go_num, fun j hj => by
              rcases Nat.lt_succ_iff_lt_or_eq.1 (show j < 0 + 1 from hj) with h1 | h1
              · exact Hj.out j h1
              · subst h1; exact Hk.out, below_drewN HB.out _⟩
            case measure => simp [intOf]; omega
          · have hkp : 0 < k := by omega
            have hcp := Hp.out hkp
            have ek : ((k : Int) - 1) = ((k - 1 : Nat) : Int) := by omega
            clear hk0
            by_cases hlt2 : (nth l (k - 1)).1 < (nth l k).1
            · have Hk := Lib.hid (rOk_mk hw1 hw2 (fun _ => hlt2))
              go_wp2
              go_quiet ((first | (go_at_call 34; exact quiet_left (isDay_any _ _)) | (go_at_call 35; exact quiet_left (within_any _ _ _ _)) | (go_at_call 32; exact quiet_left (l1In_any _ _ _ _))))
              go_wp2
              go_roundw
              case rel => exact ⟨k + 1, by omega, by go_num, fun j hj => by
                rcases Nat.lt_succ_iff_lt_or_eq.1 hj with h1 | h1
                · exact Hj.out j h1
                · subst h1; exact Hk.out, below_drewN HB.out _⟩
              case measure => simp [intOf]; omega
            · have Hr := Lib.hid (ratesOk_no k hlt (rOk_f3 hkp (by omega)))
              have hle : (nth l k).1 ≤ (nth l (k - 1)).1 := by omega
              clear hlt2
              go_wp2
              go_quiet ((first | (go_at_call 34; exact quiet_left (isDay_any _ _)) | (go_at_call 35; exact quiet_left (within_any _ _ _ _)) | (go_at_call 32; exact quiet_left (l1In_any _ _ _ _))))
              go_wp2
              go_ret
              exact ⟨by rw [Hr.out]; rfl, below_drewN HB.out _⟩
    · obtain rfl : k = l.length := by omega
      cases hw : win l.length 1 5 with
      | false =>
        have Hr : Hid (ratesOk l = false) := Lib.hid (by rw [ratesOk_mk Hj.out, hw]; rfl)
        clear hb
        go_wp2_with (go_at_call 32; refine (l1In_any _ _ _ _).mono ?_; rintro e w' ⟨rfl, rfl⟩)
        go_ret
        exact ⟨by rw [Hr.out]; rfl, HB.out⟩
      | true =>
        have hpos := (win_t hw).1
        obtain ⟨b, o, rfl, hbl, _⟩ := h.below hb (by omega)
        obtain ⟨hc1, hc2⟩ := (h.below hb).at2 0 (by omega)
        simp only [Nat.zero_mul, Nat.add_zero] at hc1
        have Hr : Hid (ratesOk l = ((nth l 0).1 == 0)) := Lib.hid (by rw [ratesOk_mk Hj.out, hw]; rfl)
        clear hb h hc2
        go_wp2_with (go_at_call 32; refine (l1In_any _ _ _ _).mono ?_; rintro e w' ⟨rfl, rfl⟩)
        go_ret
        exact ⟨by rw [Hr.out]; rfl, HB.out⟩
end Go.Proofs.Ytaccnekicobhcaa
