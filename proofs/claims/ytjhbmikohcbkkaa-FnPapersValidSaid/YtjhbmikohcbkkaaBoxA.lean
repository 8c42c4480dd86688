/-
  Contracts: boxes are valid; a box is looked for.
-/
import Derived.Test.YtjhbmikohcbkkaaBoxS
import Derived.Test.YtjhbmikohcbkkaaPast
namespace Go.Proofs.Ytjhbmikohcbkkaa
open Go.RowKit
set_option linter.unusedVariables false
set_option maxRecDepth 100000


theorem isId_any (n : Int) (w : World) :
    Calls Try.prog 42 #[vi n] w fun e w' => e = .returned (.bool (win n 1 999)) ∧ w = w' := by
  go_enter Try.func42, Try.ntmps42
  go_wp2_with (go_at_call 33; refine (within_any _ _ _ _).mono ?_; rintro e w' ⟨rfl, rfl⟩)
  go_ret
  exact ⟨rfl, rfl⟩

theorem specBoxValid (b : Bx) (w : World) :
    Calls Try.prog 69 #[.agg #[vi b.id, vi b.wt, vi b.cls, vi b.port, .bool b.cold]] w fun e w' => e = .returned (.bool (boxOk b)) ∧ Below w.heap.size w w' := by
  cases h1 : win b.id 1 999 with
  | false =>
    have H := Lib.hid (show boxOk b = false by simp [boxOk, h1])
    go_enter Try.func69, Try.ntmps69
    go_wp2_with (go_at_call 31; refine (l1In_any _ _ _ _).mono ?_; rintro e w' ⟨rfl, rfl⟩)
    go_ret
    exact ⟨by rw [H.out]; rfl, (Below.refl _ _).alloc (Nat.le_refl _) _⟩
  | true =>
    cases h2 : win b.wt 1 30 with
    | false =>
      have H := Lib.hid (show boxOk b = false by simp [boxOk, h2])
      go_enter Try.func69, Try.ntmps69
      go_wp2_with (go_at_call 31; refine (l1In_any _ _ _ _).mono ?_; rintro e w' ⟨rfl, rfl⟩)
      go_ret
      exact ⟨by rw [H.out]; rfl, (Below.refl _ _).alloc (Nat.le_refl _) _⟩
    | true =>
      cases h3 : win b.cls 0 3 with
      | false =>
        have H := Lib.hid (show boxOk b = false by simp [boxOk, h3])
        go_enter Try.func69, Try.ntmps69
        go_wp2_with (go_at_call 31; refine (l1In_any _ _ _ _).mono ?_; rintro e w' ⟨rfl, rfl⟩)
        go_ret
        exact ⟨by rw [H.out]; rfl, (Below.refl _ _).alloc (Nat.le_refl _) _⟩
      | true =>
        have H := Lib.hid (show boxOk b = win b.port 0 6 by simp [boxOk, h1, h2, h3])
        go_enter Try.func69, Try.ntmps69
        go_wp2_with (go_at_call 31; refine (l1In_any _ _ _ _).mono ?_; rintro e w' ⟨rfl, rfl⟩)
        go_ret
        exact ⟨by rw [H.out]; rfl, (Below.refl _ _).alloc (Nat.le_refl _) _⟩

theorem l2Find_any (A : Option Addr) (c : Nat) (l : List Bx) (i : Int) (w : World) (h : Rd encB w A l) (hl : l.length ≤ 1000000000) :
    Calls Try.prog 62 #[.slice A l.length c, vi i] w fun e w' => e = .returned (vi (idPos l i)) ∧ w = w' := by
  go_enter Try.func62, Try.ntmps62
  go_wp2
  go_loop [5] (fun v => ∃ k : Nat, k ≤ l.length ∧ v = vi k ∧ (∀ j, j < k → (nth l j).id ≠ i)) (fun v => l.length - (intOf v).toNat)
  case atStart => exact ⟨0, Nat.zero_le _, rfl, fun j hj => absurd hj (by omega)⟩
  case round =>
    obtain ⟨k, hk, rfl, hj⟩ := hrel
    have Hj := Lib.hid hj
    clear hj
    by_cases hlt : k < l.length
    · obtain ⟨b, o, rfl, hbl, _⟩ := h (by omega)
      obtain ⟨hc1, _, _, _, _⟩ := h.at5 k hlt
      clear h
      by_cases he : (nth l k).id = i
      · have he1 : ((nth l k).id == i) = true := by simp [he]
        have Hr := Lib.hid (idPos_hit hlt he Hj.out)
        clear he
        go_wp2
        go_ret
        exact ⟨by rw [Hr.out]; rfl, rfl⟩
      · have he1 : ((nth l k).id == i) = false := by simp [he]
        have He := Lib.hid he
        clear he
        go_wp2
        go_round
        case rel => exact ⟨k + 1, by omega, by go_num, fun j hj => by
          rcases Nat.lt_succ_iff_lt_or_eq.1 hj with h1 | h1
          · exact Hj.out j h1
          · subst h1; exact He.out⟩
        case measure => simp [intOf]; omega
    · obtain rfl : k = l.length := by omega
      have Hr := Lib.hid (idPos_miss Hj.out)
      go_wp2
      go_ret
      exact ⟨by rw [Hr.out]; rfl, rfl⟩


theorem specBoxesValid (A : Option Addr) (c : Nat) (l : List Bx) (w : World) (h : Rd encB w A l) (hl : l.length ≤ 1000000000) :
    Calls Try.prog 61 #[.slice A l.length c] w fun e w' => e = .returned (.bool (boxesOk l)) ∧ Below w.heap.size w w' := by
  go_enter Try.func61, Try.ntmps61
  go_wp2
  go_loopw [3] (fun i wr => ∃ k : Nat, k ≤ l.length ∧ i = vi k ∧ (∀ j, j < k → bxOk l j = true) ∧ Below w.heap.size w wr) (fun i _ => l.length - (intOf i).toNat)
  case atStart => exact ⟨0, Nat.zero_le _, rfl, (fun j hj => absurd hj (by omega)), Below.refl _ _⟩
  case round =>
    obtain ⟨k, hk, rfl, hj, hb⟩ := hrel
    have Hj := Lib.hid hj
    have HB := Lib.hid hb
    have hsz := hb.size
    clear hj
    by_cases hlt : k < l.length
    · have HR := Lib.hid (h.below hb)
      obtain ⟨b, o, rfl, hbl, _⟩ := h.below hb (by omega)
      obtain ⟨hc1, hc2, hc3, hc4, hc5⟩ := (h.below hb).at5 k hlt
      clear h hb
      cases hw1 : boxOk (nth l k) with
      | false =>
        have Hr := Lib.hid (boxesOk_no k hlt (bxOk_f1 hw1))
        go_wp2_with fail
        refine (specBoxValid (nth l k) _).mono ?_
        rw [hw1]
        rintro e w2 ⟨rfl, hb2⟩
        have HB2 := Lib.hid (bthen HB.out hb2)
        clear hb2
        go_wp2
        go_ret
        exact ⟨by rw [Hr.out]; rfl, HB2.out⟩
      | true =>
        go_wp2_with fail
        refine (specBoxValid (nth l k) _).mono ?_
        rw [hw1]
        rintro e w2 ⟨rfl, hb2⟩
        have HB2 := Lib.hid (bthen HB.out hb2)
        have hR2 := HR.out.below hb2
        have HR2 := Lib.hid hR2
        obtain ⟨hd1, hd2, hd3, hd4, hd5⟩ := hR2.at5 k hlt
        clear hb2 hR2
        go_wp2_with fail
        refine (l2Find_any _ _ l _ _ HR2.out hl).mono ?_
        rintro e w' ⟨rfl, rfl⟩
        cases hw2 : decide (idPos l (nth l k).id < k) with
        | true =>
          have Hr := Lib.hid (boxesOk_no k hlt (bxOk_f2 hlt (by simpa using hw2)))
          have hw3 : idPos l (nth l k).id < (k : Int) := by simpa using hw2
          go_wp2
          go_ret
          exact ⟨by rw [Hr.out]; rfl, HB2.out⟩
        | false =>
          have hw3 : ¬ idPos l (nth l k).id < (k : Int) := by simpa using hw2
          have Hk := Lib.hid (bxOk_mk hw1 hw3)
          go_wp2
          go_roundw
          case rel => exact ⟨k + 1, by omega, by go_num, (fun j hj => by
            rcases Nat.lt_succ_iff_lt_or_eq.1 hj with h1 | h1
            · exact Hj.out j h1
            · subst h1; exact Hk.out), HB2.out⟩
          case measure => simp [intOf]; omega
    · obtain rfl : k = l.length := by omega
      have Hr : Hid (boxesOk l = decide ((l.length : Int) ≤ 10)) := Lib.hid (boxesOk_mk Hj.out)
      clear hb
      go_wp2
      go_ret
      exact ⟨by rw [Hr.out]; rfl, HB.out⟩

end Go.Proofs.Ytjhbmikohcbkkaa
