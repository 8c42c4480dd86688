/-
  Contracts: bookings are valid, with counts.
-/
import Derived.Test.YtnniogdnlcokmaaBkA
import Derived.Test.YtnniogdnlcokmaaRow
namespace Go.Proofs.Ytnniogdnlcokmaa
open Go.RowKit
set_option linter.unusedVariables false
set_option maxRecDepth 100000

set_option maxHeartbeats 8000000 in
theorem implBookingsValid (A : Option Addr) (c : Nat) (l : List (Int × Int)) (room : Int) (w : World) (h : Rd encP w A l) (hl : l.length ≤ 1000000000) :
    Calls Try.prog 16 #[.slice A l.length c, vi room] w fun e w' => e = .returned (.bool (booksOk l room)) ∧ Below w.heap.size w w' := by
  have HZ := Lib.hid (Row.new (E := 51) w (cnts l 0) #[.int .i64 0, .int .i64 0, .int .i64 0, .int .i64 0, .int .i64 0, .int .i64 0, .int .i64 0, .int .i64 0, .int .i64 0, .int .i64 0, .int .i64 0, .int .i64 0, .int .i64 0, .int .i64 0, .int .i64 0, .int .i64 0, .int .i64 0, .int .i64 0, .int .i64 0, .int .i64 0, .int .i64 0, .int .i64 0, .int .i64 0, .int .i64 0] (by rw [cnts_zero]; rfl))
  go_enter Try.func16, Try.ntmps16
  go_wp2
  go_loopw [10] (fun i wr => ∃ k : Nat, k ≤ l.length ∧ i = vi k ∧ (∀ j, j < k → bkOk l j = true) ∧ Row 51 wr w.heap.size (cnts l k) ∧ Below w.heap.size w wr) (fun i _ => l.length - (intOf i).toNat)
  case atStart => exact ⟨0, Nat.zero_le _, rfl, (fun j hj => absurd hj (by omega)), HZ.out, (Below.refl _ _).alloc (Nat.le_refl _) _⟩
  case round =>
    obtain ⟨k, hk, rfl, hj, hw, hb⟩ := hrel
    have Hj := Lib.hid hj
    have HB := Lib.hid hb
    have HW := Lib.hid hw
    have hsz := hb.size
    have hgw := hw.lt
    clear hj hw HZ
    by_cases hlt : k < l.length
    · obtain ⟨b, o, rfl, hbl, _⟩ := h.below hb (by omega)
      obtain ⟨hc1, hc2⟩ := (h.below hb).at2 k hlt
      have HP := Lib.hid (fun h0 : 0 < k => ((h.below hb).at2 (k - 1) (by omega)).1)
      clear h hb
      cases hw1 : win (nth l k).1 0 99 with
      | false =>
        have Hr := Lib.hid (booksOk_no (room := room) hlt (bkOk_f1 hw1))
        go_wp2
        generalize hw1 : wr.alloc (.cells #[vi (nth l k).1, vi (nth l k).2] 36) = w1 at *
        have hq0 : w1.cell? ⟨wr.heap.size, 0, none⟩ = some (vi (nth l k).1) := by rw [← hw1]; simp
        have hq1 : w1.cell? ⟨wr.heap.size, 1, none⟩ = some (vi (nth l k).2) := by rw [← hw1]; simp
        have HB1 := Lib.hid (show Below w.heap.size w w1 by rw [← hw1]; exact HB.out.alloc HB.out.size _)
        have HW1 := Lib.hid (show Row 51 w1 w.heap.size (cnts l k) by rw [← hw1]; exact HW.out.below ((Below.refl _ _).alloc (Nat.le_refl _) _))
        have hs1 := HB1.out.size
        clear hw1
        go_quiet ((first | (go_at_call 40; exact quiet_left (isDayHour_any _ _)) | (go_at_call 39; exact quiet_left (within_any _ _ _ _)) | (go_at_call 36; exact quiet_left (l1In_any _ _ _ _))))
        go_wp2
        go_ret
        exact ⟨by rw [Hr.out]; rfl, below_drewN HB1.out _⟩
      | true =>
        cases hw2 : win (nth l k).2 0 23 with
        | false =>
          have Hr := Lib.hid (booksOk_no (room := room) hlt (bkOk_f2 hw2))
          go_wp2
          generalize hw1 : wr.alloc (.cells #[vi (nth l k).1, vi (nth l k).2] 36) = w1 at *
          have hq0 : w1.cell? ⟨wr.heap.size, 0, none⟩ = some (vi (nth l k).1) := by rw [← hw1]; simp
          have hq1 : w1.cell? ⟨wr.heap.size, 1, none⟩ = some (vi (nth l k).2) := by rw [← hw1]; simp
          have HB1 := Lib.hid (show Below w.heap.size w w1 by rw [← hw1]; exact HB.out.alloc HB.out.size _)
          have HW1 := Lib.hid (show Row 51 w1 w.heap.size (cnts l k) by rw [← hw1]; exact HW.out.below ((Below.refl _ _).alloc (Nat.le_refl _) _))
          have hs1 := HB1.out.size
          clear hw1
          go_quiet ((first | (go_at_call 40; exact quiet_left (isDayHour_any _ _)) | (go_at_call 39; exact quiet_left (within_any _ _ _ _)) | (go_at_call 36; exact quiet_left (l1In_any _ _ _ _))))
          go_wp2
          go_ret
          exact ⟨by rw [Hr.out]; rfl, below_drewN HB1.out _⟩
        | true =>
          by_cases hk0 : k = 0
          · subst hk0
            simp only [Nat.add_zero, Nat.zero_mul] at hc1 hc2
            have Hk := Lib.hid (bkOk_mk (k := 0) hw1 hw2 (fun h => absurd h (by omega)))
            go_wp2
            generalize hw1 : wr.alloc (.cells #[vi (nth l 0).1, vi (nth l 0).2] 36) = w1 at *
            have hq0 : w1.cell? ⟨wr.heap.size, 0, none⟩ = some (vi (nth l 0).1) := by rw [← hw1]; simp
            have hq1 : w1.cell? ⟨wr.heap.size, 1, none⟩ = some (vi (nth l 0).2) := by rw [← hw1]; simp
            have HB1 := Lib.hid (show Below w.heap.size w w1 by rw [← hw1]; exact HB.out.alloc HB.out.size _)
            have HW1 := Lib.hid (show Row 51 w1 w.heap.size (cnts l 0) by rw [← hw1]; exact HW.out.below ((Below.refl _ _).alloc (Nat.le_refl _) _))
            have hs1 := HB1.out.size
            clear hw1
            obtain ⟨j, hj24, hjk⟩ : ∃ j : Nat, j < 24 ∧ (nth l 0).2 = (j : Int) := ⟨(nth l 0).2.toNat, by have := win_t hw2; omega, by have := win_t hw2; omega⟩
            have Hst := Lib.hid (cnts_step l 0 j hlt hj24 hjk)
            have hcj : w1.cell? ⟨w.heap.size, j, none⟩ = some (vi (nth (cnts l 0) j)) := HW1.out.cell j (by rw [cnts_length]; exact hj24)
            have hfj := HW1.out.frozen j
            have hcn : 0 ≤ nth (cnts l 0) j ∧ nth (cnts l 0) j ≤ 1000000000 := by rw [cnts_nth _ _ _ hj24]; have := many_le l (j : Int) 0; omega
            obtain ⟨hcn1, hcn2⟩ := hcn
            have Hjk := Lib.hid hjk
            rw [hjk] at hq1 hw2
            clear hjk
            go_quiet ((first | (go_at_call 40; exact quiet_left (isDayHour_any _ _)) | (go_at_call 39; exact quiet_left (within_any _ _ _ _)) | (go_at_call 36; exact quiet_left (l1In_any _ _ _ _))))
            go_wp2
            go_roundw
            case rel => exact ⟨1, by omega, by go_num, (fun j hj => by
              rcases Nat.lt_succ_iff_lt_or_eq.1 hj with h1 | h1
              · exact Hj.out j h1
              · subst h1; exact Hk.out), by rw [← Hst.out]; exact (HW1.out.drewN _).set j _, (below_drewN HB1.out _).setCell (Nat.le_refl _) _⟩
            case measure => simp [intOf]; omega
          · have hkp : 0 < k := by omega
            have hkp2 : (0 : Int) < (k : Int) := by omega
            have hc3 := HP.out hkp
            have ek : ((k : Int) - 1) = ((k - 1 : Nat) : Int) := by omega
            have hkw2 : IntKind.i64.wrap ((k - 1 : Nat) : Int) = ((k - 1 : Nat) : Int) := by rw [IntKind.wrap_i64]; omega
            by_cases hle : (nth l k).1 ≤ (nth l (k - 1)).1
            · have Hr0 := Lib.hid (booksOk_no (room := room) hlt (bkOk_f3 hkp hle))
              have Hr := Lib.hid (Hr0.out)
              go_wp2
              generalize hw1 : wr.alloc (.cells #[vi (nth l k).1, vi (nth l k).2] 36) = w1 at *
              have hq0 : w1.cell? ⟨wr.heap.size, 0, none⟩ = some (vi (nth l k).1) := by rw [← hw1]; simp
              have hq1 : w1.cell? ⟨wr.heap.size, 1, none⟩ = some (vi (nth l k).2) := by rw [← hw1]; simp
              have hq3 : w1.cell? ⟨b, o + (k - 1) * 2, none⟩ = some (vi (nth l (k - 1)).1) := by rw [← hw1, World.cell?_alloc_past _ _ _ (by omega)]; exact hc3
              have HB1 := Lib.hid (show Below w.heap.size w w1 by rw [← hw1]; exact HB.out.alloc HB.out.size _)
              have HW1 := Lib.hid (show Row 51 w1 w.heap.size (cnts l k) by rw [← hw1]; exact HW.out.below ((Below.refl _ _).alloc (Nat.le_refl _) _))
              have hs1 := HB1.out.size
              clear hw1
              go_quiet ((first | (go_at_call 40; exact quiet_left (isDayHour_any _ _)) | (go_at_call 39; exact quiet_left (within_any _ _ _ _)) | (go_at_call 36; exact quiet_left (l1In_any _ _ _ _))))
              go_wp2
              go_ret
              exact ⟨by rw [Hr.out]; rfl, below_drewN HB1.out _⟩
            · have Hk := Lib.hid (bkOk_mk hw1 hw2 (fun _ => hle))
              have hgt : (nth l (k - 1)).1 < (nth l k).1 := by omega
              have hgd : decide ((nth l k).1 ≤ (nth l (k - 1)).1) = false := by simpa using hgt
              clear hle
              go_wp2
              generalize hw1 : wr.alloc (.cells #[vi (nth l k).1, vi (nth l k).2] 36) = w1 at *
              have hq0 : w1.cell? ⟨wr.heap.size, 0, none⟩ = some (vi (nth l k).1) := by rw [← hw1]; simp
              have hq1 : w1.cell? ⟨wr.heap.size, 1, none⟩ = some (vi (nth l k).2) := by rw [← hw1]; simp
              have hq3 : w1.cell? ⟨b, o + (k - 1) * 2, none⟩ = some (vi (nth l (k - 1)).1) := by rw [← hw1, World.cell?_alloc_past _ _ _ (by omega)]; exact hc3
              have HB1 := Lib.hid (show Below w.heap.size w w1 by rw [← hw1]; exact HB.out.alloc HB.out.size _)
              have HW1 := Lib.hid (show Row 51 w1 w.heap.size (cnts l k) by rw [← hw1]; exact HW.out.below ((Below.refl _ _).alloc (Nat.le_refl _) _))
              have hs1 := HB1.out.size
              clear hw1
              obtain ⟨j, hj24, hjk⟩ : ∃ j : Nat, j < 24 ∧ (nth l k).2 = (j : Int) := ⟨(nth l k).2.toNat, by have := win_t hw2; omega, by have := win_t hw2; omega⟩
              have Hst := Lib.hid (cnts_step l k j hlt hj24 hjk)
              have hcj : w1.cell? ⟨w.heap.size, j, none⟩ = some (vi (nth (cnts l k) j)) := HW1.out.cell j (by rw [cnts_length]; exact hj24)
              have hfj := HW1.out.frozen j
              have hcn : 0 ≤ nth (cnts l k) j ∧ nth (cnts l k) j ≤ 1000000000 := by rw [cnts_nth _ _ _ hj24]; have := many_le l (j : Int) k; omega
              obtain ⟨hcn1, hcn2⟩ := hcn
              have Hjk := Lib.hid hjk
              rw [hjk] at hq1 hw2
              clear hjk
              go_quiet ((first | (go_at_call 40; exact quiet_left (isDayHour_any _ _)) | (go_at_call 39; exact quiet_left (within_any _ _ _ _)) | (go_at_call 36; exact quiet_left (l1In_any _ _ _ _))))
              go_wp2
              go_roundw
              case rel => exact ⟨k + 1, by omega, by go_num, (fun j hj => by
                rcases Nat.lt_succ_iff_lt_or_eq.1 hj with h1 | h1
                · exact Hj.out j h1
                · subst h1; exact Hk.out), by rw [← Hst.out]; exact (HW1.out.drewN _).set j _, (below_drewN HB1.out _).setCell (Nat.le_refl _) _⟩
              case measure => simp [intOf]; omega
    · obtain rfl : k = l.length := by omega
      clear hb h
      by_cases h10 : (l.length : Int) ≤ 10
      · cases hw1 : win room 1 3 with
        | false =>
          have Hr : Hid (booksOk l room = false) := Lib.hid (by rw [booksOk_mk Hj.out, hw1, Bool.and_false, Bool.false_and])
          go_wp2_with (first | (go_at_call 39; refine (within_any _ _ _ _).mono ?_; rintro e w' ⟨rfl, rfl⟩) | (go_at_call 41; refine HX.out.mono ?_; rintro e w' ⟨rfl, rfl⟩))
          go_ret
          exact ⟨by rw [Hr.out]; rfl, HB.out⟩
        | true =>
          have Hr : Hid (booksOk l room = decide (mx (cnts l l.length) 23 ≤ room)) := Lib.hid (by rw [booksOk_mk Hj.out, hw1, mx_roomy Hj.out (by have := win_t hw1; omega), decide_eq_true h10]; rfl)
          have HX := Lib.hid (max_any (some ⟨w.heap.size, 0, none⟩) 24 (cnts l l.length) wr HW.out.rd (by rw [cnts_length]; omega) (by rw [cnts_length]; omega))
          rw [cnts_length] at HX
          go_wp2_with (first | (go_at_call 39; refine (within_any _ _ _ _).mono ?_; rintro e w' ⟨rfl, rfl⟩) | (go_at_call 41; refine HX.out.mono ?_; rintro e w' ⟨rfl, rfl⟩))
          go_ret
          exact ⟨by rw [Hr.out]; rfl, HB.out⟩
      · have Hr : Hid (booksOk l room = false) := Lib.hid (by rw [booksOk_mk Hj.out, decide_eq_false h10, Bool.false_and, Bool.false_and])
        go_wp2_with (first | (go_at_call 39; refine (within_any _ _ _ _).mono ?_; rintro e w' ⟨rfl, rfl⟩) | (go_at_call 41; refine HX.out.mono ?_; rintro e w' ⟨rfl, rfl⟩))
        go_ret
        exact ⟨by rw [Hr.out]; rfl, HB.out⟩
end Go.Proofs.Ytnniogdnlcokmaa
