/-
  Contracts: tasks are valid; two tasks are compared.
-/
import Derived.Test.YtpabfbaoibmnlaaCy
import Derived.Test.YtpabfbaoibmnlaaHl
import Derived.Test.YtpabfbaoibmnlaaHas
import Derived.Test.YtpabfbaoibmnlaaPast
namespace Go.Proofs.Ytpabfbaoibmnlaa
open Go.RowKit
set_option linter.unusedVariables false
set_option maxRecDepth 100000

set_option maxHeartbeats 2000000 in
theorem specTasksValid (A : Option Addr) (c : Nat) (l : List (Int × Int)) (w : World) (h : Rd encP w A l) (hl : l.length ≤ 1000000000) :
    Calls Try.prog 55 #[.slice A l.length c] w fun e w' => e = .returned (.bool (tasksOk l)) ∧ w = w' := by
  go_enter Try.func55, Try.ntmps55
  go_wp2
  go_loop [3] (fun i => ∃ k : Nat, k ≤ l.length ∧ i = vi k ∧ ∀ j, j < k → tOk l j = true) (fun i => l.length - (intOf i).toNat)
  case atStart => exact ⟨0, Nat.zero_le _, rfl, fun j hj => absurd hj (by omega)⟩
  case round =>
    obtain ⟨k, hk, rfl, hall⟩ := hrel
    have HAL := Lib.hid hall
    clear hall
    by_cases hlt : k < l.length
    · obtain ⟨b, o, rfl, hbl, _⟩ := h (by omega)
      obtain ⟨hc1, hc2⟩ := h.at2 k hlt
      clear h
      cases hw1 : win (nth l k).1 0 99 with
      | false =>
        have Hr := Lib.hid (tasksOk_no hlt (tOk_f1 hw1))
        go_wp2_with (go_at_call 43; refine (l1In_any _ _ _ _).mono ?_; rintro e w' ⟨rfl, rfl⟩)
        go_ret
        exact ⟨by rw [Hr.out]; rfl, rfl⟩
      | true =>
        cases hw2 : win (nth l k).2 0 99 with
        | false =>
          have Hr := Lib.hid (tasksOk_no hlt (tOk_f2 hw2))
          go_wp2_with (go_at_call 43; refine (l1In_any _ _ _ _).mono ?_; rintro e w' ⟨rfl, rfl⟩)
          go_ret
          exact ⟨by rw [Hr.out]; rfl, rfl⟩
        | true =>
          have Hk := Lib.hid (tOk_mk hw1 hw2)
          go_wp2_with (go_at_call 43; refine (l1In_any _ _ _ _).mono ?_; rintro e w' ⟨rfl, rfl⟩)
          go_round
          case rel => exact ⟨k + 1, by omega, by go_num, fun j hj => by
            rcases Nat.lt_succ_iff_lt_or_eq.1 hj with h1 | h1
            · exact HAL.out j h1
            · subst h1; exact Hk.out⟩
          case measure => simp [intOf]; omega
    · obtain rfl : k = l.length := by omega
      have Hr := Lib.hid (tasksOk_mk HAL.out)
      go_wp2
      go_ret
      exact ⟨by rw [Hr.out]; first | rfl | (simp; done) | (simp; omega), rfl⟩

set_option maxHeartbeats 2000000 in
theorem implTasksValid (A : Option Addr) (c : Nat) (l : List (Int × Int)) (w : World) (h : Rd encP w A l) (hl : l.length ≤ 1000000000) :
    Calls Try.prog 41 #[.slice A l.length c] w fun e w' => e = .returned (.bool (tasksOk l)) ∧ Below w.heap.size w w' := by
  go_enter Try.func41, Try.ntmps41
  go_wp2
  go_loopw [7] (fun i wr => ∃ k : Nat, k ≤ l.length ∧ i = vi k ∧ (∀ j, j < k → tOk l j = true) ∧ Below w.heap.size w wr) (fun i _ => l.length - (intOf i).toNat)
  case atStart => exact ⟨0, Nat.zero_le _, rfl, (fun j hj => absurd hj (by omega)), Below.refl _ _⟩
  case round =>
    obtain ⟨k, hk, rfl, hall, hb⟩ := hrel
    have HAL := Lib.hid hall
    have HB := Lib.hid hb
    clear hall
    by_cases hlt : k < l.length
    · obtain ⟨b, o, rfl, hbl, _⟩ := h.below hb (by omega)
      obtain ⟨hc1, hc2⟩ := (h.below hb).at2 k hlt
      clear h hb
      cases hw1 : win (nth l k).1 0 99 with
      | false =>
        have Hr := Lib.hid (tasksOk_no hlt (tOk_f1 hw1))
        go_wp2_with (go_at_call 44; refine (within_any _ _ _ _).mono ?_; rintro e w' ⟨rfl, rfl⟩)
        go_ret
        exact ⟨by rw [Hr.out]; rfl, HB.out.alloc HB.out.size _⟩
      | true =>
        cases hw2 : win (nth l k).2 0 99 with
        | false =>
          have Hr := Lib.hid (tasksOk_no hlt (tOk_f2 hw2))
          go_wp2_with (go_at_call 44; refine (within_any _ _ _ _).mono ?_; rintro e w' ⟨rfl, rfl⟩)
          go_ret
          exact ⟨by rw [Hr.out]; rfl, HB.out.alloc HB.out.size _⟩
        | true =>
          have Hk := Lib.hid (tOk_mk hw1 hw2)
          go_wp2_with (go_at_call 44; refine (within_any _ _ _ _).mono ?_; rintro e w' ⟨rfl, rfl⟩)
          go_roundw
          case rel => exact ⟨k + 1, by omega, by go_num, (fun j hj => by
            rcases Nat.lt_succ_iff_lt_or_eq.1 hj with h1 | h1
            · exact HAL.out j h1
            · subst h1; exact Hk.out), HB.out.alloc HB.out.size _⟩
          case measure => simp [intOf]; omega
    · obtain rfl : k = l.length := by omega
      have Hr := Lib.hid (tasksOk_mk HAL.out)
      clear hb h
      go_wp2
      go_ret
      exact ⟨by rw [Hr.out]; first | rfl | (simp; done) | (simp; omega), HB.out⟩

/-- Two tasks compared. -/
def cmpT (p q : Int × Int) : Int :=
  if p.1 < p.2 then (if q.1 < q.2 then p.1 - q.1 else -1) else (if q.1 < q.2 then 1 else q.2 - p.2)
theorem cmpT_ff {p1 p2 q1 q2 : Int} (h1 : p1 < p2) (h2 : q1 < q2) : cmpT (p1, p2) (q1, q2) = p1 - q1 := by simp [cmpT, h1, h2]
theorem cmpT_fb {p1 p2 q1 q2 : Int} (h1 : p1 < p2) (h2 : ¬ q1 < q2) : cmpT (p1, p2) (q1, q2) = -1 := by simp [cmpT, h1, h2]
theorem cmpT_bf {p1 p2 q1 q2 : Int} (h1 : ¬ p1 < p2) (h2 : q1 < q2) : cmpT (p1, p2) (q1, q2) = 1 := by simp [cmpT, h1, h2]
theorem cmpT_bb {p1 p2 q1 q2 : Int} (h1 : ¬ p1 < p2) (h2 : ¬ q1 < q2) : cmpT (p1, p2) (q1, q2) = q2 - p2 := by simp [cmpT, h1, h2]
set_option maxHeartbeats 4000000 in
theorem compareTasks_any (p q : Int × Int) (w : World) (hp : (0 ≤ p.1 ∧ p.1 ≤ 99) ∧ 0 ≤ p.2 ∧ p.2 ≤ 99) (hq : (0 ≤ q.1 ∧ q.1 ≤ 99) ∧ 0 ≤ q.2 ∧ q.2 ≤ 99) :
    Calls Try.prog 70 #[.agg #[vi p.1, vi p.2], .agg #[vi q.1, vi q.2]] w fun e w' => e = .returned (vi (cmpT p q)) ∧ Below w.heap.size w w' := by
  obtain ⟨p1, p2⟩ := p
  obtain ⟨q1, q2⟩ := q
  simp only at hp hq ⊢
  obtain ⟨⟨hp1, hp2⟩, hp3, hp4⟩ := hp
  obtain ⟨⟨hq1, hq2⟩, hq3, hq4⟩ := hq
  by_cases h1 : p1 < p2
  · by_cases h2 : q1 < q2
    · have Hr := Lib.hid (cmpT_ff h1 h2)
      have d1 : decide (p1 < p2) = true := by simpa using h1
      have d2 : decide (q1 < q2) = true := by simpa using h2
      go_enter Try.func70, Try.ntmps70
      go_wp2
      generalize hw1 : (w.alloc (.cells #[vi p1, vi p2] 46)).alloc (.cells #[vi q1, vi q2] 46) = w1 at *
      have hq0 : w1.cell? ⟨w.heap.size, 0, none⟩ = some (vi p1) := by rw [← hw1]; simp
      have hq1' : w1.cell? ⟨w.heap.size, 1, none⟩ = some (vi p2) := by rw [← hw1]; simp
      have hq2' : w1.cell? ⟨w.heap.size + 1, 0, none⟩ = some (vi q1) := by rw [← hw1]; simp
      have hq3' : w1.cell? ⟨w.heap.size + 1, 1, none⟩ = some (vi q2) := by rw [← hw1]; simp
      have HB := Lib.hid (show Below w.heap.size w w1 by rw [← hw1]; exact ((Below.refl _ _).alloc (Nat.le_refl _) _).alloc (by simp) _)
      clear hw1
      go_quiet (fail)
      go_wp2
      go_ret
      exact ⟨by rw [Hr.out]; rfl, below_drewN HB.out _⟩
    · have Hr := Lib.hid (cmpT_fb h1 h2)
      have g2 : q2 ≤ q1 := by omega
      have d1 : decide (p1 < p2) = true := by simpa using h1
      have d2 : decide (q1 < q2) = false := by simpa using g2
      go_enter Try.func70, Try.ntmps70
      go_wp2
      generalize hw1 : (w.alloc (.cells #[vi p1, vi p2] 46)).alloc (.cells #[vi q1, vi q2] 46) = w1 at *
      have hq0 : w1.cell? ⟨w.heap.size, 0, none⟩ = some (vi p1) := by rw [← hw1]; simp
      have hq1' : w1.cell? ⟨w.heap.size, 1, none⟩ = some (vi p2) := by rw [← hw1]; simp
      have hq2' : w1.cell? ⟨w.heap.size + 1, 0, none⟩ = some (vi q1) := by rw [← hw1]; simp
      have hq3' : w1.cell? ⟨w.heap.size + 1, 1, none⟩ = some (vi q2) := by rw [← hw1]; simp
      have HB := Lib.hid (show Below w.heap.size w w1 by rw [← hw1]; exact ((Below.refl _ _).alloc (Nat.le_refl _) _).alloc (by simp) _)
      clear hw1
      go_quiet (fail)
      go_wp2
      go_ret
      exact ⟨by rw [Hr.out]; rfl, below_drewN HB.out _⟩
  · by_cases h2 : q1 < q2
    · have Hr := Lib.hid (cmpT_bf h1 h2)
      have g1 : p2 ≤ p1 := by omega
      have d1 : decide (p1 < p2) = false := by simpa using g1
      have d2 : decide (q1 < q2) = true := by simpa using h2
      go_enter Try.func70, Try.ntmps70
      go_wp2
      generalize hw1 : (w.alloc (.cells #[vi p1, vi p2] 46)).alloc (.cells #[vi q1, vi q2] 46) = w1 at *
      have hq0 : w1.cell? ⟨w.heap.size, 0, none⟩ = some (vi p1) := by rw [← hw1]; simp
      have hq1' : w1.cell? ⟨w.heap.size, 1, none⟩ = some (vi p2) := by rw [← hw1]; simp
      have hq2' : w1.cell? ⟨w.heap.size + 1, 0, none⟩ = some (vi q1) := by rw [← hw1]; simp
      have hq3' : w1.cell? ⟨w.heap.size + 1, 1, none⟩ = some (vi q2) := by rw [← hw1]; simp
      have HB := Lib.hid (show Below w.heap.size w w1 by rw [← hw1]; exact ((Below.refl _ _).alloc (Nat.le_refl _) _).alloc (by simp) _)
      clear hw1
      go_quiet (fail)
      go_wp2
      go_ret
      exact ⟨by rw [Hr.out]; rfl, below_drewN HB.out _⟩
    · have Hr := Lib.hid (cmpT_bb h1 h2)
      have g1 : p2 ≤ p1 := by omega
      have g2 : q2 ≤ q1 := by omega
      have d1 : decide (p1 < p2) = false := by simpa using g1
      have d2 : decide (q1 < q2) = false := by simpa using g2
      go_enter Try.func70, Try.ntmps70
      go_wp2
      generalize hw1 : (w.alloc (.cells #[vi p1, vi p2] 46)).alloc (.cells #[vi q1, vi q2] 46) = w1 at *
      have hq0 : w1.cell? ⟨w.heap.size, 0, none⟩ = some (vi p1) := by rw [← hw1]; simp
      have hq1' : w1.cell? ⟨w.heap.size, 1, none⟩ = some (vi p2) := by rw [← hw1]; simp
      have hq2' : w1.cell? ⟨w.heap.size + 1, 0, none⟩ = some (vi q1) := by rw [← hw1]; simp
      have hq3' : w1.cell? ⟨w.heap.size + 1, 1, none⟩ = some (vi q2) := by rw [← hw1]; simp
      have HB := Lib.hid (show Below w.heap.size w w1 by rw [← hw1]; exact ((Below.refl _ _).alloc (Nat.le_refl _) _).alloc (by simp) _)
      clear hw1
      go_quiet (fail)
      go_wp2
      go_ret
      exact ⟨by rw [Hr.out]; rfl, below_drewN HB.out _⟩
end Go.Proofs.Ytpabfbaoibmnlaa
