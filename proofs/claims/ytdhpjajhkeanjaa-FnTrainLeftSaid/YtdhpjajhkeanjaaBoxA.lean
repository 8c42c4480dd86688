/-
  Contracts: boxes are valid; a box is looked for.
-/
import Derived.Test.YtdhpjajhkeanjaaBoxS
import Derived.Test.YtdhpjajhkeanjaaPast
namespace Go.Proofs.Ytdhpjajhkeanjaa
open Go.RowKit
set_option linter.unusedVariables false


theorem isId_any (n : Int) (w : World) :
    Calls Try.prog 74 #[vi n] w fun e w' => e = .returned (.bool (win n 1 999)) ∧ w = w' := by
  go_enter Try.func74, Try.ntmps74
  go_wp2_with (go_at_call 46; refine (within_any _ _ _ _).mono ?_; rintro e w' ⟨rfl, rfl⟩)
  go_ret
  exact ⟨rfl, rfl⟩

theorem implBoxValid (b : Bx) (w : World) :
    Calls Try.prog 68 #[.agg #[vi b.id, vi b.wt, vi b.cls, vi b.port, .bool b.cold]] w fun e w' => e = .returned (.bool (boxOk b)) ∧ Below w.heap.size w w' := by
  cases h1 : win b.id 1 999 with
  | false =>
    have H := Lib.hid (show boxOk b = false by simp [boxOk, h1])
    go_enter Try.func68, Try.ntmps68
    go_wp2_with (first | (go_at_call 46; refine (within_any _ _ _ _).mono ?_; rintro e w' ⟨rfl, rfl⟩) | (go_at_call 74; refine (isId_any _ _).mono ?_; rintro e w' ⟨rfl, rfl⟩))
    go_ret
    exact ⟨by rw [H.out]; rfl, (Below.refl _ _).alloc (Nat.le_refl _) _⟩
  | true =>
    cases h2 : win b.wt 1 30 with
    | false =>
      have H := Lib.hid (show boxOk b = false by simp [boxOk, h2])
      go_enter Try.func68, Try.ntmps68
      go_wp2_with (first | (go_at_call 46; refine (within_any _ _ _ _).mono ?_; rintro e w' ⟨rfl, rfl⟩) | (go_at_call 74; refine (isId_any _ _).mono ?_; rintro e w' ⟨rfl, rfl⟩))
      go_ret
      exact ⟨by rw [H.out]; rfl, (Below.refl _ _).alloc (Nat.le_refl _) _⟩
    | true =>
      cases h3 : win b.cls 0 3 with
      | false =>
        have H := Lib.hid (show boxOk b = false by simp [boxOk, h3])
        go_enter Try.func68, Try.ntmps68
        go_wp2_with (first | (go_at_call 46; refine (within_any _ _ _ _).mono ?_; rintro e w' ⟨rfl, rfl⟩) | (go_at_call 74; refine (isId_any _ _).mono ?_; rintro e w' ⟨rfl, rfl⟩))
        go_ret
        exact ⟨by rw [H.out]; rfl, (Below.refl _ _).alloc (Nat.le_refl _) _⟩
      | true =>
        have H := Lib.hid (show boxOk b = win b.port 0 6 by simp [boxOk, h1, h2, h3])
        go_enter Try.func68, Try.ntmps68
        go_wp2_with (first | (go_at_call 46; refine (within_any _ _ _ _).mono ?_; rintro e w' ⟨rfl, rfl⟩) | (go_at_call 74; refine (isId_any _ _).mono ?_; rintro e w' ⟨rfl, rfl⟩))
        go_ret
        exact ⟨by rw [H.out]; rfl, (Below.refl _ _).alloc (Nat.le_refl _) _⟩

theorem specBoxValid (b : Bx) (w : World) :
    Calls Try.prog 56 #[.agg #[vi b.id, vi b.wt, vi b.cls, vi b.port, .bool b.cold]] w fun e w' => e = .returned (.bool (boxOk b)) ∧ Below w.heap.size w w' := by
  cases h1 : win b.id 1 999 with
  | false =>
    have H := Lib.hid (show boxOk b = false by simp [boxOk, h1])
    go_enter Try.func56, Try.ntmps56
    go_wp2_with (go_at_call 44; refine (l1In_any _ _ _ _).mono ?_; rintro e w' ⟨rfl, rfl⟩)
    go_ret
    exact ⟨by rw [H.out]; rfl, (Below.refl _ _).alloc (Nat.le_refl _) _⟩
  | true =>
    cases h2 : win b.wt 1 30 with
    | false =>
      have H := Lib.hid (show boxOk b = false by simp [boxOk, h2])
      go_enter Try.func56, Try.ntmps56
      go_wp2_with (go_at_call 44; refine (l1In_any _ _ _ _).mono ?_; rintro e w' ⟨rfl, rfl⟩)
      go_ret
      exact ⟨by rw [H.out]; rfl, (Below.refl _ _).alloc (Nat.le_refl _) _⟩
    | true =>
      cases h3 : win b.cls 0 3 with
      | false =>
        have H := Lib.hid (show boxOk b = false by simp [boxOk, h3])
        go_enter Try.func56, Try.ntmps56
        go_wp2_with (go_at_call 44; refine (l1In_any _ _ _ _).mono ?_; rintro e w' ⟨rfl, rfl⟩)
        go_ret
        exact ⟨by rw [H.out]; rfl, (Below.refl _ _).alloc (Nat.le_refl _) _⟩
      | true =>
        have H := Lib.hid (show boxOk b = win b.port 0 6 by simp [boxOk, h1, h2, h3])
        go_enter Try.func56, Try.ntmps56
        go_wp2_with (go_at_call 44; refine (l1In_any _ _ _ _).mono ?_; rintro e w' ⟨rfl, rfl⟩)
        go_ret
        exact ⟨by rw [H.out]; rfl, (Below.refl _ _).alloc (Nat.le_refl _) _⟩

theorem l2Find_any (A : Option Addr) (c : Nat) (l : List Bx) (i : Int) (w : World) (h : Rd encB w A l) (hl : l.length ≤ 1000000000) :
    Calls Try.prog 57 #[.slice A l.length c, vi i] w fun e w' => e = .returned (vi (idPos l i)) ∧ w = w' := by
  go_enter Try.func57, Try.ntmps57
  go_wp2
  go_loop [5] (fun v => ∃ k : Nat, k ≤ l.length ∧ v = vi k ∧ (∀ j, j < k → (nth l j).id ≠ i)) (fun v => l.length - (intOf v).toNat)
  case atStart => exact ⟨0, Nat.zero_le _, rfl, fun j hj => absurd hj (by omega)⟩
  case round =>
    obtain ⟨k, hk, rfl, hj⟩ := hrel
    have Hj := Lib.hid hj
    clear hj
    by_cases hlt : k < l.length
    · obtain ⟨b, o, rfl, hbl, _⟩ := h (by omega)
      obtain ⟨hc1, _, _, _, _⟩ := h.at5 k hlt
      clear h
      by_cases he : (nth l k).id = i
      · have he1 : ((nth l k).id == i) = true := by simp [he]
        have Hr := Lib.hid (idPos_hit hlt he Hj.out)
        clear he
        go_wp2
        go_ret
        exact ⟨by rw [Hr.out]; rfl, rfl⟩
      · have he1 : ((nth l k).id == i) = false := by simp [he]
        have He := Lib.hid he
        clear he
        go_wp2
        go_round
        case rel => exact ⟨k + 1, by omega, by go_num, fun j hj => by
          rcases Nat.lt_succ_iff_lt_or_eq.1 hj with h1 | h1
          · exact Hj.out j h1
          · subst h1; exact He.out⟩
        case measure => simp [intOf]; omega
    · obtain rfl : k = l.length := by omega
      have Hr := Lib.hid (idPos_miss Hj.out)
      go_wp2
      go_ret
      exact ⟨by rw [Hr.out]; rfl, rfl⟩

theorem boxAt1_any (B : Nat) (i : Int) (b : Bx) (w : World) (hB : w.cell? ⟨B, 0, none⟩ = some (vi i)) :
    Calls Try.prog 71 #[.agg #[vi b.id, vi b.wt, vi b.cls, vi b.port, .bool b.cold], .pointer (some ⟨B, 0, none⟩)] w fun e w' => e = .returned (.bool (b.id == i)) ∧ Below w.heap.size w w' := by
  have hlt := World.block_lt_of_cell? w _ hB
  simp only at hlt
  have hne : B ≠ w.heap.size := by omega
  go_enter Try.func71, Try.ntmps71
  go_wp2
  go_ret
  exact ⟨rfl, (Below.refl _ _).alloc (Nat.le_refl _) _⟩

theorem indexBox_any (A : Option Addr) (c : Nat) (l : List Bx) (B : Nat) (i : Int) (w : World) (h : Rd encB w A l) (hB : w.cell? ⟨B, 0, none⟩ = some (vi i)) (hl : l.length ≤ 1000000000) :
    Calls Try.prog 70 #[.slice A l.length c, .func (.func 71) #[] #[.pointer (some ⟨B, 0, none⟩)]] w fun e w' => e = .returned (vi (idPos l i)) ∧ Below w.heap.size w w' := by
  have hlB := World.block_lt_of_cell? w _ hB
  simp only at hlB
  go_enter Try.func70, Try.ntmps70
  go_wp2
  go_loopw [5, 8] (fun u v wr => ∃ k : Nat, k ≤ l.length ∧ v = vi k ∧ (∀ j, j < k → (nth l j).id ≠ i) ∧ Below w.heap.size w wr) (fun _ v _ => l.length - (intOf v).toNat)
  case atStart => exact ⟨0, Nat.zero_le _, rfl, (fun j hj => absurd hj (by omega)), Below.refl _ _⟩
  case round =>
    obtain ⟨k, hk, rfl, hj, hb⟩ := hrel
    have Hj := Lib.hid hj
    have HB := Lib.hid hb
    clear hj
    by_cases hlt : k < l.length
    · obtain ⟨b, o, rfl, hbl, _⟩ := h.below hb (by omega)
      obtain ⟨hc1, hc2, hc3, hc4, hc5⟩ := (h.below hb).at5 k hlt
      have hB' : wr.cell? ⟨B, 0, none⟩ = some (vi i) := (hb.cell (p := ⟨B, 0, none⟩) hlB).trans hB
      clear h hb hB
      have hcl := boxAt1_any B i (nth l k) wr hB'
      clear hB'
      by_cases he : (nth l k).id = i
      · have he1 : ((nth l k).id == i) = true := by simp [he]
        rw [he1] at hcl
        have Hcl := Lib.hid hcl
        have Hr := Lib.hid (idPos_hit hlt he Hj.out)
        clear he he1 hcl
        go_wp2_with fail
        refine Hcl.out.mono ?_
        rintro e w2 ⟨rfl, hb2⟩
        have HB2 := Lib.hid (bthen HB.out hb2)
        clear hb2
        go_wp2
        go_ret
        exact ⟨by rw [Hr.out]; rfl, HB2.out⟩
      · have he1 : ((nth l k).id == i) = false := by simp [he]
        rw [he1] at hcl
        have Hcl := Lib.hid hcl
        have He := Lib.hid he
        clear he he1 hcl
        go_wp2_with fail
        refine Hcl.out.mono ?_
        rintro e w2 ⟨rfl, hb2⟩
        have HB2 := Lib.hid (bthen HB.out hb2)
        clear hb2
        go_wp2
        go_roundw
        case rel => exact ⟨k + 1, by omega, by go_num, (fun j hj => by
          rcases Nat.lt_succ_iff_lt_or_eq.1 hj with h1 | h1
          · exact Hj.out j h1
          · subst h1; exact He.out), HB2.out⟩
        case measure => simp [intOf]; omega
    · obtain rfl : k = l.length := by omega
      have Hr := Lib.hid (idPos_miss Hj.out)
      clear hb
      go_wp2
      go_ret
      exact ⟨by rw [Hr.out]; rfl, HB.out⟩

theorem boxAt_any (A : Option Addr) (c : Nat) (l : List Bx) (i : Int) (w : World) (h : Rd encB w A l) (hl : l.length ≤ 1000000000) :
    Calls Try.prog 62 #[.slice A l.length c, vi i] w fun e w' => e = .returned (vi (idPos l i)) ∧ Below w.heap.size w w' := by
  have HC := Lib.hid (indexBox_any A c l w.heap.size i (w.alloc (.cells #[vi i] 3)) (h.alloc _) (by simp) hl)
  go_enter Try.func62, Try.ntmps62
  go_wp2_with fail
  refine HC.out.mono ?_
  rintro e w2 ⟨rfl, hb2⟩
  have HB2 := Lib.hid (bthen ((Below.refl _ w).alloc (Nat.le_refl _) _) hb2)
  clear hb2
  go_wp2
  go_ret
  exact ⟨rfl, HB2.out⟩

theorem specBoxesValid (A : Option Addr) (c : Nat) (l : List Bx) (w : World) (h : Rd encB w A l) (hl : l.length ≤ 1000000000) :
    Calls Try.prog 30 #[.slice A l.length c] w fun e w' => e = .returned (.bool (boxesOk l)) ∧ Below w.heap.size w w' := by
  go_enter Try.func30, Try.ntmps30
  go_wp2
  go_loopw [3] (fun i wr => ∃ k : Nat, k ≤ l.length ∧ i = vi k ∧ (∀ j, j < k → bxOk l j = true) ∧ Below w.heap.size w wr) (fun i _ => l.length - (intOf i).toNat)
  case atStart => exact ⟨0, Nat.zero_le _, rfl, (fun j hj => absurd hj (by omega)), Below.refl _ _⟩
  case round =>
    obtain ⟨k, hk, rfl, hj, hb⟩ := hrel
    have Hj := Lib.hid hj
    have HB := Lib.hid hb
    have hsz := hb.size
    clear hj
    by_cases hlt : k < l.length
    · have HR := Lib.hid (h.below hb)
      obtain ⟨b, o, rfl, hbl, _⟩ := h.below hb (by omega)
      obtain ⟨hc1, hc2, hc3, hc4, hc5⟩ := (h.below hb).at5 k hlt
      clear h hb
      cases hw1 : boxOk (nth l k) with
      | false =>
        have Hr := Lib.hid (boxesOk_no k hlt (bxOk_f1 hw1))
        go_wp2_with fail
        refine (specBoxValid (nth l k) _).mono ?_
        rw [hw1]
        rintro e w2 ⟨rfl, hb2⟩
        have HB2 := Lib.hid (bthen HB.out hb2)
        clear hb2
        go_wp2
        go_ret
        exact ⟨by rw [Hr.out]; rfl, HB2.out⟩
      | true =>
        go_wp2_with fail
        refine (specBoxValid (nth l k) _).mono ?_
        rw [hw1]
        rintro e w2 ⟨rfl, hb2⟩
        have HB2 := Lib.hid (bthen HB.out hb2)
        have hR2 := HR.out.below hb2
        have HR2 := Lib.hid hR2
        obtain ⟨hd1, hd2, hd3, hd4, hd5⟩ := hR2.at5 k hlt
        clear hb2 hR2
        go_wp2_with fail
        refine (l2Find_any _ _ l _ _ HR2.out hl).mono ?_
        rintro e w' ⟨rfl, rfl⟩
        cases hw2 : decide (idPos l (nth l k).id < k) with
        | true =>
          have Hr := Lib.hid (boxesOk_no k hlt (bxOk_f2 hlt (by simpa using hw2)))
          have hw3 : idPos l (nth l k).id < (k : Int) := by simpa using hw2
          go_wp2
          go_ret
          exact ⟨by rw [Hr.out]; rfl, HB2.out⟩
        | false =>
          have hw3 : ¬ idPos l (nth l k).id < (k : Int) := by simpa using hw2
          have Hk := Lib.hid (bxOk_mk hw1 hw3)
          go_wp2
          go_roundw
          case rel => exact ⟨k + 1, by omega, by go_num, (fun j hj => by
            rcases Nat.lt_succ_iff_lt_or_eq.1 hj with h1 | h1
            · exact Hj.out j h1
            · subst h1; exact Hk.out), HB2.out⟩
          case measure => simp [intOf]; omega
    · obtain rfl : k = l.length := by omega
      have Hr : Hid (boxesOk l = decide ((l.length : Int) ≤ 10)) := Lib.hid (boxesOk_mk Hj.out)
      clear hb
      go_wp2
      go_ret
      exact ⟨by rw [Hr.out]; rfl, HB.out⟩

theorem implBoxesValid (A : Option Addr) (c : Nat) (l : List Bx) (w : World) (h : Rd encB w A l) (hl : l.length ≤ 1000000000) (hcap : l.length ≤ c) :
    Calls Try.prog 52 #[.slice A l.length c] w fun e w' => e = .returned (.bool (boxesOk l)) ∧ Below w.heap.size w w' := by
  go_enter Try.func52, Try.ntmps52
  go_wp2
  go_loopw [7] (fun i wr => ∃ k : Nat, k ≤ l.length ∧ i = vi k ∧ (∀ j, j < k → bxOk l j = true) ∧ Below w.heap.size w wr) (fun i _ => l.length - (intOf i).toNat)
  case atStart => exact ⟨0, Nat.zero_le _, rfl, (fun j hj => absurd hj (by omega)), Below.refl _ _⟩
  case round =>
    obtain ⟨k, hk, rfl, hj, hb⟩ := hrel
    have Hj := Lib.hid hj
    have HB := Lib.hid hb
    have hsz := hb.size
    clear hj
    by_cases hlt : k < l.length
    · obtain ⟨b, o, rfl, hbl, _⟩ := h.below hb (by omega)
      have HR := Lib.hid (h.below hb)
      obtain ⟨hc1, hc2, hc3, hc4, hc5⟩ := (h.below hb).at5 k hlt
      have hcc : (k : Int) ≤ (c : Int) := by omega
      clear h hb
      cases hv : boxOk (nth l k) with
      | false =>
        have Hr := Lib.hid (boxesOk_no k hlt (bxOk_f1 hv))
        have Hv := Lib.hid hv
        clear hv
        go_wp2
        generalize hw1 : wr.alloc (.cells #[vi (nth l k).id, vi (nth l k).wt, vi (nth l k).cls, vi (nth l k).port, .bool (nth l k).cold] 52) = w1
        have hq0 := Past.cell (show w1.cell? ⟨wr.heap.size, 0, none⟩ = some (vi (nth l k).id) by rw [← hw1]; simp)
        have hq1 := Past.cell (show w1.cell? ⟨wr.heap.size, 1, none⟩ = some (vi (nth l k).wt) by rw [← hw1]; simp)
        have hq2 := Past.cell (show w1.cell? ⟨wr.heap.size, 2, none⟩ = some (vi (nth l k).cls) by rw [← hw1]; simp)
        have hq3 := Past.cell (show w1.cell? ⟨wr.heap.size, 3, none⟩ = some (vi (nth l k).port) by rw [← hw1]; simp)
        have hq4 := Past.cell (show w1.cell? ⟨wr.heap.size, 4, none⟩ = some (.bool (nth l k).cold) by rw [← hw1]; simp)
        have HB1 := Lib.hid (show Below w.heap.size w w1 by rw [← hw1]; exact HB.out.alloc HB.out.size _)
        have HR1 := Lib.hid (show Rd encB w1 (some ⟨b, o, none⟩) l by rw [← hw1]; exact HR.out.alloc _)
        clear hw1
        refine wp_region_past (by kernel_rfl) (by kernel_rfl) ?_
        repeat (go_big_quiet_step (((go_at_call 68; exact past_call (by have := implBoxValid (nth l k) (Past.val (by assumption)); rw [Hv.out] at this; exact this)))))
        refine wpQuiet_nil ?_
        rintro ⟨w2, hb2⟩
        simp only
        have HB2 := Lib.hid (bthen HB1.out hb2)
        clear hb2
        go_wp2
        go_ret
        exact ⟨by rw [Hr.out]; rfl, HB2.out⟩
      | true =>
        have Hv := Lib.hid hv
        clear hv
        have hlk : (l.take k).length = k := by rw [List.length_take]; omega
        have hip := idPos_here hlt
        have hbo := fun (w' : World) (h : Rd encB w' (some ⟨b, o, none⟩) l) => boxAt_any (some ⟨b, o, none⟩) c (l.take k) (nth l k).id w' (h.take k) (by omega)
        rw [hlk] at hbo
        have Hbo := Lib.hid hbo
        clear hbo
        cases hw2 : decide (idPos l (nth l k).id < k) with
        | true =>
          have Hr := Lib.hid (boxesOk_no k hlt (bxOk_f2 hlt (by simpa using hw2)))
          have hge : (idPos (l.take k) (nth l k).id ≥ 0) := idPos_take_t hlt (by simpa using hw2)
          clear hip hw2 hlk
          go_wp2
          generalize hw1 : wr.alloc (.cells #[vi (nth l k).id, vi (nth l k).wt, vi (nth l k).cls, vi (nth l k).port, .bool (nth l k).cold] 52) = w1
          have hq0 := Past.cell (show w1.cell? ⟨wr.heap.size, 0, none⟩ = some (vi (nth l k).id) by rw [← hw1]; simp)
          have hq1 := Past.cell (show w1.cell? ⟨wr.heap.size, 1, none⟩ = some (vi (nth l k).wt) by rw [← hw1]; simp)
          have hq2 := Past.cell (show w1.cell? ⟨wr.heap.size, 2, none⟩ = some (vi (nth l k).cls) by rw [← hw1]; simp)
          have hq3 := Past.cell (show w1.cell? ⟨wr.heap.size, 3, none⟩ = some (vi (nth l k).port) by rw [← hw1]; simp)
          have hq4 := Past.cell (show w1.cell? ⟨wr.heap.size, 4, none⟩ = some (.bool (nth l k).cold) by rw [← hw1]; simp)
          have HB1 := Lib.hid (show Below w.heap.size w w1 by rw [← hw1]; exact HB.out.alloc HB.out.size _)
          have HR1 := Lib.hid (show Rd encB w1 (some ⟨b, o, none⟩) l by rw [← hw1]; exact HR.out.alloc _)
          clear hw1
          refine wp_region_past (by kernel_rfl) (by kernel_rfl) ?_
          repeat (go_big_quiet_step ((first | (go_at_call 68; exact past_call (by have := implBoxValid (nth l k) (Past.val (by assumption)); rw [Hv.out] at this; exact this)) | (go_at_call 62; exact past_call (Hbo.out _ (HR1.out.past _))))))
          refine wpQuiet_nil ?_
          rintro ⟨w2, hb2⟩
          simp only
          have HB2 := Lib.hid (bthen HB1.out hb2)
          clear hb2
          go_wp2
          go_ret
          exact ⟨by rw [Hr.out]; rfl, HB2.out⟩
        | false =>
          have hge : ¬ (idPos (l.take k) (nth l k).id ≥ 0) := idPos_take_f hlt (by simpa using hw2)
          have Hk := Lib.hid (bxOk_mk Hv.out (by simpa using hw2))
          clear hip hw2 hlk
          go_wp2
          generalize hw1 : wr.alloc (.cells #[vi (nth l k).id, vi (nth l k).wt, vi (nth l k).cls, vi (nth l k).port, .bool (nth l k).cold] 52) = w1
          have hq0 := Past.cell (show w1.cell? ⟨wr.heap.size, 0, none⟩ = some (vi (nth l k).id) by rw [← hw1]; simp)
          have hq1 := Past.cell (show w1.cell? ⟨wr.heap.size, 1, none⟩ = some (vi (nth l k).wt) by rw [← hw1]; simp)
          have hq2 := Past.cell (show w1.cell? ⟨wr.heap.size, 2, none⟩ = some (vi (nth l k).cls) by rw [← hw1]; simp)
          have hq3 := Past.cell (show w1.cell? ⟨wr.heap.size, 3, none⟩ = some (vi (nth l k).port) by rw [← hw1]; simp)
          have hq4 := Past.cell (show w1.cell? ⟨wr.heap.size, 4, none⟩ = some (.bool (nth l k).cold) by rw [← hw1]; simp)
          have HB1 := Lib.hid (show Below w.heap.size w w1 by rw [← hw1]; exact HB.out.alloc HB.out.size _)
          have HR1 := Lib.hid (show Rd encB w1 (some ⟨b, o, none⟩) l by rw [← hw1]; exact HR.out.alloc _)
          clear hw1
          refine wp_region_past (by kernel_rfl) (by kernel_rfl) ?_
          repeat (go_big_quiet_step ((first | (go_at_call 68; exact past_call (by have := implBoxValid (nth l k) (Past.val (by assumption)); rw [Hv.out] at this; exact this)) | (go_at_call 62; exact past_call (Hbo.out _ (HR1.out.past _))))))
          refine wpQuiet_nil ?_
          rintro ⟨w2, hb2⟩
          simp only
          have HB2 := Lib.hid (bthen HB1.out hb2)
          clear hb2
          go_wp2
          go_roundw
          case rel => exact ⟨k + 1, by omega, by go_num, (fun j hj => by
            rcases Nat.lt_succ_iff_lt_or_eq.1 hj with h1 | h1
            · exact Hj.out j h1
            · subst h1; exact Hk.out), HB2.out⟩
          case measure => simp [intOf]; omega
    · obtain rfl : k = l.length := by omega
      have Hr : Hid (boxesOk l = decide ((l.length : Int) ≤ 10)) := Lib.hid (boxesOk_mk Hj.out)
      clear hb
      go_wp2
      go_ret
      exact ⟨by rw [Hr.out]; rfl, HB.out⟩
end Go.Proofs.Ytdhpjajhkeanjaa
