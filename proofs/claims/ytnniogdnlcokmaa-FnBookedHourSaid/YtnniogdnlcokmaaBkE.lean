/-
  Contracts: a booking is cancelled.
-/
import Derived.Test.YtnniogdnlcokmaaBkC
import Derived.Test.YtnniogdnlcokmaaBkD
import Derived.Test.YtnniogdnlcokmaaDel
namespace Go.Proofs.Ytnniogdnlcokmaa
open Go.RowKit
set_option linter.unusedVariables false
set_option maxRecDepth 100000

theorem cloneBooking_any (A : Option Addr) (c : Nat) (l : List (Int × Int)) (w : World) (h : Rd encP w A l) (hl : l.length ≤ 1000000000) :
    Calls Try.prog 46 #[.slice A l.length c] w (NewBooking w l) := by
  rcases A with _ | a
  · have hl0 : l = [] := by
      rcases Nat.eq_zero_or_pos l.length with h0 | h0
      · exact List.eq_nil_of_length_eq_zero h0
      · obtain ⟨b, o, e, _⟩ := h h0; cases e
    subst hl0
    have heq := fun w => Lib.run_eql_slice_nil (P := Try.prog) w 25 36 none 0 c 0 0 Try.underlying25
    go_enter Try.func46, Try.ntmps46
    go_wp2
    go_ret
    exact ⟨none, 0, rfl, Own.nil_ _ _, Below.refl _ _⟩
  · have heq := fun w => Lib.run_eql_slice_nil (P := Try.prog) w 25 36 (some a) l.length c 0 0 Try.underlying25
    go_enter Try.func46, Try.ntmps46
    go_wp2_with (at_builtin; refine app_Booking rfl (.tmp 5) (.tmp 6) rfl w.heap.size (some ⟨w.heap.size, 0, none⟩) 0 0 [] rfl (Own.none_made w) (some a) l.length c l rfl (h.alloc _) rfl (by omega) (by simp) ?_; intro A1 c1 w1 hown1 hg1; skip)
    have hb1 : Below w.heap.size w w1 := ((Below.refl _ _).alloc (Nat.le_refl _) _).grown hg1 (by simp) (fun k hk => by simp [blk] at hk; omega)
    go_ret
    simp only [Nat.zero_add, List.nil_append] at hown1
    exact ⟨A1, c1, by simp, hown1, hb1⟩

set_option maxHeartbeats 2000000 in
theorem implCancel (A : Option Addr) (c : Nat) (l : List (Int × Int)) (room t : Int) (w : World) (h : Rd encP w A l) (hl : l.length ≤ 1000000000) :
    Calls Try.prog 28 #[.slice A l.length c, vi room, vi t] w (New2Booking w (cancelL l room t) (.bool (cancelB l room t))) := by
  have HR := Lib.hid h
  clear h
  go_enter Try.func28, Try.ntmps28
  go_wp2_with fail
  refine (implBookingsValid A c l room w HR.out hl).mono ?_
  rintro e w1 ⟨rfl, hb⟩
  have HB1 := Lib.hid hb
  have HR1 := Lib.hid (HR.out.below hb)
  have hs1 := hb.size
  clear hb
  cases hv : booksOk l room with
  | false =>
    have H1 : Hid (cancelL l room t = []) := Lib.hid (by simp [cancelL, hv])
    have H2 : Hid (cancelB l room t = false) := Lib.hid (by simp [cancelB, hv])
    go_wp2
    go_ret2
    exact ⟨none, 0, by rw [H1.out, H2.out]; rfl, by rw [H1.out]; exact Own.nil_ _ _, HB1.out⟩
  | true =>
    have H1 : Hid (cancelL l room t = without l t) := Lib.hid (by simp [cancelL, hv])
    have H2 : Hid (cancelB l room t = decide ((without l t).length < l.length)) := Lib.hid (by simp [cancelB, hv])
    go_wp2_with fail
    refine (cloneBooking_any A c l w1 HR1.out hl).mono ?_
    rintro e w2 ⟨A1, c1, rfl, ho, hb⟩
    have HB2 := Lib.hid (bthen HB1.out hb)
    have HR2 := Lib.hid (HR1.out.below hb)
    have HO := Lib.hid ho
    have hs2 := hb.size
    clear hb ho
    go_wp2_with fail
    refine (bookingAt_any A c l t w2 HR2.out hl).mono ?_
    rintro e w3 ⟨⟨i, hat, rfl⟩, hb⟩
    have HB3 := Lib.hid (bthen HB2.out hb)
    have HO := Lib.hid (HO.out.below hb)
    have HA := Lib.hid hat
    have hs3 := hb.size
    clear hb hat
    cases hf : found l t i with
    | false =>
      have Hw := Lib.hid (without_none (found_miss (asc_books hv) HA.out hf).1)
      go_wp2
      go_ret2
      exact ⟨A1, c1, by rw [H1.out, H2.out, Hw.out]; simp, by rw [H1.out, Hw.out]; exact HO.out.mono (by omega), HB3.out⟩
    | true =>
      obtain ⟨hi, ht, hn⟩ := found_hit (asc_books hv) HA.out hf
      have Hw := Lib.hid (without_at hi ht hn)
      clear ht hn
      obtain ⟨N, hN⟩ : ∃ N, l.length = N + 1 := ⟨l.length - 1, by omega⟩
      have Hlen : Hid ((without l t).length = N) := Lib.hid (by rw [Hw.out]; simp; omega)
      rcases HO.out.form with ⟨_, e0⟩ | ⟨g, rfl, hg1, hg2⟩
      · rw [e0] at hN; simp at hN
      have hD := deleteBooking_any g N c1 w1.heap.size i l w3 (by rw [← hN]; exact HO.out) (by omega) (by omega)
      have HD := Lib.hid hD
      clear hD
      go_wp2_with fail
      refine HD.out.mono ?_
      rintro e w4 ⟨rfl, ho, hg⟩
      have HO4 := Lib.hid ho
      have HB4 := Lib.hid (HB3.out.grown hg HB3.out.size (fun q hq => by injection hq with hq; omega))
      clear ho hg
      go_wp2
      go_ret2
      exact ⟨some ⟨g, 0, none⟩, c1, by rw [H1.out, H2.out, Hlen.out, decide_eq_true (show N < l.length by omega)]; rfl, by rw [H1.out, Hlen.out, Hw.out]; exact HO4.out.mono (by omega), HB4.out⟩
end Go.Proofs.Ytnniogdnlcokmaa
