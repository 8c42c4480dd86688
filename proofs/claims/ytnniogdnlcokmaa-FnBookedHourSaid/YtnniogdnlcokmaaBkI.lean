/-
  Contracts: the program books.
-/
import Derived.Test.YtnniogdnlcokmaaBkE
import Derived.Test.YtnniogdnlcokmaaBkF
import Derived.Test.YtnniogdnlcokmaaInsA
namespace Go.Proofs.Ytnniogdnlcokmaa
open Go.RowKit
set_option linter.unusedVariables false
set_option maxRecDepth 100000

set_option maxHeartbeats 4000000 in
theorem implBook (A : Option Addr) (c : Nat) (l : List (Int × Int)) (room t h : Int) (w : World) (hr : Rd encP w A l) (hl : l.length ≤ 10000000) :
    Calls Try.prog 19 #[.slice A l.length c, vi room, vi t, vi h] w (New2Booking w (bookL l room t h) (.bool (bookB l room t h))) := by
  have HR := Lib.hid hr
  clear hr
  go_enter Try.func19, Try.ntmps19
  go_wp2_with fail
  refine (implBookingsValid A c l room w HR.out (by omega)).mono ?_
  rintro e w1 ⟨rfl, hb⟩
  have HB1 := Lib.hid hb
  have HR1 := Lib.hid (HR.out.below hb)
  have hs1 := hb.size
  clear hb
  cases hv : booksOk l room with
  | false =>
    have H1 : Hid (bookL l room t h = []) := Lib.hid (by simp [bookL, hv])
    have H2 : Hid (bookB l room t h = false) := Lib.hid (by simp [bookB, hv])
    go_wp2
    go_ret2
    exact ⟨none, 0, by rw [H1.out, H2.out]; rfl, by rw [H1.out]; exact Own.nil_ _ _, HB1.out⟩
  | true =>
    go_wp2_with fail
    refine (cloneBooking_any A c l w1 HR1.out (by omega)).mono ?_
    rintro e w2 ⟨A1, c1, rfl, ho, hb⟩
    have HB2 := Lib.hid (bthen HB1.out hb)
    have HR2 := Lib.hid (HR1.out.below hb)
    have HO2 := Lib.hid ho
    have hs2 := hb.size
    clear hb ho
    go_wp2_with fail
    refine (bookingAt_any A c l t w2 HR2.out (by omega)).mono ?_
    rintro e w3 ⟨⟨i, hat, rfl⟩, hb⟩
    have HB3 := Lib.hid (bthen HB2.out hb)
    have HO := Lib.hid (HO2.out.below hb)
    have HI := Lib.hid HO.out.in_
    have HA := Lib.hid hat
    have hil := hat.1
    have hs3 := hb.size
    clear hb hat HO2 HR2 HR1
    cases hf : found l t i with
    | true =>
      obtain ⟨hi, ht, hn⟩ := found_hit (asc_books hv) HA.out hf
      have Hp := Lib.hid (place_hit (h := h) (asc_books hv) HA.out hf)
      have Hlen : Hid ((placeL l t h).length = l.length) := Lib.hid (by rw [Hp.out, List.length_set])
      clear ht hn
      rcases HO.out.form with ⟨_, e0⟩ | ⟨g, rfl, hg1, hg2⟩
      · rw [e0] at hi; simp at hi
      have hq := (HO.out.cell2 i hi).2
      have hf1 := HO.out.frozen (i * 2 + 1)
      have HP := Lib.hid (HO.out.put_snd i hi h)
      have HO4 : Hid (Own encP 36 (w3.setCell ⟨g, i * 2 + 1, none⟩ (vi h)) w1.heap.size (some ⟨g, 0, none⟩) l.length c1 (placeL l t h)) := Lib.hid (by rw [Hp.out]; exact HP.out.1)
      have HB4 := Lib.hid (HB3.out.grown HP.out.2 HB3.out.size (fun q hq => by injection hq with hq; omega))
      have HV : Hid (Calls Try.prog 16 #[.slice (some ⟨g, 0, none⟩) l.length c1, vi room] (w3.setCell ⟨g, i * 2 + 1, none⟩ (vi h)) fun e w' => e = .returned (.bool (booksOk (placeL l t h) room)) ∧ Below (w3.setCell ⟨g, i * 2 + 1, none⟩ (vi h)).heap.size (w3.setCell ⟨g, i * 2 + 1, none⟩ (vi h)) w') := Lib.hid (by
        have := implBookingsValid (some ⟨g, 0, none⟩) c1 (placeL l t h) room _ HO4.out.rd (by rw [Hlen.out]; omega)
        rw [Hlen.out] at this
        exact this)
      clear HP
      go_wp2_with fail
      refine HV.out.mono ?_
      rintro e w5 ⟨rfl, hb5⟩
      have HO5 := Lib.hid ((HO4.out.below hb5).mono (b' := w.heap.size) hs1)
      have HB5 := Lib.hid (bthen HB4.out hb5)
      clear hb5 HO4 HB4 HV HO HB3 hq hf1
      cases hv2 : booksOk (placeL l t h) room with
      | false =>
        have H1 : Hid (bookL l room t h = l) := Lib.hid (by simp [bookL, hv, hv2])
        have H2 : Hid (bookB l room t h = false) := Lib.hid (by simp [bookB, hv, hv2])
        go_wp2_with fail
        refine (cloneBooking_any A c l w5 (HR.out.below HB5.out) (by omega)).mono ?_
        rintro e w7 ⟨A7, c7, rfl, ho7, hb7⟩
        have HO7 := Lib.hid (ho7.mono (b' := w.heap.size) HB5.out.size)
        have HB7 := Lib.hid (bthen HB5.out hb7)
        clear ho7 hb7
        go_wp2
        go_ret2
        exact ⟨A7, c7, by rw [H1.out, H2.out]; rfl, by rw [H1.out]; exact HO7.out, HB7.out⟩
      | true =>
        have H1 : Hid (bookL l room t h = placeL l t h) := Lib.hid (by simp [bookL, hv, hv2])
        have H2 : Hid (bookB l room t h = true) := Lib.hid (by simp [bookB, hv, hv2])
        go_wp2
        go_ret2
        exact ⟨some ⟨g, 0, none⟩, c1, by rw [H1.out, H2.out, Hlen.out]; rfl, by rw [H1.out, Hlen.out]; exact HO5.out, HB5.out⟩
    | false =>
      have Hp := Lib.hid (place_miss (h := h) (asc_books hv) HA.out hf)
      have Hlen : Hid ((placeL l t h).length = l.length + 1) := Lib.hid (by rw [Hp.out]; simp; omega)
      have HN := Lib.hid (insertBooking_any w1.heap.size i l.length c1 w3.heap.size A1 l (t, h) (w3.alloc (.cells #[vi t, vi h] 36)) (heap_alloc_new w3 _) (HO.out.alloc _) (by simp; omega) (fun g e => by have := HI.out g (.inl e); omega) hil (by omega))
      go_wp2_with fail
      refine HN.out.mono ?_
      rintro e w4 ⟨A4, c4, rfl, ho4, hg4⟩
      rw [← Hp.out] at ho4
      have HO4 := Lib.hid ho4
      have HB4 := Lib.hid ((HB3.out.alloc HB3.out.size (.cells #[vi t, vi h] 36)).grown hg4 (by simp; omega) (fun q hq => by have := (HI.out q (.inr hq)).1; omega))
      have HV : Hid (Calls Try.prog 16 #[.slice A4 (l.length + 1) c4, vi room] w4 fun e w' => e = .returned (.bool (booksOk (placeL l t h) room)) ∧ Below w4.heap.size w4 w') := Lib.hid (by
        have := implBookingsValid A4 c4 (placeL l t h) room w4 HO4.out.rd (by rw [Hlen.out]; omega)
        rw [Hlen.out] at this
        exact this)
      clear ho4 hg4 HN HO HB3
      go_wp2_with fail
      refine HV.out.mono ?_
      rintro e w5 ⟨rfl, hb5⟩
      have HO5 := Lib.hid ((HO4.out.below hb5).mono (b' := w.heap.size) hs1)
      have HB5 := Lib.hid (bthen HB4.out hb5)
      clear hb5 HO4 HB4 HV
      cases hv2 : booksOk (placeL l t h) room with
      | false =>
        have H1 : Hid (bookL l room t h = l) := Lib.hid (by simp [bookL, hv, hv2])
        have H2 : Hid (bookB l room t h = false) := Lib.hid (by simp [bookB, hv, hv2])
        go_wp2_with fail
        refine (cloneBooking_any A c l w5 (HR.out.below HB5.out) (by omega)).mono ?_
        rintro e w7 ⟨A7, c7, rfl, ho7, hb7⟩
        have HO7 := Lib.hid (ho7.mono (b' := w.heap.size) HB5.out.size)
        have HB7 := Lib.hid (bthen HB5.out hb7)
        clear ho7 hb7
        go_wp2
        go_ret2
        exact ⟨A7, c7, by rw [H1.out, H2.out]; rfl, by rw [H1.out]; exact HO7.out, HB7.out⟩
      | true =>
        have H1 : Hid (bookL l room t h = placeL l t h) := Lib.hid (by simp [bookL, hv, hv2])
        have H2 : Hid (bookB l room t h = true) := Lib.hid (by simp [bookB, hv, hv2])
        go_wp2
        go_ret2
        exact ⟨A4, c4, by rw [H1.out, H2.out, Hlen.out]; rfl, by rw [H1.out, Hlen.out]; exact HO5.out, HB5.out⟩
end Go.Proofs.Ytnniogdnlcokmaa
