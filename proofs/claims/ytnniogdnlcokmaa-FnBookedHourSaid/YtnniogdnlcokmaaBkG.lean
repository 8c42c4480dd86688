/-
  Contracts: the reference cancels and books.
-/
import Derived.Test.YtnniogdnlcokmaaBkC
import Derived.Test.YtnniogdnlcokmaaBkF
import Derived.Test.YtnniogdnlcokmaaStepE
namespace Go.Proofs.Ytnniogdnlcokmaa
open Go.RowKit
set_option linter.unusedVariables false
set_option maxRecDepth 100000

/-- A new slice, not nil, and a value beside it. -/
def New2At (w : World) (l : List (Int × Int)) (v : Value) (e : Ending) (w' : World) : Prop :=
  ∃ g c, e = .returned (.tuple #[.slice (some ⟨g, 0, none⟩) l.length c, v]) ∧ Own encP 36 w' w.heap.size (some ⟨g, 0, none⟩) l.length c l ∧ Below w.heap.size w w'

set_option maxHeartbeats 2000000 in
theorem specCancelAt (A : Option Addr) (c : Nat) (l : List (Int × Int)) (room t : Int) (w : World) (h : Rd encP w A l) (hl : l.length ≤ 100000000) :
    Calls Try.prog 29 #[.slice A l.length c, vi room, vi t] w (New2At w (cancelL l room t) (.bool (cancelB l room t))) := by
  have HZ := Lib.hid (Own.none_made (e := encP) (E := 36) w)
  have HR := Lib.hid h
  have HR0 := Lib.hid (h.alloc (.cells #[] 36))
  clear h
  go_enter Try.func29, Try.ntmps29
  go_wp2_with fail
  refine (specBookingsValid A c l room _ HR0.out (by omega)).mono ?_
  rintro e w1 ⟨rfl, hb⟩
  have HB1 : Hid (Below w.heap.size w w1) := Lib.hid (((Below.refl _ _).alloc (Nat.le_refl _) _).trans (hb.mono (by simp)))
  have HO1 := Lib.hid (HZ.out.below hb)
  have hs1 : w.heap.size + 1 ≤ w1.heap.size := by have := hb.size; simpa using this
  clear hb HZ HR0
  cases hv : booksOk l room with
  | false =>
    have H1 : Hid (cancelL l room t = []) := Lib.hid (by simp [cancelL, hv])
    have H2 : Hid (cancelB l room t = false) := Lib.hid (by simp [cancelB, hv])
    go_wp2
    go_ret2
    exact ⟨w.heap.size, 0, by rw [H1.out, H2.out]; rfl, by rw [H1.out]; exact HO1.out, HB1.out⟩
  | true =>
    have H1 : Hid (cancelL l room t = without l t) := Lib.hid (by simp [cancelL, hv])
    have H2 : Hid (cancelB l room t = decide ((without l t).length < l.length)) := Lib.hid (by simp [cancelB, hv])
    go_wp2
    go_loopw [8, 9] (fun v i wr => ∃ (k : Nat) (g : Nat) (c' : Nat) (m : List (Int × Int)), k ≤ l.length ∧ i = vi k ∧ v = .slice (some ⟨g, 0, none⟩) m.length c' ∧ m = without (l.take k) t ∧ Own encP 36 wr w.heap.size (some ⟨g, 0, none⟩) m.length c' m ∧ Below w.heap.size w wr) (fun _ i _ => l.length - (intOf i).toNat)
    case atStart => exact ⟨0, w.heap.size, 0, [], Nat.zero_le _, rfl, rfl, rfl, HO1.out, HB1.out⟩
    case round =>
      obtain ⟨k, g, c', m, hk, rfl, rfl, hm, ho, hb⟩ := hrel
      have HM := Lib.hid hm
      have HO := Lib.hid ho
      have HI := Lib.hid ho.in_
      have HB := Lib.hid hb
      have hsz := hb.size
      have hml : m.length ≤ k := by rw [hm]; exact Nat.le_trans (length_without _ _) (List.length_take_le _ _)
      have hR := HR.out.below hb
      clear hm ho hb
      by_cases hlt : k < l.length
      · obtain ⟨b, o, rfl, hbl, _⟩ := hR (by omega)
        obtain ⟨hc1, hc2⟩ := hR.at2 k hlt
        clear hR
        by_cases he : (nth l k).1 = t
        · have he1 : ((nth l k).1 != t) = false := by simp [he]
          have HS := Lib.hid (without_take_yes hlt he)
          clear he
          go_wp2
          go_roundw
          case rel => exact ⟨k + 1, g, c', m, by omega, by go_num, rfl, by rw [HM.out, HS.out], HO.out, HB.out⟩
          case measure => simp [intOf]; omega
        · have he1 : ((nth l k).1 != t) = true := by simp [he]
          have HS := Lib.hid (without_take_no hlt he)
          have HL := Lib.hid (Own.lit (E := 36) (e := encP) wr #[vi (nth l k).1, vi (nth l k).2] [nth l k] rfl (by simp [maxLen]))
          clear he
          go_wp2_with (at_builtin; refine app_Booking rfl (.tmp 29) (.tmp 34) rfl w.heap.size (some ⟨g, 0, none⟩) m.length c' m rfl (HO.out.alloc _) (some ⟨wr.heap.size, 0, none⟩) 1 1 [nth l k] rfl HL.out.rd rfl (by omega) (by simp; omega) ?_; intro A7 c7 w7 ho7 hg7; skip)
          have HO7 := Lib.hid ho7
          have HB7 := Lib.hid ((HB.out.alloc hsz (.cells #[vi (nth l k).1, vi (nth l k).2] 36)).grown hg7 (by simp; omega) (fun q hq => (HI.out q (.inr hq)).1))
          rcases ho7.form with ⟨_, e0⟩ | ⟨g7, rfl, _, _⟩
          · simp at e0
          clear ho7 hg7
          go_wp2
          go_roundw
          case rel => exact ⟨k + 1, g7, c7, m ++ [nth l k], by omega, by go_num, by simp, by rw [HM.out, HS.out], by simpa using HO7.out, HB7.out⟩
          case measure => simp [intOf]; omega
      · obtain rfl : k = l.length := by omega
        have HT : Hid (m = without l t) := Lib.hid (by rw [HM.out, List.take_length])
        clear hR
        go_wp2
        go_ret2
        exact ⟨g, c', by rw [H1.out, H2.out, ← HT.out]; rfl, by rw [H1.out, ← HT.out]; exact HO.out, HB.out⟩
theorem specCancel (A : Option Addr) (c : Nat) (l : List (Int × Int)) (room t : Int) (w : World) (h : Rd encP w A l) (hl : l.length ≤ 100000000) :
    Calls Try.prog 29 #[.slice A l.length c, vi room, vi t] w (New2Booking w (cancelL l room t) (.bool (cancelB l room t))) :=
  (specCancelAt A c l room t w h hl).mono fun _ _ ⟨g, c', he, ho, hb⟩ => ⟨some ⟨g, 0, none⟩, c', he, ho, hb⟩
end Go.Proofs.Ytnniogdnlcokmaa
