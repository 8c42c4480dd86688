/-
  The walk of 'FnBookingsValid'.
-/
import Derived.Test.YtnniogdnlcokmaaBookDraw2
import Derived.Test.YtnniogdnlcokmaaBkN
import Derived.Test.YtnniogdnlcokmaaBkP
import Derived.Test.YtnniogdnlcokmaaBkQ
import Derived.Test.YtnniogdnlcokmaaAlive
namespace Go.Proofs.Ytnniogdnlcokmaa
open Go.RowKit
set_option linter.unusedVariables false
set_option maxRecDepth 100000

set_option maxHeartbeats 4000000 in
theorem walkFnBookingsValid (w : World) (A0a : Option Addr) (c0a : Nat) (l0 : List Int) (rd0 : RdB w w.heap.size A0a l0) (cap0 : l0.length ≤ c0a) :
    Calls Try.prog 8 #[.slice A0a l0.length c0a] w fun e w' => e = .returned (.bool true) ∧ Below w.heap.size w w' := by
  by_cases hbig0 : 1048576 < l0.length
  · go_enter Try.func8, Try.ntmps8
    go_wp2
    go_ret
    exact ⟨rfl, Below.refl _ _⟩
  go_enter Try.func8, Try.ntmps8
  go_wp2_with fail
  refine (DrawBookingsValid_any A0a c0a l0 w rd0 cap0).mono ?_
  rintro e w1 ⟨A1, c1, l, room, rfl, ho1, hhi, ⟨hrm1, hrm2⟩, hb1⟩
  have HO1 := Lib.hid ho1
  have HB1 := Lib.hid hb1
  have hs1 := hb1.size
  clear ho1 hb1 hbig0
  go_wp2_with fail
  refine (implBookingsValid A1 c1 l room w1 HO1.out.rd (by omega)).mono ?_
  rintro e w2 ⟨he, hb2⟩
  subst he
  have HB2 := Lib.hid (bthen HB1.out hb2)
  have HO2 := Lib.hid (HO1.out.below hb2)
  have hs2 := hb2.size
  clear hb2
  go_wp2_with fail
  refine (specBookingsValid A1 c1 l room w2 HO2.out.rd (by omega)).mono ?_
  rintro e w3 ⟨he, hb3⟩
  subst he
  have HB3 := Lib.hid (bthen HB2.out hb3)
  have HO3 := Lib.hid (HO2.out.below hb3)
  have hs3 := hb3.size
  clear hb3
  cases hk : booksOk l room with
  | false =>
    have HN := Lib.hid (show Calls Try.prog 16 #[.slice none 0 0, vi 1] w3 fun e w' => e = .returned (.bool (booksOk [] 1)) ∧ Below w3.heap.size w3 w' from implBookingsValid none 0 [] 1 w3 Rd.nil_ (by simp))
    go_wp2_with fail
    refine (HN.out).mono ?_
    rintro e w4 ⟨he, hb4⟩
    rw [books_nil] at he
    subst he
    have HB4 := Lib.hid (bthen HB3.out hb4)
    have HO4 := Lib.hid (HO3.out.below hb4)
    have hs4 := hb4.size
    clear hb4
    go_wp2_with fail
    refine (alive_any w4).mono ?_
    rintro e w' ⟨rfl, rfl⟩
    go_wp2
    go_ret
    first | exact ⟨rfl, HB4.out⟩ | exact ⟨by simp; done, HB4.out⟩ | exact ⟨by simp; omega, HB4.out⟩
  | true =>
    have HK := Lib.hid hk
    clear hk
    go_wp2
    go_loop [6] (fun i => ∃ k : Nat, k ≤ 24 ∧ i = vi k) (fun i => 24 - (intOf i).toNat)
    case atStart => exact ⟨0, by omega, rfl⟩
    case round =>
      obtain ⟨k, hk, rfl⟩ := hrel
      by_cases hlt : k < 24
      · have hm := books_many HK.out (k : Int)
        go_wp2_with fail
        refine (inHour_any A1 c1 l (k : Int) w3 HO3.out.rd (by omega)).mono ?_
        rintro e w' ⟨rfl, rfl⟩
        go_wp2
        go_round
        case rel => exact ⟨k + 1, by omega, by go_num⟩
        case measure => simp [intOf]; omega
      · obtain rfl : k = 24 := by omega
        by_cases h0 : l.length = 0
        · have h1 : ((l.length : Int) == 0) = true := by simp [h0]
          have h2 : (l.length == 0) = true := by simp [h0]
          clear h0
          go_wp2
          go_ret
          first | exact ⟨rfl, HB3.out⟩ | exact ⟨by simp; done, HB3.out⟩ | exact ⟨by simp; omega, HB3.out⟩
        · rcases HO3.out.form with ⟨_, e0⟩ | ⟨g, rfl, hg1, hg2⟩
          · rw [e0] at h0; simp at h0
          have h1 : ((l.length : Int) == 0) = false := beq_false_of_ne (by omega)
          have h2 : (l.length == 0) = false := beq_false_of_ne (by omega)
          have h3 : 1 ≤ l.length := by omega
          have h3a : (1 : Int) ≤ (l.length : Int) := by omega
          have hcap := HO3.out.cap.1
          have h4 : 1 ≤ c1 := by omega
          have h4b : (l.length : Int) ≤ (c1 : Int) := by omega
          have HD := Lib.hid (fun (A' : Option Addr) (c' : Nat) (w' : World) (hr : Rd encP w' A' (l.drop 1)) => show Calls Try.prog 16 #[.slice A' (l.length - 1) c', vi room] w' fun e w'' => e = .returned (.bool true) ∧ Below w'.heap.size w' w'' from by
            have := implBookingsValid A' c' (l.drop 1) room w' hr (by simp; omega)
            rw [books_drop HK.out] at this
            simpa using this)
          clear h0
          by_cases hc : c1 = 1
          · subst hc
            have hl1 : l.length = 1 := by omega
            have HR := Lib.hid (show Rd encP w3 (some ⟨g, 0, none⟩) (l.drop 1) from by rw [List.drop_eq_nil_of_le (by omega)]; exact Rd.nil_)
            have HD1 := Lib.hid (HD.out (some ⟨g, 0, none⟩) 0 w3 HR.out)
            rw [hl1] at HD1 h1 h2 ⊢
            clear h3 h3a hcap h4b hl1
            go_wp2_with fail
            refine (HD1.out).mono ?_
            rintro e w4 ⟨he, hb4⟩
            subst he
            have HB4 := Lib.hid (bthen HB3.out hb4)
            have HO4 := Lib.hid (HO3.out.below hb4)
            have hs4 := hb4.size
            clear hb4
            go_wp2
            go_ret
            first | exact ⟨rfl, HB4.out⟩ | exact ⟨by simp; done, HB4.out⟩ | exact ⟨by simp; omega, HB4.out⟩
          · have HR := Lib.hid (show Rd encP w3 (some ⟨g, 2, none⟩) (l.drop 1) from by
              rcases Nat.lt_or_ge 1 l.length with h5 | h5
              · have := HO3.out.rd.drop 1 h5; simpa [encP] using this
              · rw [List.drop_eq_nil_of_le h5]; exact Rd.nil_)
            go_wp2_with fail
            refine (HD.out (some ⟨g, 2, none⟩) (c1 - 1) w3 HR.out).mono ?_
            rintro e w4 ⟨he, hb4⟩
            subst he
            have HB4 := Lib.hid (bthen HB3.out hb4)
            have HO4 := Lib.hid (HO3.out.below hb4)
            have hs4 := hb4.size
            clear hb4
            go_wp2
            go_ret
            first | exact ⟨rfl, HB4.out⟩ | exact ⟨by simp; done, HB4.out⟩ | exact ⟨by simp; omega, HB4.out⟩
end Go.Proofs.Ytnniogdnlcokmaa
