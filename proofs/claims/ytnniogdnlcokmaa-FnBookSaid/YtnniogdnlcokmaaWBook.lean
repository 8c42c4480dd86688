/-
  The walk of 'FnBook'.
-/
import Derived.Test.YtnniogdnlcokmaaBookDraw2
import Derived.Test.YtnniogdnlcokmaaBkN
import Derived.Test.YtnniogdnlcokmaaBkP
import Derived.Test.YtnniogdnlcokmaaBkQ
import Derived.Test.YtnniogdnlcokmaaAlive
namespace Go.Proofs.Ytnniogdnlcokmaa
open Go.RowKit
set_option linter.unusedVariables false
set_option maxRecDepth 100000

set_option maxHeartbeats 4000000 in
theorem walkFnBook (w : World) (A0a : Option Addr) (c0a : Nat) (l0 : List Int) (rd0 : RdB w w.heap.size A0a l0) (cap0 : l0.length ≤ c0a) :
    Calls Try.prog 4 #[.slice A0a l0.length c0a] w fun e w' => e = .returned (.bool true) ∧ Below w.heap.size w w' := by
  by_cases hbig0 : 1048576 < l0.length
  · go_enter Try.func4, Try.ntmps4
    go_wp2
    go_ret
    exact ⟨rfl, Below.refl _ _⟩
  go_enter Try.func4, Try.ntmps4
  go_wp2_with fail
  refine (DrawBook_any A0a c0a l0 w rd0 cap0).mono ?_
  rintro e w1 ⟨A1, c1, l, room, t, h, rfl, ho1, hhi, ⟨hrm1, hrm2⟩, ⟨ht1, ht2⟩, ⟨hh1, hh2⟩, hb1⟩
  have HO1 := Lib.hid ho1
  have HB1 := Lib.hid hb1
  have hs1 := hb1.size
  clear ho1 hb1 hbig0
  go_wp2_with fail
  refine (implBook A1 c1 l room t h w1 HO1.out.rd (by omega)).mono ?_
  rintro e w2 ⟨XA, Xc, rfl, ho2, hb2⟩
  have HB2 := Lib.hid (bthen HB1.out hb2)
  have HO2 := Lib.hid (HO1.out.below hb2)
  have X2 := Lib.hid ho2
  have hs2 := hb2.size
  clear hb2 ho2
  go_wp2_with fail
  refine (specBook A1 c1 l room t h w2 HO2.out.rd (by omega)).mono ?_
  rintro e w3 ⟨YA, Yc, rfl, ho3, hb3⟩
  have HB3 := Lib.hid (bthen HB2.out hb3)
  have HO3 := Lib.hid (HO2.out.below hb3)
  have X3 := Lib.hid (X2.out.below hb3)
  have Y3 := Lib.hid ho3
  have hs3 := hb3.size
  clear hb3 ho3
  have hlb := length_bookL l room t h
  go_wp2_with fail
  refine (sameEq_any XA Xc YA Yc (bookL l room t h) w3 X3.out.rd Y3.out.rd (by omega)).mono ?_
  rintro e w4 ⟨rfl, hd4⟩
  have hb4 := of_draws hd4
  have HB4 := Lib.hid (bthen HB3.out hb4)
  have HO4 := Lib.hid (HO3.out.below hb4)
  have X4 := Lib.hid (X3.out.below hb4)
  have hs4 := hb4.size
  clear hd4 hb4
  cases hb : bookB l room t h with
  | false =>
    rcases book_no hb with he | he
    · rw [he] at X4 ⊢
      go_wp2_with fail
      refine (sameEq_any XA Xc A1 c1 l w4 X4.out.rd HO4.out.rd (by omega)).mono ?_
      rintro e w5 ⟨rfl, hd5⟩
      have hb5 := of_draws hd5
      have HB5 := Lib.hid (bthen HB4.out hb5)
      have HO5 := Lib.hid (HO4.out.below hb5)
      have hs5 := hb5.size
      clear hd5 hb5
      go_wp2_with fail
      refine (alive_any w5).mono ?_
      rintro e w' ⟨rfl, rfl⟩
      go_wp2
      go_ret
      first | exact ⟨rfl, HB5.out⟩ | exact ⟨by simp; done, HB5.out⟩ | exact ⟨by simp; omega, HB5.out⟩
    · rw [he] at X4 ⊢
      by_cases h0 : l = []
      · subst h0
        have HE := Lib.hid (show Calls Try.prog 21 #[.slice XA ([] : List (Int × Int)).length Xc, .slice A1 ([] : List (Int × Int)).length c1] w4 fun e w' => e = .returned (.bool true) ∧ ∃ n, w' = w4.drewN n from sameEq_any XA Xc A1 c1 [] w4 Rd.nil_ Rd.nil_ (by simp))
        go_wp2_with fail
        refine (HE.out).mono ?_
        rintro e w5 ⟨rfl, hd5⟩
        have hb5 := of_draws hd5
        have HB5 := Lib.hid (bthen HB4.out hb5)
        have HO5 := Lib.hid (HO4.out.below hb5)
        have hs5 := hb5.size
        clear hd5 hb5
        go_wp2_with fail
        refine (alive_any w5).mono ?_
        rintro e w' ⟨rfl, rfl⟩
        go_wp2
        go_ret
        first | exact ⟨rfl, HB5.out⟩ | exact ⟨by simp; done, HB5.out⟩ | exact ⟨by simp; omega, HB5.out⟩
      · have hne : ¬ ([] : List (Int × Int)).length = l.length := fun e => h0 (List.eq_nil_of_length_eq_zero e.symm)
        have HE := Lib.hid (sameNo_any XA Xc A1 c1 ([] : List (Int × Int)).length l.length w4 hne)
        clear h0 hne
        go_wp2_with fail
        refine HE.out.mono ?_
        rintro e w' ⟨rfl, rfl⟩
        go_wp2_with fail
        refine (alive_any w4).mono ?_
        rintro e w' ⟨rfl, rfl⟩
        go_wp2
        go_ret
        first | exact ⟨rfl, HB4.out⟩ | exact ⟨by simp; done, HB4.out⟩ | exact ⟨by simp; omega, HB4.out⟩
  | true =>
    obtain ⟨k1, k2, k3, k4, k5⟩ := book_yes hb
    rw [k1] at X4 ⊢
    have K3 := Lib.hid k3
    have K4 := Lib.hid k4
    have K2 := Lib.hid k2
    obtain ⟨p, hp⟩ : ∃ p, p = placeL l t h := ⟨_, rfl⟩
    rw [← hp] at X4 K3 K4 K2 k5 ⊢
    clear k1 k2 k3 k4 hlb hp hb
    go_wp2
    go_loopw [11] (fun q wr => ∃ k : Nat, k ≤ l.length ∧ q = vi k ∧ Below w4.heap.size w4 wr) (fun q _ => l.length - (intOf q).toNat)
    case atStart => exact ⟨0, Nat.zero_le _, rfl, Below.refl _ _⟩
    case round =>
      obtain ⟨k, hk, rfl, hbr⟩ := hrel
      have HOr := Lib.hid (HO4.out.below hbr)
      have Xr := Lib.hid (X4.out.below hbr)
      have HBr := Lib.hid (bthen HB4.out hbr)
      have HBR := Lib.hid hbr
      clear hbr
      by_cases hlt : k < l.length
      · obtain ⟨b, o, hA, hbl, _⟩ := HOr.out.rd (by omega)
        subst hA
        obtain ⟨hc1, hc2⟩ := HOr.out.rd.at2 k hlt
        by_cases e1 : (nth l k).1 = t
        · have f1 : ((nth l k).1 != t) = false := by simp [e1]
          clear e1
          go_wp2
          go_quiet (fail)
          have HZ := Lib.hid (below_drewN HBR.out nq)
          go_wp2
          go_roundw
          case rel => exact ⟨k + 1, by omega, by go_num, HZ.out⟩
          case measure => simp [intOf]; omega
        · have f1 : ((nth l k).1 != t) = true := by simp [e1]
          have hh := K4.out k hlt e1
          clear e1
          have HC := Lib.hid (fun (x : Past wr) => implBookedHour XA Xc p room (nth l k).1 x.val (Xr.out.rd.past x) (by omega))
          rw [hh] at HC
          have hbx1 : ∀ x : Past wr, x.val.cell? ⟨b, o + k * 2, none⟩ = some (vi (nth l k).1) := fun x => x.cell hc1
          have hbx2 : ∀ x : Past wr, x.val.cell? ⟨b, o + k * 2 + 1, none⟩ = some (vi (nth l k).2) := fun x => x.cell hc2
          clear hc1 hc2 hh
          have HCL := Lib.hid HC
          clear HC
          go_wp2
          refine wp_region_past (by kernel_rfl) (by kernel_rfl) ?_
          repeat (go_big_quiet_step ((go_at_call 23; exact past_call (HCL.out _))))
          refine wpQuiet_nil ?_
          rintro ⟨w5, hb5⟩
          simp only
          have HZ := Lib.hid (bthen HBR.out hb5)
          clear hb5 hbx1 hbx2
          go_wp2
          go_roundw
          case rel => exact ⟨k + 1, by omega, by go_num, HZ.out⟩
          case measure => simp [intOf]; omega
      · obtain rfl : k = l.length := by omega
        have hp1 : (p.length : Int) ≤ (l.length : Int) + 1 := by omega
        have hn1 : p.length ≤ l.length + 1 := by omega
        go_wp2_with fail
        refine (implBookingsValid XA Xc p room wr Xr.out.rd (by omega)).mono ?_
        rintro e w5 ⟨he, hb5⟩
        rw [K2.out] at he
        subst he
        have HB5 := Lib.hid (bthen HBr.out hb5)
        have HO5 := Lib.hid (HOr.out.below hb5)
        have X5 := Lib.hid (Xr.out.below hb5)
        have hs5 := hb5.size
        clear hb5
        go_wp2_with fail
        refine (implBookedHour XA Xc p room t w5 X5.out.rd (by omega)).mono ?_
        rintro e w6 ⟨he, hb6⟩
        rw [K3.out] at he
        subst he
        have HB6 := Lib.hid (bthen HB5.out hb6)
        have HO6 := Lib.hid (HO5.out.below hb6)
        have hs6 := hb6.size
        clear hb6
        go_wp2
        go_ret
        first | exact ⟨rfl, HB6.out⟩ | exact ⟨by simp; done, HB6.out⟩ | exact ⟨by simp; omega, HB6.out⟩
end Go.Proofs.Ytnniogdnlcokmaa
