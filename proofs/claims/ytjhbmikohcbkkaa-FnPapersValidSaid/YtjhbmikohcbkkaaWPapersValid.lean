/-
  The walk of 'FnPapersValid'.
-/
import Derived.Test.YtjhbmikohcbkkaaPapO
import Derived.Test.YtjhbmikohcbkkaaAlive
import Derived.BigQuiet
namespace Go.Proofs.Ytjhbmikohcbkkaa
open Go.RowKit
set_option linter.unusedVariables false
set_option maxRecDepth 100000

set_option maxHeartbeats 4000000 in
theorem walkFnPapersValid (w : World) (A0a : Option Addr) (c0a : Nat) (l0 : List Int) (rd0 : RdB w w.heap.size A0a l0) (cap0 : l0.length ≤ c0a) :
    Calls Try.prog 7 #[.slice A0a l0.length c0a] w fun e w' => e = .returned (.bool true) ∧ Below w.heap.size w w' := by
  by_cases hbig0 : 1048576 < l0.length
  · go_enter Try.func7, Try.ntmps7
    go_wp2
    go_ret
    exact ⟨rfl, Below.refl _ _⟩
  go_enter Try.func7, Try.ntmps7
  go_wp2_with fail
  refine (DrawPapersValid_any A0a c0a l0 w rd0 cap0).mono ?_
  rintro e w1 ⟨A, c, B, d, hl, ll, rfl, hl1, hl2, ho, hi, hb1⟩
  obtain ⟨w2, hw2⟩ : ∃ x, x = w1.alloc (.cells #[.slice A hl.length c, .slice B ll.length d] 37) := ⟨_, rfl⟩
  obtain ⟨x0, x1, hb12⟩ := box_stored w1 37 (.slice A hl.length c) (.slice B ll.length d)
  have HX := Lib.hid (And.intro x0 x1)
  rw [← hw2] at HX hb12
  have HO := Lib.hid (ho.rd.below hb12)
  have HI := Lib.hid (hi.rd.below hb12)
  have HB := Lib.hid (bthen hb1 hb12)
  have HG := Lib.hid (show ∃ gx, gx = w1.heap.size from ⟨_, rfl⟩)
  clear rd0 cap0 hbig0 ho hi hb1 hb12 HG
  go_wp2_with fail
  rw [← hw2]
  obtain ⟨g, hg⟩ : ∃ g, g = w1.heap.size := ⟨_, rfl⟩
  rw [← hg] at HX ⊢
  clear hw2 hg x0 x1
  refine (implPapersValid A c hl B d ll w2 HO.out HI.out (by omega) (by omega)).mono ?_
  rintro e w3 ⟨he, hb3⟩
  subst he
  have q0 := cell_keep HX.out.1 hb3
  have q1 := cell_keep HX.out.2 hb3
  have HO := Lib.hid (HO.out.below hb3)
  have HI := Lib.hid (HI.out.below hb3)
  have HB := Lib.hid (bthen HB.out hb3)
  clear hb3 HX
  go_wp2_with fail
  refine (specPapersValid A c hl B d ll w3 HO.out HI.out (by omega) (by omega)).mono ?_
  rintro e w4 ⟨he, hb4⟩
  subst he
  have q0 := cell_keep q0 hb4
  have q1 := cell_keep q1 hb4
  have HO := Lib.hid (HO.out.below hb4)
  have HI := Lib.hid (HI.out.below hb4)
  have HB := Lib.hid (bthen HB.out hb4)
  clear hb4
  cases hok : papersOk hl ll with
  | false =>
    have HN := Lib.hid (show Calls Try.prog 20 #[.agg #[.slice none 0 0, .slice none 0 0]] w4 fun e w' => e = .returned (.bool true) ∧ Below w4.heap.size w4 w' from implPapersValid none 0 [] none 0 [] w4 Rd.nil_ RdI.nil_ (by simp) (by simp))
    go_wp2_with fail
    refine HN.out.mono ?_
    rintro e w5 ⟨he, hb5⟩
    subst he
    have HB5 := Lib.hid (bthen HB.out hb5)
    clear hb5
    go_wp2_with fail
    refine (alive_any w5).mono ?_
    rintro e w' ⟨rfl, rfl⟩
    go_wp2
    go_ret
    exact ⟨rfl, HB5.out⟩
  | true =>
    have HK := Lib.hid hok
    clear hok
    go_wp2
    go_loopw [5] (fun i wr => ∃ k : Nat, k ≤ hl.length ∧ i = vi k ∧ Below w4.heap.size w4 wr) (fun i _ => hl.length - (intOf i).toNat)
    case atStart => exact ⟨0, by omega, rfl, Below.refl _ _⟩
    case round =>
      obtain ⟨k, hk, rfl, hbr⟩ := hrel
      have q0 := cell_keep q0 hbr
      have q1 := cell_keep q1 hbr
      have HO := Lib.hid (HO.out.below hbr)
      have HI := Lib.hid (HI.out.below hbr)
      have HBr := Lib.hid (bthen HB.out hbr)
      have HB4 := Lib.hid hbr
      clear hbr
      by_cases hlt : k < hl.length
      · obtain ⟨b, o, hAe, hbl, _⟩ := HO.out (by omega)
        subst hAe
        obtain ⟨hc1, _⟩ := HO.out.at2 k hlt
        have hno := (hdOk_t ((papersOk_t HK.out).1 k hlt)).2.2.2
        have HC := Lib.hid (fun n => hasInt_any B d ll (nth hl k).1 (wr.drewN n) (HI.out.drewN n) (by omega))
        rw [hno] at HC
        clear hno
        go_wp2
        go_quiet (first | (go_at_call 24; exact quiet_left (HC.out _)))
        go_wp2
        go_roundw
        case rel => exact ⟨k + 1, by omega, by go_num, below_drewN HB4.out _⟩
        case measure => simp [intOf]; omega
      · obtain rfl : k = hl.length := by omega
        have HP1 := Lib.hid (implPapersValid none 0 [] B d ll wr Rd.nil_ HI.out (by simp) (by omega))
        rw [papersOk_left HK.out] at HP1
        clear hlt
        go_wp2_with fail
        refine HP1.out.mono ?_
        rintro e w5 ⟨he, hb5⟩
        subst he
        have q0 := cell_keep q0 hb5
        have q1 := cell_keep q1 hb5
        have HB5 := Lib.hid (bthen HBr.out hb5)
        have HP2 := Lib.hid (implPapersValid A c hl none 0 [] w5 (HO.out.below hb5) RdI.nil_ (by omega) (by simp))
        rw [papersOk_holds HK.out] at HP2
        clear hb5
        go_wp2_with fail
        refine HP2.out.mono ?_
        rintro e w6 ⟨he, hb6⟩
        subst he
        have HB6 := Lib.hid (bthen HB5.out hb6)
        clear hb6
        go_wp2
        go_ret
        exact ⟨rfl, HB6.out⟩
end Go.Proofs.Ytjhbmikohcbkkaa
