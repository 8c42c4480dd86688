/-
  The walk of 'FnRatesValid'.
-/
import Derived.Test.YtaccnekicobhcaaFeeDraw2
import Derived.Test.YtaccnekicobhcaaFeeC
namespace Go.Proofs.Ytaccnekicobhcaa
open Go.RowKit
set_option linter.unusedVariables false

theorem walkFnRatesValid (w : World) (A0a : Option Addr) (c0a : Nat) (l0 : List Int) (rd0 : RdB w w.heap.size A0a l0) (cap0 : l0.length ≤ c0a) :
    Calls Try.prog 6 #[.slice A0a l0.length c0a] w fun e w' => e = .returned (.bool true) ∧ Below w.heap.size w w' := by
  by_cases hbig0 : 1048576 < l0.length
  · go_enter Try.func6, Try.ntmps6
    go_wp2
    go_ret
    exact ⟨rfl, Below.refl _ _⟩
  go_enter Try.func6, Try.ntmps6
  go_wp2_with fail
  refine (DrawRatesValid_any A0a c0a l0 w rd0 cap0).mono ?_
  rintro e w1 ⟨A1, c1, l, rfl, ho1, hhi, hb1⟩
  have HO1 := Lib.hid ho1
  have HB1 := Lib.hid hb1
  clear ho1 hb1
  go_wp2_with fail
  refine (implRatesValid A1 c1 l w1 HO1.out.rd (by omega)).mono ?_
  rintro e w2 ⟨he, hb2⟩
  subst he
  have HB2 := Lib.hid (bthen HB1.out hb2)
  have HO2 := Lib.hid (HO1.out.below hb2)
  have hs2 := HB2.out.size
  clear hb2
  go_wp2_with fail
  refine (specRatesValid A1 c1 l w2 HO2.out.rd (by omega)).mono ?_
  rintro e w3 ⟨he, hb3⟩
  subst he
  have HB3 := Lib.hid (bthen HB2.out hb3)
  have HO3 := Lib.hid (HO2.out.below hb3)
  have hs3 := HB3.out.size
  clear hb3
  cases hr : ratesOk l with
  | false =>
    go_wp2_with fail
    refine (implRatesValid none 0 [] w3 Rd.nil_ (by simp)).mono ?_
    rintro e w4 ⟨he, hb4⟩
    rw [ratesOk_nil] at he
    subst he
    have HB4 := Lib.hid (bthen HB3.out hb4)
    clear hb4
    go_wp2_with fail
    refine (alive_any w4).mono ?_
    rintro e w' ⟨rfl, rfl⟩
    go_wp2
    go_ret
    exact ⟨rfl, HB4.out⟩
  | true =>
    by_cases h2 : l.length < 2
    · clear hr
      go_wp2_with fail
      refine (implRatesValid none 0 [] w3 Rd.nil_ (by simp)).mono ?_
      rintro e w4 ⟨he, hb4⟩
      rw [ratesOk_nil] at he
      subst he
      have HB4 := Lib.hid (bthen HB3.out hb4)
      clear hb4
      go_wp2_with fail
      refine (alive_any w4).mono ?_
      rintro e w' ⟨rfl, rfl⟩
      go_wp2
      go_ret
      exact ⟨rfl, HB4.out⟩
    · have ht := ratesOk_take hr (by omega)
      have hd := ratesOk_drop hr (by omega)
      have Ht := Lib.hid ht
      have Hd := Lib.hid hd
      have hcap := HO3.out.cap
      have hl1 : (l.take (l.length - 1)).length = l.length - 1 := by simp
      have hl2 : (l.drop 1).length = l.length - 1 := by simp
      clear ht hd hr
      obtain ⟨bb, o, rfl, hbl, _⟩ := HO3.out.rd (by omega)
      have hI : ∀ w d, Rd encP w (some ⟨bb, o, none⟩) l → Calls Try.prog 16 #[.slice (some ⟨bb, o, none⟩) (l.length - 1) d] w fun e w' => e = .returned (.bool true) ∧ Below w.heap.size w w' := fun w d h => by
        have := implRatesValid _ d _ w (h.take (l.length - 1)) (by omega); rwa [Ht.out, hl1] at this
      have hS : ∀ w d, Rd encP w (some ⟨bb, o, none⟩) l → Calls Try.prog 16 #[.slice (some ⟨bb, o + 2, none⟩) (l.length - 1) d] w fun e w' => e = .returned (.bool false) ∧ Below w.heap.size w w' := fun w d h => by
        have := implRatesValid _ d _ w (h.drop 1 (by omega)) (by omega); rw [Hd.out, hl2] at this; exact this
      have HI := Lib.hid hI
      have HS := Lib.hid hS
      clear hI hS
      go_wp2_with fail
      refine (HI.out w3 _ HO3.out.rd).mono ?_
      rintro e w4 ⟨he, hb4⟩
      subst he
      have HB4 := Lib.hid (bthen HB3.out hb4)
      have HO4 := Lib.hid (HO3.out.below hb4)
      have hs4 := HB4.out.size
      clear hb4
      go_wp2_with fail
      refine (HS.out w4 _ HO4.out.rd).mono ?_
      rintro e w5 ⟨he, hb5⟩
      subst he
      have HB5 := Lib.hid (bthen HB4.out hb5)
      have HO5 := Lib.hid (HO4.out.below hb5)
      have hs5 := HB5.out.size
      clear hb5
      go_wp2
      go_ret
      exact ⟨rfl, HB5.out⟩
end Go.Proofs.Ytaccnekicobhcaa
