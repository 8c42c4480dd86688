/-
  The walk of 'FnRingStuck'.
-/
import Derived.Test.YtkgfcgdihnhflaaRingDraw2
namespace Go.Proofs.Ytkgfcgdihnhflaa
open Go.RowKit
set_option linter.unusedVariables false

theorem walkFnRingStuck (w : World) (A0a : Option Addr) (c0a : Nat) (l0 : List Int) (rd0 : RdB w w.heap.size A0a l0) (cap0 : l0.length ≤ c0a) :
    Calls Try.prog 12 #[.slice A0a l0.length c0a] w fun e w' => e = .returned (.bool true) ∧ Below w.heap.size w w' := by
  by_cases hbig0 : 1048576 < l0.length
  · go_enter Try.func12, Try.ntmps12
    go_wp2
    go_ret
    exact ⟨rfl, Below.refl _ _⟩
  go_enter Try.func12, Try.ntmps12
  go_wp2_with fail
  refine (DrawRingStuck_any A0a c0a l0 w rd0 cap0).mono ?_
  rintro e w1 ⟨A1, c1, l, rfl, ho1, hlo, hhi, hb1⟩
  have HO1 := Lib.hid ho1
  have HB1 := Lib.hid hb1
  clear ho1 hb1
  go_wp2_with fail
  refine (implRingStuck A1 c1 l w1 HO1.out.rd (by omega)).mono ?_
  rintro e w2 ⟨rfl, hb2⟩
  have HO1 := Lib.hid (HO1.out.below hb2)
  have HB2 := Lib.hid (bthen HB1.out hb2)
  clear hb2
  go_wp2_with fail
  refine (specRingStuck A1 c1 l w2 HO1.out.rd (by omega)).mono ?_
  rintro e w3 ⟨rfl, hb3⟩
  have HO1 := Lib.hid (HO1.out.below hb3)
  have HB3 := Lib.hid (bthen HB2.out hb3)
  clear hb3
  go_wp2_with fail
  refine (specRingValid A1 c1 l w3 HO1.out.rd (by omega)).mono ?_
  rintro e w' ⟨rfl, rfl⟩
  cases ho : ringOk l with
  | false =>
    have hs : ringStuck l = false := by simp [ringStuck, ho]
    go_wp2_with fail
    refine (alive_any w3).mono ?_
    rintro e w' ⟨rfl, rfl⟩
    go_wp2
    go_ret
    exact ⟨rfl, HB3.out⟩
  | true =>
    have Hs := Lib.hid (stuck_full ho)
    go_wp2
    go_loop [5, 6] (fun b i => ∃ k : Nat, k ≤ l.length ∧ i = vi k ∧ b = .bool ((l.take k).all (fun x => decide (0 < x)))) (fun _ i => l.length - (intOf i).toNat)
    case atStart => exact ⟨0, Nat.zero_le _, rfl, rfl⟩
    case round =>
      obtain ⟨k, hk, rfl, rfl⟩ := hrel
      by_cases hlt : k < l.length
      · obtain ⟨b, o, rfl, hbl, hc⟩ := HO1.out.rd (by omega)
        have hck := hc k hlt
        have Ht : Hid ((l.take (k + 1)).all (fun x => decide (0 < x)) = ((l.take k).all (fun x => decide (0 < x)) && decide (0 < nth l k))) := Lib.hid (by rw [take_snoc l k hlt, List.all_append]; simp)
        clear hc
        generalize hq : (l.take k).all (fun x => decide (0 < x)) = q
        have Hq := Lib.hid hq
        clear hq
        cases q with
        | true =>
          go_wp2
          go_round
          case rel => exact ⟨k + 1, by omega, by go_num, by rw [Ht.out, Hq.out]; simp⟩
          case measure => simp [intOf]; omega
        | false =>
          go_wp2
          go_round
          case rel => exact ⟨k + 1, by omega, by go_num, by rw [Ht.out, Hq.out]; rfl⟩
          case measure => simp [intOf]; omega
      · obtain rfl : k = l.length := by omega
        generalize hq : (l.take l.length).all (fun x => decide (0 < x)) = q
        have hs : ringStuck l = q := by rw [Hs.out, ← hq, List.take_length]
        clear hq
        go_wp2
        go_ret
        exact ⟨by cases q <;> rfl, HB3.out⟩
end Go.Proofs.Ytkgfcgdihnhflaa
