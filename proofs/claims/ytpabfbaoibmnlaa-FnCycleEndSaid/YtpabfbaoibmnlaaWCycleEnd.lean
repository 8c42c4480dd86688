/-
  The walk of 'FnCycleEnd'.
-/
import Derived.Test.YtpabfbaoibmnlaaCyH
import Derived.Test.YtpabfbaoibmnlaaCyI
import Derived.Test.YtpabfbaoibmnlaaAlive
namespace Go.Proofs.Ytpabfbaoibmnlaa
open Go.RowKit
set_option linter.unusedVariables false
set_option maxRecDepth 100000

set_option maxHeartbeats 4000000 in
theorem walkFnCycleEnd (w : World) (A0a : Option Addr) (c0a : Nat) (l0 : List Int) (rd0 : RdB w w.heap.size A0a l0) (cap0 : l0.length ≤ c0a) :
    Calls Try.prog 11 #[.slice A0a l0.length c0a] w fun e w' => e = .returned (.bool true) ∧ Below w.heap.size w w' := by
  by_cases hbig0 : 1048576 < l0.length
  · go_enter Try.func11, Try.ntmps11
    go_wp2
    go_ret
    exact ⟨rfl, Below.refl _ _⟩
  go_enter Try.func11, Try.ntmps11
  go_wp2_with fail
  refine (DrawCycleEnd_any A0a c0a l0 w rd0 cap0).mono ?_
  rintro e w1 ⟨A1, c1, l, B, d, who, rfl, ho1, hw1, h7, h11, hb1⟩
  have HB1 := Lib.hid hb1
  have HR1 := Lib.hid ho1.rd
  have HW1 := Lib.hid hw1.rd
  have hcap := hw1.cap.1
  clear ho1 hb1 hw1 hbig0
  go_wp2_with fail
  refine (implCycleEnd A1 c1 l B d who w1 HR1.out HW1.out (by omega) (by omega) hcap).mono ?_
  rintro e w2 ⟨rfl, hb2⟩
  have HB2 := Lib.hid (bthen HB1.out hb2)
  have HR2 := Lib.hid (HR1.out.below hb2)
  have HW2 := Lib.hid (HW1.out.below hb2)
  clear hb2
  go_wp2_with fail
  refine (specCycleEnd A1 c1 l B d who w2 HR2.out HW2.out (by omega) (by omega) hcap).mono ?_
  rintro e w3 ⟨rfl, hd3⟩
  have HB3 := Lib.hid (bthen HB2.out (drewBelow hd3))
  have HR3 := Lib.hid (HR2.out.below (drewBelow hd3))
  clear hd3 HB1 HB2 HR1 HR2 HW1 HW2
  by_cases hx : cycleEnd l who < 0
  · have hx1 := cycle_no hx
    rw [hx1]
    clear hx hx1
    go_wp2_with fail
    refine (alive_any w3).mono ?_
    rintro e w' ⟨rfl, rfl⟩
    go_wp2
    go_ret
    exact ⟨rfl, HB3.out⟩
  · obtain ⟨ht, hp⟩ := cycle_yes hx
    obtain ⟨hb1, hb2, hb3⟩ := end_bounds ht hp
    have hl6 := (tasksOk_t ht).2
    have HT := Lib.hid ht
    have HLE : Hid (∀ v, Least l v → (v ≤ cycleEnd l who ∧ 0 ≤ v)) := Lib.hid (fun v hv => by
      obtain ⟨⟨o, hg, e⟩, h⟩ := least_to ht hv
      refine ⟨h _ hp, ?_⟩
      have hb := (end_bounds ht hg.1).1
      have : 0 ≤ offs l := sumBy_nonneg _ _ fun p hp => (task_nn ht p hp).1
      omega)
    have HSA : Hid (sumBy (·.1) (l.take l.length) = offs l ∧ sumBy (·.2) (l.take l.length) = backs l) := Lib.hid (by rw [List.take_length]; exact ⟨rfl, rfl⟩)
    obtain ⟨x, hxx⟩ : ∃ x, x = cycleEnd l who := ⟨_, rfl⟩
    rw [← hxx] at hx hb1 hb2 hb3 HLE ⊢
    have hx0 : 0 ≤ x := by omega
    have HBD := Lib.hid (And.intro hb1 (And.intro hb2 hb3))
    have HXB : Hid (x ≤ 1188) := Lib.hid (by
      have hs := sum_bd ht (Nat.le_refl l.length)
      rw [HSA.out.1, HSA.out.2] at hs
      omega)
    clear hx hxx ht hp hb1 hb2 hb3
    go_wp2
    go_loopw [6, 7, 8] (fun s t i wr => ∃ k : Nat, k ≤ l.length ∧ i = vi k ∧ s = vi (sumBy (·.1) (l.take k)) ∧ t = vi (sumBy (·.2) (l.take k)) ∧ wr = w3) (fun _ _ i _ => l.length - (intOf i).toNat)
    case atStart => exact ⟨0, Nat.zero_le _, rfl, rfl, rfl, rfl⟩
    case round =>
      obtain ⟨k, hk, rfl, rfl, rfl, rfl⟩ := hrel
      obtain ⟨⟨hs0, hs1⟩, hs2, hs3⟩ := sum_bd HT.out hk
      by_cases hlt : k < l.length
      · obtain ⟨b, o, rfl, hbl, _⟩ := HR3.out (by omega)
        obtain ⟨hc1, hc2⟩ := HR3.out.at2 k hlt
        obtain ⟨⟨ha0, ha1⟩, ha2, ha3⟩ := tOk_t ((tasksOk_t HT.out).1 k hlt)
        have H1 := Lib.hid (sumBy_take (fun p : Int × Int => p.1) l k hlt)
        have H2 := Lib.hid (sumBy_take (fun p : Int × Int => p.2) l k hlt)
        obtain ⟨s, hs⟩ : ∃ s, s = sumBy (fun p : Int × Int => p.1) (l.take k) := ⟨_, rfl⟩
        obtain ⟨t, ht⟩ : ∃ t, t = sumBy (fun p : Int × Int => p.2) (l.take k) := ⟨_, rfl⟩
        rw [← hs] at hs0 hs1 H1 ⊢
        rw [← ht] at hs2 hs3 H2 ⊢
        clear hs ht
        go_wp2
        go_roundw
        case rel => exact ⟨k + 1, by omega, by go_num, by rw [H1.out], by rw [H2.out], by first | rfl | trivial⟩
        case measure => simp [intOf]; omega
      · obtain rfl : k = l.length := by omega
        obtain ⟨hb1, hb2, hb3⟩ := HBD.out
        rw [HSA.out.1] at hs0 hs1 ⊢
        rw [HSA.out.2] at hs2 hs3 ⊢
        obtain ⟨s, hs⟩ : ∃ s, s = offs l := ⟨_, rfl⟩
        obtain ⟨t, ht⟩ : ∃ t, t = backs l := ⟨_, rfl⟩
        rw [← hs] at hs0 hs1 hb1 hb3 ⊢
        rw [← ht] at hs2 hs3 hb2 hb3 ⊢
        clear hs ht HBD HSA
        go_wp2_with fail
        refine (implCycleLeast A1 c1 l wr HR3.out (by omega)).mono ?_
        rintro e w4 ⟨⟨v, rfl, hv⟩, hb4⟩
        have HB4 := Lib.hid (bthen HB3.out hb4)
        obtain ⟨hv1, hv2⟩ := HLE.out v hv
        have hxb := HXB.out
        clear hv hb4
        go_wp2
        go_ret
        exact ⟨rfl, HB4.out⟩
end Go.Proofs.Ytpabfbaoibmnlaa
