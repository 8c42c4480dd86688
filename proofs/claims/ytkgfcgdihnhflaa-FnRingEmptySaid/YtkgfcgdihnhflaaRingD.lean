/-
  Contracts of the functions of rings: many steps; stuck rings.
-/
import Derived.Test.YtkgfcgdihnhflaaRingC
namespace Go.Proofs.Ytkgfcgdihnhflaa
open Go.RowKit
set_option linter.unusedVariables false

def runL (l zs : List Int) : List Int := if ringOk l = true then (runTo l zs).1 else []
def runN (l zs : List Int) : Int := if ringOk l = true then (runTo l zs).2 else 0
theorem runL_t {l : List Int} (h : ringOk l = true) (zs : List Int) : runL l zs = (runTo l zs).1 := if_pos h
theorem runL_f {l : List Int} (h : ringOk l = false) (zs : List Int) : runL l zs = [] := if_neg (by simp [h])
theorem runN_t {l : List Int} (h : ringOk l = true) (zs : List Int) : runN l zs = (runTo l zs).2 := if_pos h
theorem runN_f {l : List Int} (h : ringOk l = false) (zs : List Int) : runN l zs = 0 := if_neg (by simp [h])
theorem length_runL (l zs : List Int) : (runL l zs).length ≤ l.length := by
  unfold runL
  split
  · rename_i h; rw [(runTo_facts h zs).2.1]; exact Nat.le_refl _
  · simp

theorem implRingRun (A B : Option Addr) (c d : Nat) (l zs : List Int) (w : World) (h : RdI w A l) (hz : RdI w B zs) (hl : l.length ≤ 1000000000) (hzl : zs.length ≤ 1000000000) :
    Calls Try.prog 28 #[.slice A l.length c, .slice B zs.length d] w (NewI2 w (runL l zs) (vi (runN l zs))) := by
  have HV := Lib.hid (implRingValid A c l w h hl)
  cases ho : ringOk l with
  | false =>
    have H1 := Lib.hid (runL_f ho zs)
    have H2 := Lib.hid (runN_f ho zs)
    go_enter Try.func28, Try.ntmps28
    go_wp2_with (go_at_call 17; refine HV.out.mono ?_; rintro e w' ⟨rfl, rfl⟩)
    go_ret2
    rw [H1.out, H2.out]
    exact ⟨none, 0, rfl, OwnI.nil_ _ _, Below.refl _ _⟩
  | true =>
    have Ho := Lib.hid ho
    have H1 := Lib.hid (runL_t ho zs)
    have H2 := Lib.hid (runN_t ho zs)
    have HC := Lib.hid (clone_any A c l w h hl)
    go_enter Try.func28, Try.ntmps28
    go_wp2_with (go_at_call 17; refine HV.out.mono ?_; rintro e w' ⟨rfl, rfl⟩)
    refine HC.out.mono ?_
    rintro e w1 ⟨A1, c1, rfl, ho1, hb1⟩
    have HO1 := Lib.hid ho1
    have HB1 := Lib.hid hb1
    have HI1 := Lib.hid ho1.in_
    clear ho1 ho HC HV hb1
    go_wp2_with fail
    go_loopw [7, 17] (fun n i wr => ∃ k : Nat, k ≤ zs.length ∧ i = vi k ∧ n = vi (runTo l (zs.take k)).2 ∧ OwnI wr w.heap.size A1 l.length c1 (runTo l (zs.take k)).1 ∧ Below w.heap.size w wr)
      (fun _ i _ => zs.length - (intOf i).toNat)
    case atStart => exact ⟨0, Nat.zero_le _, rfl, rfl, HO1.out, HB1.out⟩
    case round =>
      obtain ⟨k, hk, rfl, rfl, hown, hb⟩ := hrel
      have HF := Lib.hid (runTo_facts Ho.out (zs.take k))
      have hn0 : 0 ≤ (runTo l (zs.take k)).2 := HF.out.2.2.2.2.1
      have hn1 : (runTo l (zs.take k)).2 ≤ 1000000000 := by
        have := HF.out.2.2.2.2.2
        have := List.length_take_le k zs
        omega
      have HW := Lib.hid hown
      have HB := Lib.hid hb
      by_cases hlt : k < zs.length
      · obtain ⟨b, o, rfl, hbl, hc⟩ := (hz.below HB.out) (by omega)
        have hck := hc k hlt
        have Hr := Lib.hid (runTo_take l zs k hlt)
        clear hc hown hb hz
        have HS := Lib.hid (ringStep_any A1 l.length c1 w.heap.size (runTo l (zs.take k)).1 (nth zs k) wr HW.out HF.out.1)
        go_wp2_with fail
        refine HS.out.mono ?_
        rintro e w2 ⟨rfl, ho2, hg2⟩
        have HW2 := Lib.hid ho2
        have HB2 := Lib.hid (HB.out.grown hg2 HB.out.size (blk_from HI1.out (Nat.le_refl _)))
        clear ho2 hg2 HS
        cases hs : stepOk (runTo l (zs.take k)).1 (nth zs k) with
        | false =>
          have Hs := Lib.hid hs
          go_wp2
          go_roundw
          case rel => exact ⟨k + 1, by omega, by go_num, by rw [Hr.out]; simp [runS, Hs.out], by rw [Hr.out]; exact HW2.out, HB2.out⟩
          case measure => simp [intOf]; omega
        | true =>
          have Hs := Lib.hid hs
          go_wp2
          go_roundw
          case rel => exact ⟨k + 1, by omega, by go_num, by rw [Hr.out]; simp [runS, Hs.out], by rw [Hr.out]; exact HW2.out, HB2.out⟩
          case measure => simp [intOf]; omega
      · obtain rfl : k = zs.length := by omega
        clear hown hb
        go_wp2
        go_ret2
        rw [H1.out, H2.out]
        have e := HF.out.2.1
        have HWo := HW.out
        rw [List.take_length] at e HWo
        refine ⟨A1, c1, ?_, ?_, HB.out⟩
        · rw [e]; first | rfl | (rw [List.take_length]; rfl)
        · rw [e]; exact HWo

theorem specRingRun (A B : Option Addr) (c d : Nat) (l zs : List Int) (w : World) (h : RdI w A l) (hz : RdI w B zs) (hl : l.length ≤ 1000000000) (hzl : zs.length ≤ 1000000000) :
    Calls Try.prog 27 #[.slice A l.length c, .slice B zs.length d] w (NewI2 w (runL l zs) (vi (runN l zs))) := by
  have HV := Lib.hid (specRingValid A c l w h hl)
  cases ho : ringOk l with
  | false =>
    have H1 := Lib.hid (runL_f ho zs)
    have H2 := Lib.hid (runN_f ho zs)
    go_enter Try.func27, Try.ntmps27
    go_wp2_with (go_at_call 15; refine HV.out.mono ?_; rintro e w' ⟨rfl, rfl⟩)
    go_ret2
    rw [H1.out, H2.out]
    exact ⟨_, _, rfl, OwnI.none_made w, (Below.refl _ _).alloc (Nat.le_refl _) _⟩
  | true =>
    have Ho := Lib.hid ho
    have hlen := ringOk_len ho
    have H1 := Lib.hid (runL_t ho zs)
    have H2 := Lib.hid (runN_t ho zs)
    go_enter Try.func27, Try.ntmps27
    go_wp2_with (first
      | (go_at_call 15; refine HV.out.mono ?_; rintro e w' ⟨rfl, rfl⟩)
      | (at_builtin; refine app_int rfl (.tmp 15) (.tmp 16) rfl w.heap.size (some ⟨w.heap.size, 0, none⟩) 0 0 [] rfl (OwnI.none_made w) A l.length c l rfl (h.alloc _) rfl (by omega) (by simp) ?_; intro A1 c1 w1 ho1 hg1; skip))
    have HO1 : Hid (OwnI w1 w.heap.size A1 l.length c1 l) := Lib.hid (by simpa using ho1)
    have HB1 : Hid (Below w.heap.size w w1) := Lib.hid (((Below.refl _ _).alloc (Nat.le_refl _) _).grown hg1 (by simp) (fun k hk => by simp at hk; omega))
    clear ho1 hg1 ho HV
    go_loopw [6, 7, 8] (fun v n i wr => ∃ (k : Nat) (A' : Option Addr) (c' : Nat), k ≤ zs.length ∧ i = vi k ∧ n = vi (runTo l (zs.take k)).2 ∧ v = .slice A' l.length c' ∧ OwnI wr w.heap.size A' l.length c' (runTo l (zs.take k)).1 ∧ Below w.heap.size w wr)
      (fun _ _ i _ => zs.length - (intOf i).toNat)
    case atStart => exact ⟨0, A1, c1, Nat.zero_le _, rfl, rfl, by simp, HO1.out, HB1.out⟩
    case round =>
      obtain ⟨k, A', c', hk, rfl, rfl, rfl, hown, hb⟩ := hrel
      have HF := Lib.hid (runTo_facts Ho.out (zs.take k))
      have HL := Lib.hid HF.out.2.1
      have hn0 : 0 ≤ (runTo l (zs.take k)).2 := HF.out.2.2.2.2.1
      have hn1 : (runTo l (zs.take k)).2 ≤ 1000000000 := by
        have := HF.out.2.2.2.2.2
        have := List.length_take_le k zs
        omega
      have HW := Lib.hid hown
      have HB := Lib.hid hb
      by_cases hlt : k < zs.length
      · obtain ⟨b, o, rfl, hbl, hc⟩ := (hz.below HB.out) (by omega)
        have hck := hc k hlt
        have Hr := Lib.hid (runTo_take l zs k hlt)
        clear hc hown hb hz
        have HS := specRingStep A' c' (runTo l (zs.take k)).1 (nth zs k) wr HW.out.rd (by rw [HL.out]; omega)
        rw [HL.out, stepL_t HF.out.1, stepB_t HF.out.1] at HS
        have HS := Lib.hid HS
        go_wp2_with fail
        refine HS.out.mono ?_
        rintro e w2 ⟨A2, c2, rfl, ho2, hb2⟩
        rw [length_stepTo, HL.out] at ho2
        have e2 := length_stepTo (runTo l (zs.take k)).1 (nth zs k)
        rw [HL.out] at e2
        have HW2 := Lib.hid (ho2.mono HB.out.size)
        have HWo := Lib.hid (HW.out.below hb2)
        have HB2 := Lib.hid (bthen HB.out hb2)
        rw [e2]
        clear ho2 hb2 HS e2
        cases hs : stepOk (runTo l (zs.take k)).1 (nth zs k) with
        | false =>
          have Hs := Lib.hid hs
          go_wp2
          go_roundw
          case rel => exact ⟨k + 1, A', c', by omega, by go_num, by rw [Hr.out]; simp [runS, Hs.out], rfl, by rw [Hr.out]; simp only [runS]; rw [stepTo_no Hs.out]; exact HWo.out, HB2.out⟩
          case measure => simp [intOf]; omega
        | true =>
          have Hs := Lib.hid hs
          go_wp2
          go_roundw
          case rel => exact ⟨k + 1, A2, c2, by omega, by go_num, by rw [Hr.out]; simp [runS, Hs.out], rfl, by rw [Hr.out]; exact HW2.out, HB2.out⟩
          case measure => simp [intOf]; omega
      · obtain rfl : k = zs.length := by omega
        clear hown hb
        go_wp2
        go_ret2
        rw [H1.out, H2.out]
        have e := HF.out.2.1
        have HWo := HW.out
        rw [List.take_length] at e HWo
        refine ⟨A', c', ?_, ?_, HB.out⟩
        · rw [e]; first | rfl | (rw [List.take_length]; rfl)
        · rw [e]; exact HWo

theorem implRingStuck (A : Option Addr) (c : Nat) (l : List Int) (w : World) (h : RdI w A l) (hl : l.length ≤ 1000000000) :
    Calls Try.prog 30 #[.slice A l.length c] w fun e w' => e = .returned (.bool (ringStuck l)) ∧ Below w.heap.size w w' := by
  have HV := Lib.hid (implRingValid A c l w h hl)
  have HL := Lib.hid (implRingLeft A c l w h hl)
  have HC := Lib.hid (clone_any A c l w h hl)
  cases ho : ringOk l with
  | false =>
    have H1 : Hid (ringStuck l = false) := Lib.hid (by simp [ringStuck, ho])
    go_enter Try.func30, Try.ntmps30
    go_wp2_with (go_at_call 17; refine HV.out.mono ?_; rintro e w' ⟨rfl, rfl⟩)
    go_ret
    exact ⟨by rw [H1.out]; rfl, Below.refl _ _⟩
  | true =>
    have Ho := Lib.hid ho
    have Hm := many_t ho
    by_cases hc : 0 < cnt l
    · have H1 : Hid (ringStuck l = decide (firstOk l < 0)) := Lib.hid (by rw [ringStuck_eq, ho]; simp [hc])
      go_enter Try.func30, Try.ntmps30
      go_wp2_with (first
        | (go_at_call 17; refine HV.out.mono ?_; rintro e w' ⟨rfl, rfl⟩)
        | (go_at_call 20; refine HL.out.mono ?_; rintro e w' ⟨rfl, rfl⟩))
      refine HC.out.mono ?_
      rintro e w1 ⟨A1, c1, rfl, ho1, hb1⟩
      have HO1 := Lib.hid ho1
      have HB1 := Lib.hid hb1
      have HI1 := Lib.hid ho1.in_
      clear ho1 ho HC HV hb1
      go_wp2_with fail
      refine (firstStep_any A1 l.length c1 w.heap.size l w1 HO1.out Ho.out).mono ?_
      rintro e w2 ⟨rfl, ho2, hg2⟩
      have HB2 := Lib.hid (HB1.out.grown hg2 HB1.out.size (blk_from HI1.out (Nat.le_refl _)))
      clear ho2 hg2
      go_wp2
      go_ret
      exact ⟨by rw [H1.out]; rfl, HB2.out⟩
    · have H1 : Hid (ringStuck l = false) := Lib.hid (by simp [ringStuck, hc])
      go_enter Try.func30, Try.ntmps30
      go_wp2_with (first
        | (go_at_call 17; refine HV.out.mono ?_; rintro e w' ⟨rfl, rfl⟩)
        | (go_at_call 20; refine HL.out.mono ?_; rintro e w' ⟨rfl, rfl⟩))
      go_ret
      exact ⟨by rw [H1.out]; rfl, Below.refl _ _⟩

theorem specRingStuck (A : Option Addr) (c : Nat) (l : List Int) (w : World) (h : RdI w A l) (hl : l.length ≤ 1000000000) :
    Calls Try.prog 29 #[.slice A l.length c] w fun e w' => e = .returned (.bool (ringStuck l)) ∧ Below w.heap.size w w' := by
  have HL := Lib.hid (specRingLeft A c l w h hl)
  go_enter Try.func29, Try.ntmps29
  go_wp2_with (go_at_call 19; refine HL.out.mono ?_; rintro e w' ⟨rfl, rfl⟩)
  go_loopw [5] (fun i wr => ∃ k : Nat, k ≤ l.length ∧ i = vi k ∧ (∀ j : Nat, j < k → stepB l (j : Int) = false) ∧ Below w.heap.size w wr) (fun i _ => l.length - (intOf i).toNat)
  case atStart => exact ⟨0, Nat.zero_le _, rfl, fun j hj => absurd hj (by omega), Below.refl _ _⟩
  case round =>
    obtain ⟨k, hk, rfl, hj, hb⟩ := hrel
    have Hj := Lib.hid hj
    have HB := Lib.hid hb
    clear hj hb
    by_cases hlt : k < l.length
    · have HS := Lib.hid (specRingStep A c l (k : Int) wr (h.below HB.out) hl)
      go_wp2_with fail
      refine HS.out.mono ?_
      rintro e w2 ⟨A2, c2, rfl, ho2, hb2⟩
      have HB2 := Lib.hid (bthen HB.out hb2)
      clear ho2 hb2 HS
      cases hs : stepB l (k : Int) with
      | false =>
        have Hs := Lib.hid hs
        go_wp2
        go_roundw
        case rel => exact ⟨k + 1, by omega, by go_num, fun j hj => by
          rcases Nat.lt_succ_iff_lt_or_eq.1 hj with h1 | h1
          · exact Hj.out j h1
          · subst h1; exact Hs.out, HB2.out⟩
        case measure => simp [intOf]; omega
      | true =>
        have H1 : Hid (ringStuck l = false) := Lib.hid (by
          cases hq : ringStuck l with
          | false => rfl
          | true =>
            have := stuck_none hq k hlt
            simp [stepB, this] at hs)
        go_wp2
        go_ret
        exact ⟨by rw [H1.out]; rfl, HB2.out⟩
    · have H1 : Hid (ringStuck l = decide (0 < many l)) := Lib.hid (by
        cases ho : ringOk l with
        | false => rw [many_f ho]; simp [ringStuck, ho]
        | true =>
          rw [many_t ho, ringStuck_eq, ho, firstOk_no fun i hi => by
            have := Hj.out i (by omega)
            rwa [stepB_t ho] at this]
          simp)
      go_wp2
      go_ret
      exact ⟨by rw [H1.out]; rfl, HB.out⟩
end Go.Proofs.Ytkgfcgdihnhflaa
