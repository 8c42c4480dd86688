/-
  The walk of 'FnBestHauls'.
-/
import Derived.Test.YtpabfbaoibmnlaaHaulDraw2
import Derived.Test.YtpabfbaoibmnlaaHlT
import Derived.Test.YtpabfbaoibmnlaaHlR
import Derived.Test.YtpabfbaoibmnlaaHlU
import Derived.Test.YtpabfbaoibmnlaaAlive
namespace Go.Proofs.Ytpabfbaoibmnlaa
open Go.RowKit
set_option linter.unusedVariables false
set_option maxRecDepth 100000

set_option maxHeartbeats 8000000 in
theorem walkFnBestHauls (w : World) (A0a : Option Addr) (c0a : Nat) (l0 : List Int) (rd0 : RdB w w.heap.size A0a l0) (cap0 : l0.length ≤ c0a) :
    Calls Try.prog 9 #[.slice A0a l0.length c0a] w fun e w' => e = .returned (.bool true) ∧ Below w.heap.size w w' := by
  by_cases hbig0 : 1048576 < l0.length
  · go_enter Try.func9, Try.ntmps9
    go_wp2
    go_ret
    exact ⟨rfl, Below.refl _ _⟩
  go_enter Try.func9, Try.ntmps9
  go_wp2_with fail
  refine (DrawBestHauls_any A0a c0a l0 w rd0 cap0).mono ?_
  rintro e w1 ⟨A1, c1, L, rfl, ho1, h6, h5, hb1⟩
  have HB1 := Lib.hid hb1
  have HM1 := Lib.hid ho1.rd
  have SM := Lib.hid (small_drawn h6 h5)
  clear ho1 hb1 h5 hbig0
  have hbl := bestL_len5 L
  go_wp2_with fail
  refine (implBestHauls A1 c1 L w1 HM1.out SM.out).mono ?_
  rintro e w2 ⟨A2, c2, rfl, ho2, hb2⟩
  have HO2 := Lib.hid ho2
  have HB2 := Lib.hid (bthen HB1.out hb2)
  have HM2 := Lib.hid (HM1.out.below hb2)
  clear ho2 hb2
  go_wp2_with fail
  refine (specBestHauls A1 c1 L w2 HM2.out SM.out).mono ?_
  rintro e w3 ⟨A3, c3, rfl, ho3, hb3⟩
  have HO3 := Lib.hid ho3
  have HW3 := Lib.hid (HO2.out.below hb3)
  have HB3 := Lib.hid (bthen HB2.out hb3)
  have HM3 := Lib.hid (HM2.out.below hb3)
  clear ho3 hb3
  go_wp2_with fail
  refine (sameIntsEq_any A2 c2 A3 c3 (bestL L) w3 HW3.out.rd HO3.out.rd (by omega)).mono ?_
  rintro e w4 ⟨rfl, hd4⟩
  have HW4 := Lib.hid (HW3.out.below (of_draws hd4))
  have HB4 := Lib.hid (bthen HB3.out (of_draws hd4))
  have HM4 := Lib.hid (HM3.out.below (of_draws hd4))
  clear hd4
  cases hc : costsOk L with
  | false =>
    have HE : Hid (bestL L = []) := Lib.hid (by simp [bestL, hc])
    have HC := Lib.hid (specCostsValid A1 c1 L w4 HM4.out SM.out)
    rw [hc] at HC
    rw [HE.out]
    clear hc
    go_wp2_with fail
    refine HC.out.mono ?_
    rintro e w' ⟨rfl, rfl⟩
    go_wp2_with fail
    refine (alive_any w4).mono ?_
    rintro e w' ⟨rfl, rfl⟩
    go_wp2
    go_ret
    exact ⟨rfl, HB4.out⟩
  | true =>
    have HC := Lib.hid (specCostsValid A1 c1 L w4 HM4.out SM.out)
    rw [hc] at HC
    have HOK := Lib.hid hc
    have HP := Lib.hid (isPerm_iff.1 (bestL_least hc).1)
    obtain ⟨who, hwho⟩ : ∃ who, who = bestL L := ⟨_, rfl⟩
    have HSW := Lib.hid (fun (a b : Nat) (ha : a < L.length) (hb : b < L.length) (hab : a ≠ b) => best_swap hc ha hb hab)
    have HCN := Lib.hid (cost_nonneg hc (bestL_least hc).1)
    rw [← hwho] at HP HSW HCN HW4 hbl ⊢
    have hwl : who.length = L.length := HP.out.1
    have hl5 := (costsOk_t hc).2
    have hwl1 : (who.length : Int) = (L.length : Int) := by omega
    have hq1 : ((who.length : Int) == (L.length : Int)) = true := by simp [hwl]
    have hq2 : (who.length == L.length) = true := by simp [hwl]
    have HWL := Lib.hid hwl
    clear hc hwho hwl hwl1 HO2 HO3 HW3 HM1 HM2 HM3 HB1 HB2 HB3
    go_wp2_with fail
    refine HC.out.mono ?_
    rintro e w' ⟨rfl, rfl⟩
    go_wp2
    go_loopw [5] (fun i wr => ∃ a : Nat, a ≤ who.length ∧ i = vi a ∧ Below w4.heap.size w4 wr) (fun i _ => who.length - (intOf i).toNat)
    case atStart => exact ⟨0, Nat.zero_le _, rfl, Below.refl _ _⟩
    case round =>
      obtain ⟨a, ha, rfl, hba⟩ := hrel
      have HBa := Lib.hid hba
      clear hba
      by_cases hlt : a < who.length
      · go_wp2
        go_loopw [6] (fun i wr => ∃ b : Nat, b ≤ a ∧ i = vi b ∧ Below w4.heap.size w4 wr) (fun i _ => a - (intOf i).toNat)
        case atStart => exact ⟨0, Nat.zero_le _, rfl, HBa.out⟩
        case round =>
          obtain ⟨b, hb, rfl, hbb⟩ := hrel
          obtain ⟨wq, hwq⟩ : ∃ x, x = wr := ⟨wr, rfl⟩
          subst hwq
          have HBb := Lib.hid hbb
          clear hbb
          by_cases hltb : b < a
          · have hwl := HWL.out
            have haL : a < L.length := by omega
            have hbL : b < L.length := by omega
            obtain ⟨p1, p2⟩ := HP.out.2.1 a haL
            obtain ⟨p3, p4⟩ := HP.out.2.1 b hbL
            obtain ⟨va, hva⟩ : ∃ v : Nat, nth who a = (v : Int) := ⟨(nth who a).toNat, by omega⟩
            obtain ⟨vb, hvb⟩ : ∃ v : Nat, nth who b = (v : Int) := ⟨(nth who b).toNat, by omega⟩
            have hsw := HSW.out a b haL hbL (by omega)
            rw [hva, hvb] at hsw
            simp only [Int.toNat_natCast] at hsw
            have hva2 : va < L.length := by omega
            have hvb2 : vb < L.length := by omega
            have hrlA := (rowOk_t ((costsOk_t HOK.out).1 a haL)).1
            have hrlB := (rowOk_t ((costsOk_t HOK.out).1 b hbL)).1
            obtain ⟨c1a, c1b⟩ := cost_bd HOK.out haL hva2
            obtain ⟨c2a, c2b⟩ := cost_bd HOK.out haL hvb2
            obtain ⟨c3a, c3b⟩ := cost_bd HOK.out hbL hva2
            obtain ⟨c4a, c4b⟩ := cost_bd HOK.out hbL hvb2
            have hM := HM4.out.below HBb.out
            have hW := HW4.out.rd.below HBb.out
            obtain ⟨bM, oM, RA, cA, rfl, hbM, hcA, hrA⟩ := hM.at_ (k := a) (by omega)
            obtain ⟨RB, cB, hcB, hrB⟩ := hM.row (k := b) (by omega)
            obtain ⟨bA, oA, rfl, hbA, hxA⟩ := hrA (by omega)
            obtain ⟨bB, oB, rfl, hbB, hxB⟩ := hrB (by omega)
            obtain ⟨bW, oW, rfl, hbW, hxW⟩ := hW (by omega)
            have hwa := hxW a (by omega)
            have hwb := hxW b (by omega)
            rw [hva] at hwa
            rw [hvb] at hwb
            have haa := hxA va (by omega)
            have hab := hxA vb (by omega)
            have hba := hxB va (by omega)
            have hbb := hxB vb (by omega)
            obtain ⟨xaa, hxaa⟩ : ∃ x, x = nth (nth L a) va := ⟨_, rfl⟩
            obtain ⟨xab, hxab⟩ : ∃ x, x = nth (nth L a) vb := ⟨_, rfl⟩
            obtain ⟨xba, hxba⟩ : ∃ x, x = nth (nth L b) va := ⟨_, rfl⟩
            obtain ⟨xbb, hxbb⟩ : ∃ x, x = nth (nth L b) vb := ⟨_, rfl⟩
            rw [← hxaa] at haa hsw c1a c1b
            rw [← hxab] at hab hsw c2a c2b
            rw [← hxba] at hba hsw c3a c3b
            rw [← hxbb] at hbb hsw c4a c4b
            have hra : va < (nth L a).length := by omega
            have hrb : vb < (nth L a).length := by omega
            have hrc : va < (nth L b).length := by omega
            have hrd : vb < (nth L b).length := by omega
            have haw : a < who.length := hlt
            have hbw : b < who.length := by omega
            have hdec : decide (xab + xba < xaa + xbb) = false := by simp; omega
            have hw1 : IntKind.i64.wrap (xab + xba) = xab + xba := by rw [IntKind.wrap_i64]; omega
            have hw2 : IntKind.i64.wrap (xaa + xbb) = xaa + xbb := by rw [IntKind.wrap_i64]; omega
            have hge : xaa + xbb ≤ xab + xba := hsw
            have HBb2 := Lib.hid (fun n => below_drewN HBb.out n)
            clear hxaa hxab hxba hxbb hva hvb hxA hxB hxW hrA hrB hM hW hrlA hrlB hsw hwl p1 p2 p3 p4
            go_wp2
            go_quiet (fail)
            go_wp2
            go_roundw
            case rel => exact ⟨b + 1, by omega, by go_num, HBb2.out _⟩
            case measure => simp [intOf]; omega
          · obtain rfl : b = a := by omega
            go_wp2
            go_roundw
            case rel => exact ⟨b + 1, by omega, by go_num, HBb.out⟩
            case measure => simp [intOf]; omega
      · obtain rfl : a = who.length := by omega
        have HZ := Lib.hid (bthen HB4.out HBa.out)
        have HHC := Lib.hid (implHaulCost A1 c1 L A2 c2 who wr (HM4.out.below HBa.out) (HW4.out.rd.below HBa.out) SM.out (by omega) HW4.out.cap.1)
        obtain ⟨z, hz⟩ : ∃ z, z = haulCost L who := ⟨_, rfl⟩
        have hz0 : 0 ≤ z := by rw [hz]; exact HCN.out
        rw [← hz] at HHC
        clear hz
        go_wp2_with fail
        refine HHC.out.mono ?_
        rintro e w' ⟨rfl, rfl⟩
        go_wp2
        go_ret
        first | exact ⟨rfl, HZ.out⟩ | exact ⟨by simp; omega, HZ.out⟩
end Go.Proofs.Ytpabfbaoibmnlaa
