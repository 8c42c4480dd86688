/-
  The walk of 'FnLeastHauls'.
-/
import Derived.Test.YtpabfbaoibmnlaaHaulDraw2
import Derived.Test.YtpabfbaoibmnlaaHlT
import Derived.Test.YtpabfbaoibmnlaaHlV
import Derived.Test.YtpabfbaoibmnlaaHlU
import Derived.Test.YtpabfbaoibmnlaaAlive
namespace Go.Proofs.Ytpabfbaoibmnlaa
open Go.RowKit
set_option linter.unusedVariables false
set_option maxRecDepth 100000

set_option maxHeartbeats 8000000 in
theorem walkFnLeastHauls (w : World) (A0a : Option Addr) (c0a : Nat) (l0 : List Int) (rd0 : RdB w w.heap.size A0a l0) (cap0 : l0.length ≤ c0a) :
    Calls Try.prog 10 #[.slice A0a l0.length c0a] w fun e w' => e = .returned (.bool true) ∧ Below w.heap.size w w' := by
  by_cases hbig0 : 1048576 < l0.length
  · go_enter Try.func10, Try.ntmps10
    go_wp2
    go_ret
    exact ⟨rfl, Below.refl _ _⟩
  go_enter Try.func10, Try.ntmps10
  go_wp2_with fail
  refine (DrawLeastHauls_any A0a c0a l0 w rd0 cap0).mono ?_
  rintro e w1 ⟨A1, c1, L, rfl, ho1, h6, h5, hb1⟩
  have HB1 := Lib.hid hb1
  have HM1 := Lib.hid ho1.rd
  have SM := Lib.hid (small_drawn h6 h5)
  clear ho1 hb1 h5 hbig0
  go_wp2_with fail
  refine (implLeastHauls A1 c1 L w1 HM1.out SM.out).mono ?_
  rintro e w2 ⟨rfl, hb2⟩
  have HB2 := Lib.hid (bthen HB1.out hb2)
  have HM2 := Lib.hid (HM1.out.below hb2)
  clear hb2
  go_wp2_with fail
  refine (specLeastHauls A1 c1 L w2 HM2.out SM.out).mono ?_
  rintro e w3 ⟨rfl, hb3⟩
  have HB3 := Lib.hid (bthen HB2.out hb3)
  have HM3 := Lib.hid (HM2.out.below hb3)
  clear hb3 HB1 HB2 HM1 HM2
  by_cases hx : leastV L < 0
  · obtain ⟨hx1, hx2⟩ := least_neg hx
    have HC := Lib.hid (implCostsValid A1 c1 L w3 HM3.out SM.out)
    rw [hx2] at HC
    rw [hx1]
    clear hx1 hx2 hx
    go_wp2_with fail
    refine HC.out.mono ?_
    rintro e w' ⟨rfl, rfl⟩
    go_wp2_with fail
    refine (alive_any w3).mono ?_
    rintro e w' ⟨rfl, rfl⟩
    go_wp2
    go_ret
    exact ⟨rfl, HB3.out⟩
  · have hc := least_yes (Int.not_lt.1 hx)
    have HOK := Lib.hid hc
    have hl5 := (costsOk_t hc).2
    have hsum := least_row hc
    obtain ⟨hb0, hbx⟩ := least_bd hc
    have HDL := Lib.hid (fun (h0 : 0 < L.length) (hd : costsOk (dear L L.length) = true) => dear_least hc h0 hd)
    have HDS0 := Lib.hid (dear_small hc)
    obtain ⟨x, hxx⟩ : ∃ x, x = leastV L := ⟨_, rfl⟩
    rw [← hxx] at hsum hb0 hbx HDL ⊢
    have HSum := Lib.hid hsum
    clear hx hc hxx hsum
    go_wp2
    go_loopw [5, 6, 7] (fun s v i wr => ∃ (k ga c : Nat) (R : List Rw), k ≤ L.length ∧ i = vi k ∧ s = vi (sumN (fun i => mn (nth L i) L.length) k) ∧ v = .slice (some ⟨ga, 0, none⟩) k c ∧ Own encR 30 wr w3.heap.size (some ⟨ga, 0, none⟩) k c R ∧ RowsOwn wr w3.heap.size R (dear L k) k ∧ Below w3.heap.size w3 wr) (fun _ _ i _ => L.length - (intOf i).toNat)
    case atStart => exact ⟨0, w3.heap.size, 0, [], Nat.zero_le _, rfl, rfl, rfl, Own.none_made w3, RowsOwn.zero, (Below.refl _ _).alloc (Nat.le_refl _) _⟩
    case round =>
      obtain ⟨k, ga, c, R, hk, rfl, rfl, rfl, ho, hro, hbw⟩ := hrel
      obtain ⟨wo, hwo⟩ : ∃ x, x = wr := ⟨wr, rfl⟩
      subst hwo
      have HO := Lib.hid ho
      have HRO := Lib.hid hro
      have HBW := Lib.hid hbw
      have hsz := hbw.size
      have hga := ho.in_ ga (.inl rfl)
      have HLT := Lib.hid hro.lt
      have HRl := Lib.hid ho.len
      clear ho hro hbw
      by_cases hlt : k < L.length
      · have hrl := (rowOk_t ((costsOk_t HOK.out).1 k hlt)).1
        have HRL := Lib.hid hrl
        have hsb := sumN_bd (m := fun i => mn (nth L i) L.length) (n := k) (fun i hi => mnrow_bd HOK.out (by omega) (Nat.le_refl _))
        obtain ⟨hsb0, hsb1⟩ := hsb
        have hmb := mnrow_bd HOK.out hlt (Nat.le_refl L.length)
        obtain ⟨hmb0, hmb1⟩ := hmb
        have hss : sumN (fun i => mn (nth L i) L.length) (k + 1) = sumN (fun i => mn (nth L i) L.length) k + mn (nth L k) L.length := rfl
        have HSS := Lib.hid hss
        obtain ⟨s, hs⟩ : ∃ s, s = sumN (fun i => mn (nth L i) L.length) k := ⟨_, rfl⟩
        rw [← hs] at HSS hsb0 hsb1 ⊢
        clear hs hrl hss
        go_wp2
        go_loopw [8, 9, 10] (fun le v i wq => ∃ (j d : Nat) (B : Option Addr) (l : List Int), j ≤ L.length ∧ i = vi j ∧ v = .slice B j d ∧ le = vi (mn (nth L k) j) ∧ l = (dr k (nth L k)).take j ∧ OwnI wq wo.heap.size B j d l ∧ Below wo.heap.size wo wq) (fun _ _ i _ => L.length - (intOf i).toNat)
        case atStart => exact ⟨0, 0, some ⟨wo.heap.size, 0, none⟩, [], Nat.zero_le _, rfl, rfl, rfl, rfl, OwnI.none_made wo, (Below.refl _ _).alloc (Nat.le_refl _) _⟩
        case round =>
          obtain ⟨j, d, B, l, hj, rfl, rfl, rfl, hl, hob, hbq⟩ := hrel
          obtain ⟨wq, hwq⟩ : ∃ x, x = wr := ⟨wr, rfl⟩
          subst hwq
          have HOB := Lib.hid hob
          have HIB := Lib.hid hob.in_
          have HBq := Lib.hid hbq
          have HL := Lib.hid hl
          have hqz := hbq.size
          have HMq := Lib.hid (HM3.out.below (bthen HBW.out hbq))
          clear hl hob hbq
          obtain ⟨bM, oM, RA, cA, hAM, hbM, hcA, hrA⟩ := HMq.out.at_ hlt
          have hrl := HRL.out
          rw [hrl] at hcA
          by_cases hjq : j < L.length
          · obtain ⟨hx0, hx1⟩ := cost_bd HOK.out hlt hjq
            obtain ⟨hm0, hm1⟩ := mnrow_bd HOK.out hlt (show j ≤ L.length by omega)
            have HMN : Hid (mn (nth L k) (j + 1) = min (mn (nth L k) j) (nth (nth L k) j)) := Lib.hid rfl
            have HDS : Hid ((dr k (nth L k)).take (j + 1) = (dr k (nth L k)).take j ++ [nth (dr k (nth L k)) j]) := Lib.hid (take_snoc _ _ (by rw [dr_len]; omega))
            obtain ⟨bA, oA, hA2, hbA, hxA⟩ := hrA (by omega)
            subst hA2
            subst hAM
            have hcj := hxA j (by omega)
            obtain ⟨z, hz⟩ : ∃ z, z = nth (nth L k) j := ⟨_, rfl⟩
            obtain ⟨q, hq⟩ : ∃ q, q = mn (nth L k) j := ⟨_, rfl⟩
            have hdz0 : k = 0 → nth (dr k (nth L k)) j = nth (nth L k) j + 1 := fun e => by subst e; exact dr_nth0 _ _ (by omega)
            have hdz1 : k ≠ 0 → nth (dr k (nth L k)) j = nth (nth L k) j := fun e => by rw [dr_nth _ e]
            rw [← hz] at hcj hx0 hx1 HMN hdz0 hdz1
            rw [← hq] at hm0 hm1 HMN ⊢
            clear hz hq hxA hrA hrl
            by_cases hk0 : k = 0
            · rw [hdz0 hk0] at HDS
              have e1 : ((k : Int) == 0) = true := by simp [hk0]
              have e2 : (k == 0) = true := by simp [hk0]
              clear hdz0 hdz1 hk0
              go_wp2_with (at_builtin; refine app_int rfl (.tmp 62) (.tmp 71) rfl wo.heap.size B j d l rfl (HOB.out.alloc _) (some ⟨wq.heap.size, 0, none⟩) 1 1 [z + 1] rfl (RdI.one _ _) rfl (by omega) (by simp; omega) ?_; intro A7 c7 w7 ho7 hg7; skip)
              have hB7 : ∀ b, blk B = some b → wo.heap.size ≤ b := fun b hb => (HIB.out b (.inr hb)).1
              have HO7 := Lib.hid ho7
              have HB7 := Lib.hid ((HBq.out.alloc HBq.out.size (.cells #[vi (z + 1)] 3)).grown hg7 (by have := HBq.out.size; simp; omega) (fun b hb => hB7 b hb))
              have hs7 := HB7.out.size
              clear ho7 hg7 hB7
              go_wp2
              go_roundw
              case rel => exact ⟨j + 1, c7, A7, l ++ [z + 1], by omega, by go_num, rfl, by rw [HMN.out]; congr 1; split <;> omega, by rw [HDS.out, ← HL.out], HO7.out, HB7.out⟩
              case measure => simp [intOf]; omega
            · rw [hdz1 hk0] at HDS
              have e1 : ((k : Int) == 0) = false := beq_false_of_ne (by omega)
              have e2 : (k == 0) = false := beq_false_of_ne hk0
              clear hdz0 hdz1 hk0
              go_wp2_with (at_builtin; refine app_int rfl (.tmp 73) (.tmp 81) rfl wo.heap.size B j d l rfl (HOB.out.alloc _) (some ⟨wq.heap.size, 0, none⟩) 1 1 [z] rfl (RdI.one _ _) rfl (by omega) (by simp; omega) ?_; intro A7 c7 w7 ho7 hg7; skip)
              have hB7 : ∀ b, blk B = some b → wo.heap.size ≤ b := fun b hb => (HIB.out b (.inr hb)).1
              have HO7 := Lib.hid ho7
              have HB7 := Lib.hid ((HBq.out.alloc HBq.out.size (.cells #[vi (z)] 3)).grown hg7 (by have := HBq.out.size; simp; omega) (fun b hb => hB7 b hb))
              have hs7 := HB7.out.size
              clear ho7 hg7 hB7
              go_wp2
              go_roundw
              case rel => exact ⟨j + 1, c7, A7, l ++ [z], by omega, by go_num, rfl, by rw [HMN.out]; congr 1; split <;> omega, by rw [HDS.out, ← HL.out], HO7.out, HB7.out⟩
              case measure => simp [intOf]; omega
          · obtain rfl : j = L.length := by omega
            have hLd : l = dr k (nth L k) := by rw [HL.out, List.take_of_length_le (by rw [dr_len, hrl]; exact Nat.le_refl _)]
            have HLd := Lib.hid hLd
            have HLt := Lib.hid (Own.lit (E := 30) (e := encR) wq #[.slice B L.length d] [(B, L.length, d)] rfl (by simp [maxLen]))
            have HOq := Lib.hid (HO.out.below HBq.out)
            have HRq := Lib.hid (HRO.out.below HBq.out)
            subst hAM
            clear hLd hrA hrl
            go_wp2_with (at_builtin; refine app_R rfl (.tmp 86) (.tmp 88) rfl w3.heap.size (some ⟨ga, 0, none⟩) k c R rfl (HOq.out.alloc _) (some ⟨wq.heap.size, 0, none⟩) 1 1 [(B, L.length, d)] rfl HLt.out.rd rfl (by omega) (by simp; omega) ?_; intro A7 c7 w7 ho7 hg7; skip)
            rcases ho7.form with ⟨_, e0⟩ | ⟨g7, rfl, _, _⟩
            · simp at e0
            have HOB7 := Lib.hid ((HOB.out.alloc (.cells #[.slice B L.length d] 30)).far hg7 (fun b hb e2 => by simp [blk] at e2; have := (HIB.out b (.inl hb)).1; omega))
            have HRA7 := Lib.hid ((HRq.out.below ((Below.refl _ _).alloc (Nat.le_refl _) (.cells #[.slice B L.length d] 30))).farO (HOq.out.alloc _) hg7)
            have HO7 := Lib.hid ho7
            have HRN : Hid (RowsOwn w7 w3.heap.size (R ++ [(B, L.length, d)]) (dear L (k + 1)) (k + 1)) := Lib.hid (by
              have h1 := HOB7.out
              have hll := h1.len
              rw [← hll] at h1 ⊢
              have := RowsOwn.add HRA7.out HRl.out (dear_len L k) HLT.out hsz h1
              rw [dear_snoc, ← HLd.out]
              exact this)
            have HBN := Lib.hid (((bthen HBW.out HBq.out).alloc (by omega) (.cells #[.slice B L.length d] 30)).grown hg7 (by simp; omega) (fun b hb => by simp [blk] at hb; omega))
            clear ho7 hg7
            go_wp2
            go_roundw
            case rel => exact ⟨k + 1, g7, c7, R ++ [(B, L.length, d)], by omega, by go_num, by rw [HSS.out], rfl, HO7.out, HRN.out, HBN.out⟩
            case measure => simp [intOf]; omega
      · obtain rfl : k = L.length := by omega
        have hsum := HSum.out
        have HMM : Hid (RdM wo (some ⟨ga, 0, none⟩) (dear L L.length)) := Lib.hid ((show OwnM wo w3.heap.size (some ⟨ga, 0, none⟩) L.length c (dear L L.length) from ⟨dear_len _ _, R, HO.out, HRO.out⟩).rd)
        have HCV : Hid (Calls Try.prog 16 #[.slice (some ⟨ga, 0, none⟩) L.length c] wo fun e w' => e = .returned (.bool (costsOk (dear L L.length))) ∧ wo = w') := Lib.hid (by
          have := implCostsValid (some ⟨ga, 0, none⟩) c (dear L L.length) wo HMM.out HDS0.out
          rw [dear_len] at this
          exact this)
        have HLH : Hid (Calls Try.prog 25 #[.slice (some ⟨ga, 0, none⟩) L.length c] wo fun e w' => e = .returned (vi (leastV (dear L L.length))) ∧ Below wo.heap.size wo w') := Lib.hid (by
          have := implLeastHauls (some ⟨ga, 0, none⟩) c (dear L L.length) wo HMM.out HDS0.out
          rw [dear_len] at this
          exact this)
        have HZ := Lib.hid (bthen HB3.out HBW.out)
        obtain ⟨s, hs⟩ : ∃ s, s = sumN (fun i => mn (nth L i) L.length) L.length := ⟨_, rfl⟩
        rw [← hs] at hsum ⊢
        clear hs
        by_cases h0 : L.length = 0
        · have e1 : ((L.length : Int) == 0) = true := by simp [h0]
          have e2 : (L.length == 0) = true := by simp [h0]
          clear h0
          go_wp2
          go_ret
          first | exact ⟨rfl, HZ.out⟩ | exact ⟨by simp; done, HZ.out⟩
        · have e1 : ((L.length : Int) == 0) = false := beq_false_of_ne (by omega)
          have e2 : (L.length == 0) = false := beq_false_of_ne h0
          cases hd : costsOk (dear L L.length) with
          | false =>
            rw [hd] at HCV
            clear hd h0
            go_wp2_with fail
            refine HCV.out.mono ?_
            rintro e w' ⟨rfl, rfl⟩
            go_wp2
            go_ret
            first | exact ⟨rfl, HZ.out⟩ | exact ⟨by simp; done, HZ.out⟩
          | true =>
            rw [hd] at HCV
            rw [HDL.out (by omega) hd] at HLH
            clear hd h0
            go_wp2_with fail
            refine HCV.out.mono ?_
            rintro e w' ⟨rfl, rfl⟩
            go_wp2_with fail
            refine HLH.out.mono ?_
            rintro e w9 ⟨rfl, hb9⟩
            have HZ9 := Lib.hid (bthen HZ.out hb9)
            clear hb9
            go_wp2
            go_ret
            first | exact ⟨rfl, HZ9.out⟩ | exact ⟨by simp; done, HZ9.out⟩
end Go.Proofs.Ytpabfbaoibmnlaa
