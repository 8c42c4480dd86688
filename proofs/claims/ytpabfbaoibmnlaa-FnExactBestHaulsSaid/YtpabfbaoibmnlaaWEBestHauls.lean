/-
  The walk of 'FnExactBestHauls'.
-/
import Derived.Test.YtpabfbaoibmnlaaHlT
import Derived.Test.YtpabfbaoibmnlaaMatB
import Derived.Test.YtpabfbaoibmnlaaBase2
namespace Go.Proofs.Ytpabfbaoibmnlaa
open Go.RowKit
set_option linter.unusedVariables false
set_option maxRecDepth 100000

theorem walkFnExactBestHauls (w : World) (A0a : Option Addr) (c0a : Nat) (l0 : List (List Int)) (rd0 : RdM w A0a l0) (hn0 : l0.length ≤ 9223372036854775807) (hr0 : ∀ k, k < l0.length → (nth l0 k).length ≤ 9223372036854775807) :
    Calls Try.prog 7 #[.slice A0a l0.length c0a] w fun e w' => e = .returned (.bool true) ∧ Below w.heap.size w w' := by
  have hlt0 := len_le_tot l0
  have hrt0 := Lib.hid (row_le_tot l0)
  by_cases hbig0 : 1048576 < (tot l0 : Int)
  · have Hz0 := Lib.hid (szV_lo hbig0)
    go_enter Try.func7, Try.ntmps7
    go_wp2_with fail
    refine (szIntSS_any A0a c0a l0 (1048576) w rd0 hn0 hr0 (by omega) (by omega)).mono ?_
    rintro e w' ⟨he, rfl⟩
    rw [Hz0.out] at he
    subst he
    go_wp2
    go_ret
    exact ⟨rfl, Below.refl _ _⟩
  have Hz0 := Lib.hid (szV_hi hbig0)
  have hl0 : l0.length ≤ 1000000000 := by omega
  have SM0 := small_of (L := l0) (by omega)
  have HRW0 : ∀ k, k < l0.length → (nth l0 k).length ≤ 1048576 := fun k hk => by have := hrt0.out k hk; omega
  have HRW0 := Lib.hid HRW0
  have SM0 := Lib.hid SM0
  have hfl := bestL_len5 l0
  have hsmr := same_self (bestL l0)
  have hall0 := sums_all l0
  go_enter Try.func7, Try.ntmps7
  go_wp2_with fail
  refine (szIntSS_any A0a c0a l0 (1048576) w rd0 hn0 hr0 (by omega) (by omega)).mono ?_
  rintro e w' ⟨he, rfl⟩
  rw [Hz0.out] at he
  subst he
  go_wp2_with fail
  refine (toIntSS_any A0a c0a l0 w rd0 (by omega) HRW0.out).mono ?_
  rintro e w1 ⟨A1, c1, rfl, ho1, hb1⟩
  have HO1 := Lib.hid ho1
  have HB1 := Lib.hid hb1
  have hs1 : w.heap.size ≤ w1.heap.size := hb1.size
  have HI1 := Lib.hid ho1.in_
  clear ho1 hb1
  go_wp2_with fail
  refine (specBestHauls A1 c1 l0 w1 HO1.out.rd SM0.out).mono ?_
  rintro e w2 ⟨A2, c2, rfl, ho2, hb2⟩
  have HO2 := Lib.hid ho2
  have HB2 := Lib.hid (bthen HB1.out hb2)
  have hs2 : w1.heap.size ≤ w2.heap.size := hb2.size
  have HI2 := Lib.hid ho2.in_
  have HO1 := Lib.hid (HO1.out.below hb2)
  clear ho2 hb2
  go_wp2_with fail
  refine (toIntSS_any A0a c0a l0 w2 (rd0.below HB2.out) (by omega) HRW0.out).mono ?_
  rintro e w3 ⟨A3, c3, rfl, ho3, hb3⟩
  have HO3 := Lib.hid ho3
  have HB3 := Lib.hid (bthen HB2.out hb3)
  have hs3 : w2.heap.size ≤ w3.heap.size := hb3.size
  have HI3 := Lib.hid ho3.in_
  have HO1 := Lib.hid (HO1.out.below hb3)
  have HO2 := Lib.hid (HO2.out.below hb3)
  clear ho3 hb3
  go_wp2_with fail
  refine (implBestHauls A3 c3 l0 w3 HO3.out.rd SM0.out).mono ?_
  rintro e w4 ⟨A4, c4, rfl, ho4, hb4⟩
  have HO4 := Lib.hid ho4
  have HB4 := Lib.hid (bthen HB3.out hb4)
  have hs4 : w3.heap.size ≤ w4.heap.size := hb4.size
  have HI4 := Lib.hid ho4.in_
  have HO1 := Lib.hid (HO1.out.below hb4)
  have HO2 := Lib.hid (HO2.out.below hb4)
  have HO3 := Lib.hid (HO3.out.below hb4)
  clear ho4 hb4
  go_wp2_with fail
  refine (eqIntS_any A4 A2 c4 c2 (bestL l0) (bestL l0) w4 HO4.out.rd HO2.out.rd (by omega) (by omega)).mono ?_
  rintro e w5 ⟨rfl, hd5⟩
  have hb5 := of_draws hd5
  have HB5 := Lib.hid (bthen HB4.out hb5)
  have hs5 : w4.heap.size ≤ w5.heap.size := hb5.size
  have HO1 := Lib.hid (HO1.out.below hb5)
  have HO2 := Lib.hid (HO2.out.below hb5)
  have HO3 := Lib.hid (HO3.out.below hb5)
  have HO4 := Lib.hid (HO4.out.below hb5)
  clear hd5 hb5
  go_wp2_with fail
  refine (toIntSS_any A0a c0a l0 w5 (rd0.below HB5.out) (by omega) HRW0.out).mono ?_
  rintro e w6 ⟨A6, c6, rfl, ho6, hb6⟩
  have HO6 := Lib.hid ho6
  have HB6 := Lib.hid (bthen HB5.out hb6)
  have hs6 : w5.heap.size ≤ w6.heap.size := hb6.size
  have HI6 := Lib.hid ho6.in_
  have HO1 := Lib.hid (HO1.out.below hb6)
  have HO2 := Lib.hid (HO2.out.below hb6)
  have HO3 := Lib.hid (HO3.out.below hb6)
  have HO4 := Lib.hid (HO4.out.below hb6)
  clear ho6 hb6
  go_wp2_with fail
  refine (eqIntSS_any A3 A6 c3 c6 l0 w6 HO3.out.rd HO6.out.rd SM0.out).mono ?_
  rintro e w7 ⟨rfl, hb7⟩
  have HB7 := Lib.hid (bthen HB6.out hb7)
  have hs7 : w6.heap.size ≤ w7.heap.size := hb7.size
  have HO1 := Lib.hid (HO1.out.below hb7)
  have HO2 := Lib.hid (HO2.out.below hb7)
  have HO3 := Lib.hid (HO3.out.below hb7)
  have HO4 := Lib.hid (HO4.out.below hb7)
  have HO6 := Lib.hid (HO6.out.below hb7)
  clear hb7
  go_wp2_with fail
  refine (markIntSS_any A3 c3 w2.heap.size w3.heap.size l0 1 w7 HO3.out SM0.out (by omega) (by omega) (by omega) (by omega)).mono ?_
  rintro e w8 ⟨rfl, hf8⟩
  have hs8 : w7.heap.size ≤ w8.heap.size := hf8.2.1
  have HB8 := Lib.hid (HB7.out.trans (hf8.1.mono (by omega)))
  have HO2 := Lib.hid (HO2.out.kept hf8.2.1 (fun g h1 h2 e => hf8.1.block g (by have := HI2.out g (.inl e); omega)))
  have HO4 := Lib.hid (HO4.out.kept hf8.2.1 (fun g h1 h2 e => hf8.2.2 g (by have := HI4.out g (.inl e); omega) h2))
  clear hf8
  go_wp2_with fail
  refine (eqIntS_any A4 A2 c4 c2 (bestL l0) (bestL l0) w8 HO4.out.rd HO2.out.rd (by omega) (by omega)).mono ?_
  rintro e w9 ⟨rfl, hd9⟩
  have hb9 := of_draws hd9
  have HB9 := Lib.hid (bthen HB8.out hb9)
  have hs9 : w8.heap.size ≤ w9.heap.size := hb9.size
  have HO2 := Lib.hid (HO2.out.below hb9)
  have HO4 := Lib.hid (HO4.out.below hb9)
  clear hd9 hb9
  go_wp2_with fail
  refine (markIntS_any A4 (bestL l0).length c4 w3.heap.size (bestL l0) 1 w9 HO4.out (by omega) (by omega) (by omega)).mono ?_
  rintro e w10 ⟨rfl, ho10, hg10⟩
  have HB10 := Lib.hid (HB9.out.grown hg10 HB9.out.size (blk_from HI4.out (by omega)))
  have hs10 : w9.heap.size ≤ w10.heap.size := hg10.size
  have HO2 := Lib.hid (HO2.out.far hg10 (apart HI2.out HI4.out (by omega)))
  have HO4 := Lib.hid ho10
  clear ho10 hg10
  go_wp2_with fail
  refine (heldIntS_any A4 (bestL l0).length c4 1 w10 HO4.out.rd (by omega) (by omega) (by omega)).mono ?_
  rintro e w' ⟨rfl, rfl⟩
  go_wp2_with fail
  refine (toIntSS_any A0a c0a l0 w10 (rd0.below HB10.out) (by omega) HRW0.out).mono ?_
  rintro e w11 ⟨A11, c11, rfl, ho11, hb11⟩
  have HO11 := Lib.hid ho11
  have HB11 := Lib.hid (bthen HB10.out hb11)
  have hs11 : w10.heap.size ≤ w11.heap.size := hb11.size
  have HI11 := Lib.hid ho11.in_
  have HO2 := Lib.hid (HO2.out.below hb11)
  have HO4 := Lib.hid (HO4.out.below hb11)
  clear ho11 hb11
  go_wp2_with fail
  refine (implBestHauls A11 c11 l0 w11 HO11.out.rd SM0.out).mono ?_
  rintro e w12 ⟨A12, c12, rfl, ho12, hb12⟩
  have HO12 := Lib.hid ho12
  have HB12 := Lib.hid (bthen HB11.out hb12)
  have hs12 : w11.heap.size ≤ w12.heap.size := hb12.size
  have HI12 := Lib.hid ho12.in_
  have HO2 := Lib.hid (HO2.out.below hb12)
  have HO4 := Lib.hid (HO4.out.below hb12)
  have HO11 := Lib.hid (HO11.out.below hb12)
  clear ho12 hb12
  go_wp2_with fail
  refine (eqIntS_any A12 A2 c12 c2 (bestL l0) (bestL l0) w12 HO12.out.rd HO2.out.rd (by omega) (by omega)).mono ?_
  rintro e w13 ⟨rfl, hd13⟩
  have hb13 := of_draws hd13
  have HB13 := Lib.hid (bthen HB12.out hb13)
  have hs13 : w12.heap.size ≤ w13.heap.size := hb13.size
  have HO2 := Lib.hid (HO2.out.below hb13)
  have HO4 := Lib.hid (HO4.out.below hb13)
  have HO11 := Lib.hid (HO11.out.below hb13)
  have HO12 := Lib.hid (HO12.out.below hb13)
  clear hd13 hb13
  go_wp2_with fail
  refine (heldIntS_any A4 (bestL l0).length c4 1 w13 HO4.out.rd (by omega) (by omega) (by omega)).mono ?_
  rintro e w' ⟨rfl, rfl⟩
  go_wp2
  go_ret
  exact ⟨rfl, HB13.out⟩
end Go.Proofs.Ytpabfbaoibmnlaa
