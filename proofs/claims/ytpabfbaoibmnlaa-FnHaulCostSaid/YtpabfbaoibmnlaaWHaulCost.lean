/-
  The walk of 'FnHaulCost'.
-/
import Derived.Test.YtpabfbaoibmnlaaHaulDraw3
import Derived.Test.YtpabfbaoibmnlaaHlT
import Derived.Test.YtpabfbaoibmnlaaHlR
import Derived.Test.YtpabfbaoibmnlaaHlU
import Derived.Test.YtpabfbaoibmnlaaAlive
namespace Go.Proofs.Ytpabfbaoibmnlaa
open Go.RowKit
set_option linter.unusedVariables false
set_option maxRecDepth 100000

set_option maxHeartbeats 8000000 in
theorem walkFnHaulCost (w : World) (A0a : Option Addr) (c0a : Nat) (l0 : List Int) (rd0 : RdB w w.heap.size A0a l0) (cap0 : l0.length ≤ c0a) :
    Calls Try.prog 8 #[.slice A0a l0.length c0a] w fun e w' => e = .returned (.bool true) ∧ Below w.heap.size w w' := by
  by_cases hbig0 : 1048576 < l0.length
  · go_enter Try.func8, Try.ntmps8
    go_wp2
    go_ret
    exact ⟨rfl, Below.refl _ _⟩
  go_enter Try.func8, Try.ntmps8
  go_wp2_with fail
  refine (DrawHaulCost_any A0a c0a l0 w rd0 cap0).mono ?_
  rintro e w1 ⟨A1, c1, L, A2, c2, who, rfl, ho1, hw1, h6, h5, h11, hb1⟩
  have HB1 := Lib.hid hb1
  have HM1 := Lib.hid ho1.rd
  have HW1 := Lib.hid hw1
  have SM := Lib.hid (small_drawn h6 h5)
  clear ho1 hb1 h5 hbig0 hw1
  go_wp2_with fail
  refine (implHaulCost A1 c1 L A2 c2 who w1 HM1.out HW1.out.rd SM.out (by omega) HW1.out.cap.1).mono ?_
  rintro e w' ⟨rfl, rfl⟩
  go_wp2_with fail
  refine (specHaulCostB A1 c1 L A2 c2 who w1 HM1.out HW1.out.rd SM.out (by omega) HW1.out.cap.1).mono ?_
  rintro e w2 ⟨rfl, hb2⟩
  have HM2 := Lib.hid (HM1.out.below hb2)
  have HW2 := Lib.hid (HW1.out.below hb2)
  have HB2 := Lib.hid (bthen HB1.out hb2)
  clear hb2 HM1 HW1 HB1
  by_cases hx : haulCost L who < 0
  · have hm := cost_neg hx
    rw [hm]
    clear hm hx
    go_wp2_with fail
    refine (alive_any w2).mono ?_
    rintro e w' ⟨rfl, rfl⟩
    go_wp2
    go_ret
    exact ⟨rfl, HB2.out⟩
  · obtain ⟨hc, hp⟩ := cost_yes (Int.not_lt.1 hx)
    have HOK := Lib.hid hc
    have HP := Lib.hid (isPerm_iff.1 hp)
    have hwl := HP.out.1
    have hl5 := (costsOk_t hc).2
    have HSW := Lib.hid (fun (h1 : 1 < L.length) => (And.intro (swap_perm hp (show 0 < L.length by omega) h1) (swap_cost hc hp (show 0 < L.length by omega) h1 (by omega))))
    obtain ⟨hle1, hle2⟩ := least_le hc hp
    have hxb : haulCost L who ≤ 1000 := by
      rw [haulCost_ok hc hp]
      have := (hsum_bd hc hwl (Nat.le_refl _) (isPerm_t hp).1).2
      omega
    obtain ⟨x, hxx⟩ : ∃ x, x = haulCost L who := ⟨_, rfl⟩
    obtain ⟨y, hyy⟩ : ∃ y, y = leastV L := ⟨_, rfl⟩
    have hxn : 0 ≤ haulCost L who := Int.not_lt.1 hx
    rw [← hxx] at hxb hle2 HSW hxn ⊢
    have HLV := Lib.hid (fun (w' : World) (hm : RdM w' A1 L) => implLeastHauls A1 c1 L w' hm SM.out)
    rw [← hyy] at hle1 hle2 HLV
    have HWL := Lib.hid hwl
    clear hx hc hp hxx hyy hwl
    by_cases h1 : 1 < who.length
    · have hwl := HWL.out
      obtain ⟨hsp, hsc⟩ := HSW.out (by omega)
      have h0L : 0 < L.length := by omega
      have h1L : 1 < L.length := by omega
      obtain ⟨p1, p2⟩ := HP.out.2.1 0 h0L
      obtain ⟨p3, p4⟩ := HP.out.2.1 1 h1L
      obtain ⟨va, hva⟩ : ∃ v : Nat, nth who 0 = (v : Int) := ⟨(nth who 0).toNat, by omega⟩
      obtain ⟨vb, hvb⟩ : ∃ v : Nat, nth who 1 = (v : Int) := ⟨(nth who 1).toNat, by omega⟩
      rw [hva, hvb] at hsc
      simp only [Int.toNat_natCast] at hsc
      have hva2 : va < L.length := by omega
      have hvb2 : vb < L.length := by omega
      have hrlA := (rowOk_t ((costsOk_t HOK.out).1 0 h0L)).1
      have hrlB := (rowOk_t ((costsOk_t HOK.out).1 1 h1L)).1
      obtain ⟨c1a, c1b⟩ := cost_bd HOK.out h0L hva2
      obtain ⟨c2a, c2b⟩ := cost_bd HOK.out h0L hvb2
      obtain ⟨c3a, c3b⟩ := cost_bd HOK.out h1L hva2
      obtain ⟨c4a, c4b⟩ := cost_bd HOK.out h1L hvb2
      have hsl : (swap who 0 1).length = who.length := swap_len
      have hsw : swap who 0 1 = (who.set 0 (vb : Int)).set 1 (va : Int) := by simp only [swap, hva, hvb]
      obtain ⟨bW, oW, hAW, hbW, hxW⟩ := HW2.out.rd (by omega)
      subst hAW
      have hwa := hxW 0 (by omega)
      have hwb := hxW 1 (by omega)
      rw [hva, Nat.add_zero] at hwa
      rw [hvb] at hwb
      have HWa := Lib.hid hwa
      have HWb := Lib.hid hwb
      have HSC := Lib.hid hsc
      have HSL := Lib.hid hsl
      have HSE := Lib.hid hsw
      have HVA := Lib.hid hva
      have HVB := Lib.hid hvb
      have HRA := Lib.hid hrlA
      have HRB := Lib.hid hrlB
      clear hsc hsl hsw hva hvb hrlA hrlB hxW hwl hwa hwb hsp
      go_wp2_with (at_builtin; refine app_int rfl (.tmp 34) (.tmp 35) rfl w2.heap.size (some ⟨w2.heap.size, 0, none⟩) 0 0 [] rfl (OwnI.none_made w2) (some ⟨bW, oW, none⟩) who.length c2 who rfl (HW2.out.rd.alloc _) rfl (by omega) (by simp) ?_; intro A5 c5 w5 ho5 hg5; rw [Nat.zero_add] at ho5 ⊢; rw [List.nil_append] at ho5; have HO5 := Lib.hid ho5; have HB5 : Hid (Below w2.heap.size w2 w5) := Lib.hid (((Below.refl _ _).alloc (Nat.le_refl _) _).grown hg5 (by simp) (fun q hq => by simp [blk] at hq; omega)); have hs5 := HB5.out.size; clear ho5 hg5; rcases HO5.out.form with ⟨_, e0⟩ | ⟨g5, hA5, hg51, hg52⟩; (rw [e0] at h1; simp at h1); subst hA5; have ho5c := HO5.out.cell 0 (by omega); have ho5f := HO5.out.frozen 0; have hP5 := HO5.out.put 0 (vb : Int); have HP5 := Lib.hid hP5; have ho6c := hP5.1.cell 1 (by omega); have ho6f := hP5.1.frozen 1; have HP6 := Lib.hid (hP5.1.put 1 (va : Int)); clear hP5; have hwb5 : w5.cell? ⟨bW, oW + 1, none⟩ = some (vi (vb : Int)) := (HB5.out.cell (p := ⟨bW, oW + 1, none⟩) hbW).trans HWb.out; have hwa5 : (w5.setCell ⟨g5, 0, none⟩ (vi (vb : Int))).cell? ⟨bW, oW, none⟩ = some (vi (va : Int)) := by rw [World.cell?_setCell_other _ _ _ _ (by intro e; injection e with e _; omega)]; exact (HB5.out.cell (p := ⟨bW, oW, none⟩) hbW).trans HWa.out)
      have HB7 : Hid (Below w2.heap.size w2 ((w5.setCell ⟨g5, 0, none⟩ (vi (vb : Int))).setCell ⟨g5, 1, none⟩ (vi (va : Int)))) := Lib.hid ((HB5.out.setCell (p := ⟨g5, 0, none⟩) (by omega) _).setCell (p := ⟨g5, 1, none⟩) (by omega) _)
      have HY7 := Lib.hid HP6.out.1
      clear hwa5 hwb5 ho5c ho5f ho6c ho6f HP5 HP6 HO5
      generalize hw7 : (w5.setCell ⟨g5, 0, none⟩ (vi (vb : Int))).setCell ⟨g5, 1, none⟩ (vi (va : Int)) = w7 at *
      rw [← HSE.out] at HY7
      have HM7 := Lib.hid (HM2.out.below HB7.out)
      have HHC : Hid (∀ m, Calls Try.prog 22 #[.slice A1 L.length c1, .slice (some ⟨g5, 0, none⟩) who.length c5] (w7.drewN m) fun e w' => e = .returned (vi (x - nth (nth L 0) va - nth (nth L 1) vb + nth (nth L 0) vb + nth (nth L 1) va)) ∧ w7.drewN m = w') := Lib.hid (fun m => by
        have := implHaulCost A1 c1 L (some ⟨g5, 0, none⟩) c5 (swap who 0 1) (w7.drewN m) (HM7.out.drewN m) (HY7.out.rd.drewN m) SM.out (by rw [HSL.out]; omega) (by rw [HSL.out]; exact HY7.out.cap.1)
        rw [HSC.out, HSL.out] at this
        exact this)
      have hrlA := HRA.out
      have hrlB := HRB.out
      obtain ⟨bM, oM, RA, cA, hAM, hbM, hcA, hrA⟩ := HM7.out.at_ h0L
      subst hAM
      obtain ⟨RB, cB, hcB, hrB⟩ := HM7.out.row h1L
      obtain ⟨bA, oA, rfl, hbA, hxA⟩ := hrA (by omega)
      obtain ⟨bB, oB, rfl, hbB, hxB⟩ := hrB (by omega)
      rw [Nat.add_zero] at hcA
      have hwb7 : w7.cell? ⟨bW, oW + 1, none⟩ = some (vi (vb : Int)) := (HB7.out.cell (p := ⟨bW, oW + 1, none⟩) hbW).trans HWb.out
      have hwa7 : w7.cell? ⟨bW, oW, none⟩ = some (vi (va : Int)) := (HB7.out.cell (p := ⟨bW, oW, none⟩) hbW).trans HWa.out
      have haa := hxA va (by omega)
      have hab := hxA vb (by omega)
      have hba := hxB va (by omega)
      have hbb := hxB vb (by omega)
      have hra : va < (nth L 0).length := by omega
      have hrb : vb < (nth L 0).length := by omega
      have hrc : va < (nth L 1).length := by omega
      have hrd : vb < (nth L 1).length := by omega
      obtain ⟨xaa, hxaa⟩ : ∃ x, x = nth (nth L 0) va := ⟨_, rfl⟩
      obtain ⟨xab, hxab⟩ : ∃ x, x = nth (nth L 0) vb := ⟨_, rfl⟩
      obtain ⟨xba, hxba⟩ : ∃ x, x = nth (nth L 1) va := ⟨_, rfl⟩
      obtain ⟨xbb, hxbb⟩ : ∃ x, x = nth (nth L 1) vb := ⟨_, rfl⟩
      rw [← hxaa] at haa c1a c1b HHC
      rw [← hxab] at hab c2a c2b HHC
      rw [← hxba] at hba c3a c3b HHC
      rw [← hxbb] at hbb c4a c4b HHC
      have hw1 : IntKind.i64.wrap (x - xaa) = x - xaa := by rw [IntKind.wrap_i64]; omega
      have hw2 : IntKind.i64.wrap (x - xaa - xbb) = x - xaa - xbb := by rw [IntKind.wrap_i64]; omega
      have hw3 : IntKind.i64.wrap (x - xaa - xbb + xab) = x - xaa - xbb + xab := by rw [IntKind.wrap_i64]; omega
      have hw4 : IntKind.i64.wrap (x - xaa - xbb + xab + xba) = x - xaa - xbb + xab + xba := by rw [IntKind.wrap_i64]; omega
      have HZ7 := Lib.hid (bthen HB2.out HB7.out)
      clear hxaa hxab hxba hxbb hxA hxB hrA hrB hrlA hrlB hw7 hs5
      go_quiet ((go_at_call 22; exact quiet_left (HHC.out _)))
      clear hw1 hw2 hw3 hw4
      have HZ8 := Lib.hid (below_drewN HZ7.out nq)
      have HLW := Lib.hid (HLV.out (w7.drewN nq) (HM7.out.drewN nq))
      clear haa hab hba hbb hcA hcB hwa7 hwb7
      go_wp2_with fail
      refine HLW.out.mono ?_
      rintro e w9 ⟨rfl, hb9⟩
      have HZ9 := Lib.hid (bthen HZ8.out hb9)
      clear hb9
      go_wp2
      go_ret
      first | exact ⟨rfl, HZ9.out⟩ | exact ⟨by simp; done, HZ9.out⟩ | exact ⟨by simp; omega, HZ9.out⟩
    · go_wp2_with fail
      refine (HLV.out w2 HM2.out).mono ?_
      rintro e w3 ⟨rfl, hb3⟩
      have HZ := Lib.hid (bthen HB2.out hb3)
      clear hb3
      go_wp2
      go_ret
      first | exact ⟨rfl, HZ.out⟩ | exact ⟨by simp; done, HZ.out⟩ | exact ⟨by simp; omega, HZ.out⟩
end Go.Proofs.Ytpabfbaoibmnlaa
