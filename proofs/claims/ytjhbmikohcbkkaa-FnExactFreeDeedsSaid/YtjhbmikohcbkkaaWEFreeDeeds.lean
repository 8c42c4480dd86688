/-
  The walk of 'FnExactFreeDeeds'.
-/
import Derived.Test.YtjhbmikohcbkkaaPapC
import Derived.Test.YtjhbmikohcbkkaaPapA
import Derived.Test.YtjhbmikohcbkkaaBase2
import Derived.Deep.RegionHeld3
import Derived.Deep.DeepCutAuto
import Derived.Test.YtjhbmikohcbkkaaPapL
import Derived.Test.YtjhbmikohcbkkaaFreeA
namespace Go.Proofs.Ytjhbmikohcbkkaa
open Go.RowKit
set_option linter.unusedVariables false
set_option maxRecDepth 100000
set_option maxHeartbeats 8000000

theorem walkFnExactFreeDeeds (w : World) (A : Option Addr) (c : Nat) (hl : List (Int × Int)) (B : Option Addr) (d : Nat) (ll : List Int) (h : Rd encP w A hl) (hi : RdI w B ll) (hn : hl.length ≤ 9223372036854775807) (hm : ll.length ≤ 9223372036854775807) (z1 : Int) :
    Calls Try.prog 8 #[.agg #[.slice A hl.length c, .slice B ll.length d], vi z1] w fun e w' => e = .returned (.bool true) ∧ Below w.heap.size w w' := by
  have hb0 := (Below.refl w.heap.size w).alloc (Nat.le_refl _) (.cells #[.slice A hl.length c, .slice B ll.length d] 32)
  have p0 : (w.alloc (.cells #[.slice A hl.length c, .slice B ll.length d] 32)).cell? ⟨w.heap.size, 0, none⟩ = some (.slice A hl.length c) := by rw [World.cell?_alloc_at _ _ _ _ rfl]; rfl
  have p1 : (w.alloc (.cells #[.slice A hl.length c, .slice B ll.length d] 32)).cell? ⟨w.heap.size, 1, none⟩ = some (.slice B ll.length d) := by rw [World.cell?_alloc_at _ _ _ _ rfl]; rfl
  have HR0 := Lib.hid (h.below hb0)
  have HS0 := Lib.hid (hi.below hb0)
  have HB0 := Lib.hid hb0
  have hw0s : (w.alloc (.cells #[.slice A hl.length c, .slice B ll.length d] 32)).heap.size = w.heap.size + 1 := by simp
  have HRo := Lib.hid h
  have HSo := Lib.hid hi
  clear h hi hb0
  by_cases hbig : szP hl.length ll.length 1048576 < 0
  · go_enter Try.func8, Try.ntmps8
    go_wp2_with fail
    refine (szPapers_any A hl.length c B ll.length d 1048576 _ hn hm (by omega) (by omega)).mono ?_
    rintro e w1 ⟨rfl, hb1⟩
    have HB1 := Lib.hid (bthen HB0.out hb1)
    clear hb1
    go_wp2
    go_ret
    exact ⟨rfl, HB1.out⟩
  obtain ⟨hl1, hl2⟩ := szP_room hbig
  go_enter Try.func8, Try.ntmps8
  go_wp2_with fail
  obtain ⟨w0, hw0⟩ : ∃ x, x = w.alloc (.cells #[.slice A hl.length c, .slice B ll.length d] 32) := ⟨_, rfl⟩
  rw [← hw0] at p0 p1 HR0 HS0 HB0 hw0s ⊢
  clear hw0
  have HP0 := Lib.hid p0
  have HP1 := Lib.hid p1
  have HZ0 := Lib.hid (Below.refl w0.heap.size w0)
  refine (szPapers_any A hl.length c B ll.length d 1048576 _ hn hm (by omega) (by omega)).mono ?_
  rintro e w1 ⟨rfl, hb1⟩
  have HB1 := Lib.hid (bthen HB0.out hb1)
  have HR1 := Lib.hid (HR0.out.below hb1)
  have HS1 := Lib.hid (HS0.out.below hb1)
  have HZ1 := Lib.hid (bthen HZ0.out hb1)
  have p0 := cell_keep p0 hb1
  have p1 := cell_keep p1 hb1
  have hs1 : w0.heap.size ≤ w1.heap.size := hb1.size
  clear hb1
  have hfl := length_freeDeeds hl ll z1
  go_wp2_with fail
  refine (toPapers_any A c hl B d ll w1 HR1.out HS1.out hl1 hl2).mono ?_
  rintro e w2 ⟨A2, c2, B2, d2, rfl, hoa2, hob2, hb2, hap2⟩
  have HO2 := Lib.hid hoa2
  have HQ2 := Lib.hid hob2
  have HIA2 := Lib.hid hoa2.in_
  have HIB2 := Lib.hid hob2.in_
  have HAP2 := Lib.hid hap2
  have HB2 := Lib.hid (bthen HB1.out hb2)
  have HR2 := Lib.hid (HR1.out.below hb2)
  have HS2 := Lib.hid (HS1.out.below hb2)
  have HZ2 := Lib.hid (bthen HZ1.out hb2)
  have p0 := cell_keep p0 hb2
  have p1 := cell_keep p1 hb2
  have hs2 : w1.heap.size ≤ w2.heap.size := hb2.size
  clear hb2 hoa2 hob2 hap2
  go_wp2_with fail
  refine (specFreeDeeds A2 c2 hl B2 d2 ll z1 w2 HO2.out.rd HQ2.out.rd (by omega) (by omega)).mono ?_
  rintro e w3 ⟨A3, c3, rfl, ho3, hb3⟩
  have HL3 := Lib.hid ho3
  have HIL3 := Lib.hid ho3.in_
  have HO2 := Lib.hid (HO2.out.below hb3)
  have HQ2 := Lib.hid (HQ2.out.below hb3)
  have HB3 := Lib.hid (bthen HB2.out hb3)
  have HR3 := Lib.hid (HR2.out.below hb3)
  have HS3 := Lib.hid (HS2.out.below hb3)
  have HZ3 := Lib.hid (bthen HZ2.out hb3)
  have p0 := cell_keep p0 hb3
  have p1 := cell_keep p1 hb3
  have hs3 : w2.heap.size ≤ w3.heap.size := hb3.size
  clear hb3 ho3
  go_wp2_with fail
  refine (toPapers_any A c hl B d ll w3 HR3.out HS3.out hl1 hl2).mono ?_
  rintro e w4 ⟨A4, c4, B4, d4, rfl, hoa4, hob4, hb4, hap4⟩
  have HO4 := Lib.hid hoa4
  have HQ4 := Lib.hid hob4
  have HIA4 := Lib.hid hoa4.in_
  have HIB4 := Lib.hid hob4.in_
  have HAP4 := Lib.hid hap4
  have HO2 := Lib.hid (HO2.out.below hb4)
  have HQ2 := Lib.hid (HQ2.out.below hb4)
  have HL3 := Lib.hid (HL3.out.below hb4)
  have HB4 := Lib.hid (bthen HB3.out hb4)
  have HR4 := Lib.hid (HR3.out.below hb4)
  have HS4 := Lib.hid (HS3.out.below hb4)
  have HZ4 := Lib.hid (bthen HZ3.out hb4)
  have p0 := cell_keep p0 hb4
  have p1 := cell_keep p1 hb4
  have hs4 : w3.heap.size ≤ w4.heap.size := hb4.size
  clear hb4 hoa4 hob4 hap4
  obtain ⟨q0, q1, hb5⟩ := box_stored w4 37 (.slice A4 hl.length c4) (.slice B4 ll.length d4)
  go_wp2_with fail
  obtain ⟨w5, hw5⟩ : ∃ x, x = w4.alloc (.cells #[.slice A4 hl.length c4, .slice B4 ll.length d4] 37) := ⟨_, rfl⟩
  rw [← hw5] at q0 q1 hb5 ⊢
  clear hw5
  have HO2 := Lib.hid (HO2.out.below hb5)
  have HQ2 := Lib.hid (HQ2.out.below hb5)
  have HO4 := Lib.hid (HO4.out.below hb5)
  have HQ4 := Lib.hid (HQ4.out.below hb5)
  have HL3 := Lib.hid (HL3.out.below hb5)
  have HB5 := Lib.hid (bthen HB4.out hb5)
  have HR5 := Lib.hid (HR4.out.below hb5)
  have HS5 := Lib.hid (HS4.out.below hb5)
  have HZ5 := Lib.hid (bthen HZ4.out hb5)
  have p0 := cell_keep p0 hb5
  have p1 := cell_keep p1 hb5
  have hs5 : w4.heap.size ≤ w5.heap.size := hb5.size
  clear hb5
  refine (implFreeDeeds A4 c4 hl B4 d4 ll z1 w5 HO4.out.rd HQ4.out.rd (by omega) (by omega)).mono ?_
  rintro e w6 ⟨A6, c6, rfl, ho6, hb6⟩
  have HL6 := Lib.hid ho6
  have HIL6 := Lib.hid ho6.in_
  have HO2 := Lib.hid (HO2.out.below hb6)
  have HQ2 := Lib.hid (HQ2.out.below hb6)
  have HO4 := Lib.hid (HO4.out.below hb6)
  have HQ4 := Lib.hid (HQ4.out.below hb6)
  have HL3 := Lib.hid (HL3.out.below hb6)
  have HB6 := Lib.hid (bthen HB5.out hb6)
  have HR6 := Lib.hid (HR5.out.below hb6)
  have HS6 := Lib.hid (HS5.out.below hb6)
  have HZ6 := Lib.hid (bthen HZ5.out hb6)
  have p0 := cell_keep p0 hb6
  have p1 := cell_keep p1 hb6
  have q0 := cell_keep q0 hb6
  have q1 := cell_keep q1 hb6
  have hs6 : w5.heap.size ≤ w6.heap.size := hb6.size
  clear hb6 ho6
  go_wp2_with fail
  refine (eqPaperDeedS_any A6 A3 c6 c3 (freeDeeds hl ll z1) w6 HL6.out.rd HL3.out.rd (by omega)).mono ?_
  rintro e w7 ⟨rfl, hb7⟩
  have HO2 := Lib.hid (HO2.out.below hb7)
  have HQ2 := Lib.hid (HQ2.out.below hb7)
  have HO4 := Lib.hid (HO4.out.below hb7)
  have HQ4 := Lib.hid (HQ4.out.below hb7)
  have HL3 := Lib.hid (HL3.out.below hb7)
  have HL6 := Lib.hid (HL6.out.below hb7)
  have HB7 := Lib.hid (bthen HB6.out hb7)
  have HR7 := Lib.hid (HR6.out.below hb7)
  have HS7 := Lib.hid (HS6.out.below hb7)
  have HZ7 := Lib.hid (bthen HZ6.out hb7)
  have p0 := cell_keep p0 hb7
  have p1 := cell_keep p1 hb7
  have q0 := cell_keep q0 hb7
  have q1 := cell_keep q1 hb7
  have hs7 : w6.heap.size ≤ w7.heap.size := hb7.size
  clear hb7
  go_wp2
  go_region_held3 (fun wx => wx.cell? ⟨w.heap.size, 0, none⟩ = some (.slice A hl.length c) ∧ wx.cell? ⟨w.heap.size, 1, none⟩ = some (.slice B ll.length d) ∧ wx.cell? ⟨w4.heap.size, 0, none⟩ = some (.slice A4 hl.length c4) ∧ wx.cell? ⟨w4.heap.size, 1, none⟩ = some (.slice B4 ll.length d4) ∧ Below w7.heap.size w7 wx)
    (first | exact ⟨by simpa using p0, by simpa using p1, by simpa using q0, by simpa using q1, (Below.refl _ _).drew⟩ | exact held_keep ‹_ ∧ _ ∧ _ ∧ _ ∧ Below _ _ _› ‹Below _ _ _›)
    (first | (go_at_call 16; have hbel := (‹_ ∧ _ ∧ _ ∧ _ ∧ Below _ _ _›).2.2.2.2; refine (toPapers_any A c hl B d ll _ (HR7.out.below hbel) (HS7.out.below hbel) hl1 hl2).mono ?_; rintro e wx ⟨X, cx, Y, dx, rfl, hox, hoy, hbx, -⟩) | (go_at_call 18; have hbel := (‹_ ∧ _ ∧ _ ∧ _ ∧ Below _ _ _›).2.2.2.2; refine (eqPapers_any A4 c4 hl B4 d4 ll X cx Y dx _ (HO4.out.rd.below hbel) (HQ4.out.rd.below hbel) hox.rd hoy.rd (by omega) (by omega)).mono ?_; rintro e w8 ⟨rfl, hby⟩))
  have hb8 := (‹_ ∧ _ ∧ _ ∧ _ ∧ Below _ _ _›).2.2.2.2
  clear hox hoy hbx hby hbel
  have HO2 := Lib.hid (HO2.out.below hb8)
  have HQ2 := Lib.hid (HQ2.out.below hb8)
  have HO4 := Lib.hid (HO4.out.below hb8)
  have HQ4 := Lib.hid (HQ4.out.below hb8)
  have HL3 := Lib.hid (HL3.out.below hb8)
  have HL6 := Lib.hid (HL6.out.below hb8)
  have HB8 := Lib.hid (bthen HB7.out hb8)
  have HR8 := Lib.hid (HR7.out.below hb8)
  have HS8 := Lib.hid (HS7.out.below hb8)
  have HZ8 := Lib.hid (bthen HZ7.out hb8)
  have p0 := cell_keep p0 hb8
  have p1 := cell_keep p1 hb8
  have q0 := cell_keep q0 hb8
  have q1 := cell_keep q1 hb8
  have hs8 : w7.heap.size ≤ w8.heap.size := hb8.size
  clear hb8
  go_wp2_with fail
  refine (markPapers_any A4 c4 hl B4 d4 ll w3.heap.size w3.heap.size 1 w8 HO4.out HQ4.out (hap_rev HO4.out HAP4.out) hl1 hl2 (by omega) (by omega)).mono ?_
  rintro e w9 ⟨rfl, wa, wb, hba, hga, hgb⟩
  have hs9 : w8.heap.size ≤ w9.heap.size := by have := hba.size; have := hga.size; have := hgb.size; omega
  have HL3 := Lib.hid (((HL3.out.below hba).far hga (apart HIL3.out HIA4.out (by omega))).far hgb (apart HIL3.out HIB4.out (by omega)))
  have HL6 := Lib.hid (((HL6.out.below hba).far hga (apart_ HIL6.out HIA4.out (by omega))).far hgb (apart_ HIL6.out HIB4.out (by omega)))
  have HBa := bthen HB8.out hba
  have HBb := HBa.grown hga HBa.size (blk_from HIA4.out (by omega))
  have HZa := bthen HZ8.out hba
  have HZb := HZa.grown hga HZa.size (blk_from HIA4.out (by omega))
  have HB9 := Lib.hid (HBb.grown hgb HBb.size (blk_from HIB4.out (by omega)))
  have HZ9 := Lib.hid (HZb.grown hgb HZb.size (blk_from HIB4.out (by omega)))
  have HR9 := Lib.hid (HRo.out.below HB9.out)
  have HS9 := Lib.hid (HSo.out.below HB9.out)
  have p0 := cell_keep HP0.out HZ9.out
  have p1 := cell_keep HP1.out HZ9.out
  clear HBa HBb HZa HZb hba hga hgb q0 q1 HO2 HQ2 HAP2 HO4 HQ4 HAP4
  go_wp2_with fail
  refine (eqPaperDeedS_any A6 A3 c6 c3 (freeDeeds hl ll z1) w9 HL6.out.rd HL3.out.rd (by omega)).mono ?_
  rintro e w10 ⟨rfl, hb10⟩
  have HL3 := Lib.hid (HL3.out.below hb10)
  have HL6 := Lib.hid (HL6.out.below hb10)
  have HB10 := Lib.hid (bthen HB9.out hb10)
  have HR10 := Lib.hid (HR9.out.below hb10)
  have HS10 := Lib.hid (HS9.out.below hb10)
  have HZ10 := Lib.hid (bthen HZ9.out hb10)
  have p0 := cell_keep p0 hb10
  have p1 := cell_keep p1 hb10
  have hs10 : w9.heap.size ≤ w10.heap.size := hb10.size
  clear hb10
  go_wp2_with fail
  refine (markPaperDeedS_any A6 (freeDeeds hl ll z1).length c6 w5.heap.size (freeDeeds hl ll z1) 1 w10 HL6.out (by omega) (by omega) (by omega)).mono ?_
  rintro e w11 ⟨rfl, hog, hg⟩
  have hs11 : w10.heap.size ≤ w11.heap.size := hg.size
  have HL3 := Lib.hid (HL3.out.far hg (apart HIL3.out HIL6.out (by omega)))
  have HL6 := Lib.hid hog
  have HB11 := Lib.hid (HB10.out.grown hg HB10.out.size (blk_from HIL6.out (by omega)))
  have HZ11 := Lib.hid (HZ10.out.grown hg HZ10.out.size (blk_from HIL6.out (by omega)))
  have HR11 := Lib.hid (HRo.out.below HB11.out)
  have HS11 := Lib.hid (HSo.out.below HB11.out)
  have p0 := cell_keep HP0.out HZ11.out
  have p1 := cell_keep HP1.out HZ11.out
  clear hog hg
  go_wp2_with fail
  refine (heldPaperDeedS_any A6 (freeDeeds hl ll z1).length c6 1 w11 HL6.out.rd (by omega) (by omega) (by omega)).mono ?_
  rintro e w' ⟨rfl, rfl⟩
  go_wp2_with fail
  refine (toPapers_any A c hl B d ll w11 HR11.out HS11.out hl1 hl2).mono ?_
  rintro e w12 ⟨A12, c12, B12, d12, rfl, hoa12, hob12, hb12, hap12⟩
  have HO12 := Lib.hid hoa12
  have HQ12 := Lib.hid hob12
  have HIA12 := Lib.hid hoa12.in_
  have HIB12 := Lib.hid hob12.in_
  have HAP12 := Lib.hid hap12
  have HL3 := Lib.hid (HL3.out.below hb12)
  have HL6 := Lib.hid (HL6.out.below hb12)
  have HB12 := Lib.hid (bthen HB11.out hb12)
  have HR12 := Lib.hid (HR11.out.below hb12)
  have HS12 := Lib.hid (HS11.out.below hb12)
  have HZ12 := Lib.hid (bthen HZ11.out hb12)
  have p0 := cell_keep p0 hb12
  have p1 := cell_keep p1 hb12
  have hs12 : w11.heap.size ≤ w12.heap.size := hb12.size
  clear hb12 hoa12 hob12 hap12
  go_wp2_with fail
  refine (implFreeDeeds A12 c12 hl B12 d12 ll z1 w12 HO12.out.rd HQ12.out.rd (by omega) (by omega)).mono ?_
  rintro e w13 ⟨A13, c13, rfl, ho13, hb13⟩
  have HL13 := Lib.hid ho13
  have HIL13 := Lib.hid ho13.in_
  have HO12 := Lib.hid (HO12.out.below hb13)
  have HQ12 := Lib.hid (HQ12.out.below hb13)
  have HL3 := Lib.hid (HL3.out.below hb13)
  have HL6 := Lib.hid (HL6.out.below hb13)
  have HB13 := Lib.hid (bthen HB12.out hb13)
  have HR13 := Lib.hid (HR12.out.below hb13)
  have HS13 := Lib.hid (HS12.out.below hb13)
  have HZ13 := Lib.hid (bthen HZ12.out hb13)
  have p0 := cell_keep p0 hb13
  have p1 := cell_keep p1 hb13
  have hs13 : w12.heap.size ≤ w13.heap.size := hb13.size
  clear hb13 ho13
  go_wp2_with fail
  refine (eqPaperDeedS_any A13 A3 c13 c3 (freeDeeds hl ll z1) w13 HL13.out.rd HL3.out.rd (by omega)).mono ?_
  rintro e w14 ⟨rfl, hb14⟩
  have HO12 := Lib.hid (HO12.out.below hb14)
  have HQ12 := Lib.hid (HQ12.out.below hb14)
  have HL3 := Lib.hid (HL3.out.below hb14)
  have HL6 := Lib.hid (HL6.out.below hb14)
  have HL13 := Lib.hid (HL13.out.below hb14)
  have HB14 := Lib.hid (bthen HB13.out hb14)
  have HR14 := Lib.hid (HR13.out.below hb14)
  have HS14 := Lib.hid (HS13.out.below hb14)
  have HZ14 := Lib.hid (bthen HZ13.out hb14)
  have p0 := cell_keep p0 hb14
  have p1 := cell_keep p1 hb14
  have hs14 : w13.heap.size ≤ w14.heap.size := hb14.size
  clear hb14
  go_wp2_with fail
  refine (heldPaperDeedS_any A6 (freeDeeds hl ll z1).length c6 1 w14 HL6.out.rd (by omega) (by omega) (by omega)).mono ?_
  rintro e w' ⟨rfl, rfl⟩
  go_wp2
  go_ret
  exact ⟨rfl, HB14.out⟩
end Go.Proofs.Ytjhbmikohcbkkaa
