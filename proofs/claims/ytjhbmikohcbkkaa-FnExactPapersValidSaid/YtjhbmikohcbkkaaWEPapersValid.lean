/-
  The walk of 'FnExactPapersValid'.
-/
import Derived.Test.YtjhbmikohcbkkaaPapC
import Derived.Test.YtjhbmikohcbkkaaPapA
import Derived.Test.YtjhbmikohcbkkaaBase2
import Derived.Deep.RegionHeld3
import Derived.Deep.DeepCutAuto
import Derived.Test.YtjhbmikohcbkkaaPapL
namespace Go.Proofs.Ytjhbmikohcbkkaa
open Go.RowKit
set_option linter.unusedVariables false
set_option maxRecDepth 100000
set_option maxHeartbeats 4000000

theorem walkFnExactPapersValid (w : World) (A : Option Addr) (c : Nat) (hl : List (Int × Int)) (B : Option Addr) (d : Nat) (ll : List Int) (h : Rd encP w A hl) (hi : RdI w B ll) (hn : hl.length ≤ 9223372036854775807) (hm : ll.length ≤ 9223372036854775807) :
    Calls Try.prog 5 #[.agg #[.slice A hl.length c, .slice B ll.length d]] w fun e w' => e = .returned (.bool true) ∧ Below w.heap.size w w' := by
  have hb0 := (Below.refl w.heap.size w).alloc (Nat.le_refl _) (.cells #[.slice A hl.length c, .slice B ll.length d] 32)
  have p0 : (w.alloc (.cells #[.slice A hl.length c, .slice B ll.length d] 32)).cell? ⟨w.heap.size, 0, none⟩ = some (.slice A hl.length c) := by rw [World.cell?_alloc_at _ _ _ _ rfl]; rfl
  have p1 : (w.alloc (.cells #[.slice A hl.length c, .slice B ll.length d] 32)).cell? ⟨w.heap.size, 1, none⟩ = some (.slice B ll.length d) := by rw [World.cell?_alloc_at _ _ _ _ rfl]; rfl
  have HR0 := Lib.hid (h.below hb0)
  have HS0 := Lib.hid (hi.below hb0)
  have HB0 := Lib.hid hb0
  have hw0s : (w.alloc (.cells #[.slice A hl.length c, .slice B ll.length d] 32)).heap.size = w.heap.size + 1 := by simp
  clear h hi hb0
  by_cases hbig : szP hl.length ll.length 1048576 < 0
  · go_enter Try.func5, Try.ntmps5
    go_wp2_with fail
    refine (szPapers_any A hl.length c B ll.length d 1048576 _ hn hm (by omega) (by omega)).mono ?_
    rintro e w1 ⟨rfl, hb1⟩
    have HB1 := Lib.hid (bthen HB0.out hb1)
    clear hb1
    go_wp2
    go_ret
    exact ⟨rfl, HB1.out⟩
  obtain ⟨hl1, hl2⟩ := szP_room hbig
  go_enter Try.func5, Try.ntmps5
  go_wp2_with fail
  obtain ⟨w0, hw0⟩ : ∃ x, x = w.alloc (.cells #[.slice A hl.length c, .slice B ll.length d] 32) := ⟨_, rfl⟩
  rw [← hw0] at p0 p1 HR0 HS0 HB0 hw0s ⊢
  clear hw0
  refine (szPapers_any A hl.length c B ll.length d 1048576 _ hn hm (by omega) (by omega)).mono ?_
  rintro e w1 ⟨rfl, hb1⟩
  have HB1 := Lib.hid (bthen HB0.out hb1)
  have HR1 := Lib.hid (HR0.out.below hb1)
  have HS1 := Lib.hid (HS0.out.below hb1)
  have p0 := cell_keep p0 hb1
  have p1 := cell_keep p1 hb1
  have hs1 : w0.heap.size ≤ w1.heap.size := hb1.size
  clear hb1
  go_wp2_with fail
  refine (toPapers_any A c hl B d ll w1 HR1.out HS1.out hl1 hl2).mono ?_
  rintro e w2 ⟨A2, c2, B2, d2, rfl, hoa2, hob2, hb2, hap2⟩
  have HO2 := Lib.hid hoa2
  have HQ2 := Lib.hid hob2
  have HIA2 := Lib.hid hoa2.in_
  have HIB2 := Lib.hid hob2.in_
  have HAP2 := Lib.hid hap2
  have HB2 := Lib.hid (bthen HB1.out hb2)
  have HR2 := Lib.hid (HR1.out.below hb2)
  have HS2 := Lib.hid (HS1.out.below hb2)
  have p0 := cell_keep p0 hb2
  have p1 := cell_keep p1 hb2
  have hs2 : w1.heap.size ≤ w2.heap.size := hb2.size
  clear hb2 hoa2 hob2 hap2
  go_wp2_with fail
  refine (specPapersValid A2 c2 hl B2 d2 ll w2 HO2.out.rd HQ2.out.rd (by omega) (by omega)).mono ?_
  rintro e w3 ⟨rfl, hb3⟩
  have HO2 := Lib.hid (HO2.out.below hb3)
  have HQ2 := Lib.hid (HQ2.out.below hb3)
  have HB3 := Lib.hid (bthen HB2.out hb3)
  have HR3 := Lib.hid (HR2.out.below hb3)
  have HS3 := Lib.hid (HS2.out.below hb3)
  have p0 := cell_keep p0 hb3
  have p1 := cell_keep p1 hb3
  have hs3 : w2.heap.size ≤ w3.heap.size := hb3.size
  clear hb3
  go_wp2_with fail
  refine (toPapers_any A c hl B d ll w3 HR3.out HS3.out hl1 hl2).mono ?_
  rintro e w4 ⟨A4, c4, B4, d4, rfl, hoa4, hob4, hb4, hap4⟩
  have HO4 := Lib.hid hoa4
  have HQ4 := Lib.hid hob4
  have HIA4 := Lib.hid hoa4.in_
  have HIB4 := Lib.hid hob4.in_
  have HAP4 := Lib.hid hap4
  have HO2 := Lib.hid (HO2.out.below hb4)
  have HQ2 := Lib.hid (HQ2.out.below hb4)
  have HB4 := Lib.hid (bthen HB3.out hb4)
  have HR4 := Lib.hid (HR3.out.below hb4)
  have HS4 := Lib.hid (HS3.out.below hb4)
  have p0 := cell_keep p0 hb4
  have p1 := cell_keep p1 hb4
  have hs4 : w3.heap.size ≤ w4.heap.size := hb4.size
  clear hb4 hoa4 hob4 hap4
  obtain ⟨q0, q1, hb5⟩ := box_stored w4 37 (.slice A4 hl.length c4) (.slice B4 ll.length d4)
  go_wp2_with fail
  obtain ⟨w5, hw5⟩ : ∃ x, x = w4.alloc (.cells #[.slice A4 hl.length c4, .slice B4 ll.length d4] 37) := ⟨_, rfl⟩
  rw [← hw5] at q0 q1 hb5 ⊢
  clear hw5
  have HO2 := Lib.hid (HO2.out.below hb5)
  have HQ2 := Lib.hid (HQ2.out.below hb5)
  have HO4 := Lib.hid (HO4.out.below hb5)
  have HQ4 := Lib.hid (HQ4.out.below hb5)
  have HB5 := Lib.hid (bthen HB4.out hb5)
  have HR5 := Lib.hid (HR4.out.below hb5)
  have HS5 := Lib.hid (HS4.out.below hb5)
  have p0 := cell_keep p0 hb5
  have p1 := cell_keep p1 hb5
  have hs5 : w4.heap.size ≤ w5.heap.size := hb5.size
  clear hb5
  refine (implPapersValid A4 c4 hl B4 d4 ll w5 HO4.out.rd HQ4.out.rd (by omega) (by omega)).mono ?_
  rintro e w6 ⟨rfl, hb6⟩
  have HO2 := Lib.hid (HO2.out.below hb6)
  have HQ2 := Lib.hid (HQ2.out.below hb6)
  have HO4 := Lib.hid (HO4.out.below hb6)
  have HQ4 := Lib.hid (HQ4.out.below hb6)
  have HB6 := Lib.hid (bthen HB5.out hb6)
  have HR6 := Lib.hid (HR5.out.below hb6)
  have HS6 := Lib.hid (HS5.out.below hb6)
  have p0 := cell_keep p0 hb6
  have p1 := cell_keep p1 hb6
  have q0 := cell_keep q0 hb6
  have q1 := cell_keep q1 hb6
  have hs6 : w5.heap.size ≤ w6.heap.size := hb6.size
  clear hb6
  go_wp2
  go_region_held3 (fun wx => wx.cell? ⟨w.heap.size, 0, none⟩ = some (.slice A hl.length c) ∧ wx.cell? ⟨w.heap.size, 1, none⟩ = some (.slice B ll.length d) ∧ wx.cell? ⟨w4.heap.size, 0, none⟩ = some (.slice A4 hl.length c4) ∧ wx.cell? ⟨w4.heap.size, 1, none⟩ = some (.slice B4 ll.length d4) ∧ Below w6.heap.size w6 wx)
    (first | exact ⟨by simpa using p0, by simpa using p1, by simpa using q0, by simpa using q1, (Below.refl _ _).drew⟩ | exact held_keep ‹_ ∧ _ ∧ _ ∧ _ ∧ Below _ _ _› ‹Below _ _ _›)
    (first | (go_at_call 16; have hbel := (‹_ ∧ _ ∧ _ ∧ _ ∧ Below _ _ _›).2.2.2.2; refine (toPapers_any A c hl B d ll _ (HR6.out.below hbel) (HS6.out.below hbel) hl1 hl2).mono ?_; rintro e wx ⟨X, cx, Y, dx, rfl, hox, hoy, hbx, -⟩) | (go_at_call 18; have hbel := (‹_ ∧ _ ∧ _ ∧ _ ∧ Below _ _ _›).2.2.2.2; refine (eqPapers_any A4 c4 hl B4 d4 ll X cx Y dx _ (HO4.out.rd.below hbel) (HQ4.out.rd.below hbel) hox.rd hoy.rd (by omega) (by omega)).mono ?_; rintro e w7 ⟨rfl, hby⟩))
  have hb7 := (‹_ ∧ _ ∧ _ ∧ _ ∧ Below _ _ _›).2.2.2.2
  clear hox hoy hbx hby hbel
  have HO2 := Lib.hid (HO2.out.below hb7)
  have HQ2 := Lib.hid (HQ2.out.below hb7)
  have HO4 := Lib.hid (HO4.out.below hb7)
  have HQ4 := Lib.hid (HQ4.out.below hb7)
  have HB7 := Lib.hid (bthen HB6.out hb7)
  have HR7 := Lib.hid (HR6.out.below hb7)
  have HS7 := Lib.hid (HS6.out.below hb7)
  have p0 := cell_keep p0 hb7
  have p1 := cell_keep p1 hb7
  have q0 := cell_keep q0 hb7
  have q1 := cell_keep q1 hb7
  have hs7 : w6.heap.size ≤ w7.heap.size := hb7.size
  clear hb7
  go_wp2
  go_ret
  exact ⟨rfl, HB7.out⟩
end Go.Proofs.Ytjhbmikohcbkkaa
