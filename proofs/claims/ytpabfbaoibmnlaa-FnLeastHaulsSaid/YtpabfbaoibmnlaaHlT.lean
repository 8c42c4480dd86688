/-
  Contracts: the best hauls, and what they cost, on both sides.
-/
import Derived.Test.YtpabfbaoibmnlaaHlS
import Derived.Test.YtpabfbaoibmnlaaHlQ
namespace Go.Proofs.Ytpabfbaoibmnlaa
open Go.RowKit
set_option linter.unusedVariables false
set_option maxRecDepth 100000

theorem implBestHauls (A : Option Addr) (c : Nat) (L : List (List Int)) (w : World) (h : RdM w A L) (hs : Small L) :
    Calls Try.prog 27 #[.slice A L.length c] w (NewI w (bestL L)) := by
  have HC := Lib.hid (implCostsValid A c L (w.alloc (.cells #[.slice A L.length c] 22)) (h.alloc _) hs)
  cases hc : costsOk L with
  | false =>
    rw [hc] at HC
    have HB : Hid (bestL L = []) := Lib.hid (by simp [bestL, hc])
    clear hc h
    go_enter Try.func27, Try.ntmps27
    go_wp2_with fail
    refine HC.out.mono ?_
    rintro e w' ⟨rfl, rfl⟩
    go_wp2
    go_ret
    exact ⟨none, 0, by rw [HB.out]; rfl, by rw [HB.out]; exact OwnI.nil_ _ _, (Below.refl _ _).alloc (Nat.le_refl _) _⟩
  | true =>
    rw [hc] at HC
    have hl5 := (costsOk_t hc).2
    have HL := Lib.hid (leastOrder_any w.heap.size A c L L.length (w.alloc (.cells #[.slice A L.length c] 22)) (heap_alloc_new w _) (h.alloc _) hs (by omega))
    rw [bestOf_bestL hc] at HL
    clear hc h
    go_enter Try.func27, Try.ntmps27
    go_wp2_with fail
    refine HC.out.mono ?_
    rintro e w' ⟨rfl, rfl⟩
    go_wp2_with fail
    refine HL.out.mono ?_
    rintro e w2 ⟨A2, c2, rfl, ho2, hb2⟩
    have HO2 := Lib.hid (ho2.mono (b' := w.heap.size) (by simp))
    have HB2 := Lib.hid (((Below.refl w.heap.size w).alloc (Nat.le_refl _) (.cells #[.slice A L.length c] 22)).trans (hb2.mono (by simp)))
    clear ho2 hb2
    go_wp2
    go_ret
    exact ⟨A2, c2, rfl, HO2.out, HB2.out⟩

theorem implLeastHauls (A : Option Addr) (c : Nat) (L : List (List Int)) (w : World) (h : RdM w A L) (hs : Small L) :
    Calls Try.prog 25 #[.slice A L.length c] w fun e w' => e = .returned (vi (leastV L)) ∧ Below w.heap.size w w' := by
  have HC := Lib.hid (implCostsValid A c L w h hs)
  have HR := Lib.hid h
  clear h
  cases hc : costsOk L with
  | false =>
    rw [hc] at HC
    have HB : Hid (leastV L = -1) := Lib.hid (by simp [leastV, hc])
    clear hc
    go_enter Try.func25, Try.ntmps25
    go_wp2_with fail
    refine HC.out.mono ?_
    rintro e w' ⟨rfl, rfl⟩
    go_wp2
    go_ret
    exact ⟨by rw [HB.out]; rfl, Below.refl _ _⟩
  | true =>
    rw [hc] at HC
    have HB : Hid (leastV L = haulCost L (bestL L)) := Lib.hid (by simp [leastV, hc])
    have hbl := bestL_len5 L
    clear hc
    go_enter Try.func25, Try.ntmps25
    go_wp2_with fail
    refine HC.out.mono ?_
    rintro e w' ⟨rfl, rfl⟩
    go_wp2_with fail
    refine (implBestHauls A c L w HR.out hs).mono ?_
    rintro e w2 ⟨A2, c2, rfl, ho2, hb2⟩
    have HO2 := Lib.hid ho2
    have HB2 := Lib.hid hb2
    have HR2 := Lib.hid (HR.out.below hb2)
    clear ho2 hb2
    go_wp2_with fail
    refine (implHaulCost A c L A2 c2 (bestL L) w2 HR2.out HO2.out.rd hs (by omega) HO2.out.cap.1).mono ?_
    rintro e w' ⟨rfl, rfl⟩
    go_wp2
    go_ret
    exact ⟨by rw [HB.out]; rfl, HB2.out⟩

theorem specBestHauls (A : Option Addr) (c : Nat) (L : List (List Int)) (w : World) (h : RdM w A L) (hs : Small L) :
    Calls Try.prog 26 #[.slice A L.length c] w (NewI w (bestL L)) := by
  have HC := Lib.hid (specCostsValid A c L w h hs)
  have HR := Lib.hid h
  clear h
  cases hc : costsOk L with
  | false =>
    rw [hc] at HC
    have HB : Hid (bestL L = []) := Lib.hid (by simp [bestL, hc])
    clear hc
    go_enter Try.func26, Try.ntmps26
    go_wp2_with fail
    refine HC.out.mono ?_
    rintro e w' ⟨rfl, rfl⟩
    go_wp2
    go_ret
    exact ⟨some ⟨w.heap.size, 0, none⟩, 0, by rw [HB.out]; rfl, by rw [HB.out]; exact OwnI.none_made w, (Below.refl _ _).alloc (Nat.le_refl _) _⟩
  | true =>
    rw [hc] at HC
    have hl5 := (costsOk_t hc).2
    have HB : Hid (bestL L = best22 L L.length []) := Lib.hid (by simp [bestL, hc])
    have HL := Lib.hid (show Calls Try.prog 50 #[.slice A L.length c, .slice (some ⟨w.heap.size, 0, none⟩) 0 0] (w.alloc (.cells #[] 3)) fun e w' => ∃ A' c', e = .returned (.slice A' (bestL L).length c') ∧ OwnI w' w.heap.size A' (bestL L).length c' (bestL L) ∧ Below (w.alloc (.cells #[] 3)).heap.size (w.alloc (.cells #[] 3)) w' from by
      rw [HB.out]
      exact l22Best_any A c L hs hl5 L.length (some ⟨w.heap.size, 0, none⟩) 0 w.heap.size [] _ (HR.out.alloc _) (OwnI.none_made w) (by simp) (by simp))
    clear hc
    go_enter Try.func26, Try.ntmps26
    go_wp2_with fail
    refine HC.out.mono ?_
    rintro e w' ⟨rfl, rfl⟩
    go_wp2_with fail
    refine HL.out.mono ?_
    rintro e w2 ⟨A2, c2, rfl, ho2, hb2⟩
    have HO2 := Lib.hid ho2
    have HB2 := Lib.hid (((Below.refl w.heap.size w).alloc (Nat.le_refl _) (.cells #[] 3)).trans (hb2.mono (by simp)))
    clear ho2 hb2
    go_wp2
    go_ret
    exact ⟨A2, c2, rfl, HO2.out, HB2.out⟩

theorem specLeastHauls (A : Option Addr) (c : Nat) (L : List (List Int)) (w : World) (h : RdM w A L) (hs : Small L) :
    Calls Try.prog 24 #[.slice A L.length c] w fun e w' => e = .returned (vi (leastV L)) ∧ Below w.heap.size w w' := by
  have HC := Lib.hid (specCostsValid A c L w h hs)
  have HR := Lib.hid h
  clear h
  cases hc : costsOk L with
  | false =>
    rw [hc] at HC
    have HB : Hid (leastV L = -1) := Lib.hid (by simp [leastV, hc])
    clear hc
    go_enter Try.func24, Try.ntmps24
    go_wp2_with fail
    refine HC.out.mono ?_
    rintro e w' ⟨rfl, rfl⟩
    go_wp2
    go_ret
    exact ⟨by rw [HB.out]; rfl, Below.refl _ _⟩
  | true =>
    rw [hc] at HC
    have HB : Hid (leastV L = haulCost L (bestL L)) := Lib.hid (by simp [leastV, hc])
    have hbl := bestL_len5 L
    clear hc
    go_enter Try.func24, Try.ntmps24
    go_wp2_with fail
    refine HC.out.mono ?_
    rintro e w' ⟨rfl, rfl⟩
    go_wp2_with fail
    refine (specBestHauls A c L w HR.out hs).mono ?_
    rintro e w2 ⟨A2, c2, rfl, ho2, hb2⟩
    have HO2 := Lib.hid ho2
    have HB2 := Lib.hid hb2
    have HR2 := Lib.hid (HR.out.below hb2)
    clear ho2 hb2
    go_wp2_with fail
    refine (specHaulCostB A c L A2 c2 (bestL L) w2 HR2.out HO2.out.rd hs (by omega) HO2.out.cap.1).mono ?_
    rintro e w3 ⟨rfl, hb3⟩
    have HB3 := Lib.hid (bthen HB2.out hb3)
    clear hb3
    go_wp2
    go_ret
    exact ⟨by rw [HB.out]; rfl, HB3.out⟩
end Go.Proofs.Ytpabfbaoibmnlaa
