/-
  Contract: the reference's search for the best hauls.
-/
import Derived.Test.YtpabfbaoibmnlaaHlB
import Derived.Test.YtpabfbaoibmnlaaHlP
namespace Go.Proofs.Ytpabfbaoibmnlaa
open Go.RowKit
set_option linter.unusedVariables false
set_option maxRecDepth 100000

set_option maxHeartbeats 4000000 in
theorem l22Best_any (A : Option Addr) (c : Nat) (L : List (List Int)) (hs : Small L) (hc5 : L.length ≤ 5) : ∀ (f : Nat) (B : Option Addr) (d base : Nat) (p : List Int) (w : World), RdM w A L → OwnI w base B p.length d p → base ≤ w.heap.size → p.length + f = L.length →
    Calls Try.prog 50 #[.slice A L.length c, .slice B p.length d] w fun e w' => ∃ A' c', e = .returned (.slice A' (best22 L f p).length c') ∧ OwnI w' base A' (best22 L f p).length c' (best22 L f p) ∧ Below w.heap.size w w' := by
  intro f
  induction f with
  | zero =>
    intro B d base p w h ho hb hp
    have h1 : ((p.length : Int) == (L.length : Int)) = true := by simp; omega
    have h2 : (p.length == L.length) = true := by simp; omega
    have HO := Lib.hid ho
    clear h ho hp
    go_enter Try.func50, Try.ntmps50
    go_wp2
    go_ret
    exact ⟨B, d, rfl, HO.out, Below.refl _ _⟩
  | succ f ih =>
    intro B d base p w h ho hb hp
    have h1 : ((p.length : Int) == (L.length : Int)) = false := beq_false_of_ne (by omega)
    have h2 : (p.length == L.length) = false := beq_false_of_ne (by omega)
    have HO := Lib.hid ho
    have HR := Lib.hid h
    have HIH := Lib.hid ih
    have HP := Lib.hid hp
    have hpl : p.length ≤ 5 := by omega
    clear h ho ih hp
    go_enter Try.func50, Try.ntmps50
    go_wp2
    go_loopw [5, 6] (fun v i wr => ∃ (k : Nat) (Bb : Option Addr) (cb : Nat) (b : List Int), k ≤ L.length ∧ i = vi k ∧ v = .slice Bb b.length cb ∧ b = fold22 L f p k ∧ b.length ≤ 10 ∧ OwnI wr w.heap.size Bb b.length cb b ∧ Below w.heap.size w wr) (fun _ i _ => L.length - (intOf i).toNat)
    case atStart => exact ⟨0, some ⟨w.heap.size, 0, none⟩, 0, [], Nat.zero_le _, rfl, rfl, fold22_zero.symm, by simp, OwnI.none_made w, (Below.refl _ _).alloc (Nat.le_refl _) _⟩
    case round =>
      obtain ⟨k, Bb, cb, b, hk, rfl, rfl, hbf, hbl, hob, hbw⟩ := hrel
      have HBF := Lib.hid hbf
      have HOB := Lib.hid hob
      have HBW := Lib.hid hbw
      have HRr := Lib.hid (HR.out.below hbw)
      have HOr := Lib.hid (HO.out.below hbw)
      have hsz := hbw.size
      clear hbf hob hbw
      by_cases hlt : k < L.length
      · have HS := Lib.hid (fold22_succ (f := f) (p := p) hlt)
        cases hh : hasI p (k : Int) with
        | true =>
          have HE : Hid (fold22 L f p (k + 1) = b) := Lib.hid (by rw [HS.out, ← HBF.out]; simp [step22, hh])
          go_wp2_with fail
          refine (l1Has_any B d p (k : Int) wr HOr.out.rd (by omega)).mono ?_
          rintro e w' ⟨rfl, rfl⟩
          rw [hh]
          go_wp2
          go_roundw
          case rel => exact ⟨k + 1, Bb, cb, b, by omega, by go_num, rfl, HE.out.symm, hbl, HOB.out, HBW.out⟩
          case measure => simp [intOf]; omega
        | false =>
          have HE : Hid (fold22 L f p (k + 1) = if b.length = 0 ∨ haulCost L (best22 L f (p ++ [(k : Int)])) < haulCost L b then best22 L f (p ++ [(k : Int)]) else b) := Lib.hid (by rw [HS.out, ← HBF.out]; simp [step22, hh])
          have hxl := best22_len L f (p ++ [(k : Int)])
          rw [List.length_append, List.length_singleton] at hxl
          have hxl2 : (best22 L f (p ++ [(k : Int)])).length ≤ 10 := by have := HP.out; omega
          obtain ⟨x, hx⟩ : ∃ x, x = best22 L f (p ++ [(k : Int)]) := ⟨_, rfl⟩
          have HX := Lib.hid hx
          rw [← hx] at HE hxl2
          clear hx hxl
          go_wp2_with fail
          refine (l1Has_any B d p (k : Int) wr HOr.out.rd (by omega)).mono ?_
          rintro e w' ⟨rfl, rfl⟩
          rw [hh]
          go_wp2_with (first
            | (at_builtin; refine app_int rfl (.tmp 26) (.tmp 27) rfl wr.heap.size (some ⟨wr.heap.size, 0, none⟩) 0 0 [] rfl (OwnI.none_made wr) B p.length d p rfl (HOr.out.rd.alloc _) rfl (by omega) (by simp) ?_; intro A1 c1 w1 ho1 hg1; rw [Nat.zero_add] at ho1 ⊢; rw [List.nil_append] at ho1; have HO1 := Lib.hid ho1; have HI1 := Lib.hid ho1.in_; have HB1 : Hid (Below wr.heap.size wr w1) := Lib.hid (((Below.refl _ _).alloc (Nat.le_refl _) _).grown hg1 (by simp) (fun q hq => by simp [blk] at hq; omega)); have hs1 := HB1.out.size; clear ho1 hg1)
            | (at_builtin; refine app_int rfl (.tmp 28) (.tmp 30) rfl wr.heap.size A1 p.length c1 p rfl (HO1.out.alloc _) (some ⟨w1.heap.size, 0, none⟩) 1 1 [(k : Int)] rfl (RdI.one _ _) rfl (by omega) (by simp; omega) ?_; intro A2 c2 w2 ho2 hg2; have HO2 := Lib.hid ho2; have HB2 : Hid (Below wr.heap.size wr w2) := Lib.hid ((HB1.out.alloc hs1 (.cells #[vi (k : Int)] 3)).grown hg2 (by simp; omega) (fun q hq => (HI1.out q (.inr hq)).1)); have hs2 := HB2.out.size; clear ho2 hg2))
          have HIH2 : Hid (Calls Try.prog 50 #[.slice A L.length c, .slice A2 (p.length + 1) c2] w2 fun e w' => ∃ A' c', e = .returned (.slice A' x.length c') ∧ OwnI w' wr.heap.size A' x.length c' x ∧ Below w2.heap.size w2 w') := Lib.hid (by
            have := HIH.out A2 c2 wr.heap.size (p ++ [(k : Int)]) w2 (HRr.out.below HB2.out) (by rw [List.length_append]; exact HO2.out) hs2 (by have := HP.out; simp; omega)
            rw [← HX.out, List.length_append] at this
            exact this)
          refine HIH2.out.mono ?_
          rintro e w3 ⟨A3, c3, rfl, ho3, hb3⟩
          have HO3 := Lib.hid (ho3.mono hsz)
          have HB3 := Lib.hid (bthen HB2.out hb3)
          have HW3 := Lib.hid (bthen HBW.out HB3.out)
          have HOB3 := Lib.hid (HOB.out.below HB3.out)
          have HR3 := Lib.hid (HRr.out.below HB3.out)
          have HCx := Lib.hid (specHaulCostB A c L A3 c3 x w3 HR3.out HO3.out.rd hs (by omega) HO3.out.cap.1)
          clear ho3 hb3
          by_cases hb0 : b.length = 0
          · have e1 : ((b.length : Int) == 0) = true := by simp [hb0]
            have e2 : (b.length == 0) = true := by simp [hb0]
            have HE2 : Hid (fold22 L f p (k + 1) = x) := Lib.hid (by rw [HE.out, if_pos (.inl hb0)])
            clear hb0
            go_wp2
            go_roundw
            case rel => exact ⟨k + 1, A3, c3, x, by omega, by go_num, rfl, HE2.out.symm, hxl2, HO3.out, HW3.out⟩
            case measure => simp [intOf]; omega
          · have e1 : ((b.length : Int) == 0) = false := beq_false_of_ne (by omega)
            have e2 : (b.length == 0) = false := beq_false_of_ne hb0
            have HE2 : Hid (fold22 L f p (k + 1) = if haulCost L x < haulCost L b then x else b) := Lib.hid (by
              rw [HE.out]
              by_cases h : haulCost L x < haulCost L b
              · rw [if_pos (.inr h), if_pos h]
              · rw [if_neg (by rintro (h3 | h3); exact hb0 h3; exact h h3), if_neg h])
            clear hb0
            go_wp2_with fail
            refine HCx.out.mono ?_
            rintro e w4 ⟨rfl, hb4⟩
            have HO4 := Lib.hid (HO3.out.below hb4)
            have HOB4 := Lib.hid (HOB3.out.below hb4)
            have HR4 := Lib.hid (HR3.out.below hb4)
            have HW4 := Lib.hid (bthen HW3.out hb4)
            clear hb4
            go_wp2_with fail
            refine (specHaulCostB A c L Bb cb b w4 HR4.out HOB4.out.rd hs (by omega) HOB4.out.cap.1).mono ?_
            rintro e w5 ⟨rfl, hb5⟩
            have HO5 := Lib.hid (HO4.out.below hb5)
            have HOB5 := Lib.hid (HOB4.out.below hb5)
            have HW5 := Lib.hid (bthen HW4.out hb5)
            clear hb5
            by_cases hlt2 : haulCost L x < haulCost L b
            · have HE3 := Lib.hid (HE2.out.trans (if_pos hlt2))
              go_wp2
              go_roundw
              case rel => exact ⟨k + 1, A3, c3, x, by omega, by go_num, rfl, HE3.out.symm, hxl2, HO5.out, HW5.out⟩
              case measure => simp [intOf]; omega
            · have HE3 := Lib.hid (HE2.out.trans (if_neg hlt2))
              go_wp2
              go_roundw
              case rel => exact ⟨k + 1, Bb, cb, b, by omega, by go_num, rfl, HE3.out.symm, hbl, HOB5.out, HW5.out⟩
              case measure => simp [intOf]; omega
      · obtain rfl : k = L.length := by omega
        have HE : Hid (b = best22 L (f + 1) p) := Lib.hid (HBF.out.trans fold22_all)
        go_wp2
        go_ret
        exact ⟨Bb, cb, by rw [← HE.out]; rfl, by rw [← HE.out]; exact HOB.out.mono hb, HBW.out⟩
end Go.Proofs.Ytpabfbaoibmnlaa
