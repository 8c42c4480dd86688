/-
  Contracts of the functions of rings: a ring is emptied.
-/
import Derived.Test.YtkgfcgdihnhflaaRingD
namespace Go.Proofs.Ytkgfcgdihnhflaa
open Go.RowKit
set_option linter.unusedVariables false

def emptyB (l : List Int) : Bool := ringOk l && !ringStuck l
def emptyL (l : List Int) : List Int := if emptyB l = true then emptyZ l else []
theorem emptyL_t {l : List Int} (h : emptyB l = true) : emptyL l = emptyZ l := if_pos h
theorem emptyL_f {l : List Int} (h : emptyB l = false) : emptyL l = [] := if_neg (by simp [h])
theorem stp_le_ok {l : List Int} (h : ringOk l = true) : stp l ≤ 104 := by
  have h1 := ringOk_len h
  have h2 := stp_le l fun x hx => by
    obtain ⟨j, hj, rfl⟩ := List.getElem_of_mem hx
    have := ringOk_at h j hj
    rw [nth_eq l j hj] at this; omega
  omega
theorem length_emptyL (l : List Int) : (emptyL l).length ≤ 104 := by
  unfold emptyL
  split
  · rename_i h
    simp only [emptyB, Bool.and_eq_true, Bool.not_eq_true'] at h
    have h1 := (empty_run h.1 h.2).1
    have h2 := stp_le_ok h.1
    omega
  · simp
/-- The length of a slice. -/
def lenOf : Value → Nat
  | .slice _ n _ => n
  | _ => 0

theorem implRingEmpty (A : Option Addr) (c : Nat) (l : List Int) (w : World) (h : RdI w A l) (hl : l.length ≤ 1000000000) :
    Calls Try.prog 33 #[.slice A l.length c] w (NewI2 w (emptyL l) (.bool (emptyB l))) := by
  have HV := Lib.hid (implRingValid A c l w h hl)
  have HS := Lib.hid (implRingStuck A c l w h hl)
  cases ho : ringOk l with
  | false =>
    have hb0 : emptyB l = false := by simp [emptyB, ho]
    have H1 := Lib.hid (emptyL_f hb0)
    have H2 := Lib.hid hb0
    clear hb0
    go_enter Try.func33, Try.ntmps33
    go_wp2_with (go_at_call 17; refine HV.out.mono ?_; rintro e w' ⟨rfl, rfl⟩)
    go_ret2
    rw [H1.out, H2.out]
    exact ⟨none, 0, rfl, OwnI.nil_ _ _, Below.refl _ _⟩
  | true =>
    have Ho := Lib.hid ho
    cases hs : ringStuck l with
    | true =>
      have hb0 : emptyB l = false := by simp [emptyB, hs]
      have H1 := Lib.hid (emptyL_f hb0)
      have H2 := Lib.hid hb0
      clear hb0
      go_enter Try.func33, Try.ntmps33
      go_wp2_with (first
        | (go_at_call 17; refine HV.out.mono ?_; rintro e w' ⟨rfl, rfl⟩)
        | (go_at_call 30; refine HS.out.mono ?_; rintro e w1 ⟨rfl, hb1⟩))
      go_ret2
      rw [H1.out, H2.out]
      exact ⟨none, 0, rfl, OwnI.nil_ _ _, hb1⟩
    | false =>
      have hb0 : emptyB l = true := by simp [emptyB, ho, hs]
      have H1 := Lib.hid (emptyL_t hb0)
      have H2 := Lib.hid hb0
      have HE := Lib.hid (empty_run ho hs).1
      have hlen := ringOk_len ho
      clear hb0
      go_enter Try.func33, Try.ntmps33
      go_wp2_with (first
        | (go_at_call 17; refine HV.out.mono ?_; rintro e w' ⟨rfl, rfl⟩)
        | (go_at_call 30; refine HS.out.mono ?_; rintro e w0 ⟨rfl, hb0⟩))
      have HB0 := Lib.hid hb0
      clear hb0 HS HV hs ho
      refine (clone_any A c l w0 (h.below HB0.out) hl).mono ?_
      rintro e w1 ⟨A1, c1, rfl, ho1, hb1⟩
      have HO1 := Lib.hid ho1
      have HB1 := Lib.hid (bthen HB0.out hb1)
      have HI1 := Lib.hid ho1.in_
      have hs0 := HB0.out.size
      have hs1 := hb1.size
      clear ho1 hb1
      go_wp2_with fail
      refine (firstStep_any A1 l.length c1 w0.heap.size l w1 HO1.out Ho.out).mono ?_
      rintro e w2 ⟨rfl, ho2, hg2⟩
      have HO2 := Lib.hid ho2
      have HB2 := Lib.hid (HB1.out.grown hg2 HB1.out.size (blk_from HI1.out hs0))
      have hs2 := hg2.size
      clear ho2 hg2 HO1
      go_wp2_with fail
      go_loopw [5, 6] (fun v z wr => ∃ (m zs : List Int) (A' : Option Addr) (c' : Nat), ringOk m = true ∧ m.length = l.length ∧ z = vi (firstOk m) ∧ v = .slice A' zs.length c' ∧ zs ++ emptyZ m = emptyZ l ∧
          OwnI wr w0.heap.size A1 l.length c1 (stepTo m (firstOk m)) ∧ OwnI wr w1.heap.size A' zs.length c' zs ∧ w1.heap.size ≤ wr.heap.size ∧ Below w.heap.size w wr)
        (fun v _ _ => (emptyZ l).length - lenOf v)
      case atStart => exact ⟨l, [], none, 0, Ho.out, rfl, rfl, rfl, rfl, HO2.out, OwnI.nil_ _ _, hs2, HB2.out⟩
      case round =>
        obtain ⟨m, zs, A', c', hm, hml, rfl, rfl, hz, hown, hout, hsz, hb⟩ := hrel
        have HM := Lib.hid hm
        have HML := Lib.hid hml
        have HZ := Lib.hid hz
        have HW := Lib.hid hown
        have HT := Lib.hid hout
        have HB := Lib.hid hb
        have HE2 : Hid ((zs.length : Int) + (emptyZ m).length = stp l) := Lib.hid (by rw [← HE.out, ← HZ.out, List.length_append]; simp)
        have hzl : zs.length ≤ 200 := by
          have := HE2.out
          have := stp_le_ok Ho.out
          omega
        clear hm hml hz hown hout hb
        by_cases hf : firstOk m < 0
        · have Hn : Hid (emptyL l = zs) := Lib.hid (by rw [H1.out, ← HZ.out, emptyZ_no hf, List.append_nil])
          go_wp2
          go_ret2
          rw [Hn.out, H2.out]
          exact ⟨A', c', rfl, HT.out.mono (by omega), HB.out⟩
        · have hf' : 0 ≤ firstOk m := by omega
          have HC := Lib.hid (emptyZ_cons (by rw [HML.out]; omega) hf)
          have HI2 := Lib.hid HT.out.in_
          have HK := Lib.hid (stepTo_ok (firstOk m) HM.out)
          go_wp2_with (at_builtin; refine app_int rfl (.tmp 22) (.tmp 24) rfl w1.heap.size A' zs.length c' zs rfl (HT.out.alloc _) (some ⟨wr.heap.size, 0, none⟩) 1 1 [firstOk m] rfl (RdI.one _ _) rfl (by omega) (by simp; omega) ?_; intro A3 c3 w3 ho3 hg3; skip)
          have HT3 := Lib.hid ho3
          have HB3 : Hid (Below w.heap.size w w3) := Lib.hid ((HB.out.alloc HB.out.size _).grown hg3 (by have := HB.out.size; simp; omega) (blk_from HI2.out (by omega)))
          have hs3 : wr.heap.size < w3.heap.size := by have := hg3.size; simp at this; omega
          have HW3 : Hid (OwnI w3 w0.heap.size A1 l.length c1 (stepTo m (firstOk m))) := Lib.hid ((HW.out.alloc _).far hg3 (apart HI1.out HI2.out (by omega)))
          have HI3 := Lib.hid HT3.out.in_
          clear ho3 hg3
          have HST := Lib.hid (firstStep_any A1 l.length c1 w0.heap.size (stepTo m (firstOk m)) w3 HW3.out HK.out)
          go_wp2_with fail
          refine HST.out.mono ?_
          rintro e w4 ⟨rfl, ho4, hg4⟩
          have HW4 := Lib.hid ho4
          have HB4 := Lib.hid (HB3.out.grown hg4 HB3.out.size (blk_from HI1.out hs0))
          have HT4 := Lib.hid (HT3.out.far hg4 (apart_ HI3.out HI1.out (by omega)))
          have hs4 := hg4.size
          clear ho4 hg4 HST
          have hE3 : (emptyZ m).length = (emptyZ (stepTo m (firstOk m))).length + 1 := by rw [HC.out]; simp
          have hE4 := HE2.out
          have hE5 := HE.out
          clear hf hf'
          go_wp2
          go_roundw
          case rel => exact ⟨stepTo m (firstOk m), zs ++ [firstOk m], A3, c3, HK.out, by rw [length_stepTo]; exact HML.out, rfl, by simp, by rw [List.append_assoc, ← HZ.out, HC.out]; rfl, HW4.out, by simpa using HT4.out, by omega, HB4.out⟩
          case measure => simp [lenOf]; omega

/-- What the inner search of the reference holds. -/
def Looks (w0 w : World) (m : List Int) (v : Value) (b : Bool) (j : Nat) : Prop :=
  ∃ A c, v = .slice A m.length c ∧ OwnI w w0.heap.size A m.length c (stepTo m (j : Int)) ∧ b = stepOk m (j : Int)

theorem specRingEmpty (A : Option Addr) (c : Nat) (l : List Int) (w : World) (h : RdI w A l) (hl : l.length ≤ 1000000000) :
    Calls Try.prog 32 #[.slice A l.length c] w (NewI2 w (emptyL l) (.bool (emptyB l))) := by
  have HL := Lib.hid (specRingLeft A c l (w.alloc (.cells #[] 3)) (h.alloc _) hl)
  cases ho : ringOk l with
  | false =>
    have hb0 : emptyB l = false := by simp [emptyB, ho]
    have H1 := Lib.hid (emptyL_f hb0)
    have H2 := Lib.hid hb0
    have hm := many_f ho
    clear hb0
    go_enter Try.func32, Try.ntmps32
    go_wp2_with (go_at_call 19; refine HL.out.mono ?_; rintro e w' ⟨rfl, rfl⟩)
    refine wp_loop_rounds 1 ?_
    rw [rounds_succ]
    go_wp2
    go_ret2
    rw [H1.out, H2.out]
    exact ⟨_, _, rfl, OwnI.none_made w, (Below.refl _ _).alloc (Nat.le_refl _) _⟩
  | true =>
    have Ho := Lib.hid ho
    have hlen := ringOk_len ho
    have Hm := Lib.hid (many_t ho)
    clear ho
    go_enter Try.func32, Try.ntmps32
    go_wp2_with (go_at_call 19; refine HL.out.mono ?_; rintro e w' ⟨rfl, rfl⟩)
    rw [Hm.out]
    go_loopw [0, 4, 5] (fun r v n wr => ∃ (m zs : List Int) (Ar : Option Addr) (cr : Nat) (A' : Option Addr) (c' : Nat), ringOk m = true ∧ m.length = l.length ∧ r = .slice Ar m.length cr ∧ RdI wr Ar m ∧ n = vi (cnt m) ∧ v = .slice A' zs.length c' ∧ zs ++ emptyZ m = emptyZ l ∧
          (m = l ∨ ringStuck l = false ∧ (0 < cnt m → 0 ≤ firstOk m)) ∧ (ringStuck l = true → zs = []) ∧ OwnI wr w.heap.size A' zs.length c' zs ∧ Below w.heap.size w wr)
      (fun _ v _ _ => (emptyZ l).length - lenOf v)
    case atStart => exact ⟨l, [], A, c, _, _, Ho.out, rfl, rfl, h.alloc _, rfl, rfl, rfl, .inl rfl, fun _ => rfl, OwnI.none_made w, (Below.refl _ _).alloc (Nat.le_refl _) _⟩
    case round =>
      obtain ⟨m, zs, Ar, cr, A', c', hm, hml, rfl, hrd, rfl, rfl, hz, hst, hz0, hout, hb⟩ := hrel
      have HM := Lib.hid hm
      have HML := Lib.hid hml
      have HZ := Lib.hid hz
      have HST := Lib.hid hst
      have HZ0 := Lib.hid hz0
      have HT := Lib.hid hout
      have HB := Lib.hid hb
      have HR := Lib.hid hrd
      obtain ⟨wo, rfl⟩ : ∃ wo : World, wo = wr := ⟨_, rfl⟩
      have hmlen : 2 ≤ m.length ∧ m.length ≤ 8 := ringOk_len hm
      have hcn := cnt_nn m
      clear hm hml hz hst hz0 hout hb hrd
      by_cases hc : 0 < cnt m
      · have HF := Lib.hid (specRingStep Ar cr m ((0 : Nat) : Int) wo HR.out (by omega))
        go_wp2_with fail
        refine HF.out.mono ?_
        rintro e w2 ⟨A2, c2, rfl, ho2, hb2⟩
        rw [stepL_t HM.out, length_stepTo] at ho2
        rw [stepL_t HM.out, length_stepTo, stepB_t HM.out]
        have HO2 := Lib.hid ho2
        have HB2 := Lib.hid hb2
        clear ho2 hb2 HF
        go_wp2_with fail
        go_loopw [7, 8, 9] (fun z x b wr => ∃ (j : Nat) (Ax : Option Addr) (cx : Nat), j < m.length ∧ z = vi j ∧ (∀ i : Nat, i < j → stepOk m (i : Int) = false) ∧ b = .bool (stepOk m (j : Int)) ∧ x = .slice Ax m.length cx ∧
            OwnI wr wo.heap.size Ax m.length cx (stepTo m (j : Int)) ∧ Below wo.heap.size wo wr)
          (fun z _ _ _ => m.length - (intOf z).toNat)
        case atStart => exact ⟨0, A2, c2, by omega, rfl, fun i hi => absurd hi (by omega), rfl, rfl, HO2.out, HB2.out⟩
        case round =>
          obtain ⟨j, Ax, cx, hj, rfl, hno, rfl, rfl, hox, hbx⟩ := hrel
          have HNo := Lib.hid hno
          have HX := Lib.hid hox
          have HBX := Lib.hid hbx
          clear hno hox hbx HO2 HB2
          cases hs : stepOk m (j : Int) with
          | true =>
            have HFO := Lib.hid (firstOk_at j hj HNo.out hs)
            have HC := Lib.hid (emptyZ_cons (l := m) (by omega) (by rw [HFO.out]; omega))
            have HK := Lib.hid (stepTo_ok (j : Int) HM.out)
            have HQ : Hid (ringStuck l = false) := Lib.hid (by
              cases hq : ringStuck l with
              | false => rfl
              | true =>
                rcases HST.out with e | ⟨e, _⟩
                · rw [← e] at hq
                  rw [stuck_none hq j hj] at hs; cases hs
                · rw [e] at hq; cases hq)
            have HTx := Lib.hid (HT.out.below HBX.out)
            have HBx := Lib.hid (bthen HB.out HBX.out)
            have HI := Lib.hid HT.out.in_
            have HIX := Lib.hid HX.out.in_
            have hso := HBX.out.size
            have hsw := HB.out.size
            have HE2 : Hid ((zs.length : Int) + (emptyZ m).length = stp l) := Lib.hid (by rw [← (empty_run Ho.out HQ.out).1, ← HZ.out, List.length_append]; simp)
            have hzl : zs.length ≤ 200 := by
              have := HE2.out
              have := stp_le_ok Ho.out
              omega
            go_wp2_with (at_builtin; refine app_int rfl (.tmp 51) (.tmp 53) rfl w.heap.size A' zs.length c' zs rfl (HTx.out.alloc _) (some ⟨wr.heap.size, 0, none⟩) 1 1 [(j : Int)] rfl (RdI.one _ _) rfl (by omega) (by have := HBx.out.size; simp; omega) ?_; intro A3 c3 w3 ho3 hg3; skip)
            have HT3 := Lib.hid ho3
            have HB3 : Hid (Below w.heap.size w w3) := Lib.hid ((HBx.out.alloc HBx.out.size _).grown hg3 (by have := HBx.out.size; simp; omega) (blk_from HI.out (by omega)))
            have HX3 : Hid (OwnI w3 wo.heap.size Ax m.length cx (stepTo m (j : Int))) := Lib.hid ((HX.out.alloc _).far hg3 (apart_ HIX.out HI.out (by omega)))
            clear ho3 hg3
            have hlf := specRingLeft Ax cx (stepTo m (j : Int)) w3 HX3.out.rd (by rw [length_stepTo]; omega)
            rw [length_stepTo, many_t HK.out] at hlf
            have HLF := Lib.hid hlf
            clear hlf
            have hE3 : (emptyZ m).length = (emptyZ (stepTo m (j : Int))).length + 1 := by rw [HC.out, HFO.out]; simp
            have hE4 := HE2.out
            have hE5 := (empty_run Ho.out HQ.out).1
            go_wp2_with fail
            refine HLF.out.mono ?_
            rintro e w' ⟨rfl, rfl⟩
            clear HLF
            go_wp2
            go_roundw
            case rel => exact ⟨stepTo m (j : Int), zs ++ [(j : Int)], Ax, cx, A3, c3, HK.out, by rw [length_stepTo]; exact HML.out, by rw [length_stepTo], HX3.out.rd, rfl, by simp, by rw [List.append_assoc, ← HZ.out, HC.out, HFO.out]; rfl,
              .inr ⟨HQ.out, fun hcc => by have := step_free HM.out (by rw [HFO.out]; omega) (by rw [HFO.out]; exact hcc); rwa [HFO.out] at this⟩, (fun hq => by rw [HQ.out] at hq; cases hq), by simpa using HT3.out, HB3.out⟩
            case measure => simp [lenOf]; omega
          | false =>
            by_cases hj2 : j + 1 < m.length
            · have HF := Lib.hid (specRingStep Ar cr m ((j : Int) + 1) wr (HR.out.below HBX.out) (by omega))
              have Hs := Lib.hid hs
              go_wp2_with fail
              refine HF.out.mono ?_
              rintro e w3 ⟨A3, c3, rfl, ho3, hb3⟩
              rw [stepL_t HM.out, length_stepTo] at ho3
              rw [stepL_t HM.out, length_stepTo, stepB_t HM.out]
              have HO3 := Lib.hid (ho3.mono HBX.out.size)
              have HB3 := Lib.hid (bthen HBX.out hb3)
              clear ho3 hb3 HF hs
              go_wp2
              go_roundw
              case rel => exact ⟨j + 1, A3, c3, hj2, by go_num, fun i hi => by
                rcases Nat.lt_succ_iff_lt_or_eq.1 hi with h1 | h1
                · exact HNo.out i h1
                · subst h1; exact Hs.out, rfl, rfl, HO3.out, HB3.out⟩
              case measure => simp [intOf]; omega
            · have HFN := Lib.hid (firstOk_no (l := m) fun i hi => by
                rcases Nat.lt_succ_iff_lt_or_eq.1 (show i < j + 1 by omega) with h1 | h1
                · exact HNo.out i h1
                · subst h1; exact hs)
              have HQ : Hid (ringStuck l = true) := Lib.hid (by
                rcases HST.out with e | ⟨_, e⟩
                · rw [← e, ringStuck_eq, HM.out, HFN.out]; simp [hc]
                · have := e hc
                  rw [HFN.out] at this; omega)
              have hb0 : emptyB l = false := by simp [emptyB, HQ.out]
              have H1 := Lib.hid (emptyL_f hb0)
              have H2 := Lib.hid hb0
              have HBx := Lib.hid (bthen HB.out HBX.out)
              clear hb0
              go_wp2
              go_ret2
              rw [H1.out, H2.out]
              exact ⟨_, _, rfl, (OwnI.none_made wr).mono HBx.out.size, HBx.out.alloc HBx.out.size _⟩
      · have hc0 : cnt m = 0 := by omega
        have HQ : Hid (ringStuck l = false) := Lib.hid (by
          rcases HST.out with e | ⟨e, _⟩
          · rw [← e, ringStuck_eq, hc0]; simp
          · exact e)
        have hb0 : emptyB l = true := by simp [emptyB, HQ.out, Ho.out]
        have H1 := Lib.hid (emptyL_t hb0)
        have H2 := Lib.hid hb0
        have HN : Hid (emptyZ l = zs) := Lib.hid (by rw [← HZ.out, emptyZ_no (by rw [no_cnt_first hc0]; omega), List.append_nil])
        clear hb0 hc
        go_wp2
        go_ret2
        rw [H1.out, H2.out, HN.out]
        exact ⟨A', c', rfl, HT.out, HB.out⟩
end Go.Proofs.Ytkgfcgdihnhflaa
