/-
  Contracts: the reference fills a train.
-/
import Derived.Test.YtdhpjajhkeanjaaTrainB
import Derived.Deep.CutRange
namespace Go.Proofs.Ytdhpjajhkeanjaa
open Go.RowKit
set_option linter.unusedVariables false

theorem specTrainFill (C : Option Addr) (cc : Nat) (wl : List (Int × Int)) (A : Option Addr) (c : Nat) (l : List Bx) (w : World) (hwg : Rd encP w C wl) (h : Rd encB w A l) (hgl : wl.length ≤ 1000000000) (hl : l.length ≤ 1000000000) (hcap : l.length ≤ c) :
    Calls Try.prog 31 #[.slice C wl.length cc, .slice A l.length c] w (NewI w (fillL wl l)) := by
  have HA := Lib.hid (specWagonsValid C cc wl (w.alloc (.cells #[] 3)) (hwg.alloc _) hgl)
  have H0 := Lib.hid ((Below.refl w.heap.size w).alloc (Nat.le_refl _) (.cells #[] 3))
  have HO0 := Lib.hid (OwnI.none_made w)
  cases hok1 : wagonsOk wl with
  | false =>
    have Hr := Lib.hid (fillL_f1 (l := l) hok1)
    go_enter Try.func31, Try.ntmps31
    go_wp2_with fail
    refine HA.out.mono ?_
    rw [hok1]
    rintro e w1 ⟨rfl, hb1⟩
    have H1 := Lib.hid (bthen H0.out hb1)
    have HO1 := Lib.hid (HO0.out.below hb1)
    clear hb1 HA
    go_wp2
    go_ret
    rw [Hr.out]
    exact ⟨_, _, rfl, HO1.out, H1.out⟩
  | true =>
    cases hok2 : boxesOk l with
    | false =>
      have Hr := Lib.hid (fillL_f2 (wl := wl) hok2)
      go_enter Try.func31, Try.ntmps31
      go_wp2_with fail
      refine HA.out.mono ?_
      rw [hok1]
      rintro e w1 ⟨rfl, hb1⟩
      have H1 := Lib.hid (bthen H0.out hb1)
      have HO1 := Lib.hid (HO0.out.below hb1)
      clear hb1 HA
      go_wp2_with fail
      refine (specBoxesValid A c l w1 (h.below H1.out) hl).mono ?_
      rw [hok2]
      rintro e w2 ⟨rfl, hb2⟩
      have H2 := Lib.hid (bthen H1.out hb2)
      have HO2 := Lib.hid (HO1.out.below hb2)
      clear hb2
      go_wp2
      go_ret
      rw [Hr.out]
      exact ⟨_, _, rfl, HO2.out, H2.out⟩
    | true =>
      have Hr := Lib.hid (fillL_t hok1 hok2)
      have hl10 := (boxesOk_t hok2).2
      have hl6 := (wagonsOk_t hok1).2
      have Hok1 := Lib.hid hok1
      have Hok2 := Lib.hid hok2
      go_enter Try.func31, Try.ntmps31
      go_wp2_with fail
      refine HA.out.mono ?_
      rw [hok1]
      rintro e w1 ⟨rfl, hb1⟩
      have H1 := Lib.hid (bthen H0.out hb1)
      have HO1 := Lib.hid (HO0.out.below hb1)
      clear hb1 HA
      go_wp2_with fail
      refine (specBoxesValid A c l w1 (h.below H1.out) hl).mono ?_
      rw [hok2]
      rintro e w2 ⟨rfl, hb2⟩
      have H2 := Lib.hid (bthen H1.out hb2)
      have HO2 := Lib.hid (HO1.out.below hb2)
      clear hb2
      have HRw := Lib.hid h
      have HWw := Lib.hid hwg
      have hs2 := H2.out.size
      clear H1 HO1 H0 HO0 hok1 hok2 h hwg
      go_wp2
      go_loopw [5, 6] (fun v i wr => ∃ (k : Nat) (A4 : Option Addr) (c4 : Nat), k ≤ l.length ∧ i = vi k ∧ v = .slice A4 k c4 ∧ OwnI wr w.heap.size A4 k c4 (fill wl l k) ∧ Below w.heap.size w wr) (fun _ i _ => l.length - (intOf i).toNat)
      case atStart => exact ⟨0, _, _, Nat.zero_le _, rfl, rfl, HO2.out, H2.out⟩
      case round =>
        obtain ⟨k, A4, c4, hk, rfl, rfl, ho, hb⟩ := hrel
        obtain ⟨wo, hwo⟩ : ∃ x, x = wr := ⟨wr, rfl⟩
        subst hwo
        have HO := Lib.hid ho
        have HB := Lib.hid hb
        have hbs := hb.size
        clear HO2 H2 ho hb
        by_cases hlt : k < l.length
        · have hinv := Lib.hid (fill_inv wl l Hok1.out k)
          have Hfe := Lib.hid (show fill wl l (k + 1) = fill wl l k ++ [fillAt wl l (fill wl l k) k] from rfl)
          have hcc : (k : Int) + 1 ≤ (c : Int) := by omega
          have hkw : IntKind.i64.wrap ((k : Int) + 1) = (k : Int) + 1 := by rw [IntKind.wrap_i64]; omega
          have hk0 : (0 : Int) ≤ (k : Int) + 1 := by omega
          have hkt : ((k : Int) + 1).toNat = k + 1 := by omega
          have hlk : (l.take (k + 1)).length = k + 1 := by rw [List.length_take]; omega
          have hlf := length_fill wl l k
          have HLK := Lib.hid hlk
          have HLF := Lib.hid hlf
          clear hlk hlf
          go_wp2
          go_loopw [7, 8] (fun v i wq => ∃ j : Nat, j ≤ wl.length ∧ i = vi ((j : Int) - 1) ∧ v = vi (ffrom (fitsOne wl l (fill wl l k) k) j (wl.length - j)) ∧ Below wo.heap.size wo wq) (fun _ i _ => (intOf i + 1).toNat)
          case atStart => exact ⟨wl.length, Nat.le_refl _, by go_num, by rw [Nat.sub_self]; rfl, Below.refl _ _⟩
          case round =>
            obtain ⟨j, hj, rfl, rfl, hbq⟩ := hrel
            obtain ⟨wq, hwq⟩ : ∃ x, x = wr := ⟨wr, rfl⟩
            subst hwq
            have HBQ := Lib.hid hbq
            have hqs := hbq.size
            have HOQ := Lib.hid (HO.out.below hbq)
            clear hbq
            by_cases hj0 : 0 < j
            · obtain ⟨m, rfl⟩ : ∃ m, j = m + 1 := ⟨j - 1, by omega⟩
              have hj1 : ((m + 1 : Nat) : Int) - 1 = (m : Int) := by omega
              rw [hj1]
              have hml : m < wl.length := by omega
              have Htry := Lib.hid (try_eq Hok1.out Hok2.out hinv.out hlt hml)
              have Hst := Lib.hid (ffrom_step (p := fitsOne wl l (fill wl l k) k) hml)
              go_upto_region 11 with fail
              go_cut [43] (fun s wx => s = .bool (fitsOne wl l (fill wl l k) k m) ∧ Below wq.heap.size wq wx)
              case first =>
                have HBA := Lib.hid ((Below.refl wq.heap.size wq).alloc (Nat.le_refl _) (.cells #[] 3))
                have HNA := Lib.hid (show OwnI (wq.alloc (.cells #[] 3)).drew wq.heap.size (some ⟨wq.heap.size, 0, none⟩) 0 0 [] from OwnI.none_made wq)
                have HRA := Lib.hid (show RdI (wq.alloc (.cells #[] 3)).drew A4 (fill wl l k) from HOQ.out.rd.alloc _)
                have HNB := Lib.hid (show OwnI ((wq.alloc (.cells #[] 3)).alloc (.cells #[vi (m : Int)] 3)).drew wq.heap.size (some ⟨wq.heap.size, 0, none⟩) 0 0 [] from (OwnI.none_made wq).alloc _)
                have HRB := Lib.hid (show RdI ((wq.alloc (.cells #[] 3)).alloc (.cells #[vi (m : Int)] 3)).drew A4 (fill wl l k) from (HOQ.out.rd.alloc _).alloc _)
                have HMB := Lib.hid (show RdI ((wq.alloc (.cells #[] 3)).alloc (.cells #[vi (m : Int)] 3)).drew (some ⟨wq.heap.size + 1, 0, none⟩) [(m : Int)] from by have := RdI.one (wq.alloc (.cells #[] 3)) (m : Int); rw [World.size_alloc] at this; exact this)
                have HNC := Lib.hid (show OwnI ((wq.alloc (.cells #[vi (m : Int)] 3)).alloc (.cells #[] 3)).drew wq.heap.size (some ⟨wq.heap.size + 1, 0, none⟩) 0 0 [] from by have := (OwnI.none_made (wq.alloc (.cells #[vi (m : Int)] 3))).mono (b' := wq.heap.size) (by simp); rw [World.size_alloc] at this; exact this)
                have HRC := Lib.hid (show RdI ((wq.alloc (.cells #[vi (m : Int)] 3)).alloc (.cells #[] 3)).drew A4 (fill wl l k) from (HOQ.out.rd.alloc _).alloc _)
                have HMC := Lib.hid (show RdI ((wq.alloc (.cells #[vi (m : Int)] 3)).alloc (.cells #[] 3)).drew (some ⟨wq.heap.size, 0, none⟩) [(m : Int)] from (RdI.one wq (m : Int)).alloc _)
                have HB2A := Lib.hid ((HBA.out.alloc (by simp) (.cells #[vi (m : Int)] 3)).drew)
                have HB2C := Lib.hid ((((Below.refl wq.heap.size wq).alloc (Nat.le_refl _) (.cells #[vi (m : Int)] 3)).alloc (by simp) (.cells #[] 3)).drew)
                have HTV := Lib.hid (fun (w' : World) (A8 : Option Addr) (c8 : Nat) (hw' : Below w.heap.size w w') (h3 : RdI w' A8 (fill wl l k ++ [(m : Int)])) => (show Calls Try.prog 27 #[.slice C wl.length cc, .slice A (k + 1) c, .slice A8 (k + 1) c8] w' fun e w'' => e = .returned (.bool (fitsOne wl l (fill wl l k) k m)) ∧ Below w'.heap.size w' w'' from by
                  have := specTrainValid C cc wl A c (l.take (k + 1)) A8 c8 (fill wl l k ++ [(m : Int)]) w' (HWw.out.below hw') ((HRw.out.below hw').take _) h3 (by omega) (by rw [HLK.out]; omega) (by simp [HLF.out]; omega)
                  rw [Htry.out, HLK.out] at this
                  simpa [HLF.out] using this))
                go_region_law (first
                  | (refine step_app_int2 rfl (.tmp 37) (.tmp 38) rfl wq.heap.size (some ⟨wq.heap.size, 0, none⟩) 0 0 [] rfl HNA.out A4 k c4 (fill wl l k) rfl HRA.out HLF.out k (fill wl l k) (by omega) rfl (by omega) (by simp) ?_
                     intro A7 c7 w7 ho7 hg7
                     have HO7 := Lib.hid ho7
                     have HB7 := Lib.hid (HBA.out.drew.grown hg7 (by simp) (fun q hq => by simp [blk] at hq; omega))
                     have hs7 := HB7.out.size
                     clear ho7 hg7)
                  | (refine step_app_int2 rfl (.tmp 37) (.tmp 38) rfl wq.heap.size (some ⟨wq.heap.size, 0, none⟩) 0 0 [] rfl HNB.out A4 k c4 (fill wl l k) rfl HRB.out HLF.out k (fill wl l k) (by omega) rfl (by omega) (by simp; omega) ?_
                     intro A7 c7 w7 ho7 hg7
                     have HO7 := Lib.hid ho7
                     have HM7 := Lib.hid (HMB.out.far hg7 (fun b o e e2 => by simp [blk] at e e2; omega))
                     have HB7 := Lib.hid (HB2A.out.grown hg7 (by simp; omega) (fun q hq => by simp [blk] at hq; omega))
                     have hs7 := HB7.out.size
                     clear ho7 hg7)
                  | (refine step_app_int2 rfl (.tmp 37) (.tmp 38) rfl wq.heap.size (some ⟨wq.heap.size + 1, 0, none⟩) 0 0 [] rfl HNC.out A4 k c4 (fill wl l k) rfl HRC.out HLF.out k (fill wl l k) (by omega) rfl (by omega) (by simp; omega) ?_
                     intro A7 c7 w7 ho7 hg7
                     have HO7 := Lib.hid ho7
                     have HM7 := Lib.hid (HMC.out.far hg7 (fun b o e e2 => by simp [blk] at e e2; omega))
                     have HB7 := Lib.hid (HB2C.out.grown hg7 (by simp; omega) (fun q hq => by simp [blk] at hq; omega))
                     have hs7 := HB7.out.size
                     clear ho7 hg7)
                  | (refine step_app_int2 rfl (.tmp 39) (.tmp 41) rfl wq.heap.size A7 k c7 (fill wl l k) rfl HO7.out _ 1 1 [(m : Int)] rfl HM7.out rfl (k + 1) (fill wl l k ++ [(m : Int)]) rfl rfl (by omega) (by omega) ?_
                     intro A8 c8 w8 ho8 hg8
                     have HO8 := Lib.hid ho8
                     have HB8 := Lib.hid (HB7.out.grown hg8 hs7 (fun q hq => (HO7.out.in_ q (.inr hq)).1))
                     clear ho8 hg8)
                  | (refine step_app_int2 rfl (.tmp 39) (.tmp 41) rfl wq.heap.size A7 k c7 (fill wl l k) rfl (HO7.out.alloc _) (some ⟨w7.heap.size, 0, none⟩) 1 1 [(m : Int)] rfl (RdI.one _ _) rfl (k + 1) (fill wl l k ++ [(m : Int)]) rfl rfl (by omega) (by simp; omega) ?_
                     intro A8 c8 w8 ho8 hg8
                     have HO8 := Lib.hid ho8
                     have HB8 := Lib.hid ((HB7.out.alloc HB7.out.size _).grown hg8 (by simp; omega) (fun q hq => (HO7.out.in_ q (.inr hq)).1))
                     clear ho8 hg8)
                  | (go_simp
                     go_at_call 27
                     refine (HTV.out w8 A8 c8 (bthen (bthen HB.out HBQ.out) HB8.out) HO8.out.rd).mono ?_
                     rintro e w9 ⟨rfl, hb9⟩
                     have HB9 := Lib.hid (bthen HB8.out hb9)
                     clear hb9))
                all_goals (go_wp2_with fail; go_meet; exact ⟨rfl, HB9.out⟩)
              case rest =>
                obtain ⟨rfl, hb9⟩ := hcut
                have HB9 := Lib.hid (bthen HBQ.out hb9)
                clear hb9
                cases hf : fitsOne wl l (fill wl l k) k m with
                | true =>
                  have Hst2 := Lib.hid (Hst.out.trans (if_pos hf))
                  go_wp2
                  go_roundw
                  case rel => exact ⟨m, by omega, by go_num, by rw [Hst2.out], HB9.out⟩
                  case measure => first | (simp [intOf]; done) | (simp [intOf]; omega)
                | false =>
                  have Hst2 := Lib.hid (Hst.out.trans (if_neg (by rw [hf]; simp)))
                  go_wp2
                  go_roundw
                  case rel => exact ⟨m, by omega, by go_num, by rw [Hst2.out], HB9.out⟩
                  case measure => first | (simp [intOf]; done) | (simp [intOf]; omega)
            · obtain rfl : j = 0 := by omega
              have hm1 : ((0 : Nat) : Int) - 1 = -1 := by omega
              have hz : ffrom (fitsOne wl l (fill wl l k) k) 0 (wl.length - 0) = fillAt wl l (fill wl l k) k := by rw [Nat.sub_zero]; rfl
              rw [hm1, hz]
              have HIQ := Lib.hid HOQ.out.in_
              have hbw := HB.out.size
              go_wp2_with (at_builtin; refine app_int rfl (.tmp 45) (.tmp 47) rfl w.heap.size A4 k c4 (fill wl l k) rfl (HOQ.out.alloc _) (some ⟨wq.heap.size, 0, none⟩) 1 1 [fillAt wl l (fill wl l k) k] rfl (RdI.one _ _) rfl (by omega) (by simp; omega) ?_; intro A7 c7 w7 ho7 hg7; skip)
              have HO7 := Lib.hid ho7
              have HB7 := Lib.hid (((bthen HB.out HBQ.out).alloc (by omega) (.cells #[vi (fillAt wl l (fill wl l k) k)] 3)).grown hg7 (by simp; omega) (fun q hq => (HIQ.out q (.inr hq)).1))
              clear ho7 hg7
              go_wp2
              go_roundw
              case rel => exact ⟨k + 1, A7, c7, by omega, by go_num, rfl, by rw [Hfe.out]; exact HO7.out, HB7.out⟩
              case measure => simp [intOf]; omega
        · obtain rfl : k = l.length := by omega
          go_wp2
          go_ret
          have hfl : fillL wl l = fill wl l l.length := Hr.out
          refine ⟨A4, c4, ?_, ?_, HB.out⟩
          · rw [hfl, length_fill]; rfl
          · rw [hfl, length_fill]; exact HO.out
end Go.Proofs.Ytdhpjajhkeanjaa
