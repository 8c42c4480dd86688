/-
  The walk of 'FnCostsValid'.
-/
import Derived.Test.YtpabfbaoibmnlaaHaulDraw2
import Derived.Test.YtpabfbaoibmnlaaHlA
import Derived.Test.YtpabfbaoibmnlaaAlive
namespace Go.Proofs.Ytpabfbaoibmnlaa
open Go.RowKit
set_option linter.unusedVariables false
set_option maxRecDepth 100000

set_option maxHeartbeats 8000000 in
theorem walkFnCostsValid (w : World) (A0a : Option Addr) (c0a : Nat) (l0 : List Int) (rd0 : RdB w w.heap.size A0a l0) (cap0 : l0.length ≤ c0a) :
    Calls Try.prog 4 #[.slice A0a l0.length c0a] w fun e w' => e = .returned (.bool true) ∧ Below w.heap.size w w' := by
  by_cases hbig0 : 1048576 < l0.length
  · go_enter Try.func4, Try.ntmps4
    go_wp2
    go_ret
    exact ⟨rfl, Below.refl _ _⟩
  go_enter Try.func4, Try.ntmps4
  go_wp2_with fail
  refine (DrawCostsValid_any A0a c0a l0 w rd0 cap0).mono ?_
  rintro e w1 ⟨A1, c1, L, rfl, ho1, h6, h5, hb1⟩
  have HB1 := Lib.hid hb1
  have HRM := Lib.hid ho1.rd
  have SM := Lib.hid (small_drawn h6 h5)
  obtain ⟨-, R, hoR, hrowR⟩ := ho1
  have HRR := Lib.hid hoR.rd
  have HRl := Lib.hid hoR.len
  have HRO := Lib.hid hrowR
  have hs1 := hb1.size
  clear hb1 h5 hbig0 hoR hrowR
  go_wp2_with fail
  refine (implCostsValid A1 c1 L w1 HRM.out SM.out).mono ?_
  rintro e w' ⟨rfl, rfl⟩
  go_wp2_with fail
  refine (specCostsValid A1 c1 L w1 HRM.out SM.out).mono ?_
  rintro e w' ⟨rfl, rfl⟩
  cases hv : costsOk L with
  | false =>
    have HN := Lib.hid (show Calls Try.prog 16 #[.slice none 0 0] w1 fun e w' => e = .returned (.bool (costsOk [])) ∧ w1 = w' from implCostsValid none 0 [] w1 RdM.nil_ ⟨by simp, fun k hk => by simp at hk⟩)
    rw [show costsOk [] = true from rfl] at HN
    go_wp2_with fail
    refine HN.out.mono ?_
    rintro e w' ⟨rfl, rfl⟩
    go_wp2_with fail
    refine (alive_any w1).mono ?_
    rintro e w' ⟨rfl, rfl⟩
    go_wp2
    go_ret
    exact ⟨rfl, HB1.out⟩
  | true =>
    have HMore := Lib.hid (costs_more L (List.replicate L.length 0) (by simp))
    have hmk := make_int L.length (by omega)
    have HNa : Hid (Own encR 30 (w1.alloc (.cells #[] 30)).drew w1.heap.size (some ⟨w1.heap.size, 0, none⟩) 0 0 []) := Lib.hid (by
      have := (Own.none_made (e := encR) (E := 30) w1).mono (b' := w1.heap.size) (by first | exact Nat.le_refl _ | (simp; done) | (simp; omega))
      try simp only [World.size_alloc] at this
      exact this)
    have HSa := Lib.hid (show Rd encR (w1.alloc (.cells #[] 30)).drew A1 R from (HRR.out.alloc _))
    have HBa := Lib.hid (show Below w1.heap.size w1 (w1.alloc (.cells #[] 30)).drew from ((Below.refl w1.heap.size w1).alloc (by first | exact Nat.le_refl _ | (simp; done) | (simp; omega)) (.cells #[] 30)).drew)
    have HNam : Hid (Own encR 30 ((w1.alloc (.cells #[] 30)).alloc (.cells (madeCells #[vi 0] L.length) 3)).drew w1.heap.size (some ⟨w1.heap.size, 0, none⟩) 0 0 []) := Lib.hid (by
      have := (Own.none_made (e := encR) (E := 30) w1).mono (b' := w1.heap.size) (by first | exact Nat.le_refl _ | (simp; done) | (simp; omega))
      try simp only [World.size_alloc] at this
      exact (this.alloc _))
    have HSam := Lib.hid (show Rd encR ((w1.alloc (.cells #[] 30)).alloc (.cells (madeCells #[vi 0] L.length) 3)).drew A1 R from ((HRR.out.alloc _).alloc _))
    have HBam := Lib.hid (show Below w1.heap.size w1 ((w1.alloc (.cells #[] 30)).alloc (.cells (madeCells #[vi 0] L.length) 3)).drew from (((Below.refl w1.heap.size w1).alloc (by first | exact Nat.le_refl _ | (simp; done) | (simp; omega)) (.cells #[] 30)).alloc (by first | exact Nat.le_refl _ | (simp; done) | (simp; omega)) (.cells (madeCells #[vi 0] L.length) 3)).drew)
    have HMam : Hid (OwnI ((w1.alloc (.cells #[] 30)).alloc (.cells (madeCells #[vi 0] L.length) 3)).drew w1.heap.size (some ⟨w1.heap.size + 1, 0, none⟩) L.length L.length (List.replicate L.length 0)) := Lib.hid (by
      have := (OwnI.made (w1.alloc (.cells #[] 30)) L.length (by simp only [maxLen]; omega)).mono (b' := w1.heap.size) (by first | exact Nat.le_refl _ | (simp; done) | (simp; omega))
      try simp only [World.size_alloc] at this
      exact this)
    have HNma : Hid (Own encR 30 ((w1.alloc (.cells (madeCells #[vi 0] L.length) 3)).alloc (.cells #[] 30)).drew w1.heap.size (some ⟨w1.heap.size + 1, 0, none⟩) 0 0 []) := Lib.hid (by
      have := (Own.none_made (e := encR) (E := 30) (w1.alloc (.cells (madeCells #[vi 0] L.length) 3))).mono (b' := w1.heap.size) (by first | exact Nat.le_refl _ | (simp; done) | (simp; omega))
      try simp only [World.size_alloc] at this
      exact this)
    have HSma := Lib.hid (show Rd encR ((w1.alloc (.cells (madeCells #[vi 0] L.length) 3)).alloc (.cells #[] 30)).drew A1 R from ((HRR.out.alloc _).alloc _))
    have HBma := Lib.hid (show Below w1.heap.size w1 ((w1.alloc (.cells (madeCells #[vi 0] L.length) 3)).alloc (.cells #[] 30)).drew from (((Below.refl w1.heap.size w1).alloc (by first | exact Nat.le_refl _ | (simp; done) | (simp; omega)) (.cells (madeCells #[vi 0] L.length) 3)).alloc (by first | exact Nat.le_refl _ | (simp; done) | (simp; omega)) (.cells #[] 30)).drew)
    have HMma : Hid (OwnI ((w1.alloc (.cells (madeCells #[vi 0] L.length) 3)).alloc (.cells #[] 30)).drew w1.heap.size (some ⟨w1.heap.size, 0, none⟩) L.length L.length (List.replicate L.length 0)) := Lib.hid (by
      have := (OwnI.made w1 L.length (by simp only [maxLen]; omega)).mono (b' := w1.heap.size) (by first | exact Nat.le_refl _ | (simp; done) | (simp; omega))
      try simp only [World.size_alloc] at this
      exact (this.alloc _))
    have HNamb : Hid (Own encR 30 (((w1.alloc (.cells #[] 30)).alloc (.cells (madeCells #[vi 0] L.length) 3)).alloc (.cells #[.slice (some ⟨w1.heap.size + 1, 0, none⟩) L.length L.length] 30)).drew w1.heap.size (some ⟨w1.heap.size, 0, none⟩) 0 0 []) := Lib.hid (by
      have := (Own.none_made (e := encR) (E := 30) w1).mono (b' := w1.heap.size) (by first | exact Nat.le_refl _ | (simp; done) | (simp; omega))
      try simp only [World.size_alloc] at this
      exact ((this.alloc _).alloc _))
    have HSamb := Lib.hid (show Rd encR (((w1.alloc (.cells #[] 30)).alloc (.cells (madeCells #[vi 0] L.length) 3)).alloc (.cells #[.slice (some ⟨w1.heap.size + 1, 0, none⟩) L.length L.length] 30)).drew A1 R from (((HRR.out.alloc _).alloc _).alloc _))
    have HBamb := Lib.hid (show Below w1.heap.size w1 (((w1.alloc (.cells #[] 30)).alloc (.cells (madeCells #[vi 0] L.length) 3)).alloc (.cells #[.slice (some ⟨w1.heap.size + 1, 0, none⟩) L.length L.length] 30)).drew from ((((Below.refl w1.heap.size w1).alloc (by first | exact Nat.le_refl _ | (simp; done) | (simp; omega)) (.cells #[] 30)).alloc (by first | exact Nat.le_refl _ | (simp; done) | (simp; omega)) (.cells (madeCells #[vi 0] L.length) 3)).alloc (by first | exact Nat.le_refl _ | (simp; done) | (simp; omega)) (.cells #[.slice (some ⟨w1.heap.size + 1, 0, none⟩) L.length L.length] 30)).drew)
    have HMamb : Hid (OwnI (((w1.alloc (.cells #[] 30)).alloc (.cells (madeCells #[vi 0] L.length) 3)).alloc (.cells #[.slice (some ⟨w1.heap.size + 1, 0, none⟩) L.length L.length] 30)).drew w1.heap.size (some ⟨w1.heap.size + 1, 0, none⟩) L.length L.length (List.replicate L.length 0)) := Lib.hid (by
      have := (OwnI.made (w1.alloc (.cells #[] 30)) L.length (by simp only [maxLen]; omega)).mono (b' := w1.heap.size) (by first | exact Nat.le_refl _ | (simp; done) | (simp; omega))
      try simp only [World.size_alloc] at this
      exact (this.alloc _))
    have HVamb : Hid (Rd encR (((w1.alloc (.cells #[] 30)).alloc (.cells (madeCells #[vi 0] L.length) 3)).alloc (.cells #[.slice (some ⟨w1.heap.size + 1, 0, none⟩) L.length L.length] 30)).drew (some ⟨w1.heap.size + 1 + 1, 0, none⟩) [(some ⟨w1.heap.size + 1, 0, none⟩, L.length, L.length)]) := Lib.hid (by
      have := (Own.lit (E := 30) (e := encR) ((w1.alloc (.cells #[] 30)).alloc (.cells (madeCells #[vi 0] L.length) 3)) #[.slice (some ⟨w1.heap.size + 1, 0, none⟩) L.length L.length] [(some ⟨w1.heap.size + 1, 0, none⟩, L.length, L.length)] rfl (by simp [maxLen])).rd
      try simp only [World.size_alloc] at this
      exact this)
    have HNmab : Hid (Own encR 30 (((w1.alloc (.cells (madeCells #[vi 0] L.length) 3)).alloc (.cells #[] 30)).alloc (.cells #[.slice (some ⟨w1.heap.size, 0, none⟩) L.length L.length] 30)).drew w1.heap.size (some ⟨w1.heap.size + 1, 0, none⟩) 0 0 []) := Lib.hid (by
      have := (Own.none_made (e := encR) (E := 30) (w1.alloc (.cells (madeCells #[vi 0] L.length) 3))).mono (b' := w1.heap.size) (by first | exact Nat.le_refl _ | (simp; done) | (simp; omega))
      try simp only [World.size_alloc] at this
      exact (this.alloc _))
    have HSmab := Lib.hid (show Rd encR (((w1.alloc (.cells (madeCells #[vi 0] L.length) 3)).alloc (.cells #[] 30)).alloc (.cells #[.slice (some ⟨w1.heap.size, 0, none⟩) L.length L.length] 30)).drew A1 R from (((HRR.out.alloc _).alloc _).alloc _))
    have HBmab := Lib.hid (show Below w1.heap.size w1 (((w1.alloc (.cells (madeCells #[vi 0] L.length) 3)).alloc (.cells #[] 30)).alloc (.cells #[.slice (some ⟨w1.heap.size, 0, none⟩) L.length L.length] 30)).drew from ((((Below.refl w1.heap.size w1).alloc (by first | exact Nat.le_refl _ | (simp; done) | (simp; omega)) (.cells (madeCells #[vi 0] L.length) 3)).alloc (by first | exact Nat.le_refl _ | (simp; done) | (simp; omega)) (.cells #[] 30)).alloc (by first | exact Nat.le_refl _ | (simp; done) | (simp; omega)) (.cells #[.slice (some ⟨w1.heap.size, 0, none⟩) L.length L.length] 30)).drew)
    have HMmab : Hid (OwnI (((w1.alloc (.cells (madeCells #[vi 0] L.length) 3)).alloc (.cells #[] 30)).alloc (.cells #[.slice (some ⟨w1.heap.size, 0, none⟩) L.length L.length] 30)).drew w1.heap.size (some ⟨w1.heap.size, 0, none⟩) L.length L.length (List.replicate L.length 0)) := Lib.hid (by
      have := (OwnI.made w1 L.length (by simp only [maxLen]; omega)).mono (b' := w1.heap.size) (by first | exact Nat.le_refl _ | (simp; done) | (simp; omega))
      try simp only [World.size_alloc] at this
      exact ((this.alloc _).alloc _))
    have HVmab : Hid (Rd encR (((w1.alloc (.cells (madeCells #[vi 0] L.length) 3)).alloc (.cells #[] 30)).alloc (.cells #[.slice (some ⟨w1.heap.size, 0, none⟩) L.length L.length] 30)).drew (some ⟨w1.heap.size + 1 + 1, 0, none⟩) [(some ⟨w1.heap.size, 0, none⟩, L.length, L.length)]) := Lib.hid (by
      have := (Own.lit (E := 30) (e := encR) ((w1.alloc (.cells (madeCells #[vi 0] L.length) 3)).alloc (.cells #[] 30)) #[.slice (some ⟨w1.heap.size, 0, none⟩) L.length L.length] [(some ⟨w1.heap.size, 0, none⟩, L.length, L.length)] rfl (by simp [maxLen])).rd
      try simp only [World.size_alloc] at this
      exact this)
    have HNmba : Hid (Own encR 30 (((w1.alloc (.cells (madeCells #[vi 0] L.length) 3)).alloc (.cells #[.slice (some ⟨w1.heap.size, 0, none⟩) L.length L.length] 30)).alloc (.cells #[] 30)).drew w1.heap.size (some ⟨w1.heap.size + 1 + 1, 0, none⟩) 0 0 []) := Lib.hid (by
      have := (Own.none_made (e := encR) (E := 30) ((w1.alloc (.cells (madeCells #[vi 0] L.length) 3)).alloc (.cells #[.slice (some ⟨w1.heap.size, 0, none⟩) L.length L.length] 30))).mono (b' := w1.heap.size) (by first | exact Nat.le_refl _ | (simp; done) | (simp; omega))
      try simp only [World.size_alloc] at this
      exact this)
    have HSmba := Lib.hid (show Rd encR (((w1.alloc (.cells (madeCells #[vi 0] L.length) 3)).alloc (.cells #[.slice (some ⟨w1.heap.size, 0, none⟩) L.length L.length] 30)).alloc (.cells #[] 30)).drew A1 R from (((HRR.out.alloc _).alloc _).alloc _))
    have HBmba := Lib.hid (show Below w1.heap.size w1 (((w1.alloc (.cells (madeCells #[vi 0] L.length) 3)).alloc (.cells #[.slice (some ⟨w1.heap.size, 0, none⟩) L.length L.length] 30)).alloc (.cells #[] 30)).drew from ((((Below.refl w1.heap.size w1).alloc (by first | exact Nat.le_refl _ | (simp; done) | (simp; omega)) (.cells (madeCells #[vi 0] L.length) 3)).alloc (by first | exact Nat.le_refl _ | (simp; done) | (simp; omega)) (.cells #[.slice (some ⟨w1.heap.size, 0, none⟩) L.length L.length] 30)).alloc (by first | exact Nat.le_refl _ | (simp; done) | (simp; omega)) (.cells #[] 30)).drew)
    have HMmba : Hid (OwnI (((w1.alloc (.cells (madeCells #[vi 0] L.length) 3)).alloc (.cells #[.slice (some ⟨w1.heap.size, 0, none⟩) L.length L.length] 30)).alloc (.cells #[] 30)).drew w1.heap.size (some ⟨w1.heap.size, 0, none⟩) L.length L.length (List.replicate L.length 0)) := Lib.hid (by
      have := (OwnI.made w1 L.length (by simp only [maxLen]; omega)).mono (b' := w1.heap.size) (by first | exact Nat.le_refl _ | (simp; done) | (simp; omega))
      try simp only [World.size_alloc] at this
      exact ((this.alloc _).alloc _))
    have HVmba : Hid (Rd encR (((w1.alloc (.cells (madeCells #[vi 0] L.length) 3)).alloc (.cells #[.slice (some ⟨w1.heap.size, 0, none⟩) L.length L.length] 30)).alloc (.cells #[] 30)).drew (some ⟨w1.heap.size + 1, 0, none⟩) [(some ⟨w1.heap.size, 0, none⟩, L.length, L.length)]) := Lib.hid (by
      have := (Own.lit (E := 30) (e := encR) (w1.alloc (.cells (madeCells #[vi 0] L.length) 3)) #[.slice (some ⟨w1.heap.size, 0, none⟩) L.length L.length] [(some ⟨w1.heap.size, 0, none⟩, L.length, L.length)] rfl (by simp [maxLen])).rd
      try simp only [World.size_alloc] at this
      exact (this.alloc _))
    clear hv
    go_wp2
    go_region_law (first
      | (refine step_app_R rfl (.tmp 23) (.tmp 24) rfl w1.heap.size (some ⟨w1.heap.size, 0, none⟩) 0 0 [] (by simp [Act.eval]) HNa.out A1 L.length c1 R (by simp [Act.eval]) HSa.out HRl.out L.length R (by omega) rfl (by omega) (by first | (simp; done) | (simp; omega)) ?_
         intro A7 c7 w7 ho7 hg7
         have HO7 := Lib.hid ho7
         have HB7 := Lib.hid (HBa.out.grown hg7 (by first | (simp; done) | (simp; omega)) (fun q hq => by simp [blk] at hq; omega))
         have hs7 := HB7.out.size
         clear ho7 hg7)
      | (refine step_app_R rfl (.tmp 23) (.tmp 24) rfl w1.heap.size (some ⟨w1.heap.size, 0, none⟩) 0 0 [] (by simp [Act.eval]) HNam.out A1 L.length c1 R (by simp [Act.eval]) HSam.out HRl.out L.length R (by omega) rfl (by omega) (by first | (simp; done) | (simp; omega)) ?_
         intro A7 c7 w7 ho7 hg7
         have HO7 := Lib.hid ho7
         have HB7 := Lib.hid (HBam.out.grown hg7 (by first | (simp; done) | (simp; omega)) (fun q hq => by simp [blk] at hq; omega))
         have HM7 := Lib.hid (HMam.out.far hg7 (fun b e e2 => by simp [blk] at e e2; omega))
         have hs7 := HB7.out.size
         clear ho7 hg7)
      | (refine step_app_R rfl (.tmp 23) (.tmp 24) rfl w1.heap.size (some ⟨w1.heap.size + 1, 0, none⟩) 0 0 [] (by simp [Act.eval]) HNma.out A1 L.length c1 R (by simp [Act.eval]) HSma.out HRl.out L.length R (by omega) rfl (by omega) (by first | (simp; done) | (simp; omega)) ?_
         intro A7 c7 w7 ho7 hg7
         have HO7 := Lib.hid ho7
         have HB7 := Lib.hid (HBma.out.grown hg7 (by first | (simp; done) | (simp; omega)) (fun q hq => by simp [blk] at hq; omega))
         have HM7 := Lib.hid (HMma.out.far hg7 (fun b e e2 => by simp [blk] at e e2; omega))
         have hs7 := HB7.out.size
         clear ho7 hg7)
      | (refine step_app_R rfl (.tmp 23) (.tmp 24) rfl w1.heap.size (some ⟨w1.heap.size, 0, none⟩) 0 0 [] (by simp [Act.eval]) HNamb.out A1 L.length c1 R (by simp [Act.eval]) HSamb.out HRl.out L.length R (by omega) rfl (by omega) (by first | (simp; done) | (simp; omega)) ?_
         intro A7 c7 w7 ho7 hg7
         have HO7 := Lib.hid ho7
         have HB7 := Lib.hid (HBamb.out.grown hg7 (by first | (simp; done) | (simp; omega)) (fun q hq => by simp [blk] at hq; omega))
         have HM7 := Lib.hid (HMamb.out.far hg7 (fun b e e2 => by simp [blk] at e e2; omega))
         have HV7 := Lib.hid (HVamb.out.far hg7 (fun b o e e2 => by simp [blk] at e e2; omega))
         have hs7 := HB7.out.size
         clear ho7 hg7)
      | (refine step_app_R rfl (.tmp 23) (.tmp 24) rfl w1.heap.size (some ⟨w1.heap.size + 1, 0, none⟩) 0 0 [] (by simp [Act.eval]) HNmab.out A1 L.length c1 R (by simp [Act.eval]) HSmab.out HRl.out L.length R (by omega) rfl (by omega) (by first | (simp; done) | (simp; omega)) ?_
         intro A7 c7 w7 ho7 hg7
         have HO7 := Lib.hid ho7
         have HB7 := Lib.hid (HBmab.out.grown hg7 (by first | (simp; done) | (simp; omega)) (fun q hq => by simp [blk] at hq; omega))
         have HM7 := Lib.hid (HMmab.out.far hg7 (fun b e e2 => by simp [blk] at e e2; omega))
         have HV7 := Lib.hid (HVmab.out.far hg7 (fun b o e e2 => by simp [blk] at e e2; omega))
         have hs7 := HB7.out.size
         clear ho7 hg7)
      | (refine step_app_R rfl (.tmp 23) (.tmp 24) rfl w1.heap.size (some ⟨w1.heap.size + 1 + 1, 0, none⟩) 0 0 [] (by simp [Act.eval]) HNmba.out A1 L.length c1 R (by simp [Act.eval]) HSmba.out HRl.out L.length R (by omega) rfl (by omega) (by first | (simp; done) | (simp; omega)) ?_
         intro A7 c7 w7 ho7 hg7
         have HO7 := Lib.hid ho7
         have HB7 := Lib.hid (HBmba.out.grown hg7 (by first | (simp; done) | (simp; omega)) (fun q hq => by simp [blk] at hq; omega))
         have HM7 := Lib.hid (HMmba.out.far hg7 (fun b e e2 => by simp [blk] at e e2; omega))
         have HV7 := Lib.hid (HVmba.out.far hg7 (fun b o e e2 => by simp [blk] at e e2; omega))
         have hs7 := HB7.out.size
         clear ho7 hg7)
      | (refine step_app_R rfl (.tmp 25) (.tmp 29) rfl w1.heap.size A7 L.length c7 R (by simp [Act.eval]) HO7.out (some ⟨_, 0, none⟩) 1 1 [(some ⟨_, 0, none⟩, L.length, L.length)] (by simp [Act.eval]) HV7.out rfl (L.length + 1) _ rfl rfl (by omega) hs7 ?_
         intro A8 c8 w8 ho8 hg8
         have HM8 := Lib.hid (far_ty HM7.out HO7.out hg8)
         have HO8 := Lib.hid ho8
         have HB8 := Lib.hid (HB7.out.grown hg8 hs7 (fun q hq => (HO7.out.in_ q (.inr hq)).1))
         clear ho8 hg8)
      | (refine step_app_R rfl (.tmp 25) (.tmp 29) rfl w1.heap.size A7 L.length c7 R (by simp [Act.eval]) (HO7.out.alloc _) (some ⟨w7.heap.size, 0, none⟩) 1 1 [(some ⟨w1.heap.size, 0, none⟩, L.length, L.length)] (by simp [Act.eval]) (Own.lit (E := 30) (e := encR) w7 #[.slice (some ⟨w1.heap.size, 0, none⟩) L.length L.length] [(some ⟨w1.heap.size, 0, none⟩, L.length, L.length)] rfl (by simp [maxLen])).rd rfl (L.length + 1) _ rfl rfl (by omega) (by simp; omega) ?_
         intro A8 c8 w8 ho8 hg8
         have HM8 := Lib.hid (far_ty (HM7.out.alloc _) (HO7.out.alloc _) hg8)
         have HO8 := Lib.hid ho8
         have HB8 := Lib.hid ((HB7.out.alloc hs7 (.cells #[.slice (some ⟨w1.heap.size, 0, none⟩) L.length L.length] 30)).grown hg8 (by simp; omega) (fun q hq => (HO7.out.in_ q (.inr hq)).1))
         clear ho8 hg8)
      | (refine step_app_R rfl (.tmp 25) (.tmp 29) rfl w1.heap.size A7 L.length c7 R (by simp [Act.eval]) (HO7.out.alloc _) (some ⟨w7.heap.size, 0, none⟩) 1 1 [(some ⟨w1.heap.size + 1, 0, none⟩, L.length, L.length)] (by simp [Act.eval]) (Own.lit (E := 30) (e := encR) w7 #[.slice (some ⟨w1.heap.size + 1, 0, none⟩) L.length L.length] [(some ⟨w1.heap.size + 1, 0, none⟩, L.length, L.length)] rfl (by simp [maxLen])).rd rfl (L.length + 1) _ rfl rfl (by omega) (by simp; omega) ?_
         intro A8 c8 w8 ho8 hg8
         have HM8 := Lib.hid (far_ty (HM7.out.alloc _) (HO7.out.alloc _) hg8)
         have HO8 := Lib.hid ho8
         have HB8 := Lib.hid ((HB7.out.alloc hs7 (.cells #[.slice (some ⟨w1.heap.size + 1, 0, none⟩) L.length L.length] 30)).grown hg8 (by simp; omega) (fun q hq => (HO7.out.in_ q (.inr hq)).1))
         clear ho8 hg8)
      | (refine step_app_R rfl (.tmp 25) (.tmp 29) rfl w1.heap.size A7 L.length c7 R (by simp [Act.eval]) ((HO7.out.alloc _).alloc _) (some ⟨w7.heap.size + 1, 0, none⟩) 1 1 [(some ⟨w7.heap.size, 0, none⟩, L.length, L.length)] (by simp [Act.eval]) (by have := (Own.lit (E := 30) (e := encR) (w7.alloc (.cells (madeCells #[vi 0] L.length) 3)) #[.slice (some ⟨w7.heap.size, 0, none⟩) L.length L.length] [(some ⟨w7.heap.size, 0, none⟩, L.length, L.length)] rfl (by simp [maxLen])).rd; rw [World.size_alloc] at this; exact this) rfl (L.length + 1) _ rfl rfl (by omega) (by simp; omega) ?_
         intro A8 c8 w8 ho8 hg8
         have HM8 := Lib.hid (far_ty ((OwnI.made w7 L.length (by simp only [maxLen]; omega)).alloc _) ((HO7.out.alloc _).alloc _) hg8)
         have HO8 := Lib.hid ho8
         have HB8 := Lib.hid (((HB7.out.alloc hs7 (.cells (madeCells #[vi 0] L.length) 3)).alloc (by simp; omega) (.cells #[.slice (some ⟨w7.heap.size, 0, none⟩) L.length L.length] 30)).grown hg8 (by simp; omega) (fun q hq => (HO7.out.in_ q (.inr hq)).1))
         clear ho8 hg8))
    all_goals
      have HRX : Hid (RdM w8 A8 (L ++ [List.replicate L.length 0])) := Lib.hid (by
        refine ⟨_, ?_, HO8.out.rd, fun k hk => ?_⟩
        · rw [List.length_append, List.length_append, HRl.out]; rfl
        · rw [List.length_append] at hk
          rcases Nat.lt_succ_iff_lt_or_eq.1 (show k < L.length + 1 from hk) with h1 | h1
          · rw [nth_app_lt _ _ _ (by rw [HRl.out]; exact h1), nth_app_lt _ _ _ h1]
            exact ⟨(HRO.out k h1).1, ((HRO.out k h1).2.1.rd).below HB8.out⟩
          · rw [nth_app_here _ _ _ (by rw [HRl.out]; exact h1), nth_app_here _ _ _ h1]
            exact ⟨by simp, HM8.out.rd⟩)
      have HC : Hid (Calls Try.prog 16 #[.slice A8 (L.length + 1) c8] w8 fun e w' => e = .returned (.bool false) ∧ w8 = w') := Lib.hid (by
        have := implCostsValid A8 c8 (L ++ [List.replicate L.length 0]) w8 HRX.out ⟨by simp; omega, fun k hk => by
          rw [List.length_append] at hk
          rcases Nat.lt_succ_iff_lt_or_eq.1 (show k < L.length + 1 from hk) with h1 | h1
          · rw [nth_app_lt _ _ _ h1]; exact SM.out.2 k h1
          · rw [nth_app_here _ _ _ h1]; simp; omega⟩
        rw [HMore.out, List.length_append] at this
        exact this)
      have HZ := Lib.hid (bthen HB1.out HB8.out)
      go_wp2_with fail
      refine HC.out.mono ?_
      rintro e w' ⟨rfl, rfl⟩
      go_wp2
      go_ret
      exact ⟨rfl, HZ.out⟩
end Go.Proofs.Ytpabfbaoibmnlaa
