/-
  Contracts: the draws of the laws on rings.
-/
import Derived.Test.YtkgfcgdihnhflaaRingDraw
namespace Go.Proofs.Ytkgfcgdihnhflaa
open Go.RowKit
set_option linter.unusedVariables false

/-- A list of numbers is drawn. -/
def Drawn (w : World) (lo hi : Nat) (e : Ending) (w' : World) : Prop :=
  ∃ (A : Option Addr) (c : Nat) (l : List Int), e = .returned (.slice A l.length c) ∧ OwnI w' w.heap.size A l.length c l ∧ lo ≤ l.length ∧ l.length ≤ hi ∧ Below w.heap.size w w'

theorem DrawRingValid_any (A : Option Addr) (c : Nat) (l : List Int) (w : World) (h : RdB w w.heap.size A l) (hcap : l.length ≤ c) :
    Calls Try.prog 25 #[.slice A l.length c] w (Drawn w 1 9) := by
  have H := Lib.hid (open_any A c l w h hcap)
  clear h hcap
  go_enter Try.func25, Try.ntmps25
  go_wp2_with fail
  refine H.out.mono ?_
  rintro e w1 ⟨rfl, hr1, hb1, hs1⟩
  have HR1 := Lib.hid hr1
  have HB1 := Lib.hid hb1
  have Hs1 := Lib.hid hs1
  clear hr1 hb1 hs1 H
  go_wp2_with fail
  refine (l20Ring_any w.heap.size w.heap.size 0 2 w1 HR1.out (by omega) (by omega)).mono ?_
  rintro e w2 ⟨A2, c2, l2, rfl, ho2, hlo, hhi, hr2, hg2⟩
  have HO2 := Lib.hid (ho2.mono HB1.out.size)
  have HB2 := Lib.hid (grown_all HB1.out hg2 (Nat.le_refl _))
  clear ho2 hr2 hg2
  go_wp2
  go_ret
  exact ⟨A2, c2, l2, rfl, HO2.out, hlo, hhi, HB2.out⟩

theorem DrawRingLeft_any (A : Option Addr) (c : Nat) (l : List Int) (w : World) (h : RdB w w.heap.size A l) (hcap : l.length ≤ c) :
    Calls Try.prog 31 #[.slice A l.length c] w (Drawn w 1 9) := by
  have H := Lib.hid (open_any A c l w h hcap)
  clear h hcap
  go_enter Try.func31, Try.ntmps31
  go_wp2_with fail
  refine H.out.mono ?_
  rintro e w1 ⟨rfl, hr1, hb1, hs1⟩
  have HR1 := Lib.hid hr1
  have HB1 := Lib.hid hb1
  have Hs1 := Lib.hid hs1
  clear hr1 hb1 hs1 H
  go_wp2_with fail
  refine (l20Ring_any w.heap.size w.heap.size 0 9 w1 HR1.out (by omega) (by omega)).mono ?_
  rintro e w2 ⟨A2, c2, l2, rfl, ho2, hlo, hhi, hr2, hg2⟩
  have HO2 := Lib.hid (ho2.mono HB1.out.size)
  have HB2 := Lib.hid (grown_all HB1.out hg2 (Nat.le_refl _))
  clear ho2 hr2 hg2
  go_wp2
  go_ret
  exact ⟨A2, c2, l2, rfl, HO2.out, hlo, hhi, HB2.out⟩

theorem DrawRingStuck_any (A : Option Addr) (c : Nat) (l : List Int) (w : World) (h : RdB w w.heap.size A l) (hcap : l.length ≤ c) :
    Calls Try.prog 36 #[.slice A l.length c] w (Drawn w 1 9) := by
  have H := Lib.hid (open_any A c l w h hcap)
  clear h hcap
  go_enter Try.func36, Try.ntmps36
  go_wp2_with fail
  refine H.out.mono ?_
  rintro e w1 ⟨rfl, hr1, hb1, hs1⟩
  have HR1 := Lib.hid hr1
  have HB1 := Lib.hid hb1
  have Hs1 := Lib.hid hs1
  clear hr1 hb1 hs1 H
  go_wp2_with fail
  refine (l20Ring_any w.heap.size w.heap.size 0 9 w1 HR1.out (by omega) (by omega)).mono ?_
  rintro e w2 ⟨A2, c2, l2, rfl, ho2, hlo, hhi, hr2, hg2⟩
  have HO2 := Lib.hid (ho2.mono HB1.out.size)
  have HB2 := Lib.hid (grown_all HB1.out hg2 (Nat.le_refl _))
  clear ho2 hr2 hg2
  go_wp2
  go_ret
  exact ⟨A2, c2, l2, rfl, HO2.out, hlo, hhi, HB2.out⟩

theorem DrawRingEmpty_any (A : Option Addr) (c : Nat) (l : List Int) (w : World) (h : RdB w w.heap.size A l) (hcap : l.length ≤ c) :
    Calls Try.prog 38 #[.slice A l.length c] w (Drawn w 1 9) := by
  have H := Lib.hid (open_any A c l w h hcap)
  clear h hcap
  go_enter Try.func38, Try.ntmps38
  go_wp2_with fail
  refine H.out.mono ?_
  rintro e w1 ⟨rfl, hr1, hb1, hs1⟩
  have HR1 := Lib.hid hr1
  have HB1 := Lib.hid hb1
  have Hs1 := Lib.hid hs1
  clear hr1 hb1 hs1 H
  go_wp2_with fail
  refine (l20Ring_any w.heap.size w.heap.size 0 9 w1 HR1.out (by omega) (by omega)).mono ?_
  rintro e w2 ⟨A2, c2, l2, rfl, ho2, hlo, hhi, hr2, hg2⟩
  have HO2 := Lib.hid (ho2.mono HB1.out.size)
  have HB2 := Lib.hid (grown_all HB1.out hg2 (Nat.le_refl _))
  clear ho2 hr2 hg2
  go_wp2
  go_ret
  exact ⟨A2, c2, l2, rfl, HO2.out, hlo, hhi, HB2.out⟩

/-- A list of numbers and a number are drawn. -/
def Drawn1 (w : World) (lo hi : Nat) (e : Ending) (w' : World) : Prop :=
  ∃ (A : Option Addr) (c : Nat) (l : List Int) (z : Int), e = .returned (.tuple #[.slice A l.length c, vi z]) ∧ OwnI w' w.heap.size A l.length c l ∧ lo ≤ l.length ∧ l.length ≤ hi ∧ Below w.heap.size w w'

theorem DrawRingStep_any (A : Option Addr) (c : Nat) (l : List Int) (w : World) (h : RdB w w.heap.size A l) (hcap : l.length ≤ c) :
    Calls Try.prog 34 #[.slice A l.length c] w (Drawn1 w 1 9) := by
  have H := Lib.hid (open_any A c l w h hcap)
  clear h hcap
  go_enter Try.func34, Try.ntmps34
  go_wp2_with fail
  refine H.out.mono ?_
  rintro e w1 ⟨rfl, hr1, hb1, hs1⟩
  have HR1 := Lib.hid hr1
  have HB1 := Lib.hid hb1
  have Hs1 := Lib.hid hs1
  clear hr1 hb1 hs1 H
  go_wp2_with fail
  refine (l20Ring_any w.heap.size w.heap.size 0 9 w1 HR1.out (by omega) (by omega)).mono ?_
  rintro e w2 ⟨A2, c2, l2, rfl, ho2, hlo, hhi, hr2, hg2⟩
  have hlt : w.heap.size < w1.heap.size := by have := Hs1.out; omega
  have HO2 := Lib.hid ho2
  have HR2 := Lib.hid hr2
  have HB2 := Lib.hid (grown_all HB1.out hg2 (Nat.le_refl _))
  clear ho2 hr2 hg2
  go_wp2_with fail
  refine (pick_any w.heap.size w.heap.size _ ((l2.length : Int) + 1) w2 HR2.out (by omega)).mono ?_
  rintro e w3 ⟨x3, rfl, hx3, hx3b, -, hr3, hg3⟩
  have hx3c := hx3b (by omega)
  have HO3 := Lib.hid (HO2.out.farG hg3 hlt)
  have HR3 := Lib.hid hr3
  have HB3 := Lib.hid (grown_all HB2.out hg3 (Nat.le_refl _))
  clear hr3 hg3 hx3b
  go_wp2_with fail
  refine (pick_any w.heap.size w.heap.size _ 12 w3 HR3.out (by omega)).mono ?_
  rintro e w4 ⟨x4, rfl, hx4, hx4b, -, hr4, hg4⟩
  have hx4c := hx4b (by omega)
  have HO4 := Lib.hid (HO3.out.farG hg4 hlt)
  have HB4 := Lib.hid (grown_all HB3.out hg4 (Nat.le_refl _))
  clear hr4 hg4 hx4b
  go_wp2
  go_ret2
  exact ⟨A2, c2, l2, _, rfl, HO4.out.mono HB1.out.size, hlo, hhi, HB4.out⟩

/-- Two lists of numbers are drawn. -/
def Drawn2 (w : World) (lo hi : Nat) (e : Ending) (w' : World) : Prop :=
  ∃ (A : Option Addr) (c : Nat) (l : List Int) (B : Option Addr) (d : Nat) (m : List Int), e = .returned (.tuple #[.slice A l.length c, .slice B m.length d]) ∧ RdI w' A l ∧ RdI w' B m ∧ l.length ≤ lo ∧ m.length ≤ hi ∧ Below w.heap.size w w'

theorem DrawRingRun_any (A : Option Addr) (c : Nat) (l : List Int) (w : World) (h : RdB w w.heap.size A l) (hcap : l.length ≤ c) :
    Calls Try.prog 37 #[.slice A l.length c] w (Drawn2 w 9 20) := by
  have H := Lib.hid (open_any A c l w h hcap)
  clear h hcap
  go_enter Try.func37, Try.ntmps37
  go_wp2_with fail
  refine H.out.mono ?_
  rintro e w1 ⟨rfl, hr1, hb1, hs1⟩
  have HR1 := Lib.hid hr1
  have HB1 := Lib.hid hb1
  have hlt : w.heap.size < w1.heap.size := by omega
  clear hr1 hb1 hs1 H
  go_wp2_with fail
  refine (l20Ring_any w.heap.size w.heap.size 0 9 w1 HR1.out (by omega) (by omega)).mono ?_
  rintro e w2 ⟨A2, c2, l2, rfl, ho2, hlo, hhi, hr2, hg2⟩
  have HI2 := Lib.hid ho2.in_
  have HO2 := Lib.hid (ho2.alloc (.cells #[] 3))
  have HR2 := Lib.hid (hr2.alloc (.cells #[] 3))
  have HB2 := Lib.hid (grown_all HB1.out hg2 (Nat.le_refl _))
  have hs2 : w1.heap.size ≤ w2.heap.size := hg2.size
  clear ho2 hr2 hg2
  go_wp2_with fail
  refine (pick_any w.heap.size w.heap.size _ 20 _ HR2.out (by omega)).mono ?_
  rintro e w3 ⟨x3, rfl, hx3, hx3b, -, hr3, hg3⟩
  have hx3c := hx3b (by omega)
  have HO3 := Lib.hid (HO2.out.farG hg3 hlt)
  have HZ3 := Lib.hid ((OwnI.none_made w2).farG hg3 (by omega))
  have HR3 := Lib.hid hr3
  have HB3 := Lib.hid (grown_all (HB2.out.alloc HB2.out.size _) hg3 (Nat.le_refl _))
  have HI3 := Lib.hid HO2.out.in_
  have hs3 : w2.heap.size + 1 ≤ w3.heap.size := by have := hg3.size; simpa using this
  clear hr3 hg3 hx3b
  obtain ⟨K, rfl⟩ := Int.eq_ofNat_of_zero_le hx3
  have hK : K < 20 := by omega
  clear hx3 hx3c
  go_wp2
  go_loopw [6, 7] (fun v i wr => ∃ (j : Nat) (B : Option Addr) (d : Nat) (m : List Int), j ≤ K ∧ i = vi j ∧ v = .slice B m.length d ∧ m.length + j = K ∧ OwnI wr w2.heap.size B m.length d m ∧ OwnI wr w1.heap.size A2 l2.length c2 l2 ∧ Rdr wr w.heap.size w.heap.size (0 + 100 + 1 + ((K : Int) - j)) ∧ w3.heap.size ≤ wr.heap.size ∧ Below w.heap.size w wr)
    (fun _ i _ => (intOf i).toNat)
  case atStart => exact ⟨K, _, _, [], Nat.le_refl _, rfl, rfl, by simp, HZ3.out, HO3.out, HR3.out.mono (by omega), Nat.le_refl _, HB3.out⟩
  case round =>
    obtain ⟨j, B, d, m, hj, rfl, rfl, hmj, hz, ho, hr, hs, hb⟩ := hrel
    have HZ := Lib.hid hz
    have HO := Lib.hid ho
    have HR := Lib.hid hr
    have HB := Lib.hid hb
    have Hmj := Lib.hid hmj
    have hm20 : m.length < 20 := by omega
    clear hz ho hr hb hmj
    by_cases hj0 : 0 < j
    · go_wp2_with fail
      refine (pick_any w.heap.size w.heap.size _ _ _ HR.out (by omega)).mono ?_
      rintro e w5 ⟨x5, rfl, hx5, hx5b, -, hr5, hg5⟩
      have HO5 := Lib.hid (HO.out.farG hg5 hlt)
      have HZ5 := Lib.hid (HZ.out.farG hg5 (by omega))
      have HR5 := Lib.hid hr5
      have HB5 := Lib.hid (grown_all HB.out hg5 (Nat.le_refl _))
      have HI5 := Lib.hid HZ5.out.in_
      have hs5 := hg5.size
      clear hr5 hg5 hx5b
      go_wp2_with (at_builtin; refine app_int rfl (.tmp 19) (.tmp 24) rfl w2.heap.size B m.length d m rfl (HZ5.out.alloc _) (some ⟨w5.heap.size, 0, none⟩) 1 1 [x5] rfl (RdI.one _ _) rfl (by omega) (by simp; omega) ?_; intro A7 c7 w7 ho7 hg7; skip)
      have HZ7 := Lib.hid ho7
      have HR7 := Lib.hid ((HR5.out.alloc (.cells #[vi x5] 3)).far hg7 (fun k hk => by have := HI5.out k (.inr hk); omega))
      have HO7 := Lib.hid ((HO5.out.alloc (.cells #[vi x5] 3)).far hg7 (apart HI2.out HI5.out (Nat.le_refl _)))
      have HB7 := Lib.hid ((HB5.out.alloc HB5.out.size (.cells #[vi x5] 3)).grown hg7 (by have := HB5.out.size; simp; omega) (blk_from HI5.out (by omega)))
      have hs7 : w5.heap.size ≤ w7.heap.size := by have := hg7.size; simp at this; omega
      clear ho7 hg7
      go_wp2
      go_roundw
      case rel => exact ⟨j - 1, A7, c7, m ++ [x5], by omega, by go_num, by simp, by have := Hmj.out; simp; omega, by simpa using HZ7.out, HO7.out, HR7.out.mono (by omega), by omega, HB7.out⟩
      case measure => simp [intOf]; omega
    · go_wp2
      go_ret2
      exact ⟨A2, c2, l2, B, d, m, rfl, HO.out.rd, HZ.out.rd, hhi, by omega, HB.out⟩
end Go.Proofs.Ytkgfcgdihnhflaa
