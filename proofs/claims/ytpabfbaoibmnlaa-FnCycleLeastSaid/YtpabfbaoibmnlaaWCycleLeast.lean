/-
  The walk of 'FnCycleLeast'.
-/
import Derived.Test.YtpabfbaoibmnlaaCyH
import Derived.Test.YtpabfbaoibmnlaaCyI
import Derived.Test.YtpabfbaoibmnlaaAlive
import Derived.Test.YtpabfbaoibmnlaaStepT
namespace Go.Proofs.Ytpabfbaoibmnlaa
open Go.RowKit
set_option linter.unusedVariables false
set_option maxRecDepth 100000

set_option maxHeartbeats 4000000 in
theorem walkFnCycleLeast (w : World) (A0a : Option Addr) (c0a : Nat) (l0 : List Int) (rd0 : RdB w w.heap.size A0a l0) (cap0 : l0.length ≤ c0a) :
    Calls Try.prog 12 #[.slice A0a l0.length c0a] w fun e w' => e = .returned (.bool true) ∧ Below w.heap.size w w' := by
  by_cases hbig0 : 1048576 < l0.length
  · go_enter Try.func12, Try.ntmps12
    go_wp2
    go_ret
    exact ⟨rfl, Below.refl _ _⟩
  go_enter Try.func12, Try.ntmps12
  go_wp2_with fail
  refine (DrawCycleLeast_any A0a c0a l0 w rd0 cap0).mono ?_
  rintro e w1 ⟨A1, c1, l, rfl, ho1, h7, hb1⟩
  have HB1 := Lib.hid hb1
  have HR1 := Lib.hid ho1.rd
  clear ho1 hb1 hbig0
  go_wp2_with fail
  refine (implCycleLeast A1 c1 l w1 HR1.out (by omega)).mono ?_
  rintro e w2 ⟨⟨x, rfl, hx⟩, hb2⟩
  have HX := Lib.hid hx
  have HB2 := Lib.hid (bthen HB1.out hb2)
  have HR2 := Lib.hid (HR1.out.below hb2)
  clear hb2 hx
  go_wp2_with fail
  refine (specCycleLeast A1 c1 l w2 HR2.out (by omega)).mono ?_
  rintro e w3 ⟨⟨x2, rfl, hx2⟩, hb3⟩
  obtain rfl := cyl_same HX.out hx2
  have HB3 := Lib.hid (bthen HB2.out hb3)
  have HR3 := Lib.hid (HR2.out.below hb3)
  clear hb3 hx2 HB1 HB2 HR1 HR2
  by_cases hx : x < 0
  · obtain ⟨hx1, ht⟩ := least_neg' HX.out hx
    have HV := Lib.hid (implTasksValid A1 c1 l w3 HR3.out (by omega))
    rw [ht] at HV
    subst hx1
    clear hx ht
    go_wp2_with fail
    refine HV.out.mono ?_
    rintro e w4 ⟨rfl, hb4⟩
    have HB4 := Lib.hid (bthen HB3.out hb4)
    clear hb4
    go_wp2_with fail
    refine (alive_any w4).mono ?_
    rintro e w' ⟨rfl, rfl⟩
    go_wp2
    go_ret
    exact ⟨rfl, HB4.out⟩
  · have HT := Lib.hid (least_pos' HX.out hx)
    have hx0 : 0 ≤ x := by omega
    clear hx
    go_wp2
    go_loopw [5, 6] (fun v i wr => ∃ (k : Nat) (A : Option Addr) (c : Nat), k ≤ l.length ∧ i = vi k ∧ v = .slice A k c ∧ Own encP 46 wr w3.heap.size A k c (swp (l.take k)) ∧ Below w3.heap.size w3 wr) (fun _ i _ => l.length - (intOf i).toNat)
    case atStart => exact ⟨0, some ⟨w3.heap.size, 0, none⟩, 0, Nat.zero_le _, rfl, rfl, Own.none_made w3, (Below.refl _ _).alloc (Nat.le_refl _) _⟩
    case round =>
      obtain ⟨k, A, c, hk, rfl, rfl, ho, hb⟩ := hrel
      have HO := Lib.hid ho
      have HI := Lib.hid ho.in_
      have HB := Lib.hid hb
      have hsz := hb.size
      by_cases hlt : k < l.length
      · have HR := Lib.hid (HR3.out.below hb)
        obtain ⟨b, o, hAe, hbl, _⟩ := HR.out (by omega)
        subst hAe
        obtain ⟨hc1, hc2⟩ := HR.out.at2 k hlt
        have HS := Lib.hid (swp_take hlt)
        obtain ⟨y1, hy1⟩ : ∃ y, y = (nth l k).1 := ⟨_, rfl⟩
        obtain ⟨y2, hy2⟩ : ∃ y, y = (nth l k).2 := ⟨_, rfl⟩
        rw [← hy1] at hc1
        rw [← hy2] at hc2
        rw [← hy1, ← hy2] at HS
        have HL := Lib.hid (Own.lit (E := 46) (e := encP) wr #[vi y2, vi y1] ([(y2, y1)] : List (Int × Int)) rfl (by simp [maxLen]))
        clear hy1 hy2 ho hb
        go_wp2
        go_region_law (first
          | (refine step_app_Task rfl (.tmp 37) (.tmp 49) rfl w3.heap.size A k c (swp (l.take k)) (by simp [Act.eval]) (HO.out.alloc _) (some ⟨wr.heap.size, 0, none⟩) 1 1 [(y2, y1)] (by simp [Act.eval]) HL.out.rd rfl (k + 1) (swp (l.take (k + 1))) rfl (by rw [HS.out]) (by omega) (by simp; omega) ?_
             intro A7 c7 w7 ho7 hg7
             have HO7 := Lib.hid ho7
             have HB7 := Lib.hid ((HB.out.alloc HB.out.size (.cells #[vi y2, vi y1] 46)).drew.grown hg7 (by simp; omega) (fun q hq => (HI.out q (.inr hq)).1))
             clear ho7 hg7))
        all_goals
          go_wp2
          refine ⟨?_, by simp [intOf]; omega⟩
          first
            | exact ⟨k + 1, A7, c7, by omega, by go_num, rfl, HO7.out, HB7.out⟩
            | (repeat apply Exists.intro
               exact ⟨⟨k + 1, A7, c7, by omega, by go_num, rfl, HO7.out, HB7.out⟩, rfl⟩)
      · obtain rfl : k = l.length := by omega
        have hsl : (swp (l.take l.length)).length = l.length := by rw [List.take_length, swp_len]
        have HC : Hid (Calls Try.prog 38 #[.slice A l.length c] wr fun e w' => (∃ v, e = .returned (vi v) ∧ v = x) ∧ Below wr.heap.size wr w') := Lib.hid (by
          have := implCycleLeast A c (swp (l.take l.length)) wr ho.rd (by omega)
          rw [hsl] at this
          refine this.mono ?_
          rintro e w' ⟨⟨v, hv, hl⟩, hbb⟩
          rw [List.take_length] at hl
          exact ⟨⟨v, hv, (least_back HT.out HX.out hl).symm⟩, hbb⟩)
        clear ho hb hsl
        go_wp2_with fail
        refine HC.out.mono ?_
        rintro e w5 ⟨⟨v, rfl, rfl⟩, hb5⟩
        have HB5 := Lib.hid (bthen HB3.out (bthen HB.out hb5))
        clear hb5
        go_wp2
        go_ret
        exact ⟨rfl, HB5.out⟩
end Go.Proofs.Ytpabfbaoibmnlaa
