/-
  Contracts: the differences between two lists of boxes.
-/
import Derived.Test.YtjhbmikohcbkkaaDiffA
import Derived.Test.YtjhbmikohcbkkaaBoxDraw2
import Derived.Laws.StructEq
namespace Go.Proofs.Ytjhbmikohcbkkaa
open Go.RowKit
set_option linter.unusedVariables false
set_option maxRecDepth 100000

theorem neq_box (x y : Bx) (w : World) : (binOp .neq 57 (.agg #[vi x.id, vi x.wt, vi x.cls, vi x.port, .bool x.cold]) (.agg #[vi y.id, vi y.wt, vi y.cls, vi y.port, .bool y.cold])).run Try.prog w = .ok (.bool (!decide (x = y))) w := by
  obtain ⟨a0, a1, a2, a3, a4⟩ := x
  obtain ⟨b0, b1, b2, b3, b4⟩ := y
  by_cases h0 : a0 = b0
  · by_cases h1 : a1 = b1
    · by_cases h2 : a2 = b2
      · by_cases h3 : a3 = b3
        · by_cases h4 : a4 = b4
          · subst h0 h1 h2 h3 h4; simp [go_sem]
          · subst h0 h1 h2 h3; simp [go_sem, h4]
        · subst h0 h1 h2; simp [go_sem, h3]
      · subst h0 h1; simp [go_sem, h2]
    · subst h0; simp [go_sem, h1]
  · simp [go_sem, h0]

def Kinds (l : List (Int × Bx)) : Prop := ∀ i, i < l.length → 0 ≤ (nth l i).1 ∧ (nth l i).1 ≤ 2
theorem kinds_snoc {l : List (Int × Bx)} {p : Int × Bx} (h : Kinds l) (hp : 0 ≤ p.1 ∧ p.1 ≤ 2) : Kinds (l ++ [p]) := fun i hi => by
  rcases Nat.lt_or_ge i l.length with h1 | h1
  · rw [show nth (l ++ [p]) i = nth l i by rw [nth_eq _ i hi, nth_eq _ i h1]; simp [h1]]; exact h i h1
  · obtain rfl : i = l.length := by simp at hi; omega
    rw [show nth (l ++ [p]) l.length = p by simp [nth, List.getD]]; exact hp

theorem specDiffsOf (A1 : Option Addr) (c1 : Nat) (l1 : List Bx) (A2 : Option Addr) (c2 : Nat) (l2 : List Bx) (w : World) (h1 : Rd encB w A1 l1) (h2 : Rd encB w A2 l2) (hl1 : l1.length ≤ 1000000000) (hl2 : l2.length ≤ 1000000000) :
    Calls Try.prog 46 #[.slice A1 l1.length c1, .slice A2 l2.length c2] w fun e w' => ∃ dl : List (Int × Bx), NewDiff w dl e w' ∧ Kinds dl ∧ dl.length ≤ 999 := by
  have H0 := Lib.hid ((Below.refl w.heap.size w).alloc (Nat.le_refl _) (.cells #[] 59))
  have HO0 := Lib.hid (Own.none_made (e := encD) (E := 59) w)
  have HA := Lib.hid (specBoxesValid A1 c1 l1 (w.alloc (.cells #[] 59)) (h1.alloc _) hl1)
  cases hok1 : boxesOk l1 with
  | false =>
    go_enter Try.func46, Try.ntmps46
    go_wp2_with fail
    refine HA.out.mono ?_
    rw [hok1]
    rintro e w1 ⟨rfl, hb1⟩
    have H1 := Lib.hid (bthen H0.out hb1)
    have HO1 := Lib.hid (HO0.out.below hb1)
    clear hb1 HA
    go_wp2
    go_ret
    exact ⟨[], ⟨_, _, rfl, HO1.out, H1.out⟩, fun i hi => absurd hi (by simp), by simp⟩
  | true =>
    cases hok2 : boxesOk l2 with
    | false =>
      go_enter Try.func46, Try.ntmps46
      go_wp2_with fail
      refine HA.out.mono ?_
      rw [hok1]
      rintro e w1 ⟨rfl, hb1⟩
      have H1 := Lib.hid (bthen H0.out hb1)
      have HO1 := Lib.hid (HO0.out.below hb1)
      clear hb1 HA
      go_wp2_with fail
      refine (specBoxesValid A2 c2 l2 w1 (h2.below H1.out) hl2).mono ?_
      rw [hok2]
      rintro e w2 ⟨rfl, hb2⟩
      have H2 := Lib.hid (bthen H1.out hb2)
      have HO2 := Lib.hid (HO1.out.below hb2)
      clear hb2
      go_wp2
      go_ret
      exact ⟨[], ⟨_, _, rfl, HO2.out, H2.out⟩, fun i hi => absurd hi (by simp), by simp⟩
    | true =>
      go_enter Try.func46, Try.ntmps46
      go_wp2_with fail
      refine HA.out.mono ?_
      rw [hok1]
      rintro e w1 ⟨rfl, hb1⟩
      have H1 := Lib.hid (bthen H0.out hb1)
      have HO1 := Lib.hid (HO0.out.below hb1)
      clear hb1 HA
      go_wp2_with fail
      refine (specBoxesValid A2 c2 l2 w1 (h2.below H1.out) hl2).mono ?_
      rw [hok2]
      rintro e w2 ⟨rfl, hb2⟩
      have H2 := Lib.hid (bthen H1.out hb2)
      have HO2 := Lib.hid (HO1.out.below hb2)
      clear hb2 H1 HO1 H0 HO0 hok1 hok2
      go_wp2
      go_loopw [5, 6] (fun v i wr => ∃ (k : Nat) (A : Option Addr) (c : Nat) (l : List (Int × Bx)), k ≤ 999 ∧ i = vi ((k : Int) + 1) ∧ v = .slice A l.length c ∧ l.length ≤ k ∧ Kinds l ∧ Own encD 59 wr w.heap.size A l.length c l ∧ Below w.heap.size w wr) (fun _ i _ => (1000 - intOf i).toNat)
      case atStart => exact ⟨0, _, _, [], by omega, by go_num, rfl, by simp, (fun i hi => absurd hi (by simp)), HO2.out, H2.out⟩
      case round =>
        obtain ⟨k, A, c, l, hk, rfl, rfl, hlk, hkd, ho, hb⟩ := hrel
        have Hk := Lib.hid hkd
        have HO := Lib.hid ho
        have HI := Lib.hid ho.in_
        have HB := Lib.hid hb
        have hz := hb.size
        have hR1 := h1.below hb
        have hR2 := h2.below hb
        clear ho hb hkd HO2 H2 h1 h2
        by_cases hlt : k < 999
        · go_wp2_with fail
          refine (l2Find_any A1 c1 l1 ((k : Int) + 1) wr hR1 hl1).mono ?_
          rintro e w' ⟨rfl, rfl⟩
          go_wp2_with fail
          refine (l2Find_any A2 c2 l2 ((k : Int) + 1) wr hR2 hl2).mono ?_
          rintro e w' ⟨rfl, rfl⟩
          have hp1 : idPos l1 ((k : Int) + 1) = -1 ∨ ∃ a : Nat, a < l1.length ∧ idPos l1 ((k : Int) + 1) = a := by
            rcases idAt_cases l1 ((k : Int) + 1) with ⟨q1, _⟩ | ⟨q1, _⟩
            · right; exact ⟨_, q1, by simp [idPos, q1]⟩
            · left; simp [idPos, q1]
          have hp2 : idPos l2 ((k : Int) + 1) = -1 ∨ ∃ a : Nat, a < l2.length ∧ idPos l2 ((k : Int) + 1) = a := by
            rcases idAt_cases l2 ((k : Int) + 1) with ⟨q1, _⟩ | ⟨q1, _⟩
            · right; exact ⟨_, q1, by simp [idPos, q1]⟩
            · left; simp [idPos, q1]
          rcases hp1 with hp1 | ⟨a, ha, hp1⟩
          · rw [hp1]
            clear hp1 hR1
            rcases hp2 with hp2 | ⟨b, hb, hp2⟩
            · rw [hp2]
              clear hp2 hR2
              go_wp2
              go_quiet (fail)
              go_wp2
              go_roundw
              case rel => exact ⟨k + 1, A, c, l, by omega, by go_num, rfl, by omega, Hk.out, HO.out.drewN _, below_drewN HB.out _⟩
              case measure => simp [intOf]; omega
            · rw [hp2]
              clear hp2
              obtain ⟨b2, o2, rfl, hbl2, _⟩ := hR2 (by omega)
              obtain ⟨hd1, hd2, hd3, hd4, hd5⟩ := hR2.at5 b hb
              clear hR2
              have HL := Lib.hid (Own.lit (E := 59) (e := encD) wr #[vi 1, vi (nth l2 b).id, vi (nth l2 b).wt, vi (nth l2 b).cls, vi (nth l2 b).port, .bool (nth l2 b).cold] [((1 : Int), nth l2 b)] rfl (by simp [maxLen]))
              go_wp2_with (at_builtin; refine app_Diff rfl (.tmp 51) (.tmp 57) rfl w.heap.size A l.length c l rfl (HO.out.alloc _) (some ⟨wr.heap.size, 0, none⟩) 1 1 [((1 : Int), nth l2 b)] rfl HL.out.rd rfl (by omega) (by simp; omega) ?_; intro A7 c7 w7 ho7 hg7; skip)
              have HO7 := Lib.hid ho7
              have HB7 := Lib.hid ((HB.out.alloc (by omega) (.cells #[vi 1, vi (nth l2 b).id, vi (nth l2 b).wt, vi (nth l2 b).cls, vi (nth l2 b).port, .bool (nth l2 b).cold] 59)).grown hg7 (by simp; omega) (fun q hq => (HI.out q (.inr hq)).1))
              clear ho7 hg7
              go_wp2
              go_roundw
              case rel => exact ⟨k + 1, A7, c7, l ++ [(1, nth l2 b)], by omega, by go_num, by simp, by simp; omega, kinds_snoc Hk.out (by omega), by simpa using HO7.out, HB7.out⟩
              case measure => simp [intOf]; omega
          · rw [hp1]
            clear hp1
            obtain ⟨b1, o1, rfl, hbl1, _⟩ := hR1 (by omega)
            obtain ⟨hc1, hc2, hc3, hc4, hc5⟩ := hR1.at5 a ha
            clear hR1
            rcases hp2 with hp2 | ⟨b, hb, hp2⟩
            · rw [hp2]
              clear hp2 hR2
              have HL := Lib.hid (Own.lit (E := 59) (e := encD) wr #[vi 0, vi (nth l1 a).id, vi (nth l1 a).wt, vi (nth l1 a).cls, vi (nth l1 a).port, .bool (nth l1 a).cold] [((0 : Int), nth l1 a)] rfl (by simp [maxLen]))
              go_wp2_with (at_builtin; refine app_Diff rfl (.tmp 36) (.tmp 42) rfl w.heap.size A l.length c l rfl (HO.out.alloc _) (some ⟨wr.heap.size, 0, none⟩) 1 1 [((0 : Int), nth l1 a)] rfl HL.out.rd rfl (by omega) (by simp; omega) ?_; intro A7 c7 w7 ho7 hg7; skip)
              have HO7 := Lib.hid ho7
              have HB7 := Lib.hid ((HB.out.alloc (by omega) (.cells #[vi 0, vi (nth l1 a).id, vi (nth l1 a).wt, vi (nth l1 a).cls, vi (nth l1 a).port, .bool (nth l1 a).cold] 59)).grown hg7 (by simp; omega) (fun q hq => (HI.out q (.inr hq)).1))
              clear ho7 hg7
              go_wp2
              go_roundw
              case rel => exact ⟨k + 1, A7, c7, l ++ [(0, nth l1 a)], by omega, by go_num, by simp, by simp; omega, kinds_snoc Hk.out (by omega), by simpa using HO7.out, HB7.out⟩
              case measure => simp [intOf]; omega
            · rw [hp2]
              clear hp2
              obtain ⟨b2, o2, rfl, hbl2, _⟩ := hR2 (by omega)
              obtain ⟨hd1, hd2, hd3, hd4, hd5⟩ := hR2.at5 b hb
              clear hR2
              have hq := fun w => neq_box (nth l1 a) (nth l2 b) w
              cases hd : decide (nth l1 a = nth l2 b) with
              | true =>
                rw [hd] at hq
                clear hd
                go_wp2
                go_quiet (fail)
                clear hq
                go_wp2
                go_roundw
                case rel => exact ⟨k + 1, A, c, l, by omega, by go_num, rfl, by omega, Hk.out, HO.out.drewN _, below_drewN HB.out _⟩
                case measure => simp [intOf]; omega
              | false =>
                rw [hd] at hq
                clear hd
                go_wp2
                go_quiet (fail)
                clear hq
                have HO := Lib.hid (HO.out.drewN nq)
                have HB := Lib.hid (below_drewN HB.out nq)
                have hz := HB.out.size
                have HL := Lib.hid (Own.lit (E := 59) (e := encD) (wr.drewN nq) #[vi 2, vi (nth l2 b).id, vi (nth l2 b).wt, vi (nth l2 b).cls, vi (nth l2 b).port, .bool (nth l2 b).cold] [((2 : Int), nth l2 b)] rfl (by simp [maxLen]))
                go_wp2_with (at_builtin; refine app_Diff rfl (.tmp 77) (.tmp 83) rfl w.heap.size A l.length c l rfl (HO.out.alloc _) (some ⟨(wr.drewN nq).heap.size, 0, none⟩) 1 1 [((2 : Int), nth l2 b)] rfl HL.out.rd rfl (by omega) (by simp; omega) ?_; intro A7 c7 w7 ho7 hg7; skip)
                have HO7 := Lib.hid ho7
                have HB7 := Lib.hid ((HB.out.alloc (by omega) (.cells #[vi 2, vi (nth l2 b).id, vi (nth l2 b).wt, vi (nth l2 b).cls, vi (nth l2 b).port, .bool (nth l2 b).cold] 59)).grown hg7 (by simp; omega) (fun q hq => (HI.out q (.inr hq)).1))
                clear ho7 hg7
                go_wp2
                go_roundw
                case rel => exact ⟨k + 1, A7, c7, l ++ [(2, nth l2 b)], by omega, by go_num, by simp, by simp; omega, kinds_snoc Hk.out (by omega), by simpa using HO7.out, HB7.out⟩
                case measure => simp [intOf]; omega
        · obtain rfl : k = 999 := by omega
          go_wp2
          go_ret
          exact ⟨l, ⟨A, c, rfl, HO.out, HB.out⟩, Hk.out, hlk⟩
end Go.Proofs.Ytjhbmikohcbkkaa
