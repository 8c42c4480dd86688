/-
  Contracts: the end of an order of tasks.
-/
import Derived.Test.YtpabfbaoibmnlaaCyA
import Derived.Test.YtpabfbaoibmnlaaHlB
namespace Go.Proofs.Ytpabfbaoibmnlaa
open Go.RowKit
set_option linter.unusedVariables false
set_option maxRecDepth 100000

def upK (l : List (Int × Int)) (o : List Int) : Nat → Int
  | 0 => 0
  | k + 1 => upK l o k + (nth l (nth o k).toNat).1
def loK (l : List (Int × Int)) (o : List Int) : Nat → Int
  | 0 => 0
  | k + 1 => max (loK l o k) (upK l o k + (nth l (nth o k).toNat).1) + (nth l (nth o k).toNat).2
section
variable {l : List (Int × Int)} {o : List Int} {k : Nat}
theorem runK (hk : k ≤ o.length) : runC (0, 0) (pickT l (o.take k)) = (upK l o k, loK l o k) := by
  induction k with
  | zero => simp [runC, pickT, upK, loK]
  | succ k ih =>
    have h1 := ih (by omega)
    rw [take_snoc _ _ (by omega)]
    simp only [runC, pickT, List.map_append, List.foldl_append, List.map_cons, List.map_nil, List.foldl_cons, List.foldl_nil] at h1 ⊢
    rw [h1]
    rfl
theorem runAll : (runC (0, 0) (pickT l o)).2 = loK l o o.length := by
  have := runK (l := l) (o := o) (Nat.le_refl _)
  rw [List.take_length] at this
  rw [this]
theorem permO {l : List (Int × Int)} (hk : permOk o l.length k = true) : ∃ v : Nat, nth o k = (v : Int) ∧ v < l.length := by
  have := (permOk_t hk).1
  exact ⟨(nth o k).toNat, by omega, by omega⟩
theorem upK_bd (hc : tasksOk l = true) (hp : ∀ j, j < k → permOk o l.length j = true) : (0 ≤ upK l o k ∧ upK l o k ≤ 99 * k) ∧ 0 ≤ loK l o k ∧ loK l o k ≤ 198 * k := by
  induction k with
  | zero => simp [upK, loK]
  | succ k ih =>
    have h1 := ih fun j hj => hp j (by omega)
    obtain ⟨v, hv, hvl⟩ := permO (hp k (by omega))
    have h3 := tOk_t ((tasksOk_t hc).1 v hvl)
    simp only [upK, loK, hv, Int.toNat_natCast]
    omega
end
theorem below_eq {B : Nat} {w wr w' : World} (h : Below B w wr) (e : wr = w') : Below B w w' := e ▸ h

set_option maxHeartbeats 2000000 in
theorem implCycleEnd (A : Option Addr) (c : Nat) (l : List (Int × Int)) (B : Option Addr) (d : Nat) (who : List Int) (w : World) (h : Rd encP w A l) (h2 : RdI w B who) (hl1 : l.length ≤ 1000000000) (hl2 : who.length ≤ 1000000000) (hcap : who.length ≤ d) :
    Calls Try.prog 36 #[.slice A l.length c, .slice B who.length d] w fun e w' => e = .returned (vi (cycleEnd l who)) ∧ Below w.heap.size w w' := by
  have HC := Lib.hid (implTasksValid A c l w h hl1)
  cases hc : tasksOk l with
  | false =>
    have Hr := Lib.hid (end_t (o := who) hc)
    go_enter Try.func36, Try.ntmps36
    go_wp2_with fail
    refine HC.out.mono ?_
    rintro e w' ⟨rfl, hb⟩
    have HB := Lib.hid hb
    go_wp2
    go_ret
    exact ⟨by rw [Hr.out]; rfl, HB.out⟩
  | true =>
    have HP := Lib.hid (fun w' (hb : Below w.heap.size w w') => isPermutation_any B d who l.length w' (h2.below hb) hl2 hcap hl1)
    cases hp : isPerm who l.length with
    | false =>
      have Hr := Lib.hid (end_p (l := l) hp)
      go_enter Try.func36, Try.ntmps36
      go_wp2_with fail
      refine HC.out.mono ?_
      rintro e wr ⟨rfl, hb⟩
      have HB := Lib.hid hb
      have HP2 := Lib.hid (HP.out wr hb)
      clear hb
      go_wp2_with fail
      refine HP2.out.mono ?_
      rintro e w' ⟨rfl, rfl⟩
      go_wp2
      go_ret
      exact ⟨by rw [Hr.out]; rfl, HB.out⟩
    | true =>
      have Hr : Hid (cycleEnd l who = loK l who who.length) := Lib.hid (by rw [end_ok hc hp, runAll])
      have HCO := Lib.hid hc
      have HPO := Lib.hid (isPerm_t hp)
      have hl5 := (tasksOk_t hc).2
      go_enter Try.func36, Try.ntmps36
      go_wp2_with fail
      refine HC.out.mono ?_
      rintro e wr ⟨rfl, hb⟩
      have HB := Lib.hid hb
      have HP2 := Lib.hid (HP.out wr hb)
      have h := h.below hb
      have h2 := h2.below hb
      clear hb
      go_wp2_with fail
      refine HP2.out.mono ?_
      rintro e w' ⟨rfl, rfl⟩
      go_wp2
      go_loop [5, 6, 21] (fun u m i => ∃ k : Nat, k ≤ who.length ∧ i = vi k ∧ u = vi (upK l who k) ∧ m = vi (loK l who k)) (fun _ _ i => who.length - (intOf i).toNat)
      case atStart => exact ⟨0, Nat.zero_le _, rfl, rfl, rfl⟩
      case round =>
        obtain ⟨k, hk, rfl, rfl, rfl⟩ := hrel
        have hwl : who.length = l.length := HPO.out.2
        have HWL := Lib.hid hwl
        by_cases hlt : k < who.length
        · have hkL : k < l.length := by omega
          have HAL : ∀ j, j < k → permOk who l.length j = true := fun j hj => HPO.out.1 j (by omega)
          obtain ⟨v, hv, hvL⟩ := permO (HPO.out.1 k hlt)
          obtain ⟨hx0, hx1⟩ := tOk_t ((tasksOk_t HCO.out).1 v hvL)
          obtain ⟨⟨hs0, hs1⟩, hs2, hs3⟩ := upK_bd HCO.out HAL
          have Hu : Hid (upK l who (k + 1) = upK l who k + (nth l v).1) := Lib.hid (by simp only [upK, hv, Int.toNat_natCast])
          have Hlo : Hid (loK l who (k + 1) = max (loK l who k) (upK l who k + (nth l v).1) + (nth l v).2) := Lib.hid (by simp only [loK, hv, Int.toNat_natCast])
          obtain ⟨b2, o2, rfl, hbl2, hc2⟩ := h2 (by omega)
          have hck := hc2 k hlt
          rw [hv] at hck
          obtain ⟨b, o, rfl, hb, _⟩ := h (by omega)
          obtain ⟨hc3, hc4⟩ := h.at2 v hvL
          obtain ⟨s, hs⟩ : ∃ s, s = upK l who k := ⟨_, rfl⟩
          obtain ⟨m, hm⟩ : ∃ m, m = loK l who k := ⟨_, rfl⟩
          obtain ⟨x, hx⟩ : ∃ x, x = (nth l v).1 := ⟨_, rfl⟩
          obtain ⟨y, hy⟩ : ∃ y, y = (nth l v).2 := ⟨_, rfl⟩
          rw [← hs, ← hx] at Hu
          rw [← hs, ← hx, ← hy, ← hm] at Hlo
          rw [← hs] at hs0 hs1 ⊢
          rw [← hm] at hs2 hs3 ⊢
          rw [← hx] at hx0 hc3
          rw [← hy] at hx1 hc4
          obtain ⟨hx0, hx2⟩ := hx0
          obtain ⟨hx1, hx3⟩ := hx1
          clear hs hx hm hy hc2 h h2 hwl hv HC HP HP2 HAL
          go_wp2
          go_round
          case rel => exact ⟨k + 1, by omega, by go_num, by rw [Hu.out], by rw [Hlo.out]; go_num⟩
          case measure => simp [intOf]; omega
        · obtain rfl : k = who.length := by omega
          clear hwl
          go_wp2
          go_ret
          exact ⟨by rw [Hr.out]; rfl, HB.out⟩

set_option maxHeartbeats 4000000 in
theorem specCycleEnd (A : Option Addr) (c : Nat) (l : List (Int × Int)) (B : Option Addr) (d : Nat) (who : List Int) (w : World) (h : Rd encP w A l) (h2 : RdI w B who) (hl1 : l.length ≤ 1000000000) (hl2 : who.length ≤ 1000000000) (hcap : who.length ≤ d) :
    Calls Try.prog 37 #[.slice A l.length c, .slice B who.length d] w fun e w' => e = .returned (vi (cycleEnd l who)) ∧ ∃ n, w' = w.drewN n := by
  have HC := Lib.hid (specTasksValid A c l w h hl1)
  cases hc : tasksOk l with
  | false =>
    have Hr := Lib.hid (end_t (o := who) hc)
    go_enter Try.func37, Try.ntmps37
    go_wp2_with fail
    refine HC.out.mono ?_
    rintro e w' ⟨rfl, rfl⟩
    go_wp2
    go_ret
    exact ⟨by rw [Hr.out]; rfl, 0, rfl⟩
  | true =>
    by_cases hne : who.length = l.length
    · have hn1 : (who.length != l.length) = false := by simp [hne]
      have hn2 : ((who.length : Int) != (l.length : Int)) = false := by simp [hne]
      have HNE := Lib.hid hne
      have HCO := Lib.hid hc
      have hl5 := (tasksOk_t hc).2
      have hw1 : IntKind.i64.wrap ((l.length : Int) - 1) = (l.length : Int) - 1 := by rw [IntKind.wrap_i64]; omega
      clear hne
      go_enter Try.func37, Try.ntmps37
      go_wp2_with fail
      refine HC.out.mono ?_
      rintro e w' ⟨rfl, rfl⟩
      go_wp2
      go_loopw [5, 6, 7] (fun u m i wr => ∃ k : Nat, k ≤ who.length ∧ i = vi k ∧ u = vi (upK l who k) ∧ m = vi (loK l who k) ∧ (∀ j, j < k → permOk who l.length j = true) ∧ ∃ n, wr = w.drewN n) (fun _ _ i _ => who.length - (intOf i).toNat)
      case atStart => exact ⟨0, Nat.zero_le _, rfl, rfl, rfl, (fun j hj => absurd hj (by omega)), 0, rfl⟩
      case round =>
        obtain ⟨k, hk, rfl, rfl, rfl, hall, hwr⟩ := hrel
        have HAL := Lib.hid hall
        have HW := Lib.hid hwr
        have h := h.below (drewBelow hwr)
        have h2 := h2.below (drewBelow hwr)
        clear hall hwr
        by_cases hlt : k < who.length
        · have hlk : (who.take k).length = k := by rw [List.length_take]; omega
          obtain ⟨b2, o2, rfl, hbl2, hc2⟩ := h2 (by omega)
          have HH := Lib.hid (fun (cc m : Nat) => l1Has_any (some ⟨b2, o2, none⟩) cc (who.take k) (nth who k) (wr.drewN m) (h2.take k) (by omega))
          rw [hlk] at HH
          have hck := hc2 k hlt
          have HX := Lib.hid hc2
          clear hlk hc2
          cases hw : win (nth who k) 0 ((l.length : Int) - 1) with
          | false =>
            have Hr := Lib.hid (end_p (l := l) (isPerm_no hlt (permOk_f1 hw)))
            go_wp2
            go_quiet ((go_at_call 43; exact quiet_left (l1In_any _ _ _ _)))
            go_wp2
            go_ret
            exact ⟨by rw [Hr.out]; rfl, drewAfter HW.out _⟩
          | true =>
            cases hh : hasI (who.take k) (nth who k) with
            | true =>
              have Hr := Lib.hid (end_p (l := l) (isPerm_no hlt (permOk_f2 (n := l.length) hh)))
              go_wp2
              go_quiet ((first | (go_at_call 43; exact quiet_left (l1In_any _ _ _ _)) | (go_at_call 48; exact quiet_left (HH.out _ _))))
              go_wp2
              go_ret
              exact ⟨by rw [Hr.out]; rfl, drewAfter HW.out _⟩
            | false =>
              have HK := permOk_mk hw hh
              have Hk := Lib.hid HK
              have hkL : k < l.length := by have := HNE.out; omega
              obtain ⟨hv0, hv1⟩ := win_t hw
              obtain ⟨v, hv, hvL⟩ := permO HK
              obtain ⟨hx0, hx1⟩ := tOk_t ((tasksOk_t HCO.out).1 v hvL)
              obtain ⟨⟨hs0, hs1⟩, hs2, hs3⟩ := upK_bd HCO.out HAL.out
              have Hu : Hid (upK l who (k + 1) = upK l who k + (nth l v).1) := Lib.hid (by simp only [upK, hv, Int.toNat_natCast])
              have Hlo : Hid (loK l who (k + 1) = max (loK l who k) (upK l who k + (nth l v).1) + (nth l v).2) := Lib.hid (by simp only [loK, hv, Int.toNat_natCast])
              obtain ⟨b, o, rfl, hb, _⟩ := h (by omega)
              obtain ⟨hc3, hc4⟩ := h.at2 v hvL
              obtain ⟨s, hs⟩ : ∃ s, s = upK l who k := ⟨_, rfl⟩
              obtain ⟨m, hm⟩ : ∃ m, m = loK l who k := ⟨_, rfl⟩
              obtain ⟨x, hx⟩ : ∃ x, x = (nth l v).1 := ⟨_, rfl⟩
              obtain ⟨y, hy⟩ : ∃ y, y = (nth l v).2 := ⟨_, rfl⟩
              rw [← hs, ← hx] at Hu
              rw [← hs, ← hx, ← hy, ← hm] at Hlo
              rw [← hs] at hs0 hs1 ⊢
              rw [← hm] at hs2 hs3 ⊢
              rw [← hx] at hx0 hc3
              rw [← hy] at hx1 hc4
              obtain ⟨hx0, hx2⟩ := hx0
              obtain ⟨hx1, hx3⟩ := hx1
              rw [hv] at hck hv0 hv1 hw hh HH
              clear hs hx hm hy h h2 hv HC HK
              go_wp2
              go_quiet ((first | (go_at_call 43; exact quiet_left (l1In_any _ _ _ _)) | (go_at_call 48; exact quiet_left (HH.out _ _))))
              go_wp2
              go_roundw
              case rel => exact ⟨k + 1, by omega, by go_num, by rw [Hu.out], by rw [Hlo.out]; go_num, (fun j hj => by
                rcases Nat.lt_succ_iff_lt_or_eq.1 hj with h1 | h1
                · exact HAL.out j h1
                · subst h1; exact Hk.out), by first | exact drewAfter2 HW.out _ _ | exact drewAfter HW.out _⟩
              case measure => simp [intOf]; omega
        · obtain rfl : k = who.length := by omega
          have Hr : Hid (cycleEnd l who = loK l who who.length) := Lib.hid (by rw [end_ok HCO.out (by rw [isPerm_mk HAL.out]; simpa using HNE.out), runAll])
          go_wp2
          go_ret
          exact ⟨by rw [Hr.out]; rfl, HW.out⟩
    · have hn1 : (who.length != l.length) = true := by simp [hne]
      have hn2 : ((who.length : Int) != (l.length : Int)) = true := by simp; omega
      have Hr := Lib.hid (end_p (l := l) (isPerm_len hne))
      clear hne
      go_enter Try.func37, Try.ntmps37
      go_wp2_with fail
      refine HC.out.mono ?_
      rintro e w' ⟨rfl, rfl⟩
      go_wp2
      go_ret
      exact ⟨by rw [Hr.out]; rfl, 0, rfl⟩
end Go.Proofs.Ytpabfbaoibmnlaa
