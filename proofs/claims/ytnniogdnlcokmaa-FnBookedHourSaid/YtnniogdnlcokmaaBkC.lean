/-
  Contracts: a booking is looked up.
-/
import Derived.Test.YtnniogdnlcokmaaBkB
import Derived.Test.YtnniogdnlcokmaaBkS
namespace Go.Proofs.Ytnniogdnlcokmaa
open Go.RowKit
set_option linter.unusedVariables false
set_option maxRecDepth 100000

def cmpI (a b : Int) : Int := if a < b then -1 else if b < a then 1 else 0
theorem cmpI_lt {a b : Int} (h : a < b) : cmpI a b = -1 := if_pos h
theorem cmpI_gt {a b : Int} (h : b < a) : cmpI a b = 1 := by rw [cmpI, if_neg (by omega), if_pos h]
theorem cmpI_eq (a : Int) : cmpI a a = 0 := by simp [cmpI]

theorem isNaN_any (x : Int) (w : World) : Calls Try.prog 61 #[vi x] w fun e w' => e = .returned (.bool false) ∧ w = w' := by
  have e1 : (x != x) = false := by simp
  go_enter Try.func61, Try.ntmps61
  go_wp2
  go_ret
  exact ⟨rfl, rfl⟩
theorem compare_any (a b : Int) (w : World) : Calls Try.prog 54 #[vi a, vi b] w fun e w' => e = .returned (vi (cmpI a b)) ∧ w = w' := by
  rcases Int.lt_trichotomy a b with h | h | h
  · have H := Lib.hid (cmpI_lt h)
    go_enter Try.func54, Try.ntmps54
    go_wp2_with (go_at_call 61; refine (isNaN_any _ _).mono ?_; rintro e w' ⟨rfl, rfl⟩)
    go_ret
    exact ⟨by rw [H.out]; rfl, rfl⟩
  · subst h
    have H := Lib.hid (cmpI_eq a)
    go_enter Try.func54, Try.ntmps54
    go_wp2_with (go_at_call 61; refine (isNaN_any _ _).mono ?_; rintro e w' ⟨rfl, rfl⟩)
    go_ret
    exact ⟨by rw [H.out]; rfl, rfl⟩
  · have H := Lib.hid (cmpI_gt h)
    go_enter Try.func54, Try.ntmps54
    go_wp2_with (go_at_call 61; refine (isNaN_any _ _).mono ?_; rintro e w' ⟨rfl, rfl⟩)
    go_ret
    exact ⟨by rw [H.out]; rfl, rfl⟩
theorem bookingAt1_any (p : Int × Int) (t : Int) (w : World) : Calls Try.prog 53 #[.agg #[vi p.1, vi p.2], vi t] w fun e w' => e = .returned (vi (cmpI p.1 t)) ∧ Below w.heap.size w w' := by
  have H0 := Lib.hid ((Below.refl w.heap.size w).alloc (Nat.le_refl _) (.cells #[vi p.1, vi p.2] 36))
  go_enter Try.func53, Try.ntmps53
  go_wp2_with fail
  refine (compare_any _ _ _).mono ?_
  rintro e w' ⟨rfl, rfl⟩
  go_wp2
  go_ret
  exact ⟨rfl, H0.out⟩
theorem search_any (A : Option Addr) (c : Nat) (l : List (Int × Int)) (t : Int) (w : World) (h : Rd encP w A l) (hl : l.length ≤ 1000000000) :
    Calls Try.prog 52 #[.slice A l.length c, vi t, .func (.func 53) #[] #[]] w fun e w' => (∃ i, BsAt l t i ∧ e = .returned (.tuple #[vi i, .bool (found l t i)])) ∧ Below w.heap.size w w' := by
  go_enter Try.func52, Try.ntmps52
  go_wp2
  go_loopw [9, 10] (fun u v wr => ∃ i j : Nat, i ≤ j ∧ j ≤ l.length ∧ u = vi i ∧ v = vi j ∧ (0 < i → (nth l (i - 1)).1 < t) ∧ (j < l.length → t ≤ (nth l j).1) ∧ Below w.heap.size w wr) (fun u v _ => (intOf v).toNat - (intOf u).toNat)
  case atStart => exact ⟨0, l.length, by omega, by omega, by go_num, rfl, (fun h => absurd h (by omega)), (fun h => absurd h (by omega)), Below.refl _ _⟩
  case round =>
    obtain ⟨i, j, hij, hj, rfl, rfl, h1, h2, hb⟩ := hrel
    have H1 := Lib.hid h1
    have H2 := Lib.hid h2
    have HB := Lib.hid hb
    clear h1 h2
    by_cases hlt : i < j
    · obtain ⟨m, hm⟩ : ∃ m, m = (i + j) / 2 := ⟨_, rfl⟩
      have hm1 : i ≤ m ∧ m < j := by omega
      obtain ⟨hm1, hm2⟩ := hm1
      have hmv : ((i : Int) + (j : Int)) / 2 = (m : Int) := by omega
      have Hm := Lib.hid hm
      clear hm
      obtain ⟨b, o, rfl, hbl, _⟩ := h.below hb (by omega)
      obtain ⟨hc1, hc2⟩ := (h.below hb).at2 m (by omega)
      clear h hb
      by_cases hcm : (nth l m).1 < t
      · have hcl := bookingAt1_any (nth l m) t wr
        rw [cmpI_lt hcm] at hcl
        have Hcl := Lib.hid hcl
        have Hcm := Lib.hid hcm
        clear hcl hcm
        go_wp2_with fail
        refine Hcl.out.mono ?_
        rintro e w2 ⟨rfl, hb2⟩
        have HB2 := Lib.hid (bthen HB.out hb2)
        clear hb2
        go_wp2
        go_roundw
        case rel => exact ⟨m + 1, j, by omega, hj, by go_num, rfl, (fun _ => Hcm.out), H2.out, HB2.out⟩
        case measure => simp [intOf]; omega
      · have hcl : Calls Try.prog 53 #[.agg #[vi (nth l m).1, vi (nth l m).2], vi t] wr fun e w' => (∃ z : Int, 0 ≤ z ∧ e = .returned (vi z)) ∧ Below wr.heap.size wr w' := by
          refine (bookingAt1_any (nth l m) t wr).mono ?_
          rintro e w' ⟨rfl, hb⟩
          exact ⟨⟨_, by unfold cmpI; rw [if_neg hcm]; split <;> omega, rfl⟩, hb⟩
        have Hcl := Lib.hid hcl
        have Hcm : Hid (t ≤ (nth l m).1) := Lib.hid (by omega)
        clear hcl hcm
        go_wp2_with fail
        refine Hcl.out.mono ?_
        rintro e w2 ⟨⟨z, hz, rfl⟩, hb2⟩
        have HB2 := Lib.hid (bthen HB.out hb2)
        clear hb2
        go_wp2
        go_roundw
        case rel => exact ⟨i, m, by omega, by omega, rfl, rfl, H1.out, (fun _ => Hcm.out), HB2.out⟩
        case measure => simp [intOf]; omega
    · obtain rfl : i = j := by omega
      have Hat : Hid (BsAt l t i) := Lib.hid ⟨hj, H1.out, H2.out⟩
      by_cases hlt2 : i < l.length
      · obtain ⟨b, o, rfl, hbl, _⟩ := h.below hb (by omega)
        obtain ⟨hc1, hc2⟩ := (h.below hb).at2 i (by omega)
        clear h hb
        have Hcl := Lib.hid (bookingAt1_any (nth l i) t wr)
        have Hf : Hid (found l t i = (cmpI (nth l i).1 t == 0)) := Lib.hid (by
          rw [Bool.eq_iff_iff]
          simp only [found, Bool.and_eq_true, decide_eq_true_eq, beq_iff_eq, cmpI]
          constructor
          · rintro ⟨_, e⟩; rw [if_neg (by omega), if_neg (by omega)]
          · intro e
            refine ⟨hlt2, ?_⟩
            split at e
            · omega
            · split at e <;> omega)
        go_wp2_with fail
        refine Hcl.out.mono ?_
        rintro e w2 ⟨rfl, hb2⟩
        have HB2 := Lib.hid (bthen HB.out hb2)
        clear hb2
        go_wp2
        go_ret2
        exact ⟨⟨i, Hat.out, by rw [Hf.out]; rfl⟩, HB2.out⟩
      · have Hf : Hid (found l t i = false) := Lib.hid (by simp [found, hlt2])
        go_wp2
        go_ret2
        exact ⟨⟨i, Hat.out, by rw [Hf.out]; rfl⟩, HB.out⟩
theorem bookingAt_any (A : Option Addr) (c : Nat) (l : List (Int × Int)) (t : Int) (w : World) (h : Rd encP w A l) (hl : l.length ≤ 1000000000) :
    Calls Try.prog 47 #[.slice A l.length c, vi t] w fun e w' => (∃ i, BsAt l t i ∧ e = .returned (.tuple #[vi i, .bool (found l t i)])) ∧ Below w.heap.size w w' := by
  have H := Lib.hid (search_any A c l t w h hl)
  go_enter Try.func47, Try.ntmps47
  go_wp2_with fail
  refine H.out.mono ?_
  rintro e w2 ⟨⟨i, hat, rfl⟩, hb2⟩
  have HA := Lib.hid hat
  have HB := Lib.hid hb2
  clear hat hb2
  go_wp2
  go_ret2
  exact ⟨⟨i, HA.out, rfl⟩, HB.out⟩

theorem implBookedHour (A : Option Addr) (c : Nat) (l : List (Int × Int)) (room t : Int) (w : World) (h : Rd encP w A l) (hl : l.length ≤ 1000000000) :
    Calls Try.prog 23 #[.slice A l.length c, vi room, vi t] w fun e w' => e = .returned (vi (hourOf l room t)) ∧ Below w.heap.size w w' := by
  have HS := Lib.hid (bookingAt_any A c l t w h hl)
  have HR := Lib.hid h
  clear h
  go_enter Try.func23, Try.ntmps23
  go_wp2_with fail
  refine HS.out.mono ?_
  rintro e w2 ⟨⟨i, hat, rfl⟩, hb2⟩
  have HA := Lib.hid hat
  have HB := Lib.hid hb2
  have HR2 := Lib.hid (HR.out.below hb2)
  clear hat hb2
  go_wp2_with fail
  refine (implBookingsValid A c l room w2 HR2.out hl).mono ?_
  rintro e w3 ⟨rfl, hb3⟩
  have HB3 := Lib.hid (bthen HB.out hb3)
  have HR3 := Lib.hid (HR2.out.below hb3)
  clear hb3
  cases hv : booksOk l room with
  | false =>
    have Hr := Lib.hid (hourOf_bad (t := t) hv)
    go_wp2
    go_ret
    exact ⟨by rw [Hr.out]; rfl, HB3.out⟩
  | true =>
    cases hf : found l t i with
    | false =>
      have Hr := Lib.hid (hourOf_miss hv (found_miss (asc_books hv) HA.out hf).1)
      go_wp2
      go_ret
      exact ⟨by rw [Hr.out]; rfl, HB3.out⟩
    | true =>
      have Hr := Lib.hid (hourOf_found hv HA.out hf)
      have hi := (found_hit (asc_books hv) HA.out hf).1
      obtain ⟨b, o, rfl, hbl, _⟩ := HR3.out (by omega)
      obtain ⟨hc1, hc2⟩ := HR3.out.at2 i hi
      go_wp2
      go_ret
      exact ⟨by rw [Hr.out]; rfl, HB3.out⟩

theorem specBookedHour (A : Option Addr) (c : Nat) (l : List (Int × Int)) (room t : Int) (w : World) (h : Rd encP w A l) (hl : l.length ≤ 1000000000) :
    Calls Try.prog 30 #[.slice A l.length c, vi room, vi t] w fun e w' => e = .returned (vi (hourOf l room t)) ∧ Below w.heap.size w w' := by
  go_enter Try.func30, Try.ntmps30
  go_wp2
  go_loopw [7] (fun i wr => ∃ k : Nat, k ≤ l.length ∧ i = vi k ∧ (0 < k → booksOk l room = true) ∧ (∀ j, j < k → ¬ (nth l j).1 = t) ∧ Below w.heap.size w wr) (fun i _ => l.length - (intOf i).toNat)
  case atStart => exact ⟨0, Nat.zero_le _, rfl, (fun h => absurd h (by omega)), (fun j hj => absurd hj (by omega)), Below.refl _ _⟩
  case round =>
    obtain ⟨k, hk, rfl, hv0, hj, hb⟩ := hrel
    have Hj := Lib.hid hj
    have Hv0 := Lib.hid hv0
    have HB := Lib.hid hb
    clear hj hv0
    by_cases hlt : k < l.length
    · have HV := Lib.hid (specBookingsValid A c l room wr (h.below hb) hl)
      have HR := Lib.hid (h.below hb)
      clear h hb
      go_wp2_with fail
      refine HV.out.mono ?_
      rintro e w2 ⟨rfl, hb2⟩
      have HB2 := Lib.hid (bthen HB.out hb2)
      have HR2 := Lib.hid (HR.out.below hb2)
      clear hb2
      cases hv : booksOk l room with
      | false =>
        have Hr := Lib.hid (hourOf_bad (t := t) hv)
        go_wp2
        go_ret
        exact ⟨by rw [Hr.out]; rfl, HB2.out⟩
      | true =>
        obtain ⟨b, o, rfl, hbl, _⟩ := HR2.out (by omega)
        obtain ⟨hc1, hc2⟩ := HR2.out.at2 k hlt
        by_cases he : (nth l k).1 = t
        · have he1 : ((nth l k).1 == t) = true := by simp [he]
          have Hr : Hid (hourOf l room t = (nth l k).2) := Lib.hid (by simp only [hourOf, if_pos hv]; exact hourIn_hit hlt he Hj.out)
          clear he
          go_wp2
          go_ret
          exact ⟨by rw [Hr.out]; rfl, HB2.out⟩
        · have he1 : ((nth l k).1 == t) = false := by simp [he]
          have He := Lib.hid he
          have Hv := Lib.hid hv
          clear he
          go_wp2
          go_roundw
          case rel => exact ⟨k + 1, by omega, by go_num, (fun _ => Hv.out), (fun j hj => by
            rcases Nat.lt_succ_iff_lt_or_eq.1 hj with h1 | h1
            · exact Hj.out j h1
            · subst h1; exact He.out), HB2.out⟩
          case measure => simp [intOf]; omega
    · obtain rfl : k = l.length := by omega
      have Hr : Hid (hourOf l room t = -1) := Lib.hid (by
        cases hv : booksOk l room with
        | false => exact hourOf_bad hv
        | true => exact hourOf_miss hv Hj.out)
      clear hb h
      go_wp2
      go_ret
      exact ⟨by rw [Hr.out]; rfl, HB.out⟩
end Go.Proofs.Ytnniogdnlcokmaa
