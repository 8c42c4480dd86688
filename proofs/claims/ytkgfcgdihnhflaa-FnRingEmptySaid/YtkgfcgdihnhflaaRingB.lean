/-
  Contracts of the functions of rings: a step in place, a step of a copy, the first step.
-/
import Derived.Test.YtkgfcgdihnhflaaRingA
namespace Go.Proofs.Ytkgfcgdihnhflaa
open Go.RowKit
set_option linter.unusedVariables false

theorem OwnI.noNone {w : World} {base n c : Nat} {l : List Int} (h : OwnI w base none n c l) : n = 0 := by
  rcases h.2 with ⟨e, h2⟩ | ⟨g, cap, cur, e, _⟩
  · exact h2
  · cases e

/-- A step in place: whether it was done, and what the slice holds then. -/
def StepI (w : World) (base : Nat) (A : Option Addr) (n c : Nat) (l : List Int) (b : Bool) (e : Ending) (w' : World) : Prop :=
  e = .returned (.bool b) ∧ OwnI w' base A n c l ∧ w.grownBy w' (blk A)

theorem ringStep_any (A : Option Addr) (n c base : Nat) (l : List Int) (z : Int) (w : World) (h : OwnI w base A n c l) (hv : ringOk l = true) :
    Calls Try.prog 42 #[.slice A n c, vi z] w (StepI w base A n c (stepTo l z) (stepOk l z)) := by
  obtain rfl := h.len
  have hl := ringOk_len hv
  cases hz : win z 0 (l.length - 1) with
  | false =>
    have hs := Lib.hid (stepOk_out hz)
    have hz1 : win z 0 ((l.length : Int) - 1) = false := hz
    go_enter Try.func42, Try.ntmps42
    go_wp2_with (go_at_call 40; refine (within_any _ _ _ _).mono ?_; rintro e w' ⟨rfl, rfl⟩)
    go_ret
    exact ⟨by rw [hs.out]; rfl, by rw [stepTo_no hs.out]; exact h, World.grownBy.refl _ _⟩
  | true =>
    have hz1 := win_t hz
    obtain ⟨k, rfl⟩ := Int.eq_ofNat_of_zero_le hz1.1
    have hk : k < l.length := by omega
    have hb := ringOk_at hv k hk
    rcases h.form with ⟨_, e⟩ | ⟨g, rfl, hgb, hgs⟩
    · rw [e] at hk; simp at hk
    have hck := h.cell k hk
    have hcf := h.frozen k
    have hnx := nextOf_lt hk
    have hcn : w.cell? ⟨g, (k + 1) % l.length, none⟩ = some (vi (nth l (nextOf l k))) := h.cell _ hnx
    have hfn := h.frozen ((k + 1) % l.length)
    have H := Lib.hid h
    have hm1 : 0 ≤ ((k : Int) + 1) % (l.length : Int) := Int.emod_nonneg _ (by omega)
    have hm2 : ((k : Int) + 1) % (l.length : Int) < (l.length : Int) := Int.emod_lt_of_pos _ (by omega)
    clear h hnx hz1
    by_cases h0 : nth l k < 0
    · have hs : Hid (stepOk l (k : Int) = false) := Lib.hid (stepOk_free (by simpa using h0))
      clear hcn hfn hcf
      go_enter Try.func42, Try.ntmps42
      go_wp2_with (go_at_call 40; refine (within_any _ _ _ _).mono ?_; rintro e w' ⟨rfl, rfl⟩)
      go_ret
      exact ⟨by rw [hs.out]; rfl, by rw [stepTo_no hs.out]; exact H.out, World.grownBy.refl _ _⟩
    · by_cases h1 : nth l k = 0
      · have hs : Hid (stepOk l (k : Int) = true) := Lib.hid (stepOk_mk (by omega) (by omega) (by simp only [Int.toNat_natCast]; omega) (.inl (by simpa using h1)))
        have ht : Hid (stepTo l (k : Int) = l.set k (-1)) := Lib.hid (by rw [stepTo_zero hs.out (by simpa using h1)]; simp)
        rw [h1] at hck
        clear hcn hfn h1 h0 hb
        go_enter Try.func42, Try.ntmps42
        go_wp2_with (go_at_call 40; refine (within_any _ _ _ _).mono ?_; rintro e w' ⟨rfl, rfl⟩)
        go_ret
        exact ⟨by rw [hs.out]; rfl, by rw [ht.out]; exact (H.out.put k _).1, (H.out.put k _).2⟩
      · have h2 : (nth l k == 0) = false := by simp [h1]
        by_cases h3 : 0 ≤ nth l (nextOf l k)
        · have hs : Hid (stepOk l (k : Int) = false) := Lib.hid (stepOk_full (by simpa using h1) (by simpa using h3))
          clear h1
          go_enter Try.func42, Try.ntmps42
          go_wp2_with (go_at_call 40; refine (within_any _ _ _ _).mono ?_; rintro e w' ⟨rfl, rfl⟩)
          go_ret
          exact ⟨by rw [hs.out]; rfl, by rw [stepTo_no hs.out]; exact H.out, World.grownBy.refl _ _⟩
        · have hs : Hid (stepOk l (k : Int) = true) := Lib.hid (stepOk_mk (by omega) (by omega) (by simp only [Int.toNat_natCast]; omega) (.inr (by simpa using h3)))
          have ht : Hid (stepTo l (k : Int) = (l.set k (-1)).set ((k + 1) % l.length) (nth l k - 1)) := Lib.hid (by rw [stepTo_pos hs.out (by simpa using h1)]; simp [nextOf])
          have H1 := Lib.hid (H.out.put k (-1))
          have hcn2 : (w.setCell ⟨g, k, none⟩ (vi (-1))).cell? ⟨g, (k + 1) % l.length, none⟩ = some (vi (nth (l.set k (-1)) (nextOf l k))) := H1.out.1.cell _ (nextOf_lt hk)
          have hfn2 := H1.out.1.frozen ((k + 1) % l.length)
          have H2 := Lib.hid (H1.out.1.put ((k + 1) % l.length) (nth l k - 1))
          clear h1
          go_enter Try.func42, Try.ntmps42
          go_wp2_with (go_at_call 40; refine (within_any _ _ _ _).mono ?_; rintro e w' ⟨rfl, rfl⟩)
          go_ret
          exact ⟨by rw [hs.out]; rfl, by rw [ht.out]; exact H2.out.1, H1.out.2.trans H2.out.2⟩

theorem firstStep_any (A : Option Addr) (n c base : Nat) (l : List Int) (w : World) (h : OwnI w base A n c l) (hv : ringOk l = true) :
    Calls Try.prog 46 #[.slice A n c] w fun e w' => e = .returned (vi (firstOk l)) ∧ OwnI w' base A n c (stepTo l (firstOk l)) ∧ w.grownBy w' (blk A) := by
  obtain rfl := h.len
  have hl := ringOk_len hv
  go_enter Try.func46, Try.ntmps46
  go_wp2
  go_loopw [6] (fun i wr => ∃ k : Nat, k ≤ l.length ∧ i = vi k ∧ (∀ j : Nat, j < k → stepOk l (j : Int) = false) ∧ OwnI wr base A l.length c l ∧ w.grownBy wr (blk A)) (fun i _ => l.length - (intOf i).toNat)
  case atStart => exact ⟨0, Nat.zero_le _, rfl, fun j hj => absurd hj (by omega), h, World.grownBy.refl _ _⟩
  case round =>
    obtain ⟨k, hk, rfl, hj, hown, hg⟩ := hrel
    have Hj := Lib.hid hj
    clear hj h
    have Hown := Lib.hid hown
    clear hown
    by_cases hlt : k < l.length
    · have Hs := ringStep_any A l.length c base l (k : Int) wr Hown.out hv
      have HS := Lib.hid Hs
      clear Hs
      go_wp2_with fail
      refine HS.out.mono ?_
      rintro e w' ⟨rfl, ho, hg2⟩
      clear HS Hown
      cases hs : stepOk l (k : Int) with
      | false =>
        have Hs := Lib.hid hs
        rw [stepTo_no hs] at ho
        have Ho := Lib.hid ho
        clear ho
        go_wp2
        go_roundw
        case rel => exact ⟨k + 1, by omega, by go_num, fun j hj => by
          rcases Nat.lt_succ_iff_lt_or_eq.1 hj with h1 | h1
          · exact Hj.out j h1
          · subst h1; exact Hs.out, Ho.out, hg.trans hg2⟩
        case measure => simp [intOf]; omega
      | true =>
        have Hf := Lib.hid (firstOk_at k hlt Hj.out hs)
        have Ho := Lib.hid ho
        clear ho
        go_wp2
        go_ret
        exact ⟨by rw [Hf.out]; rfl, by rw [Hf.out]; exact Ho.out, hg.trans hg2⟩
    · have Hf := Lib.hid (firstOk_no fun i hi => Hj.out i (by omega))
      have Ht : Hid (stepTo l (-1) = l) := Lib.hid (stepTo_no (stepOk_out (by rw [win_lo]; omega)))
      go_wp2
      go_ret
      exact ⟨by rw [Hf.out]; rfl, by rw [Hf.out, Ht.out]; exact Hown.out, hg⟩
end Go.Proofs.Ytkgfcgdihnhflaa
