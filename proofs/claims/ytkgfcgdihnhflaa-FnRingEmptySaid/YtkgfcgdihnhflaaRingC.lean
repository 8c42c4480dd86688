/-
  Contracts of the functions of rings: a step, many steps.
-/
import Derived.Test.YtkgfcgdihnhflaaRingB
namespace Go.Proofs.Ytkgfcgdihnhflaa
open Go.RowKit
set_option linter.unusedVariables false

def stepL (l : List Int) (z : Int) : List Int := if ringOk l = true then stepTo l z else []
def stepB (l : List Int) (z : Int) : Bool := ringOk l && stepOk l z
theorem stepL_t {l : List Int} (h : ringOk l = true) (z : Int) : stepL l z = stepTo l z := if_pos h
theorem stepL_f {l : List Int} (h : ringOk l = false) (z : Int) : stepL l z = [] := if_neg (by simp [h])
theorem length_stepL (l : List Int) (z : Int) : (stepL l z).length ≤ l.length := by
  unfold stepL; split <;> simp [length_stepTo]
theorem stepB_t {l : List Int} (h : ringOk l = true) (z : Int) : stepB l z = stepOk l z := by simp [stepB, h]
theorem stepB_f {l : List Int} (h : ringOk l = false) (z : Int) : stepB l z = false := by simp [stepB, h]

theorem blk_far {A B : Option Addr} {w : World} {base n c : Nat} {l : List Int} (h : OwnI w base A n c l) {lim : Nat} (hl : lim ≤ base) : ∀ k, blk A = some k → lim ≤ k := by
  intro k hk
  rcases h.form with ⟨rfl, _⟩ | ⟨g, rfl, hg, _⟩
  · cases hk
  · simp at hk; omega

theorem implRingStep (A : Option Addr) (c : Nat) (l : List Int) (z : Int) (w : World) (h : RdI w A l) (hl : l.length ≤ 1000000000) :
    Calls Try.prog 22 #[.slice A l.length c, vi z] w (NewI2 w (stepL l z) (.bool (stepB l z))) := by
  have HV := Lib.hid (implRingValid A c l w h hl)
  cases ho : ringOk l with
  | false =>
    have H1 := Lib.hid (stepL_f ho z)
    have H2 := Lib.hid (stepB_f ho z)
    go_enter Try.func22, Try.ntmps22
    go_wp2_with (go_at_call 17; refine HV.out.mono ?_; rintro e w' ⟨rfl, rfl⟩)
    go_ret2
    rw [H1.out, H2.out]
    exact ⟨none, 0, rfl, OwnI.nil_ _ _, Below.refl _ _⟩
  | true =>
    have Ho := Lib.hid ho
    have H1 := Lib.hid (stepL_t ho z)
    have H2 := Lib.hid (stepB_t ho z)
    have HC := Lib.hid (clone_any A c l w h hl)
    go_enter Try.func22, Try.ntmps22
    go_wp2_with (go_at_call 17; refine HV.out.mono ?_; rintro e w' ⟨rfl, rfl⟩)
    refine HC.out.mono ?_
    rintro e w1 ⟨A1, c1, rfl, ho1, hb1⟩
    have HO1 := Lib.hid ho1
    clear ho1 ho HC HV
    go_wp2_with fail
    refine (ringStep_any A1 l.length c1 w.heap.size l z w1 HO1.out Ho.out).mono ?_
    rintro e w2 ⟨rfl, ho2, hg2⟩
    have HO2 := Lib.hid ho2
    clear ho2
    go_wp2
    go_ret2
    rw [H1.out, H2.out]
    refine ⟨A1, c1, ?_, ?_, hb1.grown hg2 hb1.size (blk_far (A := A1) (B := A1) HO1.out (Nat.le_refl _))⟩
    · rw [length_stepTo]; rfl
    · rw [length_stepTo]; exact HO2.out

theorem specRingStep (A : Option Addr) (c : Nat) (l : List Int) (z : Int) (w : World) (h0 : RdI w A l) (hl : l.length ≤ 1000000000) :
    Calls Try.prog 21 #[.slice A l.length c, vi z] w (NewI2 w (stepL l z) (.bool (stepB l z))) := by
  have HV := Lib.hid (specRingValid A c l w h0 hl)
  cases ho : ringOk l with
  | false =>
    have H1 := Lib.hid (stepL_f ho z)
    have H2 := Lib.hid (stepB_f ho z)
    go_enter Try.func21, Try.ntmps21
    go_wp2_with (go_at_call 15; refine HV.out.mono ?_; rintro e w' ⟨rfl, rfl⟩)
    go_ret2
    rw [H1.out, H2.out]
    exact ⟨_, _, rfl, OwnI.none_made w, (Below.refl _ _).alloc (Nat.le_refl _) _⟩
  | true =>
    have Ho := Lib.hid ho
    have hlen := ringOk_len ho
    have H1 := Lib.hid (stepL_t ho z)
    have H2 := Lib.hid (stepB_t ho z)
    go_enter Try.func21, Try.ntmps21
    go_wp2_with (first
      | (go_at_call 15; refine HV.out.mono ?_; rintro e w' ⟨rfl, rfl⟩)
      | (at_builtin; refine app_int rfl (.tmp 12) (.tmp 13) rfl w.heap.size (some ⟨w.heap.size, 0, none⟩) 0 0 [] rfl (OwnI.none_made w) A l.length c l rfl (h0.alloc _) rfl (by omega) (by simp) ?_; intro A1 c1 w1 ho1 hg1; skip))
    have HO1 : Hid (OwnI w1 w.heap.size A1 l.length c1 l) := Lib.hid (by simpa using ho1)
    have hb1 : Below w.heap.size w w1 := ((Below.refl _ _).alloc (Nat.le_refl _) _).grown hg1 (by simp) (fun k hk => by simp at hk; omega)
    have h1 := h0.below hb1
    have hbd : w.heap.size ≤ w1.heap.size := hb1.size
    clear ho1 hg1 ho HV
    cases hz : win z 0 (l.length - 1) with
    | false =>
      have hs := Lib.hid (stepOk_out hz)
      have hz1 : win z 0 ((l.length : Int) - 1) = false := hz
      go_wp2_with (go_at_call 39; refine (l1In_any _ _ _ _).mono ?_; rintro e w' ⟨rfl, rfl⟩)
      go_ret2
      rw [H1.out, H2.out, hs.out, stepTo_no hs.out]
      exact ⟨_, _, rfl, HO1.out, hb1⟩
    | true =>
      have hz1 := win_t hz
      obtain ⟨k, rfl⟩ := Int.eq_ofNat_of_zero_le hz1.1
      have hk : k < l.length := by omega
      have hb := ringOk_at Ho.out k hk
      rcases HO1.out.form with ⟨_, e⟩ | ⟨g, rfl, hgb, hgs⟩
      · rw [e] at hk; simp at hk
      obtain ⟨b, o, rfl, hbl0, hc0⟩ := h0 (by omega)
      obtain ⟨b', o', e, hbl, hc⟩ := h1 (by omega)
      injection e with e
      injection e with e1 e2
      subst e1 e2
      have hnx := nextOf_lt hk
      have hck := hc k hk
      have hcn : w1.cell? ⟨b, o + (k + 1) % l.length, none⟩ = some (vi (nth l (nextOf l k))) := hc _ hnx
      have hcd := HO1.out.cell k hk
      have hcf := HO1.out.frozen k
      have hm1 : 0 ≤ ((k : Int) + 1) % (l.length : Int) := Int.emod_nonneg _ (by omega)
      have hm2 : ((k : Int) + 1) % (l.length : Int) < (l.length : Int) := Int.emod_lt_of_pos _ (by omega)
      have hcka : (w1.setCell ⟨g, k, none⟩ (vi (-1))).cell? ⟨b, o + k, none⟩ = some (vi (nth l k)) := by
        rw [World.cell?_setCell_other _ _ _ _ (by intro e; injection e; omega)]; exact hck
      clear hc hc0 h0 h1 hz1
      by_cases h0 : nth l k < 0
      · have hs : Hid (stepOk l (k : Int) = false) := Lib.hid (stepOk_free (by simpa using h0))
        go_wp2_with (go_at_call 39; refine (l1In_any _ _ _ _).mono ?_; rintro e w' ⟨rfl, rfl⟩)
        go_ret2
        rw [H1.out, H2.out, hs.out, stepTo_no hs.out]
        exact ⟨_, _, rfl, HO1.out, hb1⟩
      · by_cases h1 : nth l k = 0
        · have hs : Hid (stepOk l (k : Int) = true) := Lib.hid (stepOk_mk (by omega) (by omega) (by simp only [Int.toNat_natCast]; omega) (.inl (by simpa using h1)))
          have ht : Hid (stepTo l (k : Int) = l.set k (-1)) := Lib.hid (by rw [stepTo_zero hs.out (by simpa using h1)]; simp)
          rw [h1] at hck hcka
          clear hcn h1 h0 hb
          have HP := Lib.hid (HO1.out.put k (-1))
          go_wp2_with (go_at_call 39; refine (l1In_any _ _ _ _).mono ?_; rintro e w' ⟨rfl, rfl⟩)
          go_ret2
          rw [H1.out, H2.out, hs.out, ht.out]
          refine ⟨_, _, by rw [List.length_set]; rfl, by rw [List.length_set]; exact HP.out.1, hb1.setCell hgb _⟩
        · have h2 : 0 < nth l k := by omega
          by_cases h3 : 0 ≤ nth l (nextOf l k)
          · have hs : Hid (stepOk l (k : Int) = false) := Lib.hid (stepOk_full (by simpa using h1) (by simpa using h3))
            clear h1
            go_wp2_with (go_at_call 39; refine (l1In_any _ _ _ _).mono ?_; rintro e w' ⟨rfl, rfl⟩)
            go_ret2
            rw [H1.out, H2.out, hs.out, stepTo_no hs.out]
            exact ⟨_, _, rfl, HO1.out, hb1⟩
          · have hs : Hid (stepOk l (k : Int) = true) := Lib.hid (stepOk_mk (by omega) (by omega) (by simp only [Int.toNat_natCast]; omega) (.inr (by simpa using h3)))
            have ht : Hid (stepTo l (k : Int) = (l.set k (-1)).set ((k + 1) % l.length) (nth l k - 1)) := Lib.hid (by rw [stepTo_pos hs.out (by simpa using h1)]; simp [nextOf])
            have HP := Lib.hid (HO1.out.put k (-1))
            have hcn2 : (w1.setCell ⟨g, k, none⟩ (vi (-1))).cell? ⟨g, (k + 1) % l.length, none⟩ = some (vi (nth (l.set k (-1)) (nextOf l k))) := HP.out.1.cell _ (nextOf_lt hk)
            have hfn2 := HP.out.1.frozen ((k + 1) % l.length)
            have HP2 := Lib.hid (HP.out.1.put ((k + 1) % l.length) (nth l k - 1))
            clear h1
            go_wp2_with (go_at_call 39; refine (l1In_any _ _ _ _).mono ?_; rintro e w' ⟨rfl, rfl⟩)
            go_ret2
            rw [H1.out, H2.out, hs.out, ht.out]
            refine ⟨_, _, by rw [List.length_set, List.length_set]; rfl, by rw [List.length_set, List.length_set]; exact HP2.out.1, (hb1.setCell hgb _).setCell hgb _⟩
end Go.Proofs.Ytkgfcgdihnhflaa
