/-
  Contract: marks are laid in a slice of slices of ints.
-/
import Derived.Test.YtpabfbaoibmnlaaMatA
namespace Go.Proofs.Ytpabfbaoibmnlaa
open Go.RowKit
set_option linter.unusedVariables false
set_option maxRecDepth 100000

/-- What lies below lo, or from hi on, lies as it lay. -/
def Fr (lo hi : Nat) (w w' : World) : Prop := Below lo w w' ∧ w.heap.size ≤ w'.heap.size ∧ ∀ b, hi ≤ b → b < w.heap.size → w'.heap[b]? = w.heap[b]?
theorem Fr.refl (lo hi : Nat) (w : World) : Fr lo hi w w := ⟨Below.refl _ _, Nat.le_refl _, fun _ _ _ => rfl⟩
theorem Fr.grown {lo hi b : Nat} {w w1 w2 : World} (h : Fr lo hi w w1) (hg : w1.grownBy w2 (some b)) (h1 : lo ≤ b) (h2 : b < hi) (hl : lo ≤ w.heap.size) : Fr lo hi w w2 :=
  ⟨h.1.grown hg (Nat.le_trans hl h.2.1) (fun k e => by injection e with e; omega), Nat.le_trans h.2.1 hg.size, fun k hk hk2 => (hg.block k (Nat.lt_of_lt_of_le hk2 h.2.1) (fun e => by injection e with e; omega)).trans (h.2.2 k hk hk2)⟩

set_option maxHeartbeats 2000000 in
theorem markIntSS_any (A : Option Addr) (c base hi : Nat) (L : List (List Int)) (k0 : Int) (w : World) (h : OwnMB w base hi A L.length c L) (hs : Small L) (ht : tot L ≤ 1048576) (hb : base ≤ w.heap.size) (h0 : 0 ≤ k0) (h1 : k0 ≤ 1000000) :
    Calls Try.prog 28 #[.slice A L.length c, vi k0] w fun e w' => e = .returned (vi (k0 + sums L L.length)) ∧ Fr base hi w w' := by
  obtain ⟨-, R, ho, hr, hlt⟩ := h
  have HLT := Lib.hid hlt
  have HSA := Lib.hid (sums_all L)
  have HRl := Lib.hid ho.len
  have HO := Lib.hid ho
  have HR := Lib.hid hr
  have hl1 := hs.1
  have HSm := Lib.hid hs
  clear hlt ho hr hs
  go_enter Try.func28, Try.ntmps28
  go_wp2
  go_loopw [1, 5] (fun v i wr => ∃ (k : Nat) (L' : List (List Int)), k ≤ L.length ∧ i = vi k ∧ v = vi (k0 + sums L k) ∧ L'.length = L.length ∧ (∀ j, j < L.length → (nth L' j).length = (nth L j).length) ∧ Own encR 30 wr base A L.length c R ∧ RowsOwn wr base R L' L.length ∧ Fr base hi w wr) (fun _ i _ => L.length - (intOf i).toNat)
  case atStart => exact ⟨0, L, Nat.zero_le _, rfl, by rw [sums_zero]; go_num, rfl, fun _ _ => rfl, HO.out, HR.out, Fr.refl _ _ _⟩
  case round =>
    obtain ⟨k, L', hk, rfl, rfl, hl', hj, ho, hr, hf⟩ := hrel
    have HL' := Lib.hid hl'
    have HJ := Lib.hid hj
    have HOr := Lib.hid ho
    have HRr := Lib.hid hr
    have HF := Lib.hid hf
    have hsk := sums_le L k
    have hst := HSA.out
    clear hl' hj ho hr hf
    by_cases hk2 : k < L.length
    · rcases HOr.out.form with ⟨_, e0⟩ | ⟨g, rfl, hg1, hg2⟩
      · have := HRl.out; rw [e0] at this; simp at this; omega
      have hcell := HOr.out.cellR k hk2
      obtain ⟨r1, r2, r3⟩ := HRr.out k hk2
      rw [HJ.out k hk2] at r1 r2
      rw [r1] at hcell
      have hrl := HSm.out.2 k hk2
      have hsu := sums_succ L k hk2
      have hsl := sums_le L (k + 1)
      have HSU := Lib.hid hsu
      have HMK := Lib.hid (markIntS_any (nth R k).1 (nth L k).length (nth R k).2.2 base (nth L' k) (k0 + sums L k) wr r2 hrl (by omega) (by omega))
      have HR3 := Lib.hid r3
      clear hsu r1 r2 r3
      go_wp2_with fail
      refine HMK.out.mono ?_
      rintro e w2 ⟨rfl, ho2, hg2'⟩
      have HFin : Hid (Own encR 30 w2 base (some ⟨g, 0, none⟩) L.length c R ∧ RowsOwn w2 base R (L'.set k (marks (k0 + sums L k) (nth L k).length)) L.length ∧ Fr base hi w w2) := Lib.hid (by
        rcases ho2.form with ⟨hA, hnil⟩ | ⟨b, hA, hb1, hb2⟩
        · rw [hA] at hg2'
          have hbl : Below wr.heap.size wr w2 := ⟨hg2'.os, hg2'.tape, hg2'.output, hg2'.size, fun i hi => hg2'.block i hi (by simp [blk])⟩
          refine ⟨HOr.out.below hbl, fun i hi => ?_, HF.out.1.trans (hbl.mono (Nat.le_trans hb HF.out.2.1)), Nat.le_trans HF.out.2.1 hbl.size, fun b hb1 hb2 => (hbl.block b (Nat.lt_of_lt_of_le hb2 HF.out.2.1)).trans (HF.out.2.2 b hb1 hb2)⟩
          by_cases hik : i = k
          · subst hik
            rw [nth_set _ _ _ _ (by rw [HL'.out]; exact hi), if_pos rfl]
            obtain ⟨q1, q2, q3⟩ := HRr.out i hi
            rw [length_marks]
            exact ⟨by rw [q1, HJ.out i hi], ho2, q3⟩
          · rw [nth_set _ _ _ _ (by rw [HL'.out]; exact hk2), if_neg (fun e => hik e.symm)]
            obtain ⟨q1, q2, q3⟩ := HRr.out i hi
            exact ⟨q1, q2.below hbl, q3⟩
        · have hbg : b ≠ g := by rw [hA] at ho2; exact apartTy HOr.out (by have := (HRr.out k hk2).2.1; rw [hA] at this; exact this)
          rw [hA] at hg2'
          refine ⟨HOr.out.far hg2' (fun q e1 e2 => by injection e1 with e1; injection e1 with e1; simp [blk] at e2; omega), fun i hi => ?_, HF.out.grown hg2' hb1 (HLT.out k hk2 b hA) hb⟩
          by_cases hik : i = k
          · subst hik
            rw [nth_set _ _ _ _ (by rw [HL'.out]; exact hi), if_pos rfl]
            obtain ⟨q1, q2, q3⟩ := HRr.out i hi
            rw [length_marks]
            exact ⟨by rw [q1, HJ.out i hi], ho2, q3⟩
          · rw [nth_set _ _ _ _ (by rw [HL'.out]; exact hk2), if_neg (fun e => hik e.symm)]
            obtain ⟨q1, q2, q3⟩ := HRr.out i hi
            exact ⟨q1, q2.far hg2' (fun q e1 e2 => by simp [blk] at e2; subst e2; exact HR3.out q hA i hi hik e1), q3⟩)
      clear ho2 hg2'
      go_wp2
      go_roundw
      case rel => exact ⟨k + 1, L'.set k (marks (k0 + sums L k) (nth L k).length), by omega, by go_num, by rw [HSU.out]; go_num, by rw [List.length_set, HL'.out], (fun j hj => by
        rw [nth_set _ _ _ _ (by rw [HL'.out]; exact hk2)]
        split
        · rename_i e; subst e; rw [length_marks]
        · exact HJ.out j hj), HFin.out.1, HFin.out.2.1, HFin.out.2.2⟩
      case measure => simp [intOf]; omega
    · obtain rfl : k = L.length := by omega
      go_wp2
      go_ret
      exact ⟨rfl, HF.out⟩
end Go.Proofs.Ytpabfbaoibmnlaa
