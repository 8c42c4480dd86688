/-
  Plain words for slices of slices of ints.
-/
import Derived.Test.YtpabfbaoibmnlaaBase
import Derived.Test.YtpabfbaoibmnlaaBase2
import Derived.Test.YtpabfbaoibmnlaaEnc
import Derived.Test.YtpabfbaoibmnlaaPast
import Derived.Test.YtpabfbaoibmnlaaPair
namespace Go.Proofs.Ytpabfbaoibmnlaa
open Go.RowKit
set_option linter.unusedVariables false
set_option maxRecDepth 100000

/-- A row as its slice tells it: address, length, capacity. -/
abbrev Rw := Option Addr × Nat × Nat
def encR : Enc Rw := ⟨fun r => [.slice r.1 r.2.1 r.2.2], 1, fun _ => rfl, by omega, fun x u hu => by
  simp at hu; subst hu; rfl⟩
/-- The slice with this address reads as these rows. -/
def RdM (w : World) (A : Option Addr) (L : List (List Int)) : Prop :=
  ∃ R : List Rw, R.length = L.length ∧ Rd encR w A R ∧ ∀ k, k < L.length → (nth R k).2.1 = (nth L k).length ∧ RdI w (nth R k).1 (nth L k)
section
variable {w w' : World} {A : Option Addr} {L : List (List Int)} {k : Nat}
theorem RdM.below (h : RdM w A L) (hb : Below w.heap.size w w') : RdM w' A L := by
  obtain ⟨R, h1, h2, h3⟩ := h
  exact ⟨R, h1, h2.below hb, fun k hk => ⟨(h3 k hk).1, (h3 k hk).2.below hb⟩⟩
theorem RdM.drewN (h : RdM w A L) (n : Nat) : RdM (w.drewN n) A L := h
theorem RdM.past (h : RdM w A L) (x : Past w) : RdM x.val A L := h.below x.below
theorem RdM.alloc (h : RdM w A L) (o : Obj) : RdM (w.alloc o) A L := h.below ((Below.refl _ _).alloc (Nat.le_refl _) _)
theorem RdM.nil_ : RdM w A [] := ⟨[], rfl, Rd.nil_, fun k hk => absurd hk (by simp)⟩
theorem RdM.rd (h : RdM w A L) : RdM w A L := h
/-- Row k, where it lies. -/
theorem RdM.at_ (h : RdM w A L) (hk : k < L.length) : ∃ b o B c, A = some ⟨b, o, none⟩ ∧ b < w.heap.size ∧ w.cell? ⟨b, o + k, none⟩ = some (.slice B (nth L k).length c) ∧ RdI w B (nth L k) := by
  obtain ⟨R, h1, h2, h3⟩ := h
  obtain ⟨b, o, e, hb, hc⟩ := h2 (by omega)
  obtain ⟨e2, hr⟩ := h3 k hk
  have := hc k (by omega) 0 (.slice (nth R k).1 (nth R k).2.1 (nth R k).2.2) rfl
  simp only [encR, Nat.mul_one, Nat.add_zero] at this
  rw [e2] at this
  exact ⟨b, o, _, _, e, hb, this, hr⟩
/-- .. and row j of the same. -/
theorem RdM.row {b o : Nat} (h : RdM w (some ⟨b, o, none⟩) L) (hk : k < L.length) : ∃ B c, w.cell? ⟨b, o + k, none⟩ = some (.slice B (nth L k).length c) ∧ RdI w B (nth L k) := by
  obtain ⟨b', o', B, c, e, _, h1, h2⟩ := h.at_ hk
  injection e with e
  injection e with e1 e2
  subst e1 e2
  exact ⟨B, c, h1, h2⟩
end

/-- Rows and their lengths, all told. -/
def tot (L : List (List Int)) : Nat := L.length + (L.map List.length).sum
theorem tot_cons (r : List Int) (L : List (List Int)) : tot (r :: L) = tot L + r.length + 1 := by simp [tot]; omega
theorem len_le_tot (L : List (List Int)) : L.length ≤ tot L := by simp [tot]
def sums (L : List (List Int)) (k : Nat) : Nat := ((L.take k).map List.length).sum
theorem sums_zero (L : List (List Int)) : sums L 0 = 0 := by simp [sums]
theorem sums_succ (L : List (List Int)) (k : Nat) (hk : k < L.length) : sums L (k + 1) = sums L k + (nth L k).length := by
  simp [sums, take_snoc L k hk]
theorem sums_all (L : List (List Int)) : L.length + sums L L.length = tot L := by simp [sums, tot]
theorem sums_le (L : List (List Int)) (k : Nat) : sums L k ≤ sums L L.length := by
  have h : (L.map List.length) = ((L.take k).map List.length) ++ ((L.drop k).map List.length) := by rw [← List.map_append, List.take_append_drop]
  have h2 : sums L L.length = (L.map List.length).sum := by simp [sums]
  rw [h2, h, List.sum_append]; simp [sums]
theorem row_le_tot (L : List (List Int)) (k : Nat) (hk : k < L.length) : (nth L k).length ≤ tot L := by
  have h1 := sums_succ L k hk
  have h2 := sums_le L (k + 1)
  have h3 := sums_all L
  omega
/-- Its rows are of a size that serves. -/
def Small (L : List (List Int)) : Prop := L.length ≤ 1000000000 ∧ ∀ k, k < L.length → (nth L k).length ≤ 1000000000
theorem small_of {L : List (List Int)} (h : tot L ≤ 1000000000) : Small L := ⟨Nat.le_trans (len_le_tot L) h, fun k hk => Nat.le_trans (row_le_tot L k hk) h⟩
theorem szIntS_any (A : Option Addr) (n c : Nat) (left : Int) (w : World) (hn : n ≤ 9223372036854775807) (h0 : 0 ≤ left) (h1 : left ≤ 1048576) :
    Calls Try.prog 42 #[.slice A n c, vi left] w fun e w' => e = .returned (vi (szV n left)) ∧ w = w' := by
  by_cases h : left < n
  · have He := Lib.hid (szV_lo h)
    go_enter Try.func42, Try.ntmps42
    go_wp2
    go_ret
    exact ⟨by rw [He.out]; rfl, rfl⟩
  · have He := Lib.hid (szV_hi h)
    go_enter Try.func42, Try.ntmps42
    go_wp2
    go_ret
    exact ⟨by rw [He.out]; rfl, rfl⟩

theorem szIntSS_any (A : Option Addr) (c : Nat) (L : List (List Int)) (left : Int) (w : World) (h : RdM w A L) (hn : L.length ≤ 9223372036854775807) (hr : ∀ k, k < L.length → (nth L k).length ≤ 9223372036854775807) (h0 : 0 ≤ left) (h1 : left ≤ 1048576) :
    Calls Try.prog 13 #[.slice A L.length c, vi left] w fun e w' => e = .returned (vi (szV (tot L) left)) ∧ w = w' := by
  have hall := sums_all L
  by_cases hlo : left < L.length
  · have He := Lib.hid (szV_lo (n := tot L) (left := left) (by omega))
    clear hall
    go_enter Try.func13, Try.ntmps13
    go_wp2
    go_ret
    exact ⟨by rw [He.out]; rfl, rfl⟩
  · have HA := Lib.hid hall
    clear hall
    go_enter Try.func13, Try.ntmps13
    go_wp2
    go_loop [1, 5] (fun v i => ∃ k : Nat, k ≤ L.length ∧ i = vi k ∧ v = vi (left - L.length - sums L k) ∧ (sums L k : Int) ≤ left - L.length) (fun _ i => L.length - (intOf i).toNat)
    case atStart => exact ⟨0, Nat.zero_le _, rfl, by rw [sums_zero]; go_num, by rw [sums_zero]; omega⟩
    case round =>
      obtain ⟨k, hk, rfl, rfl, hs⟩ := hrel
      by_cases hlt : k < L.length
      · obtain ⟨b, o, B, cc, rfl, hb, hc, hri⟩ := h.at_ hlt
        have hrk := hr k hlt
        have hss := sums_succ L k hlt
        have hle := sums_le L (k + 1)
        obtain ⟨q, hq⟩ : ∃ q, q = nth L k := ⟨_, rfl⟩
        rw [← hq] at hc hrk hss
        clear hq hri
        by_cases hneg : left - L.length - sums L k < q.length
        · have Hv := Lib.hid (szV_lo hneg)
          have He := Lib.hid (szV_lo (n := tot L) (left := left) (by have := HA.out; omega))
          clear hss hle
          go_wp2_with fail
          refine (szIntS_any B q.length cc _ w hrk (by omega) (by omega)).mono ?_
          rintro e w' ⟨he, rfl⟩
          rw [Hv.out] at he
          subst he
          go_wp2
          go_ret
          exact ⟨by rw [He.out]; rfl, rfl⟩
        · have Hv := Lib.hid (szV_hi hneg)
          have HS := Lib.hid hss
          clear hss hle
          go_wp2_with fail
          refine (szIntS_any B q.length cc _ w hrk (by omega) (by omega)).mono ?_
          rintro e w' ⟨he, rfl⟩
          rw [Hv.out] at he
          subst he
          go_wp2
          go_round
          case rel => exact ⟨k + 1, by omega, by go_num, by rw [HS.out]; go_num, by rw [HS.out]; omega⟩
          case measure => simp [intOf]; omega
      · obtain rfl : k = L.length := by omega
        have He := Lib.hid (szV_hi (n := tot L) (left := left) (by have := HA.out; omega))
        have HA2 : Hid (left - (tot L : Int) = left - L.length - sums L L.length) := Lib.hid (by have := HA.out; omega)
        go_wp2
        go_ret
        exact ⟨by rw [He.out, HA2.out]; rfl, rfl⟩
end Go.Proofs.Ytpabfbaoibmnlaa
