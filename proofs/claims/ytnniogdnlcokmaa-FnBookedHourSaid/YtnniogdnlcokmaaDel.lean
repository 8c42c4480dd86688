/-
  Contracts: slices.Delete and slices.Insert on a slice of the call's own.
-/
import Derived.Test.YtnniogdnlcokmaaPair
import Derived.Test.YtnniogdnlcokmaaSlc
import Derived.Deep.RegionLaw
namespace Go.Proofs.Ytnniogdnlcokmaa
open Go.RowKit
set_option linter.unusedVariables false
set_option maxRecDepth 100000

theorem szInfoBooking : (Try.prog.info? 36).map (·.size) = some encP.s := by
  obtain ⟨i0, hi, hz0, hz1, hz2⟩ := info_parts BookingInfo
  rw [hi]; simp [hz1, encP]
theorem zeroBooking (w : World) : (zeroValue 36).run Try.prog w = .ok (.agg #[vi 0, vi 0]) w := by
  obtain ⟨i0, hi, hz0, hz1, hz2⟩ := info_parts BookingInfo
  simp [zeroValue, typeInfo, hi, hz0]
theorem zeroCells2 (m : Nat) : ∀ u ∈ (Builtin.zeroCells (Value.agg #[vi 0, vi 0]).cells m).toList, u.oneCell' = true := by
  intro u hu
  simp only [Builtin.zeroCells, Value.cells, Array.toList_map, List.mem_map] at hu
  obtain ⟨i, _, rfl⟩ := hu
  have : i % 2 = 0 ∨ i % 2 = 1 := by omega
  rcases this with h | h <;> simp [h] <;> rfl

set_option maxHeartbeats 4000000 in
theorem deleteBooking_any (g N c base i : Nat) (l : List (Int × Int)) (w : World) (h : Own encP 36 w base (some ⟨g, 0, none⟩) (N + 1) c l) (hi : i ≤ N) (hN : N ≤ 1000000000) :
    Calls Try.prog 50 #[.slice (some ⟨g, 0, none⟩) (N + 1) c, vi i, vi ((i : Int) + 1)] w fun e w' => e = .returned (.slice (some ⟨g, 0, none⟩) N c) ∧ Own encP 36 w' base (some ⟨g, 0, none⟩) N c (l.take i ++ l.drop (i + 1)) ∧ w.grownBy w' (some g) := by
  have hcap := h.cap
  simp only [maxLen] at hcap
  obtain ⟨hcap1, hcap2⟩ := hcap
  have hln := h.len
  have HC := Lib.hid (h.cut i (by omega) (by omega))
  have HR := Lib.hid h.rd
  have ek : ((i : Int) == (i : Int) + 1) = false := by simp; omega
  have hb1 : (i : Int) ≤ (N : Int) + 1 := by omega
  have hb2 : (i : Int) + 1 ≤ (N : Int) + 1 := by omega
  have hb3 : ((i : Int) + 1).toNat = i + 1 := by omega
  have hb4 : ¬ (c = i) := by omega
  have hb5 : (N : Int) + 1 ≤ (c : Int) := by omega
  have hb6 : (i : Int) ≤ (c : Int) := by omega
  have hb7 : (0 : Int) ≤ (i : Int) := by omega
  have hb8 : (0 : Int) ≤ (i : Int) + 1 := by omega
  by_cases hc : c = i + 1
  · obtain rfl : i = N := by omega
    subst hc
    have hb9 : (i : Int) ≤ (i : Int) + 1 := by omega
    have HS : Hid (∀ j u, ((l.drop (i + 1)).flatMap encP.f)[j]? = some u → w.drew.cell? ((⟨g, 0, none⟩ : Addr).add j) = some u) := Lib.hid (by
      rw [List.drop_eq_nil_of_le (by omega)]; exact flat_nil_src)
    go_enter Try.func50, Try.ntmps50
    go_wp2
    go_region_law (refine step_append_room2 (e := encP) (E := 36) rfl (.tmp 22) (.tmp 25) 25 rfl Try.underlying25 szInfoBooking g i (i + 1) base (l.take i) (l.drop (i + 1)) i (l.take i ++ l.drop (i + 1)) HC.out ⟨g, 0, none⟩ _ _ rfl rfl (by simp; omega) HS.out (by omega) rfl (by omega) ?_; intro w2 ho2 hg2; skip)
    have HO2 := Lib.hid ho2
    have HG2 : Hid (w.grownBy w2 (some g)) := Lib.hid ⟨hg2.os, hg2.tape, hg2.output, hg2.size, hg2.block⟩
    clear ho2 hg2
    obtain ⟨w3, hrun0, ho3, hg3⟩ := run_clear_enc (P := Try.prog) (e := encP) (E := 36) w2 25 0 (.agg #[vi 0, vi 0]) Try.underlying25 zeroBooking zeroCells2 rfl g i 1 1 base i (i + 1) (l.take i ++ l.drop (i + 1)) HO2.out (Nat.le_refl _) (by omega) (by omega)
    have hrun : (Builtin.clear_ #[25] 0 #[.slice (some ⟨g, i * 2, none⟩) 1 1]).run Try.prog w2 = .ok (.tuple #[]) w3 := hrun0
    have HO3 := Lib.hid ho3
    have HG3 := Lib.hid (HG2.out.trans hg3)
    clear hrun0 ho3 hg3
    go_wp2
    go_ret
    have ho4 := HO3.out
    rw [List.take_of_length_le (by simp; omega)] at ho4
    exact ⟨rfl, ho4, HG3.out⟩
  · have HS : Hid (∀ j u, ((l.drop (i + 1)).flatMap encP.f)[j]? = some u → w.drew.cell? ((⟨g, (i + 1) * 2, none⟩ : Addr).add j) = some u) := Lib.hid (by
      rcases Nat.lt_or_ge (i + 1) l.length with h1 | h1
      · have := (HR.out.drop (i + 1) h1).flat
        simpa [encP] using this
      · rw [List.drop_eq_nil_of_le h1]; exact flat_nil_src)
    go_enter Try.func50, Try.ntmps50
    go_wp2
    go_region_law (refine step_append_room2 (e := encP) (E := 36) rfl (.tmp 22) (.tmp 25) 25 rfl Try.underlying25 szInfoBooking g i c base (l.take i) (l.drop (i + 1)) N (l.take i ++ l.drop (i + 1)) HC.out ⟨g, (i + 1) * 2, none⟩ _ _ rfl rfl (by simp; omega) HS.out (by omega) rfl (by omega) ?_; intro w2 ho2 hg2; skip)
    have HO2 := Lib.hid ho2
    have HG2 : Hid (w.grownBy w2 (some g)) := Lib.hid ⟨hg2.os, hg2.tape, hg2.output, hg2.size, hg2.block⟩
    clear ho2 hg2
    obtain ⟨w3, hrun0, ho3, hg3⟩ := run_clear_enc (P := Try.prog) (e := encP) (E := 36) w2 25 0 (.agg #[vi 0, vi 0]) Try.underlying25 zeroBooking zeroCells2 rfl g N 1 (c - N) base N c (l.take i ++ l.drop (i + 1)) HO2.out (Nat.le_refl _) (by omega) (by omega)
    have hrun : (Builtin.clear_ #[25] 0 #[.slice (some ⟨g, N * 2, none⟩) 1 (c - N)]).run Try.prog w2 = .ok (.tuple #[]) w3 := hrun0
    have HO3 := Lib.hid ho3
    have HG3 := Lib.hid (HG2.out.trans hg3)
    clear hrun0 ho3 hg3
    go_wp2
    go_ret
    have ho4 := HO3.out
    rw [List.take_of_length_le (by simp; omega)] at ho4
    exact ⟨rfl, ho4, HG3.out⟩
end Go.Proofs.Ytnniogdnlcokmaa
