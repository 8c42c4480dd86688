/-
  Contract: slices.Insert of one element where there is room.
-/
import Derived.Test.YtnniogdnlcokmaaIns
namespace Go.Proofs.Ytnniogdnlcokmaa
open Go.RowKit
set_option linter.unusedVariables false
set_option maxRecDepth 100000

set_option maxHeartbeats 8000000 in
theorem ins_room (base i n c v g : Nat) (l : List (Int × Int)) (p : Int × Int) (w : World) (hV : w.heap[v]? = some (.cells #[vi p.1, vi p.2] 36 (0, 0))) (h : Own encP 36 w base (some ⟨g, 0, none⟩) n c l) (hvg : v ≠ g) (hi : i < n) (hroom : n + 1 ≤ c) (hn : n ≤ 100000000) :
    Calls Try.prog 48 #[.slice (some ⟨g, 0, none⟩) n c, vi i, .slice (some ⟨v, 0, none⟩) 1 1] w (InsBooking w base (some ⟨g, 0, none⟩) n (l.take i ++ p :: l.drop i)) := by
  have HV := Lib.hid (rd_of_row w v p hV)
  have HO := Lib.hid h
  have hln := h.len
  have hcap := h.cap
  simp only [maxLen] at hcap
  obtain ⟨hcap1, hcap2⟩ := hcap
  have hsz : ∀ w, (Go.sizeOf 36).run Try.prog w = .ok 2 w := fun w => by
    obtain ⟨i0, hi, hz0, hz1, hz2⟩ := info_parts BookingInfo
    simp [Go.sizeOf, typeInfo, hi, hz1]
  obtain ⟨cur, hG, hGs⟩ : ∃ cur : Array Value, w.heap[g]? = some (.cells cur 36 (0, 0)) ∧ cur.size = c * 2 := by
    rcases h.2 with ⟨e1, _⟩ | ⟨g', cap, cur, e1, hg, hh, hc, hm, hs, ht⟩
    · cases e1
    · injection e1 with e1 e2 e3
      injection e1 with e1
      injection e1 with e1
      subst e1; subst e3
      exact ⟨cur, hh, hs⟩
  have hov : ∀ lb cb, (callFunc 55 #[.slice (some ⟨v, 0, none⟩) 1 1, .slice (some ⟨g, (i + 1) * 2, none⟩) lb cb]).run Try.prog w = .ok (.value (.bool false)) w := fun lb cb => by
    rw [run_callFunc_extern Try.func55 (by kernel_rfl) (by kernel_rfl) (by kernel_rfl) (e := Extern.SlicesOverlaps.overlaps #[25, 25] #[4]) (by kernel_rfl),
      Lib.run_overlaps_apart w 25 4 36 Try.underlying25 2 hsz ⟨v, 0, none⟩ ⟨g, (i + 1) * 2, none⟩ 1 1 lb cb hvg 36 36 2 (c * 2) (by simp [World.shape?, hV]) (by simp [World.shape?, hG, hGs]) (by omega) (frozen_of_row w v _ _ _ hV) (frozen_of_row w v _ _ _ hV)]
    rfl
  have hw1 : IntKind.i64.wrap ((i : Int) + 1) = (i : Int) + 1 := by rw [IntKind.wrap_i64]; omega
  have hb1 : (0 : Int) ≤ (i : Int) + 1 := by omega
  have hb3 : ((i : Int) + 1).toNat = i + 1 := by omega
  have hb4 : (i : Int) ≤ (n : Int) := by omega
  have hb5 : (i : Int) ≤ (n : Int) + 1 := by omega
  have hb6 : ¬ (c = i) := by omega
  have hb7 : ¬ (c = i + 1) := by omega
  have hb8 : ¬ ((i : Int) = (n : Int)) := by omega
  have hb9 : (n : Int) + 1 ≤ (c : Int) := by omega
  have hb10 : (i : Int) + 1 ≤ (n : Int) + 1 := by omega
  have hsrc : Hid (∀ j u, ((l.drop i).flatMap encP.f)[j]? = some u → w.drew.cell? ((⟨g, i * 2, none⟩ : Addr).add j) = some u) := Lib.hid (by
    have := (h.rd.drop i (by omega)).flat
    simpa [encP] using this)
  clear hV h hG
  go_enter Try.func48, Try.ntmps48
  go_wp2_with (simp only [hov])
  go_region_law (refine step_copy_enc (e := encP) (E := 36) rfl (.tmp 73) (.tmp 76) 25 25 rfl Try.underlying25 szInfoBooking g (i + 1) (n - i) (c - (i + 1)) ⟨g, i * 2, none⟩ (n + 1 - i) (c - i) base n c l (l.drop i) (by simp [Act.eval, Act.put, encP]) (by simp [Act.eval, Act.put]) HO.out (by simp only [List.length_drop, hln, Nat.min_def]; split <;> omega) hsrc.out (by omega) (by simp; omega) ?_; intro w2 ho2 hg2; skip)
  have e1 : max n (i + 1 + (l.drop i).length) = n + 1 := by simp; omega
  have e2 : l.drop (i + 1 + (l.drop i).length) = [] := List.drop_eq_nil_of_le (by simp; omega)
  rw [e1, e2, List.append_nil] at ho2
  have HO2 := Lib.hid ho2
  have HG2 : Hid (w.grownBy w2 (some g)) := Lib.hid ⟨hg2.os, hg2.tape, hg2.output, hg2.size, hg2.block⟩
  have HV2 := Lib.hid (HV.out.far HG2.out (fun b o e1 e2 => by injection e1 with e1; injection e1 with e1; injection e2 with e2; omega)).flat
  clear ho2 hg2 e1 e2
  obtain ⟨w3, hrun0, ho3, hg3⟩ := run_copy_enc (P := Try.prog) (e := encP) (E := 36) w2 25 25 3 Try.underlying25 szInfoBooking g i (n + 1 - i) (c - i) ⟨v, 0, none⟩ 1 1 base (n + 1) c (l.take (i + 1) ++ l.drop i) [p] HO2.out (by simp only [List.length_cons, List.length_nil, Nat.min_def]; split <;> omega) HV2.out (by omega) (by simp; omega)
  have hrun : (Builtin.copy_ #[25, 25] 3 #[.slice (some ⟨g, i * 2, none⟩) (n + 1 - i) (c - i), .slice (some ⟨v, 0, none⟩) 1 1]).run Try.prog w2 = .ok (goInt 1) w3 := hrun0
  have HO3 := Lib.hid ho3
  have HG3 := Lib.hid hg3
  clear hrun0 ho3 hg3
  go_wp2
  go_ret
  have ho3 := HO3.out
  have hg3 := HG3.out
  have e3 : max (n + 1) (i + [p].length) = n + 1 := by simp; omega
  rw [e3, List.length_singleton, ins_list l p i (by omega)] at ho3
  exact ⟨_, _, rfl, ho3, HG2.out.trans hg3⟩
end Go.Proofs.Ytnniogdnlcokmaa
