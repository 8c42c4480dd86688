/-
  Contract: slices.Insert of one element where there is none.
-/
import Derived.Test.YtnniogdnlcokmaaIns
import Derived.Room.Entries
namespace Go.Proofs.Ytnniogdnlcokmaa
open Go.RowKit
set_option linter.unusedVariables false
set_option maxRecDepth 100000

theorem grown_of_below {w w' : World} {row : Option Nat} (h : Below w.heap.size w w') : w.grownBy w' row := ⟨h.os, h.tape, h.output, h.size, fun k hk _ => h.block k hk⟩
theorem ins_list2 (l : List (Int × Int)) (p : Int × Int) (i k : Nat) (hi : i < l.length) : (l.take i ++ List.replicate (k + 1) default).take i ++ [p] ++ (l.take i ++ List.replicate (k + 1) default).drop (i + 1) = l.take i ++ [p] ++ List.replicate k default := by
  have h1 : (l.take i).length = i := by simp; omega
  rw [List.take_append_of_le_length (by omega), List.take_take, Nat.min_self, List.drop_append, h1, List.drop_eq_nil_of_le (by omega), show i + 1 - i = 1 by omega]
  simp [List.replicate_succ]
set_option maxHeartbeats 8000000 in
theorem ins_grow (base i c v g : Nat) (l : List (Int × Int)) (p : Int × Int) (w : World) (hV : w.heap[v]? = some (.cells #[vi p.1, vi p.2] 36 (0, 0))) (h : Own encP 36 w base (some ⟨g, 0, none⟩) c c l) (hbase : base ≤ w.heap.size) (hi : i < c) (hn : c ≤ 100000000) :
    Calls Try.prog 48 #[.slice (some ⟨g, 0, none⟩) c c, vi i, .slice (some ⟨v, 0, none⟩) 1 1] w (InsBooking w base (some ⟨g, 0, none⟩) c (l.take i ++ p :: l.drop i)) := by
  have HV := Lib.hid (rd_of_row w v p hV)
  have HO := Lib.hid h
  have hln := h.len
  have HRl := Lib.hid h.rd
  obtain ⟨i0, hi0, hz0, hz1, hz2⟩ := info_parts BookingInfo
  obtain ⟨w1, G, hrun0, ho1, hb1⟩ := run_append_zeros_enc (P := Try.prog) (e := encP) (E := 36) w 25 3 25 .i64 Try.underlying25 Try.underlying3 i0 _ hi0 hz0 hz1 rfl g i c base (c + 1 - i) (l.take i) (h.cut i (by omega) (by omega)) (by omega) (by omega) (by omega) (by rw [hz2]; omega) (by
    have := Go.Room.nextslicecap_le' (need := i + (c + 1 - i)) (old := c) (by omega)
    rw [hz2]; omega)
  rw [show ((c + 1 - i : Nat) : Int) = (c : Int) + 1 - (i : Int) by omega, show i + (c + 1 - i) = c + 1 by omega] at hrun0
  rw [show i + (c + 1 - i) = c + 1 by omega, show c + 1 - i = (c - i) + 1 by omega] at ho1
  have hcapG := ho1.cap
  simp only [maxLen] at hcapG
  obtain ⟨hG1, hG2⟩ := hcapG
  obtain ⟨w2, hrun1, ho2, hg2⟩ := run_copy_enc (P := Try.prog) (e := encP) (E := 36) w1 25 25 3 Try.underlying25 szInfoBooking w.heap.size i (c + 1 - i) (G - i) ⟨v, 0, none⟩ 1 1 w.heap.size (c + 1) G _ [p] ho1 (by simp only [List.length_cons, List.length_nil, Nat.min_def]; split <;> omega) (HV.out.below hb1).flat (by omega) (by simp; omega)
  rw [List.length_singleton, show max (c + 1) (i + 1) = c + 1 by omega, ins_list2 l p i (c - i) (by omega)] at ho2
  have hb2 := hb1.grown hg2 hb1.size (fun q hq => by injection hq with hq; omega)
  have hrunA : (Builtin.append_ #[25, 3] 25 #[.slice (some ⟨g, 0, none⟩) i c, vi ((c : Int) + 1 - (i : Int))]).run Try.prog w = .ok (.slice (some ⟨w.heap.size, 0, none⟩) (c + 1) G) w1 := hrun0
  have hrunB : (Builtin.copy_ #[25, 25] 3 #[.slice (some ⟨w.heap.size, i * 2, none⟩) (c + 1 - i) (G - i), .slice (some ⟨v, 0, none⟩) 1 1]).run Try.prog w1 = .ok (goInt 1) w2 := hrun1
  have hsrc : Hid (∀ j u, ((l.drop i).flatMap encP.f)[j]? = some u → w2.drew.cell? ((⟨g, i * 2, none⟩ : Addr).add j) = some u) := Lib.hid (by
    have := ((HRl.out.below hb2).drop i (by omega)).flat
    simpa [encP] using this)
  have HO2 := Lib.hid ho2
  have HB2 := Lib.hid hb2
  have hw1 : IntKind.i64.wrap ((i : Int) + 1) = (i : Int) + 1 := by rw [IntKind.wrap_i64]; omega
  have hb1' : (0 : Int) ≤ (i : Int) + 1 := by omega
  have hb3 : ((i : Int) + 1).toNat = i + 1 := by omega
  have hb4 : (i : Int) ≤ (c : Int) := by omega
  have hb5 : (i : Int) ≤ (c : Int) + 1 := by omega
  have hb6 : ¬ (c = i) := by omega
  have hb7 : ¬ (G = i) := by omega
  have hb7' : ¬ (G = i + 1) := by omega
  have hb8 : ¬ ((i : Int) = (c : Int)) := by omega
  have hb10 : (i : Int) + 1 ≤ (c : Int) + 1 := by omega
  clear hV h hrun0 hrun1 ho1 ho2 hb1 hb2 hg2 hi0 hz0 hz1 hz2
  go_enter Try.func48, Try.ntmps48
  go_wp2_with (at_builtin; refine Lib.wpList_append_run _ rfl _ _ _ _ rfl _ _ rfl rfl _ _ hrunA ?_)
  go_region_law (refine step_copy_enc (e := encP) (E := 36) rfl (.tmp 50) (.tmp 53) 25 25 rfl Try.underlying25 szInfoBooking w.heap.size (i + 1) (c - i) (G - (i + 1)) ⟨g, i * 2, none⟩ (c - i) (c - i) w.heap.size (c + 1) G (l.take i ++ [p] ++ List.replicate (c - i) default) (l.drop i) (by simp [Act.eval, Act.put, encP]) (by simp [Act.eval, Act.put]) HO2.out (by simp only [List.length_drop, hln, Nat.min_def]; split <;> omega) hsrc.out (by omega) (by simp; omega) ?_; intro w3 ho3 hg3; skip)
  have e1 : max (c + 1) (i + 1 + (l.drop i).length) = c + 1 := by simp; omega
  have e4 : (l.take i ++ [p]).length = i + 1 := by simp; omega
  have e5 : (l.take i ++ [p] ++ List.replicate (c - i) default).drop (i + 1 + (l.drop i).length) = [] := List.drop_eq_nil_of_le (by simp only [List.length_append, List.length_take, List.length_drop, List.length_replicate, List.length_singleton]; omega)
  have e2 : (l.take i ++ [p] ++ List.replicate (c - i) default).take (i + 1) ++ l.drop i ++ (l.take i ++ [p] ++ List.replicate (c - i) default).drop (i + 1 + (l.drop i).length) = l.take i ++ p :: l.drop i := by
    rw [List.take_append_of_le_length (by omega), List.take_of_length_le (by omega), e5, List.append_nil, List.append_assoc]
    rfl
  rw [e1, e2] at ho3
  have HO3 := Lib.hid (ho3.mono hbase)
  have HB3 := Lib.hid (HB2.out.grown (row := some w.heap.size) (⟨hg3.os, hg3.tape, hg3.output, hg3.size, hg3.block⟩ : w2.grownBy w3 (some w.heap.size)) HB2.out.size (fun q hq => by injection hq with hq; omega))
  clear ho3 hg3 e1 e2 e4 e5
  go_wp2
  go_ret
  exact ⟨_, _, rfl, HO3.out, grown_of_below HB3.out⟩
end Go.Proofs.Ytnniogdnlcokmaa
