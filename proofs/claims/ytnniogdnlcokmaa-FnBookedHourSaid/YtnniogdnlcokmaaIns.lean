/-
  Contracts: slices.Insert of one element, on a slice of the call's own.
-/
import Derived.Test.YtnniogdnlcokmaaDel
import Derived.Laws.Externs
namespace Go.Proofs.Ytnniogdnlcokmaa
open Go.RowKit
set_option linter.unusedVariables false
set_option maxRecDepth 100000

theorem ins_list (l : List (Int × Int)) (p : Int × Int) (i : Nat) (hi : i < l.length) : (l.take (i + 1) ++ l.drop i).take i ++ [p] ++ (l.take (i + 1) ++ l.drop i).drop (i + 1) = l.take i ++ p :: l.drop i := by
  have h1 : (l.take (i + 1)).length = i + 1 := by simp; omega
  rw [List.take_append_of_le_length (by omega), List.take_take, Nat.min_eq_left (by omega), List.drop_append, h1, Nat.sub_self, List.drop_zero, List.drop_eq_nil_of_le (by omega)]
  simp
/-- A call that puts one more into a slice of its caller's. -/
def InsBooking (w : World) (base : Nat) (A : Option Addr) (n : Nat) (l' : List (Int × Int)) (e : Ending) (w' : World) : Prop :=
  ∃ A' c', e = .returned (.slice A' (n + 1) c') ∧ Own encP 36 w' base A' (n + 1) c' l' ∧ w.grownBy w' (blk A)

theorem rd_of_row (w : World) (v : Nat) (p : Int × Int) (hV : w.heap[v]? = some (.cells #[vi p.1, vi p.2] 36 (0, 0))) : Rd encP w (some ⟨v, 0, none⟩) [p] := fun _ => ⟨v, 0, rfl, (Array.getElem?_eq_some_iff.1 hV).1, fun k hk j u hu => by
  obtain rfl : k = 0 := by simpa using hk
  rw [cell_of_row w v _ _ _ _ hV]
  match j, hu with
  | 0, hu => simpa [encP, nth, List.getD] using hu
  | 1, hu => simpa [encP, nth, List.getD] using hu
  | j + 2, hu => simp [encP] at hu⟩
set_option maxHeartbeats 4000000 in
theorem ins_end (base n c v : Nat) (A : Option Addr) (l : List (Int × Int)) (p : Int × Int) (w : World) (hV : w.heap[v]? = some (.cells #[vi p.1, vi p.2] 36 (0, 0))) (h : Own encP 36 w base A n c l) (hb : base ≤ w.heap.size) (hn : n ≤ 100000000) :
    Calls Try.prog 48 #[.slice A n c, vi n, .slice (some ⟨v, 0, none⟩) 1 1] w (InsBooking w base A n (l ++ [p])) := by
  have HV := Lib.hid (rd_of_row w v p hV)
  have HO := Lib.hid h
  have hcap := h.cap
  simp only [maxLen] at hcap
  obtain ⟨hcap1, hcap2⟩ := hcap
  have hb1 : (n : Int) ≤ (c : Int) := by omega
  rcases h.form with ⟨rfl, hl⟩ | ⟨g, rfl, _, _⟩
  · obtain rfl : n = 0 := by rw [← h.len, hl]; rfl
    clear h hV
    go_enter Try.func48, Try.ntmps48
    go_wp2_with (at_builtin; refine app_Booking rfl (.tmp 23) (.tmp 24) rfl base none 0 c l rfl HO.out (some ⟨v, 0, none⟩) 1 1 [p] rfl HV.out rfl (by omega) (by omega) ?_; intro A2 c2 w2 ho2 hg2; skip)
    go_ret
    exact ⟨A2, c2, rfl, ho2, hg2⟩
  · clear h hV
    by_cases hc : c = n
    · subst hc
      go_enter Try.func48, Try.ntmps48
      go_wp2_with (at_builtin; refine app_Booking rfl (.tmp 23) (.tmp 24) rfl base (some ⟨g, 0, none⟩) c c l rfl HO.out (some ⟨v, 0, none⟩) 1 1 [p] rfl HV.out rfl (by omega) (by omega) ?_; intro A2 c2 w2 ho2 hg2; skip)
      go_ret
      exact ⟨A2, c2, rfl, ho2, hg2⟩
    · have hc2 : n < c := by omega
      go_enter Try.func48, Try.ntmps48
      go_wp2_with (at_builtin; refine app_Booking rfl (.tmp 23) (.tmp 24) rfl base (some ⟨g, 0, none⟩) n c l rfl HO.out (some ⟨v, 0, none⟩) 1 1 [p] rfl HV.out rfl (by omega) (by omega) ?_; intro A2 c2 w2 ho2 hg2; skip)
      go_ret
      exact ⟨A2, c2, rfl, ho2, hg2⟩

end Go.Proofs.Ytnniogdnlcokmaa
