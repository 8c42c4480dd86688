/-
  Structs of three ints. No program is named here.
-/
import Derived.Test.YtjhbmikohcbkkaaMark
import Derived.Test.YtjhbmikohcbkkaaBox
namespace Go.Proofs.Ytjhbmikohcbkkaa
open Go.RowKit
set_option linter.unusedVariables false
set_option maxRecDepth 100000

/-- Three ints in three cells. -/
def encT : Enc (Int × Int × Int) := ⟨fun p => [vi p.1, vi p.2.1, vi p.2.2], 3, fun _ => rfl, by omega, fun x u hu => by
  simp at hu; rcases hu with rfl | rfl | rfl <;> rfl⟩
theorem Rd.at3 {w : World} {b o : Nat} {l : List (Int × Int × Int)} (h : Rd encT w (some ⟨b, o, none⟩) l) (k : Nat) (hk : k < l.length) :
    w.cell? ⟨b, o + k * 3, none⟩ = some (vi (nth l k).1) ∧ w.cell? ⟨b, o + k * 3 + 1, none⟩ = some (vi (nth l k).2.1) ∧ w.cell? ⟨b, o + k * 3 + 2, none⟩ = some (vi (nth l k).2.2) := by
  obtain ⟨b', o', e1, hb, hc⟩ := h (by omega)
  injection e1 with e1
  injection e1 with e2 e3
  subst e2 e3
  exact ⟨by have := hc k hk 0 _ rfl; simpa [encT] using this, by have := hc k hk 1 _ rfl; simpa [encT, Nat.add_assoc] using this, by have := hc k hk 2 _ rfl; simpa [encT, Nat.add_assoc] using this⟩
section
variable {w : World} {base n c g : Nat} {E : TypeId} {l : List (Int × Int × Int)}
theorem Own.cell3 (h : Own encT E w base (some ⟨g, 0, none⟩) n c l) (k : Nat) (hk : k < n) :
    w.cell? ⟨g, k * 3, none⟩ = some (vi (nth l k).1) ∧ w.cell? ⟨g, k * 3 + 1, none⟩ = some (vi (nth l k).2.1) ∧ w.cell? ⟨g, k * 3 + 2, none⟩ = some (vi (nth l k).2.2) :=
  ⟨by have := h.cell k 0 hk rfl; simpa [encT] using this, by have := h.cell k 1 hk rfl; simpa [encT] using this, by have := h.cell k 2 hk rfl; simpa [encT] using this⟩
/-- All three are stored. -/
theorem Own.put3 (h : Own encT E w base (some ⟨g, 0, none⟩) n c l) (k : Nat) (hk : k < n) (p : Int × Int × Int) :
    Own encT E (((w.setCell ⟨g, k * 3, none⟩ (vi p.1)).setCell ⟨g, k * 3 + 1, none⟩ (vi p.2.1)).setCell ⟨g, k * 3 + 2, none⟩ (vi p.2.2)) base (some ⟨g, 0, none⟩) n c (l.set k p) ∧
      w.grownBy (((w.setCell ⟨g, k * 3, none⟩ (vi p.1)).setCell ⟨g, k * 3 + 1, none⟩ (vi p.2.1)).setCell ⟨g, k * 3 + 2, none⟩ (vi p.2.2)) (some g) := by
  have hl := h.len
  have e1 : ∀ x : Int × Int × Int, nth (l.set k x) k = x := fun x => by rw [nth_set _ _ _ _ (by omega), if_pos rfl]
  have h1 := h.put k 0 hk (by simp [encT]) (p.1, (nth l k).2.1, (nth l k).2.2) (vi p.1) rfl
  have h2 := h1.1.put k 1 hk (by simp [encT]) (p.1, p.2.1, (nth l k).2.2) (vi p.2.1) (by rw [e1]; rfl)
  rw [List.set_set] at h2
  have h3 := h2.1.put k 2 hk (by simp [encT]) p (vi p.2.2) (by rw [e1]; rfl)
  rw [List.set_set] at h3
  exact ⟨by simpa [encT] using h3.1, grown_tr (grown_tr (grown_set _ _ _ _) (grown_set _ _ _ _)) (grown_set _ _ _ _)⟩
end
theorem Rd.one3 (w : World) (E : TypeId) (p : Int × Int × Int) : Rd encT (w.alloc (.cells #[vi p.1, vi p.2.1, vi p.2.2] E)) (some ⟨w.heap.size, 0, none⟩) [p] :=
  (Own.lit (e := encT) (E := E) w #[vi p.1, vi p.2.1, vi p.2.2] [p] rfl (by simp [maxLen])).rd

/-- (k, k+1, k+2), .., n of them -/
def marksT (k : Int) (n : Nat) : List (Int × Int × Int) := (List.range n).map fun (i : Nat) => (k + 3 * (i : Int), k + 3 * (i : Int) + 1, k + 3 * (i : Int) + 1 + 1)
theorem length_marksT (k : Int) (n : Nat) : (marksT k n).length = n := by simp [marksT]
theorem nth_marksT (k : Int) (n i : Nat) (h : i < n) : nth (marksT k n) i = (k + 3 * (i : Int), k + 3 * (i : Int) + 1, k + 3 * (i : Int) + 1 + 1) := by
  rw [nth_eq _ _ (by simpa [marksT] using h)]; simp [marksT]
def markedT (l : List (Int × Int × Int)) (k : Int) (i : Nat) : List (Int × Int × Int) := marksT k i ++ l.drop i
theorem markedT_set (l : List (Int × Int × Int)) (k : Int) (i : Nat) (h : i < l.length) : (markedT l k i).set i (k + 3 * (i : Int), k + 3 * (i : Int) + 1, k + 3 * (i : Int) + 1 + 1) = markedT l k (i + 1) := by
  unfold markedT
  rw [List.set_append_right _ _ (by simp [marksT]), length_marksT, Nat.sub_self, List.drop_eq_getElem_cons h, List.set_cons_zero]
  simp [marksT, List.range_succ]
theorem markedT_all (l : List (Int × Int × Int)) (k : Int) : markedT l k l.length = marksT k l.length := by simp [markedT]
theorem markedT_zero (l : List (Int × Int × Int)) (k : Int) : markedT l k 0 = l := by simp [markedT, marksT]
def MarkT (T : TypeId) (w : World) (base : Nat) (A : Option Addr) (n c : Nat) (k : Int) (e : Ending) (w' : World) : Prop :=
  e = .returned (vi (k + 3 * n)) ∧ Own encT T w' base A n c (marksT k n) ∧ w.grownBy w' (blk A)

/-! ### PaperDeed -/
theorem PaperDeedInfo : (Try.prog.info? 83).map (fun i => (i.zero, i.size, i.bytes)) = some (some (.agg #[.int .i64 0, .int .i64 0, .int .i64 0]), 3, 24) := by kernel_rfl
/-- A call that hands back a new slice of them. -/
def NewPaperDeed (w : World) (l : List (Int × Int × Int)) (e : Ending) (w' : World) : Prop :=
  ∃ A c, e = .returned (.slice A l.length c) ∧ Own encT 83 w' w.heap.size A l.length c l ∧ Below w.heap.size w w'
/-- append(s, x...), s a slice of the call's own. -/
theorem app_PaperDeed {ops : Array Oper} {rest : List Oper} {o : Oper} {a : Act} {Q : Exit → Act → World → Prop} {w : World} (hgd : Region.wanted o (yielded ops a.tmps) = true) (s x : Operand)
    (ho : o.op = .call { callee := .builtin .append, args := #[s, x], argTypes := #[52, 52] })
    (base : Nat) (A0 : Option Addr) (n0 c0 : Nat) (xs : List (Int × Int × Int)) (hs : a.eval s = .slice A0 n0 c0) (hown : Own encT 83 w base A0 n0 c0 xs)
    (A : Option Addr) (m c : Nat) (l : List (Int × Int × Int)) (hx : a.eval x = .slice A m c) (hr : Rd encT w A l) (hm : l.length = m)
    (hn : n0 + m ≤ 1000000000) (hbase : base ≤ w.heap.size)
    (h : ∀ A' c' w', Own encT 83 w' base A' (n0 + m) c' (xs ++ l) → w.grownBy w' (blk A0) → wpList Try.prog ops Q rest (a.put o.dst (.slice A' (n0 + m) c')) w') :
    wpList Try.prog ops Q (o :: rest) a w := by
  obtain ⟨i0, hi, hz0, hz1, hz2⟩ := info_parts PaperDeedInfo
  exact app_enc encT 83 52 Try.underlying52 i0 _ 24 hi hz0 hz1 hz2 rfl (by omega) hgd s x ho base A0 n0 c0 xs hs hown A m c l hx hr hm hn hbase h

theorem eqPaperDeed_same (a b c : Int) (w : World) :
    Calls Try.prog 50 #[.agg #[vi a, vi b, vi c], .agg #[vi a, vi b, vi c]] w fun e w' => e = .returned (.bool true) ∧ Below w.heap.size w w' := by
  have e1 : (a != a) = false := by simp
  have e2 : (b != b) = false := by simp
  have e3 : (c != c) = false := by simp
  go_enter Try.func50, Try.ntmps50
  go_wp2
  go_ret
  exact ⟨rfl, ((Below.refl _ _).alloc (Nat.le_refl _) _).alloc (by simp) _⟩

/-- Equal lists: what the laws need. -/
theorem eqPaperDeedS_any (A B : Option Addr) (c d : Nat) (l : List (Int × Int × Int)) (w : World) (h : Rd encT w A l) (hm : Rd encT w B l) (hl : l.length ≤ 1000000000) :
    Calls Try.prog 27 #[.slice A l.length c, .slice B l.length d] w fun e w' => e = .returned (.bool true) ∧ Below w.heap.size w w' := by
  go_enter Try.func27, Try.ntmps27
  go_wp2
  go_loopw [5] (fun i wr => ∃ k : Nat, k ≤ l.length ∧ i = vi k ∧ Below w.heap.size w wr) (fun i _ => l.length - (intOf i).toNat)
  case atStart => exact ⟨0, Nat.zero_le _, rfl, Below.refl _ _⟩
  case round =>
    obtain ⟨k, hk, rfl, hb⟩ := hrel
    have HB := Lib.hid hb
    by_cases hlt : k < l.length
    · obtain ⟨b, o, rfl, hbl, _⟩ := h.below hb (by omega)
      obtain ⟨hc1, hc2, hc3⟩ := (h.below hb).at3 k hlt
      obtain ⟨b2, o2, rfl, hbl2, _⟩ := hm.below hb (by omega)
      obtain ⟨hd1, hd2, hd3⟩ := (hm.below hb).at3 k hlt
      clear h hm hb
      go_wp2
      go_still_tail 8, (by kernel_rfl)
      change wpList _ _ _ _ _ wr.drew
      generalize hw2 : wr.drew = w2
      have HW2 := Lib.hid hw2
      clear hw2
      go_wp2_with fail
      refine (eqPaperDeed_same _ _ _ _).mono ?_
      rintro e w3 ⟨rfl, hb3⟩
      have HB3 : Hid (Below w.heap.size w w3) := Lib.hid (by
        have h1 : Below w.heap.size w w2 := by rw [← HW2.out]; exact HB.out.drew
        exact bthen h1 hb3)
      clear hb3
      go_wp2
      go_roundw
      case rel => exact ⟨k + 1, by omega, by go_num, HB3.out⟩
      case measure => simp [intOf]; omega
    · go_wp2
      go_ret
      exact ⟨rfl, HB.out⟩

theorem markPaperDeedS_any (A : Option Addr) (n c base : Nat) (l : List (Int × Int × Int)) (k : Int) (w : World) (h : Own encT 83 w base A n c l) (hn : n ≤ 1000000000) (hk0 : 0 ≤ k) (hk : k ≤ 1000000000000) :
    Calls Try.prog 29 #[.slice A n c, vi k] w (MarkT 83 w base A n c k) := by
  have hlen := h.len
  go_enter Try.func29, Try.ntmps29
  go_wp2
  go_loopw [1, 5] (fun m i wr => ∃ j : Nat, j ≤ n ∧ i = vi j ∧ m = vi (k + 3 * j) ∧ Own encT 83 wr base A n c (markedT l k j) ∧ w.grownBy wr (blk A))
    (fun _ i _ => n - (intOf i).toNat)
  case atStart => exact ⟨0, Nat.zero_le _, rfl, by go_num, by rw [markedT_zero]; exact h, World.grownBy.refl _ _⟩
  case round =>
    obtain ⟨j, hj, rfl, rfl, hown, hg⟩ := hrel
    clear h
    by_cases hlt : j < n
    · rcases hown.form with ⟨_, e⟩ | ⟨g, rfl, hgb, hgs⟩
      · have := hown.len; rw [e] at this; simp at this; omega
      obtain ⟨hq1, hq2, hq3⟩ := hown.cell3 j hlt
      have hf1 := hown.frozen (j * 3)
      have hf2 := hown.frozen (j * 3 + 1)
      have hf3 := hown.frozen (j * 3 + 2)
      have HP := Lib.hid (hown.put3 j hlt (k + 3 * j, k + 3 * j + 1, k + 3 * j + 1 + 1))
      have Hlen := Lib.hid hlen
      clear hown hlen
      go_wp2
      go_roundw
      case rel => exact ⟨j + 1, by omega, by go_num, by go_num, by rw [← markedT_set l k j (by rw [Hlen.out]; exact hlt)]; exact HP.out.1, hg.trans HP.out.2⟩
      case measure => simp [intOf]; omega
    · obtain rfl : j = n := by omega
      rw [← hlen, markedT_all, hlen] at hown
      clear hlen
      go_wp2
      go_ret
      exact ⟨rfl, hown, hg⟩

theorem heldPaperDeedS_any (A : Option Addr) (n c : Nat) (k : Int) (w : World) (h : Rd encT w A (marksT k n)) (hn : n ≤ 1000000000) (hk0 : 0 ≤ k) (hk : k ≤ 1000000000000) :
    Calls Try.prog 30 #[.slice A n c, vi k] w fun e w' => e = .returned (vi (k + 3 * n)) ∧ w = w' := by
  go_enter Try.func30, Try.ntmps30
  go_wp2
  go_loop [1, 5] (fun m i => ∃ j : Nat, j ≤ n ∧ i = vi j ∧ m = vi (k + 3 * j)) (fun _ i => n - (intOf i).toNat)
  case atStart => exact ⟨0, Nat.zero_le _, rfl, by go_num⟩
  case round =>
    obtain ⟨j, hj, rfl, rfl⟩ := hrel
    by_cases hlt : j < n
    · obtain ⟨b, o, rfl, hbl, _⟩ := h (by rw [length_marksT]; omega)
      obtain ⟨hc1, hc2, hc3⟩ := h.at3 j (by rw [length_marksT]; omega)
      rw [nth_marksT k n j hlt] at hc1 hc2 hc3
      simp only at hc1 hc2 hc3
      clear h
      go_wp2
      go_round
      case rel => exact ⟨j + 1, by omega, by go_num, by go_num⟩
      case measure => simp [intOf]; omega
    · obtain rfl : j = n := by omega
      go_wp2
      go_ret
      exact ⟨rfl, rfl⟩
end Go.Proofs.Ytjhbmikohcbkkaa
