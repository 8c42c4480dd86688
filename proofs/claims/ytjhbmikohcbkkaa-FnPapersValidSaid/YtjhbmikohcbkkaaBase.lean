/-
  Contracts of the small functions that every law of this seat reaches: ranges, copies and comparisons of lists of numbers, marks, clones.
-/
import Derived.Test.YtjhbmikohcbkkaaRows
import Derived.Test.YtjhbmikohcbkkaaMem
import Derived.BigQuiet
import Derived.Deep.QuietTactic
import Derived.WalkSpells
import Derived.WalkLawsBesides
import Derived.Deep.DeepFit
import Derived.Outline
namespace Go.Proofs.Ytjhbmikohcbkkaa
open Go.RowKit
set_option linter.unusedVariables false
set_option maxRecDepth 100000

theorem within_any (n a b : Int) (w : World) :
    Calls Try.prog 33 #[vi n, vi a, vi b] w fun e w' => e = .returned (.bool (win n a b)) ∧ w = w' := by
  rcases Int.lt_or_le n a with h | h
  · have hw := Lib.hid (win_lo (b := b) h)
    go_enter Try.func33, Try.ntmps33
    go_wp2
    go_ret
    rw [hw.out]; exact ⟨by first | (simp; done) | (simp; omega), rfl⟩
  · rcases Int.lt_or_le b n with h2 | h2
    · have hw := Lib.hid (win_hi (a := a) h2)
      go_enter Try.func33, Try.ntmps33
      go_wp2
      go_ret
      rw [hw.out]; exact ⟨by first | (simp; done) | (simp; omega), rfl⟩
    · have hw := Lib.hid (win_mk h h2)
      go_enter Try.func33, Try.ntmps33
      go_wp2
      go_ret
      rw [hw.out]; exact ⟨by first | (simp; done) | (simp; omega), rfl⟩

theorem l1In_any (n a b : Int) (w : World) :
    Calls Try.prog 31 #[vi n, vi a, vi b] w fun e w' => e = .returned (.bool (win n a b)) ∧ w = w' := by
  rcases Int.lt_or_le n a with h | h
  · have hw := Lib.hid (win_lo (b := b) h)
    go_enter Try.func31, Try.ntmps31
    go_wp2
    go_ret
    rw [hw.out]; exact ⟨by first | (simp; done) | (simp; omega), rfl⟩
  · rcases Int.lt_or_le b n with h2 | h2
    · have hw := Lib.hid (win_hi (a := a) h2)
      go_enter Try.func31, Try.ntmps31
      go_wp2
      go_ret
      rw [hw.out]; exact ⟨by first | (simp; done) | (simp; omega), rfl⟩
    · have hw := Lib.hid (win_mk h h2)
      go_enter Try.func31, Try.ntmps31
      go_wp2
      go_ret
      rw [hw.out]; exact ⟨by first | (simp; done) | (simp; omega), rfl⟩

theorem intInfo : (Try.prog.info? 3).map (fun i => (i.zero, i.size, i.bytes)) = some (some (.int .i64 0), 1, 8) := by kernel_rfl

/-- make([]int, n) -/
theorem make_int (n : Nat) (h : n ≤ 1000000000) (w : World) :
    (Instr.makeSlice 30 (.int .i64 (n : Int)) (.int .i64 (n : Int))).run Try.prog w = .ok (.slice (some ⟨w.heap.size, 0, none⟩) n n) (w.alloc (.cells (madeCells #[vi 0] n) 3)) := by
  obtain ⟨i0, hi, hz0, hz1, hz2⟩ := info_parts intInfo
  have hr := run_make (P := Try.prog) w 30 3 i0 (vi 0) Try.underlying30 hi hz0 .i64 .i64 (n : Int) (n : Int) (by omega) (by omega) (by rw [hz2]; omega) (by omega)
  rw [hz1] at hr
  simp only [Int.toNat_natCast, Nat.mul_one, Value.cells] at hr
  exact hr

set_option maxRecDepth 100000 in
/-- append(s, x...) on ints, s a slice of the call's own. -/
theorem app_int {ops : Array Oper} {rest : List Oper} {o : Oper} {a : Act} {Q : Exit → Act → World → Prop} {w : World} (hgd : o.guard = none) (s x : Operand)
    (ho : o.op = .call { callee := .builtin .append, args := #[s, x], argTypes := #[30, 30] })
    (base : Nat) (A0 : Option Addr) (n0 c0 : Nat) (xs : List Int) (hs : a.eval s = .slice A0 n0 c0) (hown : OwnI w base A0 n0 c0 xs)
    (A : Option Addr) (m c : Nat) (l : List Int) (hx : a.eval x = .slice A m c) (hr : RdI w A l) (hm : l.length = m)
    (hn : n0 + m ≤ 1000000000) (hbase : base ≤ w.heap.size)
    (h : ∀ A' c' w', OwnI w' base A' (n0 + m) c' (xs ++ l) → w.grownBy w' (blk A0) → wpList Try.prog ops Q rest (a.put o.dst (.slice A' (n0 + m) c')) w') :
    wpList Try.prog ops Q (o :: rest) a w := by
  obtain ⟨i0, hi, hz0, hz1, hz2⟩ := info_parts intInfo
  have hone : ∀ u ∈ l.map vi, u.oneCell' = true := by
    intro u hu
    obtain ⟨y, _, rfl⟩ := List.mem_map.1 hu
    rfl
  have hblk : ∀ B : Option Addr, Value.ownBlock (.slice B n0 c0) = blk B := by intro B; cases B <;> rfl
  have fin : ∀ v' w', (Builtin.append_ #[30, 30] o.type #[.slice A0 n0 c0, .slice A m c]).run Try.prog w = .ok v' w' →
      w'.ownsRow base 3 1 v' (n0 + m) ((xs ++ l).map vi) → w.grownBy w' (blk A0) → wpList Try.prog ops Q (o :: rest) a w := by
    intro v' w' hrun h2 h3
    have hv : ∃ A' c', v' = .slice A' (n0 + m) c' := by
      rcases h2.2 with ⟨rfl, e⟩ | ⟨g, cap, cur, rfl, _⟩
      · exact ⟨none, 0, by rw [e]⟩
      · exact ⟨_, _, rfl⟩
    obtain ⟨A', c', rfl⟩ := hv
    refine wpList_plain hgd fun K hK => ?_
    unfold Oper.wp execOp
    simp only [ho, resolve, invoke, builtin, Sem.run_bind, Sem.run_pure, Result.andThen_ok, List.map_toArray, List.map_cons, List.map_nil, hs, hx, hrun]
    exact hK _ _ (h A' c' w' h2 h3)
  rcases A with _ | ad
  · have hl0 : l = [] := by
      rcases Nat.eq_zero_or_pos l.length with h0 | h0
      · exact List.eq_nil_of_length_eq_zero h0
      · obtain ⟨b, o, e, _⟩ := hr h0; cases e
    subst hl0
    obtain rfl : m = 0 := by simpa using hm.symm
    have hrun : (Builtin.append_ #[30, 30] o.type #[.slice A0 n0 c0, .slice none 0 c]).run Try.prog w = .ok (.slice A0 n0 c0) w := by
      rcases hown.2 with ⟨e, h0⟩ | ⟨g, cap, cur, e, _, _, hnc, _⟩
      · injection e with e1 e2 e3; subst e1 e2 e3
        simp [Builtin.append_, run_underlying Try.underlying30, sizeOf, typeInfo, hi, Builtin.lenOf, Builtin.firstCells]
      · injection e with e1 e2 e3; subst e1 e3
        simp [Builtin.append_, run_underlying Try.underlying30, sizeOf, typeInfo, hi, Builtin.lenOf, Builtin.firstCells, hnc, storeCells]
    exact fin _ _ hrun (by rw [List.append_nil]; exact hown) (World.grownBy.refl _ _)
  · have hcells : ∀ j u, (l.map vi)[j]? = some u → w.cell? (ad.add j) = some u := by
      intro j u hu
      rcases Nat.eq_zero_or_pos l.length with h0 | h0
      · rw [List.eq_nil_of_length_eq_zero h0] at hu; simp at hu
      · obtain ⟨b, o, e, hb, hc⟩ := hr h0
        injection e with e; subst e
        have hj : j < l.length := by
          have := (List.getElem?_eq_some_iff.1 hu).1; simpa using this
        rw [Addr.add_lit, hc j hj, nth_eq l j hj]
        simpa [hj] using hu
    obtain ⟨v', w', hrun, h2, h3, _⟩ := run_append_own (P := Try.prog) w base 30 o.type 3 i0 (vi 0) 1 8 Try.underlying30 hi hz0 hz1 hz2 rfl (by decide) _ n0 (xs.map vi) hown ad m c (l.map vi) (by simp [hm]) hcells hone (by simp only [maxLen]; omega) (by omega) hbase
    rw [hblk] at h3
    rw [← List.map_append] at h2
    exact fin _ _ hrun h2 h3

theorem toIntS_any (A : Option Addr) (c : Nat) (l : List Int) (w : World) (h : RdI w A l) (hl : l.length ≤ 1048576) :
    Calls Try.prog 38 #[.slice A l.length c] w (NewI w l) := by
  have hmk := make_int l.length (by omega)
  go_enter Try.func38, Try.ntmps38
  go_wp2
  clear hmk
  go_loopw [4] (fun i wr => ∃ k : Nat, k ≤ l.length ∧ i = vi k ∧ OwnI wr w.heap.size (some ⟨w.heap.size, 0, none⟩) l.length l.length (part l k) ∧ Below w.heap.size w wr)
    (fun i _ => l.length - (intOf i).toNat)
  case atStart => exact ⟨0, Nat.zero_le _, rfl, by rw [part_zero]; exact OwnI.made w _ (by simp only [maxLen]; omega), (Below.refl _ _).alloc (Nat.le_refl _) _⟩
  case round =>
    obtain ⟨k, hk, rfl, hown, hb⟩ := hrel
    by_cases hlt : k < l.length
    · obtain ⟨b, o, rfl, hbl, hc⟩ := h.below hb (by omega)
      have hck := hc k hlt
      have hcd := hown.cell k hlt
      have hcf := hown.frozen k
      have Hown := Lib.hid hown
      clear hown hc h
      go_wp2
      go_roundw
      case rel => exact ⟨k + 1, by omega, by go_num, by rw [← part_set l k hlt]; exact (Hown.out.put k _).1, hb.setCell (Nat.le_refl _) _⟩
      case measure => simp [intOf]; omega
    · obtain rfl : k = l.length := by omega
      rw [part_all] at hown
      go_wp2
      go_ret
      exact ⟨_, _, rfl, hown, hb⟩

/-- Two lists of numbers are one. -/
def same (l m : List Int) : Bool := decide (l = m)
theorem same_self (l : List Int) : same l l = true := by simp [same]

theorem eqIntS_any (A B : Option Addr) (c d : Nat) (l m : List Int) (w : World) (h : RdI w A l) (hm : RdI w B m) (hl : l.length ≤ 1000000000) (hml : m.length ≤ 1000000000) :
    Calls Try.prog 40 #[.slice A l.length c, .slice B m.length d] w fun e w' => e = .returned (.bool (same l m)) ∧ ∃ n, w' = w.drewN n := by
  by_cases hne : l.length = m.length
  · have hd : (l.length != m.length) = false := by simp [hne]
    have hd2 : ((l.length : Int) != (m.length : Int)) = false := by simp [hne]
    have Hne := Lib.hid hne
    clear hne
    go_enter Try.func40, Try.ntmps40
    go_wp2
    go_loopw [5] (fun i wr => ∃ k : Nat, k ≤ l.length ∧ i = vi k ∧ (∀ j, j < k → nth l j = nth m j) ∧ ∃ n, wr = w.drewN n) (fun i _ => l.length - (intOf i).toNat)
    case atStart => exact ⟨0, Nat.zero_le _, rfl, fun j hj => absurd hj (by omega), 0, rfl⟩
    case round =>
      obtain ⟨k, hk, rfl, hj, n, rfl⟩ := hrel
      have Hj := Lib.hid hj
      clear hj
      by_cases hlt : k < l.length
      · have hlm : k < m.length := by have := Hne.out; omega
        obtain ⟨b, o, rfl, hbl, hc⟩ := h (by omega)
        obtain ⟨b2, o2, rfl, hbl2, hc2⟩ := hm (by omega)
        have hck := hc k hlt
        have hck2 := hc2 k hlm
        clear hc hc2 h hm
        by_cases he : nth l k = nth m k
        · have hb1 : (nth l k != nth m k) = false := by simp [he]
          have He := Lib.hid he
          clear he
          go_wp2
          go_quiet (fail)
          go_wp2
          go_roundw
          case rel => exact ⟨k + 1, by omega, by go_num, fun j hj => by
            rcases Nat.lt_succ_iff_lt_or_eq.1 hj with h1 | h1
            · exact Hj.out j h1
            · subst h1; exact He.out, _, rfl⟩
          case measure => simp [intOf]; omega
        · have hb1 : (nth l k != nth m k) = true := by simp [he]
          have Hs : Hid (same l m = false) := by
            refine decide_eq_false fun e => he ?_
            rw [e]
          clear he
          go_wp2
          go_quiet (fail)
          go_wp2
          go_ret
          exact ⟨by rw [Hs.out]; rfl, drew_ex⟩
      · have hkl : k = l.length := by omega
        have Hs : Hid (same l m = true) := decide_eq_true (ext_nth Hne.out fun j hj => Hj.out j (by omega))
        clear hkl
        go_wp2
        go_ret
        exact ⟨by rw [Hs.out]; rfl, _, rfl⟩
  · have hd : (l.length != m.length) = true := by simp [hne]
    have hd2 : ((l.length : Int) != (m.length : Int)) = true := by simp; omega
    have Hs : Hid (same l m = false) := decide_eq_false fun e => hne (by rw [e])
    clear hne
    go_enter Try.func40, Try.ntmps40
    go_wp2
    go_ret
    exact ⟨by rw [Hs.out]; rfl, 0, rfl⟩
end Go.Proofs.Ytjhbmikohcbkkaa
