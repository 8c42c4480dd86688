/-
  Contracts: marks laid and looked for, lists compared, a clone.
-/
import Derived.Test.YtpabfbaoibmnlaaBase
namespace Go.Proofs.Ytpabfbaoibmnlaa
open Go.RowKit
set_option linter.unusedVariables false
set_option maxRecDepth 100000

/-- k, k+1, .., n of them -/
def marks (k : Int) (n : Nat) : List Int := (List.range n).map fun (i : Nat) => k + (i : Int)
theorem length_marks (k : Int) (n : Nat) : (marks k n).length = n := by simp [marks]
theorem nth_marks (k : Int) (n i : Nat) (h : i < n) : nth (marks k n) i = k + i := by
  rw [nth_eq _ _ (by simpa [marks] using h)]; simp [marks]

/-- The first i of l replaced by marks. -/
def marked (l : List Int) (k : Int) (i : Nat) : List Int := marks k i ++ l.drop i
theorem marked_set (l : List Int) (k : Int) (i : Nat) (h : i < l.length) : (marked l k i).set i (k + i) = marked l k (i + 1) := by
  unfold marked
  rw [List.set_append_right _ _ (by simp [marks]), length_marks, Nat.sub_self, List.drop_eq_getElem_cons h, List.set_cons_zero]
  simp [marks, List.range_succ]
theorem marked_all (l : List Int) (k : Int) : marked l k l.length = marks k l.length := by simp [marked]
theorem marked_zero (l : List Int) (k : Int) : marked l k 0 = l := by simp [marked, marks]

/-- A call that overwrites a slice of its caller's with marks. -/
def MarkI (w : World) (base : Nat) (A : Option Addr) (n c : Nat) (k : Int) (e : Ending) (w' : World) : Prop :=
  e = .returned (vi (k + n)) ∧ OwnI w' base A n c (marks k n) ∧ w.grownBy w' (blk A)

theorem markIntS_any (A : Option Addr) (n c base : Nat) (l : List Int) (k : Int) (w : World) (h : OwnI w base A n c l) (hn : n ≤ 1000000000) (hk0 : 0 ≤ k) (hk : k ≤ 1000000000000) :
    Calls Try.prog 29 #[.slice A n c, vi k] w (MarkI w base A n c k) := by
  have hlen := h.len
  go_enter Try.func29, Try.ntmps29
  go_wp2
  go_loopw [1, 5] (fun m i wr => ∃ j : Nat, j ≤ n ∧ i = vi j ∧ m = vi (k + j) ∧ OwnI wr base A n c (marked l k j) ∧ w.grownBy wr (blk A))
    (fun _ i _ => n - (intOf i).toNat)
  case atStart => exact ⟨0, Nat.zero_le _, rfl, by go_num, by rw [marked_zero]; exact h, World.grownBy.refl _ _⟩
  case round =>
    obtain ⟨j, hj, rfl, rfl, hown, hg⟩ := hrel
    clear h
    by_cases hlt : j < n
    · rcases hown.form with ⟨_, e⟩ | ⟨g, rfl, hgb, hgs⟩
      · have := hown.len; rw [e] at this; simp at this; omega
      have hcd := hown.cell j hlt
      have hcf := hown.frozen j
      have Hown := Lib.hid hown
      have Hlen := Lib.hid hlen
      clear hown hlen
      go_wp2
      go_roundw
      case rel => exact ⟨j + 1, by omega, by go_num, by go_num, by rw [← marked_set l k j (by rw [Hlen.out]; exact hlt)]; exact (Hown.out.put j _).1, hg.trans (Hown.out.put j _).2⟩
      case measure => simp [intOf]; omega
    · obtain rfl : j = n := by omega
      rw [← hlen, marked_all, hlen] at hown
      clear hlen
      go_wp2
      go_ret
      exact ⟨rfl, hown, hg⟩

theorem heldIntS_any (A : Option Addr) (n c : Nat) (k : Int) (w : World) (h : RdI w A (marks k n)) (hn : n ≤ 1000000000) (hk0 : 0 ≤ k) (hk : k ≤ 1000000000000) :
    Calls Try.prog 30 #[.slice A n c, vi k] w fun e w' => e = .returned (vi (k + n)) ∧ w = w' := by
  go_enter Try.func30, Try.ntmps30
  go_wp2
  go_loop [1, 5] (fun m i => ∃ j : Nat, j ≤ n ∧ i = vi j ∧ m = vi (k + j)) (fun _ i => n - (intOf i).toNat)
  case atStart => exact ⟨0, Nat.zero_le _, rfl, by go_num⟩
  case round =>
    obtain ⟨j, hj, rfl, rfl⟩ := hrel
    by_cases hlt : j < n
    · obtain ⟨b, o, rfl, hbl, hc⟩ := h (by rw [length_marks]; omega)
      have hck := hc j (by rw [length_marks]; omega)
      rw [nth_marks k n j hlt] at hck
      clear hc h
      go_wp2
      go_round
      case rel => exact ⟨j + 1, by omega, by go_num, by go_num⟩
      case measure => simp [intOf]; omega
    · obtain rfl : j = n := by omega
      go_wp2
      go_ret
      exact ⟨rfl, rfl⟩

theorem sameInts_any (A B : Option Addr) (c d : Nat) (l m : List Int) (w : World) (h : RdI w A l) (hm : RdI w B m) (hl : l.length ≤ 1000000000) (hml : m.length ≤ 1000000000) :
    Calls Try.prog 33 #[.slice A l.length c, .slice B m.length d] w fun e w' => e = .returned (.bool (same l m)) ∧ ∃ n, w' = w.drewN n := by
  by_cases hne : l.length = m.length
  · have hd : (l.length != m.length) = false := by simp [hne]
    have hd2 : ((l.length : Int) != (m.length : Int)) = false := by simp [hne]
    have Hne := Lib.hid hne
    clear hne
    go_enter Try.func33, Try.ntmps33
    go_wp2
    go_loopw [5] (fun i wr => ∃ k : Nat, k ≤ l.length ∧ i = vi k ∧ (∀ j, j < k → nth l j = nth m j) ∧ ∃ n, wr = w.drewN n) (fun i _ => l.length - (intOf i).toNat)
    case atStart => exact ⟨0, Nat.zero_le _, rfl, fun j hj => absurd hj (by omega), 0, rfl⟩
    case round =>
      obtain ⟨k, hk, rfl, hj, n, rfl⟩ := hrel
      have Hj := Lib.hid hj
      clear hj
      by_cases hlt : k < l.length
      · have hlm : k < m.length := by have := Hne.out; omega
        obtain ⟨b, o, rfl, hbl, hc⟩ := h (by omega)
        obtain ⟨b2, o2, rfl, hbl2, hc2⟩ := hm (by omega)
        have hck := hc k hlt
        have hck2 := hc2 k hlm
        clear hc hc2 h hm
        by_cases he : nth l k = nth m k
        · have hb1 : (nth l k != nth m k) = false := by simp [he]
          have He := Lib.hid he
          clear he
          go_wp2
          go_quiet (fail)
          go_wp2
          go_roundw
          case rel => exact ⟨k + 1, by omega, by go_num, fun j hj => by
            rcases Nat.lt_succ_iff_lt_or_eq.1 hj with h1 | h1
            · exact Hj.out j h1
            · subst h1; exact He.out, _, rfl⟩
          case measure => simp [intOf]; omega
        · have hb1 : (nth l k != nth m k) = true := by simp [he]
          have Hs : Hid (same l m = false) := by
            refine decide_eq_false fun e => he ?_
            rw [e]
          clear he
          go_wp2
          go_quiet (fail)
          go_wp2
          go_ret
          exact ⟨by rw [Hs.out]; rfl, drew_ex⟩
      · have hkl : k = l.length := by omega
        have Hs : Hid (same l m = true) := decide_eq_true (ext_nth Hne.out fun j hj => Hj.out j (by omega))
        clear hkl
        go_wp2
        go_ret
        exact ⟨by rw [Hs.out]; rfl, _, rfl⟩
  · have hd : (l.length != m.length) = true := by simp [hne]
    have hd2 : ((l.length : Int) != (m.length : Int)) = true := by simp; omega
    have Hs : Hid (same l m = false) := decide_eq_false fun e => hne (by rw [e])
    clear hne
    go_enter Try.func33, Try.ntmps33
    go_wp2
    go_ret
    exact ⟨by rw [Hs.out]; rfl, 0, rfl⟩

theorem clone_any (A : Option Addr) (c : Nat) (l : List Int) (w : World) (h : RdI w A l) (hl : l.length ≤ 1000000000) :
    Calls Try.prog 67 #[.slice A l.length c] w (NewI w l) := by
  obtain ⟨i0, hi, hz0, hz1, hz2⟩ := info_parts intInfo
  rcases A with _ | a
  · have hl0 : l = [] := by
      rcases Nat.eq_zero_or_pos l.length with h0 | h0
      · exact List.eq_nil_of_length_eq_zero h0
      · obtain ⟨b, o, e, _⟩ := h h0; cases e
    subst hl0
    have heq := fun w => Lib.run_eql_slice_nil (P := Try.prog) w 30 3 none 0 c 0 0 Try.underlying30
    go_enter Try.func67, Try.ntmps67
    go_wp2
    go_ret
    exact ⟨none, 0, rfl, OwnI.nil_ _ _, Below.refl _ _⟩
  · have heq := fun w => Lib.run_eql_slice_nil (P := Try.prog) w 30 3 (some a) l.length c 0 0 Try.underlying30
    have hone : ∀ u ∈ l.map vi, u.oneCell' = true := by
      intro u hu
      obtain ⟨x, _, rfl⟩ := List.mem_map.1 hu
      rfl
    have hcells : ∀ j u, (l.map vi)[j]? = some u → (w.alloc (.cells #[] 3)).cell? (a.add j) = some u := by
      intro j u hu
      rcases Nat.eq_zero_or_pos l.length with h0 | h0
      · rw [List.eq_nil_of_length_eq_zero h0] at hu; simp at hu
      · obtain ⟨b, o, e, hb, hc⟩ := h h0
        injection e with e; subst e
        have hj : j < l.length := by
          have := (List.getElem?_eq_some_iff.1 hu).1; simpa using this
        rw [Addr.add_lit, World.cell?_alloc_past _ _ _ hb, hc j hj, nth_eq l j hj]
        simpa [hj] using hu
    go_enter Try.func67, Try.ntmps67
    go_wp2_with (at_builtin; refine wpList_append_own _ rfl (.tmp 5) (.tmp 6) _ rfl w.heap.size 3 i0 (vi 0) 1 8 Try.underlying30 hi hz0 hz1 hz2 rfl (by decide) (.slice (some ⟨w.heap.size, 0, none⟩) 0 0) 0 [] rfl (OwnI.none_made w) a l.length c (l.map vi) rfl (by simp) hcells hone (by simp only [maxLen]; omega) (by omega) (by simp) ?_; intro v1 w1 hown1 hg1 hn1)
    have hb1 : Below w.heap.size w w1 := ((Below.refl _ _).alloc (Nat.le_refl _) _).grown hg1 (by simp) (fun k hk => by simp [Value.ownBlock] at hk; omega)
    go_ret
    simp only [Nat.zero_add, List.nil_append] at hown1
    rcases hown1.2 with ⟨rfl, e⟩ | ⟨g, cap, cur, rfl, r⟩
    · have : l = [] := List.eq_nil_of_length_eq_zero e
      subst this
      exact ⟨none, 0, rfl, OwnI.nil_ _ _, hb1⟩
    · exact ⟨_, _, rfl, hown1, hb1⟩
end Go.Proofs.Ytpabfbaoibmnlaa
