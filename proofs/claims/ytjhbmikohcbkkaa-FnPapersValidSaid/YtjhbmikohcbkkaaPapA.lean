/-
  Contracts: marks of a box; papers are valid.
-/
import Derived.Test.YtjhbmikohcbkkaaHas
import Derived.Test.YtjhbmikohcbkkaaPair
import Derived.Test.YtjhbmikohcbkkaaBoxA
namespace Go.Proofs.Ytjhbmikohcbkkaa
open Go.RowKit
set_option linter.unusedVariables false
set_option maxRecDepth 100000

theorem implMarksOf (A : Option Addr) (c : Nat) (hl : List (Int × Int)) (B : Option Addr) (d : Nat) (ll : List Int) (id : Int) (w : World) (h : Rd encP w A hl) (hi : RdI w B ll) (hl1 : hl.length ≤ 1000000000) (hl2 : ll.length ≤ 1000000000) :
    Calls Try.prog 17 #[.agg #[.slice A hl.length c, .slice B ll.length d], vi id] w fun e w' => e = .returned (vi (marksOf hl id)) ∧ Below w.heap.size w w' := by
  have H0 := Lib.hid ((Below.refl w.heap.size w).alloc (Nat.le_refl _) (.cells #[.slice A hl.length c, .slice B ll.length d] 37))
  have hR := h.alloc (.cells #[.slice A hl.length c, .slice B ll.length d] 37)
  have hg0 : (w.alloc (.cells #[.slice A hl.length c, .slice B ll.length d] 37)).cell? ⟨w.heap.size, 0, none⟩ = some (.slice A hl.length c) := by simp
  clear h hi
  go_enter Try.func17, Try.ntmps17
  go_wp2
  generalize hw0 : w.alloc (.cells #[.slice A hl.length c, .slice B ll.length d] 37) = w0 at *
  go_loopw [10] (fun i wr => ∃ k : Nat, k ≤ hl.length ∧ i = vi k ∧ (∀ j, j < k → ¬ (nth hl j).1 = id) ∧ Below w0.heap.size w0 wr) (fun i _ => hl.length - (intOf i).toNat)
  case atStart => exact ⟨0, Nat.zero_le _, rfl, (fun j hj => absurd hj (by omega)), Below.refl _ _⟩
  case round =>
    obtain ⟨k, hk, rfl, hj, hb⟩ := hrel
    have Hj := Lib.hid hj
    have HB := Lib.hid hb
    have hgk := (hb.cell (World.block_lt_of_cell? w0 _ hg0)).trans hg0
    clear hj
    by_cases hlt : k < hl.length
    · obtain ⟨b, o, rfl, hbl, _⟩ := hR.below hb (by omega)
      obtain ⟨hc1, hc2⟩ := (hR.below hb).at2 k hlt
      clear hR hb hg0
      by_cases he : (nth hl k).1 = id
      · have he1 : ((nth hl k).1 == id) = true := by simp [he]
        have Hr := Lib.hid (marksOf_hit hlt he Hj.out)
        clear he
        go_wp2
        go_ret
        exact ⟨by rw [Hr.out]; rfl, bthen H0.out (HB.out.alloc HB.out.size _)⟩
      · have he1 : ((nth hl k).1 == id) = false := by simp [he]
        have He := Lib.hid he
        clear he
        go_wp2
        go_roundw
        case rel => exact ⟨k + 1, by omega, by go_num, (fun j hj => by
          rcases Nat.lt_succ_iff_lt_or_eq.1 hj with h1 | h1
          · exact Hj.out j h1
          · subst h1; exact He.out), (HB.out.alloc HB.out.size _)⟩
        case measure => simp [intOf]; omega
    · obtain rfl : k = hl.length := by omega
      have Hr := Lib.hid (marksOf_miss Hj.out)
      clear hb
      go_wp2
      go_ret
      exact ⟨by rw [Hr.out]; rfl, bthen H0.out HB.out⟩

theorem specMarksOf (A : Option Addr) (c : Nat) (hl : List (Int × Int)) (B : Option Addr) (d : Nat) (ll : List Int) (id : Int) (w : World) (h : Rd encP w A hl) (hi : RdI w B ll) (hl1 : hl.length ≤ 1000000000) (hl2 : ll.length ≤ 1000000000) :
    Calls Try.prog 15 #[.agg #[.slice A hl.length c, .slice B ll.length d], vi id] w fun e w' => e = .returned (vi (marksOf hl id)) ∧ Below w.heap.size w w' := by
  have H0 := Lib.hid ((Below.refl w.heap.size w).alloc (Nat.le_refl _) (.cells #[.slice A hl.length c, .slice B ll.length d] 37))
  have hR := h.alloc (.cells #[.slice A hl.length c, .slice B ll.length d] 37)
  have hg0 : (w.alloc (.cells #[.slice A hl.length c, .slice B ll.length d] 37)).cell? ⟨w.heap.size, 0, none⟩ = some (.slice A hl.length c) := by simp
  clear h hi
  go_enter Try.func15, Try.ntmps15
  go_wp2
  generalize hw0 : w.alloc (.cells #[.slice A hl.length c, .slice B ll.length d] 37) = w0 at *
  go_loopw [5] (fun i wr => ∃ k : Nat, k ≤ hl.length ∧ i = vi k ∧ (∀ j, j < k → ¬ (nth hl j).1 = id) ∧ Below w0.heap.size w0 wr) (fun i _ => hl.length - (intOf i).toNat)
  case atStart => exact ⟨0, Nat.zero_le _, rfl, (fun j hj => absurd hj (by omega)), Below.refl _ _⟩
  case round =>
    obtain ⟨k, hk, rfl, hj, hb⟩ := hrel
    have Hj := Lib.hid hj
    have HB := Lib.hid hb
    have hgk := (hb.cell (World.block_lt_of_cell? w0 _ hg0)).trans hg0
    clear hj
    by_cases hlt : k < hl.length
    · obtain ⟨b, o, rfl, hbl, _⟩ := hR.below hb (by omega)
      obtain ⟨hc1, hc2⟩ := (hR.below hb).at2 k hlt
      clear hR hb hg0
      by_cases he : (nth hl k).1 = id
      · have he1 : ((nth hl k).1 == id) = true := by simp [he]
        have Hr := Lib.hid (marksOf_hit hlt he Hj.out)
        clear he
        go_wp2
        go_ret
        exact ⟨by rw [Hr.out]; rfl, bthen H0.out HB.out⟩
      · have he1 : ((nth hl k).1 == id) = false := by simp [he]
        have He := Lib.hid he
        clear he
        go_wp2
        go_roundw
        case rel => exact ⟨k + 1, by omega, by go_num, (fun j hj => by
          rcases Nat.lt_succ_iff_lt_or_eq.1 hj with h1 | h1
          · exact Hj.out j h1
          · subst h1; exact He.out), HB.out⟩
        case measure => simp [intOf]; omega
    · obtain rfl : k = hl.length := by omega
      have Hr := Lib.hid (marksOf_miss Hj.out)
      clear hb
      go_wp2
      go_ret
      exact ⟨by rw [Hr.out]; rfl, bthen H0.out HB.out⟩

set_option maxHeartbeats 1000000 in
theorem implPapersValid (A : Option Addr) (c : Nat) (hl : List (Int × Int)) (B : Option Addr) (d : Nat) (ll : List Int) (w : World) (h : Rd encP w A hl) (hi : RdI w B ll) (hl1 : hl.length ≤ 1000000000) (hl2 : ll.length ≤ 1000000000) :
    Calls Try.prog 20 #[.agg #[.slice A hl.length c, .slice B ll.length d]] w fun e w' => e = .returned (.bool (papersOk hl ll)) ∧ Below w.heap.size w w' := by
  have H0 := Lib.hid ((Below.refl w.heap.size w).alloc (Nat.le_refl _) (.cells #[.slice A hl.length c, .slice B ll.length d] 37))
  have hR := h.alloc (.cells #[.slice A hl.length c, .slice B ll.length d] 37)
  have hI := hi.alloc (.cells #[.slice A hl.length c, .slice B ll.length d] 37)
  have hg0 : (w.alloc (.cells #[.slice A hl.length c, .slice B ll.length d] 37)).cell? ⟨w.heap.size, 0, none⟩ = some (.slice A hl.length c) := by simp
  have hg1 : (w.alloc (.cells #[.slice A hl.length c, .slice B ll.length d] 37)).cell? ⟨w.heap.size, 1, none⟩ = some (.slice B ll.length d) := by simp
  clear h hi
  go_enter Try.func20, Try.ntmps20
  go_wp2
  generalize hw0 : w.alloc (.cells #[.slice A hl.length c, .slice B ll.length d] 37) = w0 at *
  have hgs : w.heap.size < w0.heap.size := by rw [← hw0]; simp
  clear hw0
  go_loopw [10] (fun i wr => ∃ k : Nat, k ≤ hl.length ∧ i = vi k ∧ (∀ j, j < k → hdOk hl ll j = true) ∧ Below w0.heap.size w0 wr) (fun i _ => hl.length - (intOf i).toNat)
  case atStart => exact ⟨0, Nat.zero_le _, rfl, (fun j hj => absurd hj (by omega)), Below.refl _ _⟩
  case round =>
    obtain ⟨k, hk, rfl, hj, hb⟩ := hrel
    have Hj := Lib.hid hj
    have HB := Lib.hid hb
    have hgk := (hb.cell (World.block_lt_of_cell? w0 _ hg0)).trans hg0
    have hgl := (hb.cell (World.block_lt_of_cell? w0 _ hg1)).trans hg1
    have hsz := hb.size
    have hne : w.heap.size ≠ wr.heap.size := by omega
    clear hj
    by_cases hlt : k < hl.length
    · obtain ⟨b, o, rfl, hbl, _⟩ := hR.below hb (by omega)
      obtain ⟨hc1, hc2⟩ := (hR.below hb).at2 k hlt
      have HP := Lib.hid (fun h0 : 0 < k => ((hR.below hb).at2 (k - 1) (by omega)).1)
      have HC := Lib.hid (fun n => contains_any B d ll (nth hl k).1 ((wr.alloc (.cells #[vi (nth hl k).1, vi (nth hl k).2] 51)).drewN n) (((hI.below hb).alloc (.cells #[vi (nth hl k).1, vi (nth hl k).2] 51)).drewN n) hl2)
      clear hR hI hb hg0 hg1
      cases hw1 : win (nth hl k).1 1 999 with
      | false =>
        have Hr := Lib.hid (papersOk_no1 (ll := ll) hlt (hdOk_f1 hw1))
        go_wp2
        generalize hw1 : wr.alloc (.cells #[vi (nth hl k).1, vi (nth hl k).2] 51) = w1 at *
        have hq0 : w1.cell? ⟨wr.heap.size, 0, none⟩ = some (vi (nth hl k).1) := by rw [← hw1]; simp
        have hq1 : w1.cell? ⟨wr.heap.size, 1, none⟩ = some (vi (nth hl k).2) := by rw [← hw1]; simp
        have hqk : w1.cell? ⟨w.heap.size, 0, none⟩ = some (.slice (some ⟨b, o, none⟩) hl.length c) := by rw [← hw1, World.cell?_alloc_past _ _ _ (by omega)]; exact hgk
        have hql : w1.cell? ⟨w.heap.size, 1, none⟩ = some (.slice B ll.length d) := by rw [← hw1, World.cell?_alloc_past _ _ _ (by omega)]; exact hgl
        have HB1 := Lib.hid (show Below w0.heap.size w0 w1 by rw [← hw1]; exact HB.out.alloc HB.out.size _)
        clear hw1 hgk hgl
        go_quiet ((first | (go_at_call 42; exact quiet_left (isId_any _ _)) | (go_at_call 33; exact quiet_left (within_any _ _ _ _)) | (go_at_call 31; exact quiet_left (l1In_any _ _ _ _))))
        go_wp2
        go_ret
        exact ⟨by rw [Hr.out]; rfl, bthen H0.out (below_drewN HB1.out _)⟩
      | true =>
        cases hw2 : win (nth hl k).2 1 7 with
        | false =>
          have Hr := Lib.hid (papersOk_no1 (ll := ll) hlt (hdOk_f2 hw2))
          go_wp2
          generalize hw1 : wr.alloc (.cells #[vi (nth hl k).1, vi (nth hl k).2] 51) = w1 at *
          have hq0 : w1.cell? ⟨wr.heap.size, 0, none⟩ = some (vi (nth hl k).1) := by rw [← hw1]; simp
          have hq1 : w1.cell? ⟨wr.heap.size, 1, none⟩ = some (vi (nth hl k).2) := by rw [← hw1]; simp
          have hqk : w1.cell? ⟨w.heap.size, 0, none⟩ = some (.slice (some ⟨b, o, none⟩) hl.length c) := by rw [← hw1, World.cell?_alloc_past _ _ _ (by omega)]; exact hgk
          have hql : w1.cell? ⟨w.heap.size, 1, none⟩ = some (.slice B ll.length d) := by rw [← hw1, World.cell?_alloc_past _ _ _ (by omega)]; exact hgl
          have HB1 := Lib.hid (show Below w0.heap.size w0 w1 by rw [← hw1]; exact HB.out.alloc HB.out.size _)
          clear hw1 hgk hgl
          go_quiet ((first | (go_at_call 42; exact quiet_left (isId_any _ _)) | (go_at_call 33; exact quiet_left (within_any _ _ _ _)) | (go_at_call 31; exact quiet_left (l1In_any _ _ _ _))))
          go_wp2
          go_ret
          exact ⟨by rw [Hr.out]; rfl, bthen H0.out (below_drewN HB1.out _)⟩
        | true =>
          by_cases hk0 : k = 0
          · subst hk0
            simp only [Nat.zero_mul, Nat.add_zero] at hc1 hc2
            cases hm : hasI ll (nth hl 0).1 with
            | true =>
              have Hr := Lib.hid (papersOk_no1 hlt (hdOk_f4 hm))
              rw [hm] at HC
              clear hm
              go_wp2
              generalize hw1 : wr.alloc (.cells #[vi (nth hl 0).1, vi (nth hl 0).2] 51) = w1 at *
              have hq0 : w1.cell? ⟨wr.heap.size, 0, none⟩ = some (vi (nth hl 0).1) := by rw [← hw1]; simp
              have hq1 : w1.cell? ⟨wr.heap.size, 1, none⟩ = some (vi (nth hl 0).2) := by rw [← hw1]; simp
              have hqk : w1.cell? ⟨w.heap.size, 0, none⟩ = some (.slice (some ⟨b, o, none⟩) hl.length c) := by rw [← hw1, World.cell?_alloc_past _ _ _ (by omega)]; exact hgk
              have hql : w1.cell? ⟨w.heap.size, 1, none⟩ = some (.slice B ll.length d) := by rw [← hw1, World.cell?_alloc_past _ _ _ (by omega)]; exact hgl
              have HB1 := Lib.hid (show Below w0.heap.size w0 w1 by rw [← hw1]; exact HB.out.alloc HB.out.size _)
              clear hw1 hgk hgl
              go_quiet ((first | (go_at_call 42; exact quiet_left (isId_any _ _)) | (go_at_call 33; exact quiet_left (within_any _ _ _ _)) | (go_at_call 31; exact quiet_left (l1In_any _ _ _ _)) | (go_at_call 43; exact quiet_left (HC.out _)) | (go_at_call 41; exact quiet_left (HC.out _))))
              go_wp2
              go_ret
              exact ⟨by rw [Hr.out]; rfl, bthen H0.out (below_drewN HB1.out _)⟩
            | false =>
              have Hk := Lib.hid (hdOk_mk hw1 hw2 (fun h => absurd h (by omega)) hm)
              rw [hm] at HC
              clear hm
              go_wp2
              generalize hw1 : wr.alloc (.cells #[vi (nth hl 0).1, vi (nth hl 0).2] 51) = w1 at *
              have hq0 : w1.cell? ⟨wr.heap.size, 0, none⟩ = some (vi (nth hl 0).1) := by rw [← hw1]; simp
              have hq1 : w1.cell? ⟨wr.heap.size, 1, none⟩ = some (vi (nth hl 0).2) := by rw [← hw1]; simp
              have hqk : w1.cell? ⟨w.heap.size, 0, none⟩ = some (.slice (some ⟨b, o, none⟩) hl.length c) := by rw [← hw1, World.cell?_alloc_past _ _ _ (by omega)]; exact hgk
              have hql : w1.cell? ⟨w.heap.size, 1, none⟩ = some (.slice B ll.length d) := by rw [← hw1, World.cell?_alloc_past _ _ _ (by omega)]; exact hgl
              have HB1 := Lib.hid (show Below w0.heap.size w0 w1 by rw [← hw1]; exact HB.out.alloc HB.out.size _)
              clear hw1 hgk hgl
              go_quiet ((first | (go_at_call 42; exact quiet_left (isId_any _ _)) | (go_at_call 33; exact quiet_left (within_any _ _ _ _)) | (go_at_call 31; exact quiet_left (l1In_any _ _ _ _)) | (go_at_call 43; exact quiet_left (HC.out _)) | (go_at_call 41; exact quiet_left (HC.out _))))
              go_wp2
              go_roundw
              case rel => exact ⟨1, by omega, by go_num, (fun j hj => by
                rcases Nat.lt_succ_iff_lt_or_eq.1 (show j < 0 + 1 from hj) with h1 | h1
                · exact Hj.out j h1
                · subst h1; exact Hk.out), (below_drewN HB1.out _)⟩
              case measure => simp [intOf]; omega
          · have hkp : 0 < k := by omega
            have hkp2 : (0 : Int) < (k : Int) := by omega
            have hc3 := HP.out hkp
            have ek : ((k : Int) - 1) = ((k - 1 : Nat) : Int) := by omega
            have hkw2 : IntKind.i64.wrap ((k - 1 : Nat) : Int) = ((k - 1 : Nat) : Int) := by rw [IntKind.wrap_i64]; omega
            by_cases hle : (nth hl k).1 ≤ (nth hl (k - 1)).1
            · have Hr := Lib.hid (papersOk_no1 (ll := ll) hlt (hdOk_f3 hkp hle))
              go_wp2
              generalize hw1 : wr.alloc (.cells #[vi (nth hl k).1, vi (nth hl k).2] 51) = w1 at *
              have hq0 : w1.cell? ⟨wr.heap.size, 0, none⟩ = some (vi (nth hl k).1) := by rw [← hw1]; simp
              have hq1 : w1.cell? ⟨wr.heap.size, 1, none⟩ = some (vi (nth hl k).2) := by rw [← hw1]; simp
              have hqk : w1.cell? ⟨w.heap.size, 0, none⟩ = some (.slice (some ⟨b, o, none⟩) hl.length c) := by rw [← hw1, World.cell?_alloc_past _ _ _ (by omega)]; exact hgk
              have hql : w1.cell? ⟨w.heap.size, 1, none⟩ = some (.slice B ll.length d) := by rw [← hw1, World.cell?_alloc_past _ _ _ (by omega)]; exact hgl
              have hq3 : w1.cell? ⟨b, o + (k - 1) * 2, none⟩ = some (vi (nth hl (k - 1)).1) := by rw [← hw1, World.cell?_alloc_past _ _ _ (by omega)]; exact hc3
              have HB1 := Lib.hid (show Below w0.heap.size w0 w1 by rw [← hw1]; exact HB.out.alloc HB.out.size _)
              clear hw1 hgk hgl
              go_quiet ((first | (go_at_call 42; exact quiet_left (isId_any _ _)) | (go_at_call 33; exact quiet_left (within_any _ _ _ _)) | (go_at_call 31; exact quiet_left (l1In_any _ _ _ _))))
              go_wp2
              go_ret
              exact ⟨by rw [Hr.out]; rfl, bthen H0.out (below_drewN HB1.out _)⟩
            · have hgt : (nth hl (k - 1)).1 < (nth hl k).1 := by omega
              have hdec : decide ((nth hl k).1 ≤ (nth hl (k - 1)).1) = false := by simp; omega
              clear hle
              cases hm : hasI ll (nth hl k).1 with
              | true =>
                have Hr := Lib.hid (papersOk_no1 hlt (hdOk_f4 hm))
                rw [hm] at HC
                clear hm
                go_wp2
                generalize hw1 : wr.alloc (.cells #[vi (nth hl k).1, vi (nth hl k).2] 51) = w1 at *
                have hq0 : w1.cell? ⟨wr.heap.size, 0, none⟩ = some (vi (nth hl k).1) := by rw [← hw1]; simp
                have hq1 : w1.cell? ⟨wr.heap.size, 1, none⟩ = some (vi (nth hl k).2) := by rw [← hw1]; simp
                have hqk : w1.cell? ⟨w.heap.size, 0, none⟩ = some (.slice (some ⟨b, o, none⟩) hl.length c) := by rw [← hw1, World.cell?_alloc_past _ _ _ (by omega)]; exact hgk
                have hql : w1.cell? ⟨w.heap.size, 1, none⟩ = some (.slice B ll.length d) := by rw [← hw1, World.cell?_alloc_past _ _ _ (by omega)]; exact hgl
                have hq3 : w1.cell? ⟨b, o + (k - 1) * 2, none⟩ = some (vi (nth hl (k - 1)).1) := by rw [← hw1, World.cell?_alloc_past _ _ _ (by omega)]; exact hc3
                have HB1 := Lib.hid (show Below w0.heap.size w0 w1 by rw [← hw1]; exact HB.out.alloc HB.out.size _)
                clear hw1 hgk hgl
                go_quiet ((first | (go_at_call 42; exact quiet_left (isId_any _ _)) | (go_at_call 33; exact quiet_left (within_any _ _ _ _)) | (go_at_call 31; exact quiet_left (l1In_any _ _ _ _)) | (go_at_call 43; exact quiet_left (HC.out _)) | (go_at_call 41; exact quiet_left (HC.out _))))
                go_wp2
                go_ret
                exact ⟨by rw [Hr.out]; rfl, bthen H0.out (below_drewN HB1.out _)⟩
              | false =>
                have Hk := Lib.hid (hdOk_mk hw1 hw2 (fun _ => by omega) hm)
                rw [hm] at HC
                clear hm
                go_wp2
                generalize hw1 : wr.alloc (.cells #[vi (nth hl k).1, vi (nth hl k).2] 51) = w1 at *
                have hq0 : w1.cell? ⟨wr.heap.size, 0, none⟩ = some (vi (nth hl k).1) := by rw [← hw1]; simp
                have hq1 : w1.cell? ⟨wr.heap.size, 1, none⟩ = some (vi (nth hl k).2) := by rw [← hw1]; simp
                have hqk : w1.cell? ⟨w.heap.size, 0, none⟩ = some (.slice (some ⟨b, o, none⟩) hl.length c) := by rw [← hw1, World.cell?_alloc_past _ _ _ (by omega)]; exact hgk
                have hql : w1.cell? ⟨w.heap.size, 1, none⟩ = some (.slice B ll.length d) := by rw [← hw1, World.cell?_alloc_past _ _ _ (by omega)]; exact hgl
                have hq3 : w1.cell? ⟨b, o + (k - 1) * 2, none⟩ = some (vi (nth hl (k - 1)).1) := by rw [← hw1, World.cell?_alloc_past _ _ _ (by omega)]; exact hc3
                have HB1 := Lib.hid (show Below w0.heap.size w0 w1 by rw [← hw1]; exact HB.out.alloc HB.out.size _)
                clear hw1 hgk hgl
                go_quiet ((first | (go_at_call 42; exact quiet_left (isId_any _ _)) | (go_at_call 33; exact quiet_left (within_any _ _ _ _)) | (go_at_call 31; exact quiet_left (l1In_any _ _ _ _)) | (go_at_call 43; exact quiet_left (HC.out _)) | (go_at_call 41; exact quiet_left (HC.out _))))
                go_wp2
                go_roundw
                case rel => exact ⟨k + 1, by omega, by go_num, (fun j hj => by
                  rcases Nat.lt_succ_iff_lt_or_eq.1 hj with h1 | h1
                  · exact Hj.out j h1
                  · subst h1; exact Hk.out), (below_drewN HB1.out _)⟩
                case measure => simp [intOf]; omega
    · obtain rfl : k = hl.length := by omega
      have HJ1 := Hj
      obtain ⟨wm, hwm⟩ : ∃ x, x = wr := ⟨wr, rfl⟩
      subst hwm
      have hIm := hI.below hb
      clear hR hI hb hg0 hg1 Hj
      go_wp2
      go_loopw [52] (fun i wr => ∃ k : Nat, k ≤ ll.length ∧ i = vi k ∧ (∀ j, j < k → lfOk ll j = true) ∧ Below wm.heap.size wm wr) (fun i _ => ll.length - (intOf i).toNat)
      case atStart => exact ⟨0, Nat.zero_le _, rfl, (fun j hj => absurd hj (by omega)), Below.refl _ _⟩
      case round =>
        obtain ⟨k, hk2, rfl, hj, hb2⟩ := hrel
        have Hj := Lib.hid hj
        have HB2 := Lib.hid (bthen HB.out hb2)
        have HB3 := Lib.hid hb2
        have hgk2 := (hb2.cell (World.block_lt_of_cell? wm _ hgk)).trans hgk
        have hgl2 := (hb2.cell (World.block_lt_of_cell? wm _ hgl)).trans hgl
        replace hIm := hIm.below hb2
        clear hj hgk hgl hb2
        by_cases hlt2 : k < ll.length
        · obtain ⟨b, o, rfl, hbl, hcc⟩ := hIm (by omega)
          have hc1 := hcc k hlt2
          have HP := Lib.hid (fun h0 : 0 < k => hcc (k - 1) (by omega))
          clear hIm hcc
          cases hw1 : win (nth ll k) 1 999 with
          | false =>
            have Hr := Lib.hid (papersOk_no2 (hl := hl) hlt2 (lfOk_f1 hw1))
            go_wp2_with (first | (go_at_call 42; refine (isId_any _ _).mono ?_; rintro e w' ⟨rfl, rfl⟩) | (go_at_call 33; refine (within_any _ _ _ _).mono ?_; rintro e w' ⟨rfl, rfl⟩))
            go_ret
            exact ⟨by rw [Hr.out]; rfl, bthen H0.out HB2.out⟩
          | true =>
            by_cases hk0 : k = 0
            · subst hk0
              simp only [Nat.add_zero] at hc1
              have Hk := Lib.hid (lfOk_mk (k := 0) hw1 (fun h => absurd h (by omega)))
              go_wp2_with (first | (go_at_call 42; refine (isId_any _ _).mono ?_; rintro e w' ⟨rfl, rfl⟩) | (go_at_call 33; refine (within_any _ _ _ _).mono ?_; rintro e w' ⟨rfl, rfl⟩))
              go_roundw
              case rel => exact ⟨1, by omega, by go_num, (fun j hj => by
                rcases Nat.lt_succ_iff_lt_or_eq.1 hj with h1 | h1
                · exact Hj.out j h1
                · subst h1; exact Hk.out), HB3.out⟩
              case measure => simp [intOf]; omega
            · have hkp : 0 < k := by omega
              have hkp2 : (0 : Int) < (k : Int) := by omega
              have hc3 := HP.out hkp
              have ek : ((k : Int) - 1) = ((k - 1 : Nat) : Int) := by omega
              have hkw2 : IntKind.i64.wrap ((k - 1 : Nat) : Int) = ((k - 1 : Nat) : Int) := by rw [IntKind.wrap_i64]; omega
              by_cases hle : nth ll k ≤ nth ll (k - 1)
              · have Hr := Lib.hid (papersOk_no2 (hl := hl) hlt2 (lfOk_f2 hkp hle))
                go_wp2_with (first | (go_at_call 42; refine (isId_any _ _).mono ?_; rintro e w' ⟨rfl, rfl⟩) | (go_at_call 33; refine (within_any _ _ _ _).mono ?_; rintro e w' ⟨rfl, rfl⟩))
                go_ret
                exact ⟨by rw [Hr.out]; rfl, bthen H0.out HB2.out⟩
              · have Hk := Lib.hid (lfOk_mk hw1 (fun _ => hle))
                have hgt : nth ll (k - 1) < nth ll k := by omega
                clear hle
                go_wp2_with (first | (go_at_call 42; refine (isId_any _ _).mono ?_; rintro e w' ⟨rfl, rfl⟩) | (go_at_call 33; refine (within_any _ _ _ _).mono ?_; rintro e w' ⟨rfl, rfl⟩))
                go_roundw
                case rel => exact ⟨k + 1, by omega, by go_num, (fun j hj => by
                  rcases Nat.lt_succ_iff_lt_or_eq.1 hj with h1 | h1
                  · exact Hj.out j h1
                  · subst h1; exact Hk.out), HB3.out⟩
                case measure => simp [intOf]; omega
        · obtain rfl : k = ll.length := by omega
          have Hr := Lib.hid (papersOk_mk HJ1.out Hj.out)
          by_cases h12 : (hl.length : Int) ≤ 12
          · go_wp2
            go_ret
            exact ⟨by rw [Hr.out]; first | (simp [h12]; done) | (rw [decide_eq_true h12, Bool.true_and]; rfl) | (rw [decide_eq_false (show ¬ (hl.length : Int) ≤ 12 by omega), Bool.false_and]; rfl), bthen H0.out HB2.out⟩
          · go_wp2
            go_ret
            exact ⟨by rw [Hr.out]; first | (simp; done) | (rw [decide_eq_true h12, Bool.true_and]; rfl) | (rw [decide_eq_false (show ¬ (hl.length : Int) ≤ 12 by omega), Bool.false_and]; rfl), bthen H0.out HB2.out⟩

set_option maxHeartbeats 1000000 in
theorem specPapersValid (A : Option Addr) (c : Nat) (hl : List (Int × Int)) (B : Option Addr) (d : Nat) (ll : List Int) (w : World) (h : Rd encP w A hl) (hi : RdI w B ll) (hl1 : hl.length ≤ 1000000000) (hl2 : ll.length ≤ 1000000000) :
    Calls Try.prog 19 #[.agg #[.slice A hl.length c, .slice B ll.length d]] w fun e w' => e = .returned (.bool (papersOk hl ll)) ∧ Below w.heap.size w w' := by
  have H0 := Lib.hid ((Below.refl w.heap.size w).alloc (Nat.le_refl _) (.cells #[.slice A hl.length c, .slice B ll.length d] 37))
  have hR := h.alloc (.cells #[.slice A hl.length c, .slice B ll.length d] 37)
  have hI := hi.alloc (.cells #[.slice A hl.length c, .slice B ll.length d] 37)
  have hg0 : (w.alloc (.cells #[.slice A hl.length c, .slice B ll.length d] 37)).cell? ⟨w.heap.size, 0, none⟩ = some (.slice A hl.length c) := by simp
  have hg1 : (w.alloc (.cells #[.slice A hl.length c, .slice B ll.length d] 37)).cell? ⟨w.heap.size, 1, none⟩ = some (.slice B ll.length d) := by simp
  clear h hi
  go_enter Try.func19, Try.ntmps19
  go_wp2
  generalize hw0 : w.alloc (.cells #[.slice A hl.length c, .slice B ll.length d] 37) = w0 at *
  have hgs : w.heap.size < w0.heap.size := by rw [← hw0]; simp
  clear hw0
  go_loopw [3] (fun i wr => ∃ k : Nat, k ≤ hl.length ∧ i = vi k ∧ (∀ j, j < k → hdOk hl ll j = true) ∧ Below w0.heap.size w0 wr) (fun i _ => hl.length - (intOf i).toNat)
  case atStart => exact ⟨0, Nat.zero_le _, rfl, (fun j hj => absurd hj (by omega)), Below.refl _ _⟩
  case round =>
    obtain ⟨k, hk, rfl, hj, hb⟩ := hrel
    have Hj := Lib.hid hj
    have HB := Lib.hid hb
    have hgk := (hb.cell (World.block_lt_of_cell? w0 _ hg0)).trans hg0
    have hgl := (hb.cell (World.block_lt_of_cell? w0 _ hg1)).trans hg1
    have hsz := hb.size
    have hne : w.heap.size ≠ wr.heap.size := by omega
    clear hj
    by_cases hlt : k < hl.length
    · obtain ⟨b, o, rfl, hbl, _⟩ := hR.below hb (by omega)
      obtain ⟨hc1, hc2⟩ := (hR.below hb).at2 k hlt
      have HP := Lib.hid (fun h0 : 0 < k => ((hR.below hb).at2 (k - 1) (by omega)).1)
      have HC := Lib.hid (fun n => l1Has_any B d ll (nth hl k).1 ((wr.alloc (.cells #[vi (nth hl k).1, vi (nth hl k).2] 51)).drewN n) (((hI.below hb).alloc (.cells #[vi (nth hl k).1, vi (nth hl k).2] 51)).drewN n) hl2)
      clear hR hI hb hg0 hg1
      cases hw1 : win (nth hl k).1 1 999 with
      | false =>
        have Hr := Lib.hid (papersOk_no1 (ll := ll) hlt (hdOk_f1 hw1))
        go_wp2
        generalize hw1 : wr.alloc (.cells #[vi (nth hl k).1, vi (nth hl k).2] 51) = w1 at *
        have hq0 : w1.cell? ⟨wr.heap.size, 0, none⟩ = some (vi (nth hl k).1) := by rw [← hw1]; simp
        have hq1 : w1.cell? ⟨wr.heap.size, 1, none⟩ = some (vi (nth hl k).2) := by rw [← hw1]; simp
        have hqk : w1.cell? ⟨w.heap.size, 0, none⟩ = some (.slice (some ⟨b, o, none⟩) hl.length c) := by rw [← hw1, World.cell?_alloc_past _ _ _ (by omega)]; exact hgk
        have hql : w1.cell? ⟨w.heap.size, 1, none⟩ = some (.slice B ll.length d) := by rw [← hw1, World.cell?_alloc_past _ _ _ (by omega)]; exact hgl
        have HB1 := Lib.hid (show Below w0.heap.size w0 w1 by rw [← hw1]; exact HB.out.alloc HB.out.size _)
        clear hw1 hgk hgl
        go_quiet ((first | (go_at_call 42; exact quiet_left (isId_any _ _)) | (go_at_call 33; exact quiet_left (within_any _ _ _ _)) | (go_at_call 31; exact quiet_left (l1In_any _ _ _ _))))
        go_wp2
        go_ret
        exact ⟨by rw [Hr.out]; rfl, bthen H0.out (below_drewN HB1.out _)⟩
      | true =>
        cases hw2 : win (nth hl k).2 1 7 with
        | false =>
          have Hr := Lib.hid (papersOk_no1 (ll := ll) hlt (hdOk_f2 hw2))
          go_wp2
          generalize hw1 : wr.alloc (.cells #[vi (nth hl k).1, vi (nth hl k).2] 51) = w1 at *
          have hq0 : w1.cell? ⟨wr.heap.size, 0, none⟩ = some (vi (nth hl k).1) := by rw [← hw1]; simp
          have hq1 : w1.cell? ⟨wr.heap.size, 1, none⟩ = some (vi (nth hl k).2) := by rw [← hw1]; simp
          have hqk : w1.cell? ⟨w.heap.size, 0, none⟩ = some (.slice (some ⟨b, o, none⟩) hl.length c) := by rw [← hw1, World.cell?_alloc_past _ _ _ (by omega)]; exact hgk
          have hql : w1.cell? ⟨w.heap.size, 1, none⟩ = some (.slice B ll.length d) := by rw [← hw1, World.cell?_alloc_past _ _ _ (by omega)]; exact hgl
          have HB1 := Lib.hid (show Below w0.heap.size w0 w1 by rw [← hw1]; exact HB.out.alloc HB.out.size _)
          clear hw1 hgk hgl
          go_quiet ((first | (go_at_call 42; exact quiet_left (isId_any _ _)) | (go_at_call 33; exact quiet_left (within_any _ _ _ _)) | (go_at_call 31; exact quiet_left (l1In_any _ _ _ _))))
          go_wp2
          go_ret
          exact ⟨by rw [Hr.out]; rfl, bthen H0.out (below_drewN HB1.out _)⟩
        | true =>
          by_cases hk0 : k = 0
          · subst hk0
            simp only [Nat.zero_mul, Nat.add_zero] at hc1 hc2
            cases hm : hasI ll (nth hl 0).1 with
            | true =>
              have Hr := Lib.hid (papersOk_no1 hlt (hdOk_f4 hm))
              rw [hm] at HC
              clear hm
              go_wp2
              generalize hw1 : wr.alloc (.cells #[vi (nth hl 0).1, vi (nth hl 0).2] 51) = w1 at *
              have hq0 : w1.cell? ⟨wr.heap.size, 0, none⟩ = some (vi (nth hl 0).1) := by rw [← hw1]; simp
              have hq1 : w1.cell? ⟨wr.heap.size, 1, none⟩ = some (vi (nth hl 0).2) := by rw [← hw1]; simp
              have hqk : w1.cell? ⟨w.heap.size, 0, none⟩ = some (.slice (some ⟨b, o, none⟩) hl.length c) := by rw [← hw1, World.cell?_alloc_past _ _ _ (by omega)]; exact hgk
              have hql : w1.cell? ⟨w.heap.size, 1, none⟩ = some (.slice B ll.length d) := by rw [← hw1, World.cell?_alloc_past _ _ _ (by omega)]; exact hgl
              have HB1 := Lib.hid (show Below w0.heap.size w0 w1 by rw [← hw1]; exact HB.out.alloc HB.out.size _)
              clear hw1 hgk hgl
              go_quiet ((first | (go_at_call 42; exact quiet_left (isId_any _ _)) | (go_at_call 33; exact quiet_left (within_any _ _ _ _)) | (go_at_call 31; exact quiet_left (l1In_any _ _ _ _)) | (go_at_call 43; exact quiet_left (HC.out _)) | (go_at_call 41; exact quiet_left (HC.out _))))
              go_wp2
              go_ret
              exact ⟨by rw [Hr.out]; rfl, bthen H0.out (below_drewN HB1.out _)⟩
            | false =>
              have Hk := Lib.hid (hdOk_mk hw1 hw2 (fun h => absurd h (by omega)) hm)
              rw [hm] at HC
              clear hm
              go_wp2
              generalize hw1 : wr.alloc (.cells #[vi (nth hl 0).1, vi (nth hl 0).2] 51) = w1 at *
              have hq0 : w1.cell? ⟨wr.heap.size, 0, none⟩ = some (vi (nth hl 0).1) := by rw [← hw1]; simp
              have hq1 : w1.cell? ⟨wr.heap.size, 1, none⟩ = some (vi (nth hl 0).2) := by rw [← hw1]; simp
              have hqk : w1.cell? ⟨w.heap.size, 0, none⟩ = some (.slice (some ⟨b, o, none⟩) hl.length c) := by rw [← hw1, World.cell?_alloc_past _ _ _ (by omega)]; exact hgk
              have hql : w1.cell? ⟨w.heap.size, 1, none⟩ = some (.slice B ll.length d) := by rw [← hw1, World.cell?_alloc_past _ _ _ (by omega)]; exact hgl
              have HB1 := Lib.hid (show Below w0.heap.size w0 w1 by rw [← hw1]; exact HB.out.alloc HB.out.size _)
              clear hw1 hgk hgl
              go_quiet ((first | (go_at_call 42; exact quiet_left (isId_any _ _)) | (go_at_call 33; exact quiet_left (within_any _ _ _ _)) | (go_at_call 31; exact quiet_left (l1In_any _ _ _ _)) | (go_at_call 43; exact quiet_left (HC.out _)) | (go_at_call 41; exact quiet_left (HC.out _))))
              go_wp2
              go_roundw
              case rel => exact ⟨1, by omega, by go_num, (fun j hj => by
                rcases Nat.lt_succ_iff_lt_or_eq.1 (show j < 0 + 1 from hj) with h1 | h1
                · exact Hj.out j h1
                · subst h1; exact Hk.out), (below_drewN HB1.out _)⟩
              case measure => simp [intOf]; omega
          · have hkp : 0 < k := by omega
            have hkp2 : (0 : Int) < (k : Int) := by omega
            have hc3 := HP.out hkp
            have ek : ((k : Int) - 1) = ((k - 1 : Nat) : Int) := by omega
            have hkw2 : IntKind.i64.wrap ((k - 1 : Nat) : Int) = ((k - 1 : Nat) : Int) := by rw [IntKind.wrap_i64]; omega
            by_cases hle : (nth hl k).1 ≤ (nth hl (k - 1)).1
            · have Hr := Lib.hid (papersOk_no1 (ll := ll) hlt (hdOk_f3 hkp hle))
              go_wp2
              generalize hw1 : wr.alloc (.cells #[vi (nth hl k).1, vi (nth hl k).2] 51) = w1 at *
              have hq0 : w1.cell? ⟨wr.heap.size, 0, none⟩ = some (vi (nth hl k).1) := by rw [← hw1]; simp
              have hq1 : w1.cell? ⟨wr.heap.size, 1, none⟩ = some (vi (nth hl k).2) := by rw [← hw1]; simp
              have hqk : w1.cell? ⟨w.heap.size, 0, none⟩ = some (.slice (some ⟨b, o, none⟩) hl.length c) := by rw [← hw1, World.cell?_alloc_past _ _ _ (by omega)]; exact hgk
              have hql : w1.cell? ⟨w.heap.size, 1, none⟩ = some (.slice B ll.length d) := by rw [← hw1, World.cell?_alloc_past _ _ _ (by omega)]; exact hgl
              have hq3 : w1.cell? ⟨b, o + (k - 1) * 2, none⟩ = some (vi (nth hl (k - 1)).1) := by rw [← hw1, World.cell?_alloc_past _ _ _ (by omega)]; exact hc3
              have HB1 := Lib.hid (show Below w0.heap.size w0 w1 by rw [← hw1]; exact HB.out.alloc HB.out.size _)
              clear hw1 hgk hgl
              go_quiet ((first | (go_at_call 42; exact quiet_left (isId_any _ _)) | (go_at_call 33; exact quiet_left (within_any _ _ _ _)) | (go_at_call 31; exact quiet_left (l1In_any _ _ _ _))))
              go_wp2
              go_ret
              exact ⟨by rw [Hr.out]; rfl, bthen H0.out (below_drewN HB1.out _)⟩
            · have hgt : (nth hl (k - 1)).1 < (nth hl k).1 := by omega
              have hdec : decide ((nth hl k).1 ≤ (nth hl (k - 1)).1) = false := by simp; omega
              clear hle
              cases hm : hasI ll (nth hl k).1 with
              | true =>
                have Hr := Lib.hid (papersOk_no1 hlt (hdOk_f4 hm))
                rw [hm] at HC
                clear hm
                go_wp2
                generalize hw1 : wr.alloc (.cells #[vi (nth hl k).1, vi (nth hl k).2] 51) = w1 at *
                have hq0 : w1.cell? ⟨wr.heap.size, 0, none⟩ = some (vi (nth hl k).1) := by rw [← hw1]; simp
                have hq1 : w1.cell? ⟨wr.heap.size, 1, none⟩ = some (vi (nth hl k).2) := by rw [← hw1]; simp
                have hqk : w1.cell? ⟨w.heap.size, 0, none⟩ = some (.slice (some ⟨b, o, none⟩) hl.length c) := by rw [← hw1, World.cell?_alloc_past _ _ _ (by omega)]; exact hgk
                have hql : w1.cell? ⟨w.heap.size, 1, none⟩ = some (.slice B ll.length d) := by rw [← hw1, World.cell?_alloc_past _ _ _ (by omega)]; exact hgl
                have hq3 : w1.cell? ⟨b, o + (k - 1) * 2, none⟩ = some (vi (nth hl (k - 1)).1) := by rw [← hw1, World.cell?_alloc_past _ _ _ (by omega)]; exact hc3
                have HB1 := Lib.hid (show Below w0.heap.size w0 w1 by rw [← hw1]; exact HB.out.alloc HB.out.size _)
                clear hw1 hgk hgl
                go_quiet ((first | (go_at_call 42; exact quiet_left (isId_any _ _)) | (go_at_call 33; exact quiet_left (within_any _ _ _ _)) | (go_at_call 31; exact quiet_left (l1In_any _ _ _ _)) | (go_at_call 43; exact quiet_left (HC.out _)) | (go_at_call 41; exact quiet_left (HC.out _))))
                go_wp2
                go_ret
                exact ⟨by rw [Hr.out]; rfl, bthen H0.out (below_drewN HB1.out _)⟩
              | false =>
                have Hk := Lib.hid (hdOk_mk hw1 hw2 (fun _ => by omega) hm)
                rw [hm] at HC
                clear hm
                go_wp2
                generalize hw1 : wr.alloc (.cells #[vi (nth hl k).1, vi (nth hl k).2] 51) = w1 at *
                have hq0 : w1.cell? ⟨wr.heap.size, 0, none⟩ = some (vi (nth hl k).1) := by rw [← hw1]; simp
                have hq1 : w1.cell? ⟨wr.heap.size, 1, none⟩ = some (vi (nth hl k).2) := by rw [← hw1]; simp
                have hqk : w1.cell? ⟨w.heap.size, 0, none⟩ = some (.slice (some ⟨b, o, none⟩) hl.length c) := by rw [← hw1, World.cell?_alloc_past _ _ _ (by omega)]; exact hgk
                have hql : w1.cell? ⟨w.heap.size, 1, none⟩ = some (.slice B ll.length d) := by rw [← hw1, World.cell?_alloc_past _ _ _ (by omega)]; exact hgl
                have hq3 : w1.cell? ⟨b, o + (k - 1) * 2, none⟩ = some (vi (nth hl (k - 1)).1) := by rw [← hw1, World.cell?_alloc_past _ _ _ (by omega)]; exact hc3
                have HB1 := Lib.hid (show Below w0.heap.size w0 w1 by rw [← hw1]; exact HB.out.alloc HB.out.size _)
                clear hw1 hgk hgl
                go_quiet ((first | (go_at_call 42; exact quiet_left (isId_any _ _)) | (go_at_call 33; exact quiet_left (within_any _ _ _ _)) | (go_at_call 31; exact quiet_left (l1In_any _ _ _ _)) | (go_at_call 43; exact quiet_left (HC.out _)) | (go_at_call 41; exact quiet_left (HC.out _))))
                go_wp2
                go_roundw
                case rel => exact ⟨k + 1, by omega, by go_num, (fun j hj => by
                  rcases Nat.lt_succ_iff_lt_or_eq.1 hj with h1 | h1
                  · exact Hj.out j h1
                  · subst h1; exact Hk.out), (below_drewN HB1.out _)⟩
                case measure => simp [intOf]; omega
    · obtain rfl : k = hl.length := by omega
      have HJ1 := Hj
      obtain ⟨wm, hwm⟩ : ∃ x, x = wr := ⟨wr, rfl⟩
      subst hwm
      have hIm := hI.below hb
      clear hR hI hb hg0 hg1 Hj
      go_wp2
      go_loopw [5] (fun i wr => ∃ k : Nat, k ≤ ll.length ∧ i = vi k ∧ (∀ j, j < k → lfOk ll j = true) ∧ Below wm.heap.size wm wr) (fun i _ => ll.length - (intOf i).toNat)
      case atStart => exact ⟨0, Nat.zero_le _, rfl, (fun j hj => absurd hj (by omega)), Below.refl _ _⟩
      case round =>
        obtain ⟨k, hk2, rfl, hj, hb2⟩ := hrel
        have Hj := Lib.hid hj
        have HB2 := Lib.hid (bthen HB.out hb2)
        have HB3 := Lib.hid hb2
        have hgk2 := (hb2.cell (World.block_lt_of_cell? wm _ hgk)).trans hgk
        have hgl2 := (hb2.cell (World.block_lt_of_cell? wm _ hgl)).trans hgl
        replace hIm := hIm.below hb2
        clear hj hgk hgl hb2
        by_cases hlt2 : k < ll.length
        · obtain ⟨b, o, rfl, hbl, hcc⟩ := hIm (by omega)
          have hc1 := hcc k hlt2
          have HP := Lib.hid (fun h0 : 0 < k => hcc (k - 1) (by omega))
          clear hIm hcc
          cases hw1 : win (nth ll k) 1 999 with
          | false =>
            have Hr := Lib.hid (papersOk_no2 (hl := hl) hlt2 (lfOk_f1 hw1))
            go_wp2
            go_quiet ((first | (go_at_call 42; exact quiet_left (isId_any _ _)) | (go_at_call 33; exact quiet_left (within_any _ _ _ _)) | (go_at_call 31; exact quiet_left (l1In_any _ _ _ _))))
            go_wp2
            go_ret
            exact ⟨by rw [Hr.out]; rfl, bthen H0.out (below_drewN HB2.out _)⟩
          | true =>
            by_cases hk0 : k = 0
            · subst hk0
              simp only [Nat.add_zero] at hc1
              have Hk := Lib.hid (lfOk_mk (k := 0) hw1 (fun h => absurd h (by omega)))
              go_wp2
              go_quiet ((first | (go_at_call 42; exact quiet_left (isId_any _ _)) | (go_at_call 33; exact quiet_left (within_any _ _ _ _)) | (go_at_call 31; exact quiet_left (l1In_any _ _ _ _))))
              go_wp2
              go_roundw
              case rel => exact ⟨1, by omega, by go_num, (fun j hj => by
                rcases Nat.lt_succ_iff_lt_or_eq.1 hj with h1 | h1
                · exact Hj.out j h1
                · subst h1; exact Hk.out), below_drewN HB3.out _⟩
              case measure => simp [intOf]; omega
            · have hkp : 0 < k := by omega
              have hkp2 : (0 : Int) < (k : Int) := by omega
              have hc3 := HP.out hkp
              have ek : ((k : Int) - 1) = ((k - 1 : Nat) : Int) := by omega
              have hkw2 : IntKind.i64.wrap ((k - 1 : Nat) : Int) = ((k - 1 : Nat) : Int) := by rw [IntKind.wrap_i64]; omega
              by_cases hle : nth ll k ≤ nth ll (k - 1)
              · have Hr := Lib.hid (papersOk_no2 (hl := hl) hlt2 (lfOk_f2 hkp hle))
                go_wp2
                go_quiet ((first | (go_at_call 42; exact quiet_left (isId_any _ _)) | (go_at_call 33; exact quiet_left (within_any _ _ _ _)) | (go_at_call 31; exact quiet_left (l1In_any _ _ _ _))))
                go_wp2
                go_ret
                exact ⟨by rw [Hr.out]; rfl, bthen H0.out (below_drewN HB2.out _)⟩
              · have Hk := Lib.hid (lfOk_mk hw1 (fun _ => hle))
                have hgt : nth ll (k - 1) < nth ll k := by omega
                clear hle
                go_wp2
                go_quiet ((first | (go_at_call 42; exact quiet_left (isId_any _ _)) | (go_at_call 33; exact quiet_left (within_any _ _ _ _)) | (go_at_call 31; exact quiet_left (l1In_any _ _ _ _))))
                go_wp2
                go_roundw
                case rel => exact ⟨k + 1, by omega, by go_num, (fun j hj => by
                  rcases Nat.lt_succ_iff_lt_or_eq.1 hj with h1 | h1
                  · exact Hj.out j h1
                  · subst h1; exact Hk.out), below_drewN HB3.out _⟩
                case measure => simp [intOf]; omega
        · obtain rfl : k = ll.length := by omega
          have Hr := Lib.hid (papersOk_mk HJ1.out Hj.out)
          by_cases h12 : (hl.length : Int) ≤ 12
          · go_wp2
            go_ret
            exact ⟨by rw [Hr.out]; first | (simp [h12]; done) | (rw [decide_eq_true h12, Bool.true_and]; rfl) | (rw [decide_eq_false (show ¬ (hl.length : Int) ≤ 12 by omega), Bool.false_and]; rfl), bthen H0.out HB2.out⟩
          · go_wp2
            go_ret
            exact ⟨by rw [Hr.out]; first | (simp; done) | (rw [decide_eq_true h12, Bool.true_and]; rfl) | (rw [decide_eq_false (show ¬ (hl.length : Int) ≤ 12 by omega), Bool.false_and]; rfl), bthen H0.out HB2.out⟩
end Go.Proofs.Ytjhbmikohcbkkaa
