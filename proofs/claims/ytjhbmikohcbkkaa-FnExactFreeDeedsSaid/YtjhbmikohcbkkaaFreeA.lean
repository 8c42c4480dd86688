/-
  Contracts: the deeds that free a box.
-/
import Derived.Test.YtjhbmikohcbkkaaFree
import Derived.Test.YtjhbmikohcbkkaaPapA
import Derived.Test.YtjhbmikohcbkkaaPapL
namespace Go.Proofs.Ytjhbmikohcbkkaa
open Go.RowKit
set_option linter.unusedVariables false
set_option maxRecDepth 100000

set_option maxHeartbeats 8000000 in
theorem implFreeDeeds (A : Option Addr) (c : Nat) (hl : List (Int × Int)) (B : Option Addr) (d : Nat) (ll : List Int) (id : Int) (w : World) (h : Rd encP w A hl) (hi : RdI w B ll) (hl1 : hl.length ≤ 1000000000) (hl2 : ll.length ≤ 1000000000) :
    Calls Try.prog 26 #[.agg #[.slice A hl.length c, .slice B ll.length d], vi id] w (NewPaperDeed w (freeDeeds hl ll id)) := by
  obtain ⟨p0, p1, hb0⟩ := box_stored w 37 (.slice A hl.length c) (.slice B ll.length d)
  have HR := Lib.hid (h.below hb0)
  have HS := Lib.hid (hi.below hb0)
  have HB0 := Lib.hid hb0
  have hs0 : (w.alloc (.cells #[.slice A hl.length c, .slice B ll.length d] 37)).heap.size = w.heap.size + 1 := by simp
  clear h hi hb0
  cases hok : papersOk hl ll with
  | false =>
    have Hf : Hid (freeDeeds hl ll id = []) := Lib.hid (by simp [freeDeeds, hok])
    go_enter Try.func26, Try.ntmps26
    go_wp2_with fail
    obtain ⟨w0, hw0⟩ : ∃ x, x = w.alloc (.cells #[.slice A hl.length c, .slice B ll.length d] 37) := ⟨_, rfl⟩
    rw [← hw0] at p0 p1 HR HS HB0 hs0 ⊢
    clear hw0
    refine (implPapersValid A c hl B d ll w0 HR.out HS.out (by omega) (by omega)).mono ?_
    rintro e w1 ⟨rfl, hb⟩
    have HB1 := Lib.hid (bthen HB0.out hb)
    clear hb
    rw [hok]
    go_wp2
    go_ret
    exact ⟨none, 0, by rw [Hf.out]; rfl, by rw [Hf.out]; exact Own.nil_ _ _, HB1.out⟩
  | true =>
    obtain ⟨m, hm⟩ : ∃ m, m = marksOf hl id := ⟨_, rfl⟩
    have Hf : Hid (freeDeeds hl ll id = deedsTo m id 3) := Lib.hid (by simp [freeDeeds, hok, hm])
    have hm0 : 0 ≤ m ∧ m ≤ 7 := by rw [hm]; exact marksOf_range id hok
    have Hm := Lib.hid hm
    clear hm
    go_enter Try.func26, Try.ntmps26
    go_wp2_with fail
    obtain ⟨w0, hw0⟩ : ∃ x, x = w.alloc (.cells #[.slice A hl.length c, .slice B ll.length d] 37) := ⟨_, rfl⟩
    rw [← hw0] at p0 p1 HR HS HB0 hs0 ⊢
    clear hw0
    refine (implPapersValid A c hl B d ll w0 HR.out HS.out (by omega) (by omega)).mono ?_
    rintro e w1 ⟨rfl, hb⟩
    rw [hok]
    have HO := Lib.hid (Own.nil_ (e := encT) (E := 83) w1 w0.heap.size)
    have HB1 := Lib.hid hb
    have hs1 := hb.size
    clear hb
    go_wp2
    go_loopw [5, 10] (fun s i wr => ∃ (k : Nat) (A' : Option Addr) (c' : Nat), k ≤ 3 ∧ i = vi k ∧ s = .slice A' (deedsTo m id k).length c' ∧ Own encT 83 wr w0.heap.size A' (deedsTo m id k).length c' (deedsTo m id k) ∧ Below w0.heap.size w0 wr) (fun _ i _ => 3 - (intOf i).toNat)
    case atStart => exact ⟨0, none, 0, by omega, rfl, rfl, HO.out, HB1.out⟩
    case round =>
      obtain ⟨k, A', c', hk, rfl, rfl, ho, hb⟩ := hrel
      have hln := length_deedsTo m id k
      have HOr := Lib.hid ho
      have p0 := cell_keep p0 hb
      have p1 := cell_keep p1 hb
      have HBr := Lib.hid hb
      have hsr := hb.size
      clear ho hb HO
      by_cases hk3 : k = 3
      · subst hk3
        go_wp2
        go_ret
        exact ⟨A', c', by rw [Hf.out]; rfl, by rw [Hf.out]; exact HOr.out.mono (by omega), bthen HB0.out HBr.out⟩
      · have hk2 : k < 3 := by omega
        go_wp2_with fail
        refine (implMarksOf A c hl B d ll id wr (HR.out.below HBr.out) (HS.out.below HBr.out) (by omega) (by omega)).mono ?_
        rintro e w3 ⟨rfl, hb⟩
        rw [← Hm.out]
        have HOr := Lib.hid (HOr.out.below hb)
        have p0 := cell_keep p0 hb
        have p1 := cell_keep p1 hb
        have HBr := Lib.hid (bthen HBr.out hb)
        have hsr3 := hb.size
        clear hb
        have hk012 : k = 0 ∨ k = 1 ∨ k = 2 := by omega
        have hx0 : (bits BinOp.and IntKind.i64 0 1 == 1) = false := by decide
        have hx1 : (bits BinOp.and IntKind.i64 1 1 == 1) = true := by decide
        have hx2 : (bits BinOp.and IntKind.i64 2 1 == 1) = false := by decide
        have hx3 : (bits BinOp.and IntKind.i64 3 1 == 1) = true := by decide
        have hx4 : (bits BinOp.and IntKind.i64 4 1 == 1) = false := by decide
        have hx5 : (bits BinOp.and IntKind.i64 5 1 == 1) = true := by decide
        have hx6 : (bits BinOp.and IntKind.i64 6 1 == 1) = false := by decide
        have hx7 : (bits BinOp.and IntKind.i64 7 1 == 1) = true := by decide
        have hm07 : m = 0 ∨ m = 1 ∨ m = 2 ∨ m = 3 ∨ m = 4 ∨ m = 5 ∨ m = 6 ∨ m = 7 := by omega
        rcases hk012 with rfl | rfl | rfl
        · cases hbit : bit m 0 with
          | false =>
            have Hn : Hid (deedsTo m id 1 = deedsTo m id 0) := Lib.hid (deedsTo_no (id := id) hbit)
            rcases hm07 with rfl | rfl | rfl | rfl | rfl | rfl | rfl | rfl <;> first | (exact absurd hbit (by decide)) | (
              go_wp2
              go_roundw
              case rel => exact ⟨1, A', c', by omega, by first | rfl | go_num, by rw [Hn.out], by rw [Hn.out]; exact HOr.out, HBr.out⟩
              case measure => simp [intOf])
          | true =>
            have Hn : Hid (deedsTo m id 1 = deedsTo m id 0 ++ [(1, id, 0)]) := Lib.hid (deedsTo_yes (id := id) hbit)
            have Hl : Hid ((deedsTo m id 1).length = (deedsTo m id 0).length + 1) := Lib.hid (by rw [Hn.out]; simp)
            rcases hm07 with rfl | rfl | rfl | rfl | rfl | rfl | rfl | rfl <;> first | (exact absurd hbit (by decide)) | (
              go_wp2_with (at_builtin; refine app_PaperDeed rfl (.tmp 20) (.tmp 24) rfl w0.heap.size A' _ c' _ rfl (HOr.out.alloc _) (some ⟨w3.heap.size, 0, none⟩) 1 1 [(1, id, 0)] rfl (Rd.one3 w3 83 (1, id, 0)) rfl (by omega) (by simp; omega) ?_; intro A2 c2 w4 ho4 hg4; skip)
              rw [← Hn.out, ← Hl.out] at ho4
              have HO4 := Lib.hid ho4
              have HB4 := Lib.hid ((HBr.out.alloc HBr.out.size (.cells #[vi 1, vi id, vi 0] 83)).grown hg4 (by simp; omega) (fun q hq => by have := HOr.out.in_ q (.inr hq); omega))
              rw [← Hl.out]
              clear ho4 hg4
              go_wp2
              go_roundw
              case rel => exact ⟨1, A2, c2, by omega, by first | rfl | go_num, rfl, HO4.out, HB4.out⟩
              case measure => simp [intOf])
        · cases hbit : bit m 1 with
          | false =>
            have Hn : Hid (deedsTo m id 2 = deedsTo m id 1) := Lib.hid (deedsTo_no (id := id) hbit)
            rcases hm07 with rfl | rfl | rfl | rfl | rfl | rfl | rfl | rfl <;> first | (exact absurd hbit (by decide)) | (
              go_wp2
              go_roundw
              case rel => exact ⟨2, A', c', by omega, by first | rfl | go_num, by rw [Hn.out], by rw [Hn.out]; exact HOr.out, HBr.out⟩
              case measure => simp [intOf])
          | true =>
            have Hn : Hid (deedsTo m id 2 = deedsTo m id 1 ++ [(1, id, 1)]) := Lib.hid (deedsTo_yes (id := id) hbit)
            have Hl : Hid ((deedsTo m id 2).length = (deedsTo m id 1).length + 1) := Lib.hid (by rw [Hn.out]; simp)
            rcases hm07 with rfl | rfl | rfl | rfl | rfl | rfl | rfl | rfl <;> first | (exact absurd hbit (by decide)) | (
              go_wp2_with (at_builtin; refine app_PaperDeed rfl (.tmp 20) (.tmp 24) rfl w0.heap.size A' _ c' _ rfl (HOr.out.alloc _) (some ⟨w3.heap.size, 0, none⟩) 1 1 [(1, id, 1)] rfl (Rd.one3 w3 83 (1, id, 1)) rfl (by omega) (by simp; omega) ?_; intro A2 c2 w4 ho4 hg4; skip)
              rw [← Hn.out, ← Hl.out] at ho4
              have HO4 := Lib.hid ho4
              have HB4 := Lib.hid ((HBr.out.alloc HBr.out.size (.cells #[vi 1, vi id, vi 1] 83)).grown hg4 (by simp; omega) (fun q hq => by have := HOr.out.in_ q (.inr hq); omega))
              rw [← Hl.out]
              clear ho4 hg4
              go_wp2
              go_roundw
              case rel => exact ⟨2, A2, c2, by omega, by first | rfl | go_num, rfl, HO4.out, HB4.out⟩
              case measure => simp [intOf])
        · cases hbit : bit m 2 with
          | false =>
            have Hn : Hid (deedsTo m id 3 = deedsTo m id 2) := Lib.hid (deedsTo_no (id := id) hbit)
            rcases hm07 with rfl | rfl | rfl | rfl | rfl | rfl | rfl | rfl <;> first | (exact absurd hbit (by decide)) | (
              go_wp2
              go_roundw
              case rel => exact ⟨3, A', c', by omega, by first | rfl | go_num, by rw [Hn.out], by rw [Hn.out]; exact HOr.out, HBr.out⟩
              case measure => simp [intOf])
          | true =>
            have Hn : Hid (deedsTo m id 3 = deedsTo m id 2 ++ [(1, id, 2)]) := Lib.hid (deedsTo_yes (id := id) hbit)
            have Hl : Hid ((deedsTo m id 3).length = (deedsTo m id 2).length + 1) := Lib.hid (by rw [Hn.out]; simp)
            rcases hm07 with rfl | rfl | rfl | rfl | rfl | rfl | rfl | rfl <;> first | (exact absurd hbit (by decide)) | (
              go_wp2_with (at_builtin; refine app_PaperDeed rfl (.tmp 20) (.tmp 24) rfl w0.heap.size A' _ c' _ rfl (HOr.out.alloc _) (some ⟨w3.heap.size, 0, none⟩) 1 1 [(1, id, 2)] rfl (Rd.one3 w3 83 (1, id, 2)) rfl (by omega) (by simp; omega) ?_; intro A2 c2 w4 ho4 hg4; skip)
              rw [← Hn.out, ← Hl.out] at ho4
              have HO4 := Lib.hid ho4
              have HB4 := Lib.hid ((HBr.out.alloc HBr.out.size (.cells #[vi 1, vi id, vi 2] 83)).grown hg4 (by simp; omega) (fun q hq => by have := HOr.out.in_ q (.inr hq); omega))
              rw [← Hl.out]
              clear ho4 hg4
              go_wp2
              go_roundw
              case rel => exact ⟨3, A2, c2, by omega, by first | rfl | go_num, rfl, HO4.out, HB4.out⟩
              case measure => simp [intOf])

set_option maxHeartbeats 8000000 in
theorem specFreeDeeds (A : Option Addr) (c : Nat) (hl : List (Int × Int)) (B : Option Addr) (d : Nat) (ll : List Int) (id : Int) (w : World) (h : Rd encP w A hl) (hi : RdI w B ll) (hl1 : hl.length ≤ 1000000000) (hl2 : ll.length ≤ 1000000000) :
    Calls Try.prog 25 #[.agg #[.slice A hl.length c, .slice B ll.length d], vi id] w (NewPaperDeed w (freeDeeds hl ll id)) := by
  obtain ⟨p0, p1, hb0⟩ := box_stored w 37 (.slice A hl.length c) (.slice B ll.length d)
  have HR := Lib.hid (h.below hb0)
  have HS := Lib.hid (hi.below hb0)
  have HB0 := Lib.hid hb0
  have hs0 : (w.alloc (.cells #[.slice A hl.length c, .slice B ll.length d] 37)).heap.size = w.heap.size + 1 := by simp
  clear h hi hb0
  cases hok : papersOk hl ll with
  | false =>
    have Hf : Hid (freeDeeds hl ll id = []) := Lib.hid (by simp [freeDeeds, hok])
    go_enter Try.func25, Try.ntmps25
    go_wp2
    obtain ⟨w0, hw0⟩ : ∃ x, x = w.alloc (.cells #[.slice A hl.length c, .slice B ll.length d] 37) := ⟨_, rfl⟩
    rw [← hw0] at p0 p1 HR HS HB0 hs0 ⊢
    clear hw0
    obtain ⟨w1, hw1⟩ : ∃ x, x = w0.alloc (.cells #[] 83) := ⟨_, rfl⟩
    have ho := Own.none_made (e := encT) (E := 83) w0
    rw [hs0] at ho
    have HO := Lib.hid ho
    clear ho
    have hb1 : Below w0.heap.size w0 w1 := by rw [hw1]; exact (Below.refl _ _).alloc (Nat.le_refl _) _
    rw [← hw1] at HO ⊢
    clear hw1
    have p0 := cell_keep p0 hb1
    have p1 := cell_keep p1 hb1
    have HB1 := Lib.hid (bthen HB0.out hb1)
    have HR1 := Lib.hid (HR.out.below hb1)
    have HS1 := Lib.hid (HS.out.below hb1)
    clear hb1
    go_loopw [5, 6] (fun s i wr => s = .slice (some ⟨w.heap.size + 1, 0, none⟩) 0 0 ∧ i = vi 0 ∧ wr = w1) (fun _ _ _ => 0)
    case atStart => exact ⟨rfl, by go_num, rfl⟩
    case round =>
      obtain ⟨rfl, rfl, rfl⟩ := hrel
      go_wp2_with fail
      refine (specPapersValid A c hl B d ll _ HR1.out HS1.out (by omega) (by omega)).mono ?_
      rintro e w2 ⟨rfl, hb⟩
      have HB2 := Lib.hid (bthen HB1.out hb)
      have HO := Lib.hid (HO.out.below hb)
      clear hb
      rw [hok]
      go_wp2
      go_ret
      exact ⟨some ⟨w.heap.size + 1, 0, none⟩, 0, by rw [Hf.out]; rfl, by rw [Hf.out]; exact HO.out.mono (by omega), HB2.out⟩
  | true =>
    obtain ⟨m, hm⟩ : ∃ m, m = marksOf hl id := ⟨_, rfl⟩
    have Hf : Hid (freeDeeds hl ll id = deedsTo m id 3) := Lib.hid (by simp [freeDeeds, hok, hm])
    have hm0 : 0 ≤ m ∧ m ≤ 7 := by rw [hm]; exact marksOf_range id hok
    have Hm := Lib.hid hm
    clear hm
    go_enter Try.func25, Try.ntmps25
    go_wp2_with fail
    obtain ⟨w0, hw0⟩ : ∃ x, x = w.alloc (.cells #[.slice A hl.length c, .slice B ll.length d] 37) := ⟨_, rfl⟩
    rw [← hw0] at p0 p1 HR HS HB0 hs0 ⊢
    clear hw0
    obtain ⟨w1, hw1⟩ : ∃ x, x = w0.alloc (.cells #[] 83) := ⟨_, rfl⟩
    have ho := Own.none_made (e := encT) (E := 83) w0
    rw [hs0] at ho
    have hb : Below w0.heap.size w0 w1 := by rw [hw1]; exact (Below.refl _ _).alloc (Nat.le_refl _) _
    rw [← hw1] at ho ⊢
    clear hw1
    have HO := Lib.hid (ho.mono (b' := w0.heap.size) (by omega))
    have HB1 := Lib.hid hb
    have hs1 := hb.size
    clear hb ho
    go_loopw [5, 6] (fun s i wr => ∃ (k : Nat) (A' : Option Addr) (c' : Nat), k ≤ 3 ∧ i = vi k ∧ s = .slice A' (deedsTo m id k).length c' ∧ Own encT 83 wr w0.heap.size A' (deedsTo m id k).length c' (deedsTo m id k) ∧ Below w0.heap.size w0 wr) (fun _ i _ => 3 - (intOf i).toNat)
    case atStart => exact ⟨0, (some ⟨w.heap.size + 1, 0, none⟩), 0, by omega, rfl, rfl, HO.out, HB1.out⟩
    case round =>
      obtain ⟨k, A', c', hk, rfl, rfl, ho, hb⟩ := hrel
      have hln := length_deedsTo m id k
      have HOr := Lib.hid ho
      have p0 := cell_keep p0 hb
      have p1 := cell_keep p1 hb
      have HBr := Lib.hid hb
      have hsr := hb.size
      clear ho hb HO
      by_cases hk3 : k = 3
      · subst hk3
        go_wp2
        go_ret
        exact ⟨A', c', by rw [Hf.out]; rfl, by rw [Hf.out]; exact HOr.out.mono (by omega), bthen HB0.out HBr.out⟩
      · have hk2 : k < 3 := by omega
        go_wp2_with fail
        refine (specPapersValid A c hl B d ll wr (HR.out.below HBr.out) (HS.out.below HBr.out) (by omega) (by omega)).mono ?_
        rintro e w2 ⟨rfl, hb⟩
        rw [hok]
        have HOr := Lib.hid (HOr.out.below hb)
        have p0 := cell_keep p0 hb
        have p1 := cell_keep p1 hb
        have HBr := Lib.hid (bthen HBr.out hb)
        have hsr2 := hb.size
        clear hb
        go_wp2_with fail
        refine (specMarksOf A c hl B d ll id w2 (HR.out.below HBr.out) (HS.out.below HBr.out) (by omega) (by omega)).mono ?_
        rintro e w3 ⟨rfl, hb⟩
        rw [← Hm.out]
        have HOr := Lib.hid (HOr.out.below hb)
        have p0 := cell_keep p0 hb
        have p1 := cell_keep p1 hb
        have HBr := Lib.hid (bthen HBr.out hb)
        have hsr3 := hb.size
        clear hb
        have hk012 : k = 0 ∨ k = 1 ∨ k = 2 := by omega
        have hx0 : (bits BinOp.and IntKind.i64 0 1 == 1) = false := by decide
        have hx1 : (bits BinOp.and IntKind.i64 1 1 == 1) = true := by decide
        have hx2 : (bits BinOp.and IntKind.i64 2 1 == 1) = false := by decide
        have hx3 : (bits BinOp.and IntKind.i64 3 1 == 1) = true := by decide
        have hx4 : (bits BinOp.and IntKind.i64 4 1 == 1) = false := by decide
        have hx5 : (bits BinOp.and IntKind.i64 5 1 == 1) = true := by decide
        have hx6 : (bits BinOp.and IntKind.i64 6 1 == 1) = false := by decide
        have hx7 : (bits BinOp.and IntKind.i64 7 1 == 1) = true := by decide
        have hm07 : m = 0 ∨ m = 1 ∨ m = 2 ∨ m = 3 ∨ m = 4 ∨ m = 5 ∨ m = 6 ∨ m = 7 := by omega
        rcases hk012 with rfl | rfl | rfl
        · cases hbit : bit m 0 with
          | false =>
            have Hn : Hid (deedsTo m id 1 = deedsTo m id 0) := Lib.hid (deedsTo_no (id := id) hbit)
            rcases hm07 with rfl | rfl | rfl | rfl | rfl | rfl | rfl | rfl <;> first | (exact absurd hbit (by decide)) | (
              go_wp2
              go_roundw
              case rel => exact ⟨1, A', c', by omega, by first | rfl | go_num, by rw [Hn.out], by rw [Hn.out]; exact HOr.out, HBr.out⟩
              case measure => simp [intOf])
          | true =>
            have Hn : Hid (deedsTo m id 1 = deedsTo m id 0 ++ [(1, id, 0)]) := Lib.hid (deedsTo_yes (id := id) hbit)
            have Hl : Hid ((deedsTo m id 1).length = (deedsTo m id 0).length + 1) := Lib.hid (by rw [Hn.out]; simp)
            rcases hm07 with rfl | rfl | rfl | rfl | rfl | rfl | rfl | rfl <;> first | (exact absurd hbit (by decide)) | (
              go_wp2_with (at_builtin; refine app_PaperDeed rfl (.tmp 23) (.tmp 27) rfl w0.heap.size A' _ c' _ rfl (HOr.out.alloc _) (some ⟨w3.heap.size, 0, none⟩) 1 1 [(1, id, 0)] rfl (Rd.one3 w3 83 (1, id, 0)) rfl (by omega) (by simp; omega) ?_; intro A2 c2 w4 ho4 hg4; skip)
              rw [← Hn.out, ← Hl.out] at ho4
              have HO4 := Lib.hid ho4
              have HB4 := Lib.hid ((HBr.out.alloc HBr.out.size (.cells #[vi 1, vi id, vi 0] 83)).grown hg4 (by simp; omega) (fun q hq => by have := HOr.out.in_ q (.inr hq); omega))
              rw [← Hl.out]
              clear ho4 hg4
              go_wp2
              go_roundw
              case rel => exact ⟨1, A2, c2, by omega, by first | rfl | go_num, rfl, HO4.out, HB4.out⟩
              case measure => simp [intOf])
        · cases hbit : bit m 1 with
          | false =>
            have Hn : Hid (deedsTo m id 2 = deedsTo m id 1) := Lib.hid (deedsTo_no (id := id) hbit)
            rcases hm07 with rfl | rfl | rfl | rfl | rfl | rfl | rfl | rfl <;> first | (exact absurd hbit (by decide)) | (
              go_wp2
              go_roundw
              case rel => exact ⟨2, A', c', by omega, by first | rfl | go_num, by rw [Hn.out], by rw [Hn.out]; exact HOr.out, HBr.out⟩
              case measure => simp [intOf])
          | true =>
            have Hn : Hid (deedsTo m id 2 = deedsTo m id 1 ++ [(1, id, 1)]) := Lib.hid (deedsTo_yes (id := id) hbit)
            have Hl : Hid ((deedsTo m id 2).length = (deedsTo m id 1).length + 1) := Lib.hid (by rw [Hn.out]; simp)
            rcases hm07 with rfl | rfl | rfl | rfl | rfl | rfl | rfl | rfl <;> first | (exact absurd hbit (by decide)) | (
              go_wp2_with (at_builtin; refine app_PaperDeed rfl (.tmp 23) (.tmp 27) rfl w0.heap.size A' _ c' _ rfl (HOr.out.alloc _) (some ⟨w3.heap.size, 0, none⟩) 1 1 [(1, id, 1)] rfl (Rd.one3 w3 83 (1, id, 1)) rfl (by omega) (by simp; omega) ?_; intro A2 c2 w4 ho4 hg4; skip)
              rw [← Hn.out, ← Hl.out] at ho4
              have HO4 := Lib.hid ho4
              have HB4 := Lib.hid ((HBr.out.alloc HBr.out.size (.cells #[vi 1, vi id, vi 1] 83)).grown hg4 (by simp; omega) (fun q hq => by have := HOr.out.in_ q (.inr hq); omega))
              rw [← Hl.out]
              clear ho4 hg4
              go_wp2
              go_roundw
              case rel => exact ⟨2, A2, c2, by omega, by first | rfl | go_num, rfl, HO4.out, HB4.out⟩
              case measure => simp [intOf])
        · cases hbit : bit m 2 with
          | false =>
            have Hn : Hid (deedsTo m id 3 = deedsTo m id 2) := Lib.hid (deedsTo_no (id := id) hbit)
            rcases hm07 with rfl | rfl | rfl | rfl | rfl | rfl | rfl | rfl <;> first | (exact absurd hbit (by decide)) | (
              go_wp2
              go_roundw
              case rel => exact ⟨3, A', c', by omega, by first | rfl | go_num, by rw [Hn.out], by rw [Hn.out]; exact HOr.out, HBr.out⟩
              case measure => simp [intOf])
          | true =>
            have Hn : Hid (deedsTo m id 3 = deedsTo m id 2 ++ [(1, id, 2)]) := Lib.hid (deedsTo_yes (id := id) hbit)
            have Hl : Hid ((deedsTo m id 3).length = (deedsTo m id 2).length + 1) := Lib.hid (by rw [Hn.out]; simp)
            rcases hm07 with rfl | rfl | rfl | rfl | rfl | rfl | rfl | rfl <;> first | (exact absurd hbit (by decide)) | (
              go_wp2_with (at_builtin; refine app_PaperDeed rfl (.tmp 23) (.tmp 27) rfl w0.heap.size A' _ c' _ rfl (HOr.out.alloc _) (some ⟨w3.heap.size, 0, none⟩) 1 1 [(1, id, 2)] rfl (Rd.one3 w3 83 (1, id, 2)) rfl (by omega) (by simp; omega) ?_; intro A2 c2 w4 ho4 hg4; skip)
              rw [← Hn.out, ← Hl.out] at ho4
              have HO4 := Lib.hid ho4
              have HB4 := Lib.hid ((HBr.out.alloc HBr.out.size (.cells #[vi 1, vi id, vi 2] 83)).grown hg4 (by simp; omega) (fun q hq => by have := HOr.out.in_ q (.inr hq); omega))
              rw [← Hl.out]
              clear ho4 hg4
              go_wp2
              go_roundw
              case rel => exact ⟨3, A2, c2, by omega, by first | rfl | go_num, rfl, HO4.out, HB4.out⟩
              case measure => simp [intOf])
end Go.Proofs.Ytjhbmikohcbkkaa
