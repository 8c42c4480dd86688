/-
  Contracts: papers are drawn from a code.
-/
import Derived.Test.YtjhbmikohcbkkaaPapK
namespace Go.Proofs.Ytjhbmikohcbkkaa
open Go.RowKit
set_option linter.unusedVariables false
set_option maxRecDepth 100000

theorem RdB.wider {w : World} {lim lim' : Nat} {A : Option Addr} {l : List Int} (h : RdB w lim A l) (hl : lim ≤ lim') : RdB w lim' A l :=
  ⟨h.1, fun h0 => by obtain ⟨b, o, e, hb, hc⟩ := h.2 h0; exact ⟨b, o, e, by omega, hc⟩⟩

set_option maxHeartbeats 2000000 in
theorem DrawPapersValid_any (A : Option Addr) (c : Nat) (l : List Int) (w : World) (h : RdB w w.heap.size A l) (hcap : l.length ≤ c) :
    Calls Try.prog 23 #[.slice A l.length c] w fun e w' => ∃ (A : Option Addr) (c : Nat) (B : Option Addr) (d : Nat) (hl : List (Int × Int)) (ll : List Int), e = .returned (.agg #[.slice A hl.length c, .slice B ll.length d]) ∧ hl.length ≤ 40 ∧ ll.length ≤ 40 ∧ Own encP 51 w' w.heap.size A hl.length c hl ∧ OwnI w' w.heap.size B ll.length d ll ∧ Below w.heap.size w w' := by
  obtain ⟨w0, hw0⟩ : ∃ x, x = w.alloc (.cells #[.slice none 0 0, .slice none 0 0] 37) := ⟨_, rfl⟩
  have hb0 : Below w.heap.size w w0 := by rw [hw0]; exact (Below.refl _ _).alloc (Nat.le_refl _) _
  have hs0 : w0.heap.size = w.heap.size + 1 := by rw [hw0]; simp
  have hz0 : w0.heap[w.heap.size]? = some (.cells #[.slice none 0 0, .slice none 0 0] 37 (0, 0)) := by rw [hw0]; exact heap_alloc_new w _
  have H := Lib.hid (open_any A c l w0 ((h.keep fun b hb => hb0.block b hb).wider hb0.size) hcap)
  have HZ := Lib.hid hz0
  have HB := Lib.hid hb0
  have HS0 := Lib.hid hs0
  clear h hcap hz0 hb0 hs0
  go_enter Try.func23, Try.ntmps23
  go_wp2_with fail
  rw [← hw0]
  clear hw0
  refine H.out.mono ?_
  rintro e w1 ⟨rfl, hr1, hb1, hs1⟩
  have HR1 := Lib.hid hr1
  have HB1 := Lib.hid hb1
  clear hr1 hb1 H hs1
  go_wp2_with fail
  refine (l20Papers_any w0.heap.size w0.heap.size 0 w1 HR1.out (by omega)).mono ?_
  rintro e w2 ⟨n, m, A2, c2, B2, d2, hl, ll, rfl, hn, hm, ho, hi, hr2, hg2⟩
  have hs0 := HS0.out
  have hw1 := HB1.out.size
  have hln := ho.len
  have hlm := hi.len
  subst hln hlm
  have HB2 := Lib.hid (grown_all HB1.out hg2 (Nat.le_refl _))
  have hz2 := (HB2.out.block w.heap.size (by omega)).trans HZ.out
  have f0 : w2.frozen? ⟨w.heap.size, 0, none⟩ = false := frozen_of_row _ _ 0 _ _ hz2
  have f1 : w2.frozen? ⟨w.heap.size, 1, none⟩ = false := frozen_of_row _ _ 1 _ _ hz2
  have q0 : w2.cell? ⟨w.heap.size, 0, none⟩ = some (.slice none 0 0) := by rw [cell_of_row _ _ 0 _ _ _ hz2]; rfl
  have q1 : w2.cell? ⟨w.heap.size, 1, none⟩ = some (.slice none 0 0) := by rw [cell_of_row _ _ 1 _ _ _ hz2]; rfl
  have HP := Lib.hid (pair_stored (u := .slice A2 hl.length c2) (v := .slice B2 ll.length d2) hz2)
  have hg : w2.grownBy ((w2.setCell ⟨w.heap.size, 0, none⟩ (.slice A2 hl.length c2)).setCell ⟨w.heap.size, 1, none⟩ (.slice B2 ll.length d2)) (some w.heap.size) := grown_tr (grown_set _ _ _ _) (grown_set _ _ _ _)
  have HO := Lib.hid ((ho.farG hg (by omega)).mono (show w.heap.size ≤ _ by omega))
  have HI := Lib.hid ((hi.farG hg (by omega)).mono (show w.heap.size ≤ _ by omega))
  have HE := Lib.hid ((bthen HB.out HB2.out).grown hg (by have := HB2.out.size; omega) (fun q e => by injection e with e; omega))
  obtain ⟨r0, r1⟩ := HP.out
  clear ho hi hr2 hg2 hz2 hg HP hs0 hw1
  go_wp2
  refine bodyPost_ret (v := .agg #[.slice A2 hl.length c2, .slice B2 ll.length d2]) (by simp [results, Try.results23, go_sem, r0, r1]) rfl ⟨A2, c2, B2, d2, hl, ll, rfl, hn, hm, HO.out, HI.out, HE.out⟩
end Go.Proofs.Ytjhbmikohcbkkaa
