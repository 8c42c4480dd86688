/-
  Contracts: the draws of the laws on costs.
-/
import Derived.Test.YtpabfbaoibmnlaaHaulDraw
import Derived.Test.YtpabfbaoibmnlaaHl
namespace Go.Proofs.Ytpabfbaoibmnlaa
open Go.RowKit
set_option linter.unusedVariables false
set_option maxRecDepth 100000

/-- Costs, drawn; nothing that was there has turned. -/
def DrawnM (w : World) (e : Ending) (w' : World) : Prop :=
  ∃ (A : Option Addr) (c : Nat) (L : List (List Int)), e = .returned (.slice A L.length c) ∧ OwnM w' w.heap.size A L.length c L ∧ L.length ≤ 6 ∧ (∀ k, k < L.length → (nth L k).length ≤ 5) ∧ Below w.heap.size w w'
theorem small_drawn {L : List (List Int)} (h6 : L.length ≤ 6) (h5 : ∀ k, k < L.length → (nth L k).length ≤ 5) : Small L := ⟨by omega, fun k hk => by have := h5 k hk; omega⟩

theorem costs_more (L : List (List Int)) (r : List Int) (h : r.length = L.length) : costsOk (L ++ [r]) = false := by
  refine costsOk_no (k := L.length) (by simp) (rowOk_f1 ?_)
  rw [nth_app_here _ _ _ rfl]
  simp; omega
/-- A row of ints is kept while a slice of slices is written or grows. -/
theorem far_ty {w w' : World} {base base' n c m d : Nat} {A B : Option Addr} {R : List Rw} {l : List Int} (k : OwnI w base' B m d l) (h : Own encR 30 w base A n c R) (hg : w.grownBy w' (blk A)) : OwnI w' base' B m d l :=
  k.far hg fun b hb e => by
    subst hb
    rcases h.form with ⟨rfl, _⟩ | ⟨g, rfl, _, _⟩
    · simp [blk] at e
    · simp [blk] at e
      exact apartTy h k e

theorem DrawCostsValid_any (A : Option Addr) (c : Nat) (l : List Int) (w : World) (h : RdB w w.heap.size A l) (hcap : l.length ≤ c) :
    Calls Try.prog 18 #[.slice A l.length c] w (DrawnM w) := by
  have H := Lib.hid (open_any A c l w h hcap)
  clear h hcap
  go_enter Try.func18, Try.ntmps18
  go_wp2_with fail
  refine H.out.mono ?_
  rintro e w1 ⟨rfl, hr1, hb1, hs1⟩
  have HR1 := Lib.hid hr1
  have HB1 := Lib.hid hb1
  have hlt1 := hr1.lt
  have hz1 := hb1.size
  clear hr1 hb1 hs1 H
  go_wp2_with fail
  refine (l20Costs_any w.heap.size w.heap.size 0 2 w1 HR1.out (by omega) (by omega) (by omega)).mono ?_
  rintro e w2 ⟨A2, c2, L2, rfl, ho2, h6, h5, hr2, hg2⟩
  have HO2 := Lib.hid ho2
  have H5 := Lib.hid h5
  have HBL := Lib.hid (grown_all HB1.out hg2 (Nat.le_refl _))
  clear ho2 hr2 hg2 h5
  go_wp2
  go_ret
  exact ⟨A2, c2, L2, rfl, HO2.out.mono hz1, h6, H5.out, HBL.out⟩

theorem DrawBestHauls_any (A : Option Addr) (c : Nat) (l : List Int) (w : World) (h : RdB w w.heap.size A l) (hcap : l.length ≤ c) :
    Calls Try.prog 32 #[.slice A l.length c] w (DrawnM w) := by
  have H := Lib.hid (open_any A c l w h hcap)
  clear h hcap
  go_enter Try.func32, Try.ntmps32
  go_wp2_with fail
  refine H.out.mono ?_
  rintro e w1 ⟨rfl, hr1, hb1, hs1⟩
  have HR1 := Lib.hid hr1
  have HB1 := Lib.hid hb1
  have hlt1 := hr1.lt
  have hz1 := hb1.size
  clear hr1 hb1 hs1 H
  go_wp2_with fail
  refine (l20Costs_any w.heap.size w.heap.size 0 9 w1 HR1.out (by omega) (by omega) (by omega)).mono ?_
  rintro e w2 ⟨A2, c2, L2, rfl, ho2, h6, h5, hr2, hg2⟩
  have HO2 := Lib.hid ho2
  have H5 := Lib.hid h5
  have HBL := Lib.hid (grown_all HB1.out hg2 (Nat.le_refl _))
  clear ho2 hr2 hg2 h5
  go_wp2
  go_ret
  exact ⟨A2, c2, L2, rfl, HO2.out.mono hz1, h6, H5.out, HBL.out⟩

theorem DrawLeastHauls_any (A : Option Addr) (c : Nat) (l : List Int) (w : World) (h : RdB w w.heap.size A l) (hcap : l.length ≤ c) :
    Calls Try.prog 34 #[.slice A l.length c] w (DrawnM w) := by
  have H := Lib.hid (open_any A c l w h hcap)
  clear h hcap
  go_enter Try.func34, Try.ntmps34
  go_wp2_with fail
  refine H.out.mono ?_
  rintro e w1 ⟨rfl, hr1, hb1, hs1⟩
  have HR1 := Lib.hid hr1
  have HB1 := Lib.hid hb1
  have hlt1 := hr1.lt
  have hz1 := hb1.size
  clear hr1 hb1 hs1 H
  go_wp2_with fail
  refine (l20Costs_any w.heap.size w.heap.size 0 9 w1 HR1.out (by omega) (by omega) (by omega)).mono ?_
  rintro e w2 ⟨A2, c2, L2, rfl, ho2, h6, h5, hr2, hg2⟩
  have HO2 := Lib.hid ho2
  have H5 := Lib.hid h5
  have HBL := Lib.hid (grown_all HB1.out hg2 (Nat.le_refl _))
  clear ho2 hr2 hg2 h5
  go_wp2
  go_ret
  exact ⟨A2, c2, L2, rfl, HO2.out.mono hz1, h6, H5.out, HBL.out⟩
end Go.Proofs.Ytpabfbaoibmnlaa
