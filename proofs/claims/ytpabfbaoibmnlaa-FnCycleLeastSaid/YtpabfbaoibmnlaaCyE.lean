/-
  Contracts: the order of tasks, and its end.
-/
import Derived.Test.YtpabfbaoibmnlaaCyD
import Derived.Test.YtpabfbaoibmnlaaPermC
namespace Go.Proofs.Ytpabfbaoibmnlaa
open Go.RowKit
set_option linter.unusedVariables false
set_option maxRecDepth 100000

theorem ups_at {n i : Nat} (h : i < n) : nth (ups n) i = (i : Int) := by
  rw [nth_eq _ _ (by rw [ups_length]; exact h)]; simp [ups]
theorem isPerm_upsSelf (n : Nat) : isPerm (ups n) n = true :=
  isPerm_iff.2 ⟨ups_length n, fun i hi => by rw [ups_at hi]; omega, fun i j hij hj => by rw [ups_at (by omega), ups_at hj]; omega⟩
/-- A good order, new. -/
def NewG (w : World) (l : List (Int × Int)) (e : Ending) (w' : World) : Prop :=
  ∃ B d o, e = .returned (.slice B l.length d) ∧ OwnI w' w.heap.size B l.length d o ∧ Good l o ∧ Below w.heap.size w w'

theorem sorted_any (cb : Nat) (A : Option Addr) (c : Nat) (l : List (Int × Int)) (B : Option Addr) (c' : Nat) (w0 w2 w3 : World) (ht : tasksOk l = true) (hbox : CmpBox w2 cb A c l) (hA : ∀ b o, A = some ⟨b, o, none⟩ → 0 < l.length → b < w2.heap.size)
    (ho : OwnI w3 w2.heap.size B l.length c' (ups l.length)) (hb : Below w2.heap.size w2 w3) (h0 : Below w0.heap.size w0 w2) :
    Calls Try.prog 68 #[.slice B l.length c', .func (.func 69) #[] #[.pointer (some ⟨cb, 0, none⟩)]] w3 fun e w' => (∃ v, e = .returned v) ∧ ∃ o, OwnI w' w0.heap.size B l.length c' o ∧ Good l o ∧ Below w0.heap.size w0 w' := by
  have hcb := (Array.getElem?_eq_some_iff.1 hbox.1).1
  have hl6 := (tasksOk_t ht).2
  have h3 : Below w0.heap.size w0 w3 := bthen h0 hb
  refine sortStable_of B l.length c' _ w3 (fun w' => ∃ o, OwnI w' w0.heap.size B l.length c' o ∧ Good l o ∧ Below w0.heap.size w0 w') (by omega) ?_
  by_cases hl0 : 0 < l.length
  · rcases ho.form with ⟨_, e0⟩ | ⟨g, rfl, hg1, hg2⟩
    · have := ups_length l.length; rw [e0] at this; simp at this; omega
    refine (insSort_any w2.heap.size cb A c l g c' (ups l.length) w3 ⟨hbox.below hb, ho, isPerm_upsSelf _, Below.refl _ _⟩ ht hl0 hcb (fun b o e => hA b o e hl0)).mono ?_
    rintro e w' ⟨he, y, hy, hs⟩
    exact ⟨he, y, hy.own.mono h0.size, sor_good hy.perm hs, h3.trans (hy.bel.mono h0.size)⟩
  · have e0 : l.length = 0 := by omega
    have e1 : l = [] := List.eq_nil_of_length_eq_zero e0
    rw [e0] at ho ⊢
    refine (insSort_none B c' _ w3).mono ?_
    rintro e w' ⟨he, rfl⟩
    exact ⟨he, ups 0, ho.mono h0.size, by rw [e1]; exact ⟨isPerm_upsSelf 0, by simp [pickT, ups]⟩, h3⟩

set_option maxHeartbeats 2000000 in
theorem implCycleOrder (A : Option Addr) (c : Nat) (l : List (Int × Int)) (w : World) (h : Rd encP w A l) (ht : tasksOk l = true) :
    Calls Try.prog 56 #[.slice A l.length c] w (NewG w l) := by
  have hl6 := (tasksOk_t ht).2
  have hbox : CmpBox (w.alloc (.cells #[.slice A l.length c] 41)) w.heap.size A c l := ⟨heap_alloc_new w _, h.alloc _⟩
  have hA : ∀ b o, A = some ⟨b, o, none⟩ → 0 < l.length → b < w.heap.size := fun b o e h0 => by
    obtain ⟨b', o', e', hb, _⟩ := h h0
    rw [e] at e'; injection e' with e'; injection e' with e1 e2; omega
  have HTV := Lib.hid (fun (w' : World) (hr : Rd encP w' A l) => implTasksValid A c l w' hr (by omega))
  rw [ht] at HTV
  have hb0 := (Below.refl w.heap.size w).alloc (Nat.le_refl _) (.cells #[.slice A l.length c] 41)
  have HB0 := Lib.hid hb0
  have HX := Lib.hid hbox
  have HA := Lib.hid hA
  have HT := Lib.hid ht
  clear h hA hb0 ht hbox
  go_enter Try.func56, Try.ntmps56
  go_wp2_with fail
  have co : (w.alloc (.cells #[.slice A l.length c] 41)).cell? ⟨w.heap.size, 0, none⟩ = some (.slice A l.length c) := by simp
  obtain ⟨w1, hw1⟩ : ∃ w1, w1 = w.alloc (.cells #[.slice A l.length c] 41) := ⟨_, rfl⟩
  rw [← hw1] at co HX HB0 ⊢
  have HV1 := Lib.hid (HTV.out w1 HX.out.2)
  have hs1 := HB0.out.size
  have hlt1 : w.heap.size < w1.heap.size := by rw [hw1]; simp
  clear hw1
  refine HV1.out.mono ?_
  rintro e w2 ⟨rfl, hb2⟩
  have HX2 := Lib.hid (HX.out.below hb2)
  have HB2 := Lib.hid (bthen HB0.out hb2)
  have co2 : w2.cell? ⟨w.heap.size, 0, none⟩ = some (.slice A l.length c) := (hb2.cell (p := ⟨w.heap.size, 0, none⟩) hlt1).trans co
  have hs2 := hb2.size
  clear hb2 co
  go_wp2_with fail
  refine (indices_any l.length w2 (by omega)).mono ?_
  rintro e w3 ⟨A3, c3, rfl, ho3, hb3⟩
  rw [ups_length] at ho3 ⊢
  have HS := Lib.hid (sorted_any w.heap.size A c l A3 c3 w w2 w3 HT.out HX2.out (fun b o e h0 => by have := HA.out b o e h0; omega) ho3 hb3 HB2.out)
  clear ho3 hb3 co2
  go_wp2_with fail
  refine HS.out.mono ?_
  rintro e w4 ⟨⟨v, rfl⟩, o, ho, hg, hb⟩
  have HO := Lib.hid ho
  have HG := Lib.hid hg
  have HB := Lib.hid hb
  clear ho hg hb
  go_wp2
  go_ret
  exact ⟨A3, c3, o, rfl, HO.out, HG.out, HB.out⟩

/-- The least end of all orders, as the good orders tell it; -1 where the tasks are not valid. -/
def Least (l : List (Int × Int)) (v : Int) : Prop := if tasksOk l = true then ∃ o, Good l o ∧ v = cycleEnd l o else v = -1
theorem cyl_same {l : List (Int × Int)} {u v : Int} (h1 : Least l u) (h2 : Least l v) : u = v := by
  unfold Least at h1 h2
  split at h1
  · rename_i ht
    rw [if_pos ht] at h2
    obtain ⟨o, ho, rfl⟩ := h1
    obtain ⟨o', ho', rfl⟩ := h2
    rw [end_ok ht ho.1, end_ok ht ho'.1]
    exact good_same ho ho'
  · rename_i ht
    rw [if_neg ht] at h2
    omega
theorem cyl_no {l : List (Int × Int)} (h : tasksOk l = false) : Least l (-1) := by simp [Least, h]
theorem cyl_yes {l : List (Int × Int)} {o : List Int} (h : tasksOk l = true) (hg : Good l o) : Least l (cycleEnd l o) := by
  unfold Least; rw [if_pos h]; exact ⟨o, hg, rfl⟩
set_option maxHeartbeats 2000000 in
theorem implCycleLeast (A : Option Addr) (c : Nat) (l : List (Int × Int)) (w : World) (h : Rd encP w A l) (hl1 : l.length ≤ 1000000000) :
    Calls Try.prog 38 #[.slice A l.length c] w fun e w' => (∃ v, e = .returned (vi v) ∧ Least l v) ∧ Below w.heap.size w w' := by
  have HC := Lib.hid (implTasksValid A c l w h hl1)
  cases hc : tasksOk l with
  | false =>
    have Hr := Lib.hid (cyl_no hc)
    rw [hc] at HC
    go_enter Try.func38, Try.ntmps38
    go_wp2_with fail
    refine HC.out.mono ?_
    rintro e w' ⟨rfl, hb⟩
    have HB := Lib.hid hb
    go_wp2
    go_ret
    exact ⟨⟨-1, rfl, Hr.out⟩, HB.out⟩
  | true =>
    rw [hc] at HC
    have hl6 := (tasksOk_t hc).2
    have HT := Lib.hid hc
    have HR := Lib.hid h
    clear h hc
    go_enter Try.func38, Try.ntmps38
    go_wp2_with fail
    refine HC.out.mono ?_
    rintro e w1 ⟨rfl, hb1⟩
    have HB1 := Lib.hid hb1
    have HR1 := Lib.hid (HR.out.below hb1)
    clear hb1
    go_wp2_with fail
    refine (implCycleOrder A c l w1 HR1.out HT.out).mono ?_
    rintro e w2 ⟨B, d, o, rfl, ho, hg, hb2⟩
    have hol := ho.len
    have HE := Lib.hid (implCycleEnd A c l B d o w2 (HR1.out.below hb2) ho.rd hl1 (by omega) (by have := ho.cap; omega))
    rw [hol] at HE
    have HG := Lib.hid hg
    have HB2 := Lib.hid (bthen HB1.out hb2)
    clear ho hg hb2 hol
    go_wp2_with fail
    refine HE.out.mono ?_
    rintro e w3 ⟨rfl, hb3⟩
    have HB3 := Lib.hid (bthen HB2.out hb3)
    clear hb3
    go_wp2
    go_ret
    exact ⟨⟨_, rfl, cyl_yes HT.out HG.out⟩, HB3.out⟩
end Go.Proofs.Ytpabfbaoibmnlaa
