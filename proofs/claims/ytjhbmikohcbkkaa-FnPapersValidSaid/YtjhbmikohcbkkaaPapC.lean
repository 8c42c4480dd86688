/-
  Contracts: papers are copied, compared, marked.
-/
import Derived.Test.YtjhbmikohcbkkaaMark
import Derived.Test.YtjhbmikohcbkkaaBase2
import Derived.Test.YtjhbmikohcbkkaaStep
import Derived.Test.YtjhbmikohcbkkaaBox
namespace Go.Proofs.Ytjhbmikohcbkkaa
open Go.RowKit
set_option linter.unusedVariables false
set_option maxRecDepth 100000

theorem szIntS_any (A : Option Addr) (n c : Nat) (left : Int) (w : World) (hn : n ≤ 9223372036854775807) (h0 : 0 ≤ left) (h1 : left ≤ 1048576) :
    Calls Try.prog 36 #[.slice A n c, vi left] w fun e w' => e = .returned (vi (szV n left)) ∧ w = w' := by
  by_cases h : left < n
  · have He := Lib.hid (szV_lo h)
    go_enter Try.func36, Try.ntmps36
    go_wp2
    go_ret
    exact ⟨by rw [He.out]; rfl, rfl⟩
  · have He := Lib.hid (szV_hi h)
    go_enter Try.func36, Try.ntmps36
    go_wp2
    go_ret
    exact ⟨by rw [He.out]; rfl, rfl⟩

theorem below3 (w : World) (x y z : Obj) : Below w.heap.size w (((w.alloc x).alloc y).alloc z) :=
  (((Below.refl w.heap.size w).alloc (Nat.le_refl _) x).alloc (by simp) y).alloc (by simp; omega) z
/-- A block of two cells, both stored. -/
theorem pair_stored {w : World} {g : Nat} {E : TypeId} {x y u v : Value} (h : w.heap[g]? = some (.cells #[x, y] E (0, 0))) :
    ((w.setCell ⟨g, 0, none⟩ u).setCell ⟨g, 1, none⟩ v).cell? ⟨g, 0, none⟩ = some u ∧ ((w.setCell ⟨g, 0, none⟩ u).setCell ⟨g, 1, none⟩ v).cell? ⟨g, 1, none⟩ = some v := by
  have h1 : (w.setCell ⟨g, 0, none⟩ u).heap[g]? = some (.cells #[u, y] E (0, 0)) := by rw [heap_setCell_same w g 0 _ _ _ h]; rfl
  have h2 : ((w.setCell ⟨g, 0, none⟩ u).setCell ⟨g, 1, none⟩ v).heap[g]? = some (.cells #[u, v] E (0, 0)) := by rw [heap_setCell_same _ g 1 _ _ _ h1]; rfl
  exact ⟨by rw [cell_of_row _ _ 0 _ _ _ h2]; rfl, by rw [cell_of_row _ _ 1 _ _ _ h2]; rfl⟩

/-- What a size guard leaves of papers. -/
def szP (n m : Nat) (left : Int) : Int := if left < n then -1 else if left - n < m then -1 else left - n - m
theorem szPapers_any (A : Option Addr) (n c : Nat) (B : Option Addr) (m d : Nat) (left : Int) (w : World) (hn : n ≤ 9223372036854775807) (hm : m ≤ 9223372036854775807) (h0 : 0 ≤ left) (h1 : left ≤ 1048576) :
    Calls Try.prog 14 #[.agg #[.slice A n c, .slice B m d], vi left] w fun e w' => e = .returned (vi (szP n m left)) ∧ Below w.heap.size w w' := by
  have H0 := Lib.hid ((Below.refl w.heap.size w).alloc (Nat.le_refl _) (.cells #[.slice A n c, .slice B m d] 32))
  by_cases h : left < n
  · have Hr : Hid (szP n m left = -1) := Lib.hid (if_pos h)
    have Hz := Lib.hid (szV_lo h)
    go_enter Try.func14, Try.ntmps14
    go_wp2_with fail
    refine (szHoldS_any A n c left _ hn h0 h1).mono ?_
    rintro e w' ⟨he, rfl⟩
    rw [Hz.out] at he
    subst he
    go_wp2
    go_ret
    exact ⟨by rw [Hr.out]; rfl, H0.out⟩
  · have Hz := Lib.hid (szV_hi h)
    by_cases h2 : left - n < m
    · have Hr : Hid (szP n m left = -1) := Lib.hid (by simp [szP, h2])
      have Hz2 := Lib.hid (szV_lo h2)
      go_enter Try.func14, Try.ntmps14
      go_wp2_with fail
      refine (szHoldS_any A n c left _ hn h0 h1).mono ?_
      rintro e w' ⟨he, rfl⟩
      rw [Hz.out] at he
      subst he
      go_wp2_with fail
      refine (szIntS_any B m d (left - n) _ hm (by omega) (by omega)).mono ?_
      rintro e w' ⟨he, rfl⟩
      rw [Hz2.out] at he
      subst he
      go_wp2
      go_ret
      exact ⟨by rw [Hr.out]; rfl, H0.out⟩
    · have Hr : Hid (szP n m left = left - n - m) := Lib.hid (by simp [szP, h, h2])
      have Hz2 := Lib.hid (szV_hi h2)
      go_enter Try.func14, Try.ntmps14
      go_wp2_with fail
      refine (szHoldS_any A n c left _ hn h0 h1).mono ?_
      rintro e w' ⟨he, rfl⟩
      rw [Hz.out] at he
      subst he
      go_wp2_with fail
      refine (szIntS_any B m d (left - n) _ hm (by omega) (by omega)).mono ?_
      rintro e w' ⟨he, rfl⟩
      rw [Hz2.out] at he
      subst he
      go_wp2
      go_ret
      exact ⟨by rw [Hr.out]; rfl, H0.out⟩

/-- Papers with new lists. -/
def NewPap (w : World) (hl : List (Int × Int)) (ll : List Int) (e : Ending) (w' : World) : Prop :=
  ∃ A c B d, e = .returned (.agg #[.slice A hl.length c, .slice B ll.length d]) ∧ Own encP 51 w' w.heap.size A hl.length c hl ∧ OwnI w' w.heap.size B ll.length d ll ∧ Below w.heap.size w w' ∧ (∀ g, A = some ⟨g, 0, none⟩ → some g ≠ blk B)

theorem toPapers_any (A : Option Addr) (c : Nat) (hl : List (Int × Int)) (B : Option Addr) (d : Nat) (ll : List Int) (w : World) (h : Rd encP w A hl) (hi : RdI w B ll) (hl1 : hl.length ≤ 1048576) (hl2 : ll.length ≤ 1048576) :
    Calls Try.prog 16 #[.agg #[.slice A hl.length c, .slice B ll.length d]] w (NewPap w hl ll) := by
  obtain ⟨w0, hw0⟩ : ∃ x, x = (((w.alloc (.cells #[.slice A hl.length c, .slice B ll.length d] 32)).alloc (.cells #[.slice none 0 0, .slice none 0 0] 37)).alloc (.cells #[.slice none 0 0, .slice none 0 0] 37)) := ⟨_, rfl⟩
  have hb0 : Below w.heap.size w w0 := by rw [hw0]; exact below3 w _ _ _
  have hs0 : w0.heap.size = w.heap.size + 1 + 1 + 1 := by rw [hw0]; simp
  have ha1 : w0.cell? ⟨w.heap.size, 1, none⟩ = some (.slice B ll.length d) := by
    rw [hw0, World.cell?_alloc_past _ _ _ (by simp only [World.size_alloc]; omega), World.cell?_alloc_past _ _ _ (by simp only [World.size_alloc]; omega), World.cell?_alloc_at _ _ _ _ rfl]; rfl
  have hz0 : w0.heap[w.heap.size + 1]? = some (.cells #[.slice none 0 0, .slice none 0 0] 37 (0, 0)) := by
    rw [hw0]
    have := heap_alloc_new (w.alloc (.cells #[.slice A hl.length c, .slice B ll.length d] 32)) (.cells #[.slice none 0 0, .slice none 0 0] 37)
    rw [World.size_alloc] at this
    refine (Below.heap_alloc _ _ _ ?_).trans this
    simp only [World.size_alloc]; omega
  have hz1 : w0.heap[w.heap.size + 1 + 1]? = some (.cells #[.slice none 0 0, .slice none 0 0] 37 (0, 0)) := by
    rw [hw0]
    have := heap_alloc_new ((w.alloc (.cells #[.slice A hl.length c, .slice B ll.length d] 32)).alloc (.cells #[.slice none 0 0, .slice none 0 0] 37)) (.cells #[.slice none 0 0, .slice none 0 0] 37)
    simp only [World.size_alloc] at this
    exact this
  have HA := Lib.hid (toHoldS_any A c hl w0 (h.below hb0) hl1)
  have hzz := hz1
  go_enter Try.func16, Try.ntmps16
  go_wp2_with fail
  rw [← hw0]
  refine HA.out.mono ?_
  clear hw0
  rintro e w1 ⟨A1, c1, rfl, ho1, hb1⟩
  have hs1 := hb1.size
  have ha1' : w1.cell? ⟨w.heap.size, 1, none⟩ = some (.slice B ll.length d) := (hb1.cell (p := ⟨w.heap.size, 1, none⟩) (by simp only; omega)).trans ha1
  have hO1 : w1.heap[w.heap.size + 1 + 1]? = some (.cells #[.slice none 0 0, .slice none 0 0] 37 (0, 0)) := (hb1.block _ (by omega)).trans hz1
  have hR1 : w1.heap[w.heap.size + 1]? = some (.cells #[.slice none 0 0, .slice none 0 0] 37 (0, 0)) := (hb1.block _ (by omega)).trans hz0
  have hq0 : w1.cell? ⟨w.heap.size + 1 + 1, 0, none⟩ = some (.slice none 0 0) := by rw [cell_of_row _ _ 0 _ _ _ hO1]; rfl
  have hf0 : w1.frozen? ⟨w.heap.size + 1 + 1, 0, none⟩ = false := frozen_of_row _ _ 0 _ _ hO1
  have hB2 : Below w.heap.size w (w1.setCell ⟨w.heap.size + 1 + 1, 0, none⟩ (.slice A1 hl.length c1)) := (bthen hb0 hb1).setCell (by simp only; omega) _
  have hO2 : (w1.setCell ⟨w.heap.size + 1 + 1, 0, none⟩ (.slice A1 hl.length c1)).heap[w.heap.size + 1 + 1]? = some (.cells #[.slice A1 hl.length c1, .slice none 0 0] 37 (0, 0)) := by
    rw [heap_setCell_same w1 _ 0 _ _ _ hO1]; rfl
  have hR2 : (w1.setCell ⟨w.heap.size + 1 + 1, 0, none⟩ (.slice A1 hl.length c1)).heap[w.heap.size + 1]? = some (.cells #[.slice none 0 0, .slice none 0 0] 37 (0, 0)) := by
    rw [heap_setCell_other w1 _ _ _ (by simp only; omega)]; exact hR1
  have ha2 : (w1.setCell ⟨w.heap.size + 1 + 1, 0, none⟩ (.slice A1 hl.length c1)).cell? ⟨w.heap.size, 1, none⟩ = some (.slice B ll.length d) := by
    rw [World.cell?_setCell_other _ _ _ _ (by intro e; injection e with e; omega)]; exact ha1'
  have ho2 : Own encP 51 (w1.setCell ⟨w.heap.size + 1 + 1, 0, none⟩ (.slice A1 hl.length c1)) w0.heap.size A1 hl.length c1 hl := ho1.far (grown_set _ (w.heap.size + 1 + 1) 0 _) (fun q e1 e2 => by injection e2 with e2; have := ho1.in_ q (.inl e1); omega)
  have hIA := ho1.in_
  have hs2 : (w1.setCell ⟨w.heap.size + 1 + 1, 0, none⟩ (.slice A1 hl.length c1)).heap.size = w1.heap.size := by simp
  have HT2 := Lib.hid (toIntS_any B d ll _ (hi.below hB2) hl2)
  have H2 := Lib.hid hB2
  have HO2 := Lib.hid hO2
  have HR2 := Lib.hid hR2
  have HW2 := Lib.hid ho2
  have HIA := Lib.hid hIA
  clear HA hb0 ha1 hz0 hz1 hzz hO1 hR1 ho1 hb1 hB2 hO2 hR2 ho2 hIA h hi
  go_wp2_with fail
  refine HT2.out.mono ?_
  rintro e w3 ⟨B1, d1, rfl, ho3, hb3⟩
  have hs3 := hb3.size
  have hO3 := (hb3.block _ (by omega)).trans HO2.out
  have hR3 := (hb3.block _ (by omega)).trans HR2.out
  have hq0 : w3.cell? ⟨w.heap.size + 1 + 1, 0, none⟩ = some (.slice A1 hl.length c1) := by rw [cell_of_row _ _ 0 _ _ _ hO3]; rfl
  have hq1 : w3.cell? ⟨w.heap.size + 1 + 1, 1, none⟩ = some (.slice none 0 0) := by rw [cell_of_row _ _ 1 _ _ _ hO3]; rfl
  have hf1 : w3.frozen? ⟨w.heap.size + 1 + 1, 1, none⟩ = false := frozen_of_row _ _ 1 _ _ hO3
  have hr0 : w3.cell? ⟨w.heap.size + 1, 0, none⟩ = some (.slice none 0 0) := by rw [cell_of_row _ _ 0 _ _ _ hR3]; rfl
  have hr1 : w3.cell? ⟨w.heap.size + 1, 1, none⟩ = some (.slice none 0 0) := by rw [cell_of_row _ _ 1 _ _ _ hR3]; rfl
  have hg0 : w3.frozen? ⟨w.heap.size + 1, 0, none⟩ = false := frozen_of_row _ _ 0 _ _ hR3
  have hg1 : w3.frozen? ⟨w.heap.size + 1, 1, none⟩ = false := frozen_of_row _ _ 1 _ _ hR3
  have hne : w.heap.size + 1 ≠ w.heap.size + 1 + 1 := by omega
  have hgB1 := grown_set w3 (w.heap.size + 1 + 1) 1 (.slice B1 ll.length d1)
  have hgB2 : ∀ x y : Value, ((w3.setCell ⟨w.heap.size + 1 + 1, 1, none⟩ (.slice B1 ll.length d1))).grownBy (((w3.setCell ⟨w.heap.size + 1 + 1, 1, none⟩ (.slice B1 ll.length d1)).setCell ⟨w.heap.size + 1, 0, none⟩ x).setCell ⟨w.heap.size + 1, 1, none⟩ y) (some (w.heap.size + 1)) := fun x y => grown_tr (grown_set _ _ _ _) (grown_set _ _ _ _)
  have HOw := Lib.hid (((HW2.out.below hb3).far hgB1 (fun q e1 e2 => by injection e2 with e2; have := HIA.out q (.inl e1); omega)).far (hgB2 (.slice A1 hl.length c1) (.slice B1 ll.length d1)) (fun q e1 e2 => by injection e2 with e2; have := HIA.out q (.inl e1); omega))
  have HOi := Lib.hid ((ho3.far hgB1 (fun q e1 e2 => by injection e2 with e2; have := ho3.in_ q (.inl e1); omega)).far (hgB2 (.slice A1 hl.length c1) (.slice B1 ll.length d1)) (fun q e1 e2 => by injection e2 with e2; have := ho3.in_ q (.inl e1); omega))
  have HBw := Lib.hid (((bthen H2.out hb3).grown hgB1 (by omega) (fun q hq => by injection hq with hq; omega)).grown (hgB2 (.slice A1 hl.length c1) (.slice B1 ll.length d1)) (by simp; omega) (fun q hq => by injection hq with hq; omega))
  have HRS := Lib.hid (pair_stored (w := w3.setCell ⟨w.heap.size + 1 + 1, 1, none⟩ (.slice B1 ll.length d1)) (g := w.heap.size + 1) (u := .slice A1 hl.length c1) (v := .slice B1 ll.length d1) (by rw [heap_setCell_other w3 _ _ _ (by simp only; omega)]; exact hR3))
  have HAp := Lib.hid (apart HIA.out ho3.in_ (by omega))
  clear ho3 hb3 hO3 hR3 hgB1 hgB2 HW2 H2 HO2 HR2 HT2 ha2 ha1'
  go_wp2
  obtain ⟨r0, r1⟩ := HRS.out
  refine bodyPost_ret (v := .agg #[.slice A1 hl.length c1, .slice B1 ll.length d1]) (by simp [results, Try.results16, go_sem, r0, r1]) rfl ⟨A1, c1, B1, d1, rfl, HOw.out.mono (by omega), HOi.out.mono (by omega), HBw.out, HAp.out⟩

theorem cell_keep {w w' : World} {p : Addr} {v : Value} (h : w.cell? p = some v) (hb : Below w.heap.size w w') : w'.cell? p = some v :=
  (hb.cell (p := p) (World.block_lt_of_cell? w _ h)).trans h

theorem eqPapers_any (A : Option Addr) (c : Nat) (hl : List (Int × Int)) (B : Option Addr) (d : Nat) (ll : List Int) (A' : Option Addr) (c' : Nat) (B' : Option Addr) (d' : Nat) (w : World) (h : Rd encP w A hl) (hi : RdI w B ll) (h' : Rd encP w A' hl) (hi' : RdI w B' ll) (hl1 : hl.length ≤ 1000000000) (hl2 : ll.length ≤ 1000000000) :
    Calls Try.prog 18 #[.agg #[.slice A hl.length c, .slice B ll.length d], .agg #[.slice A' hl.length c', .slice B' ll.length d']] w fun e w' => e = .returned (.bool true) ∧ Below w.heap.size w w' := by
  have hsm := same_self ll
  have h0 := ((Below.refl w.heap.size w).alloc (Nat.le_refl _) (.cells #[.slice A hl.length c, .slice B ll.length d] 37)).alloc (by simp only [World.size_alloc]; omega) (.cells #[.slice A' hl.length c', .slice B' ll.length d'] 37)
  have hk0 : ((w.alloc (.cells #[.slice A hl.length c, .slice B ll.length d] 37)).alloc (.cells #[.slice A' hl.length c', .slice B' ll.length d'] 37)).cell? ⟨w.heap.size, 1, none⟩ = some (.slice B ll.length d) := by
    rw [World.cell?_alloc_past _ _ _ (by simp only [World.size_alloc]; omega), World.cell?_alloc_at _ _ _ _ rfl]; rfl
  have hk1 : ((w.alloc (.cells #[.slice A hl.length c, .slice B ll.length d] 37)).alloc (.cells #[.slice A' hl.length c', .slice B' ll.length d'] 37)).cell? ⟨w.heap.size + 1, 1, none⟩ = some (.slice B' ll.length d') := by
    rw [World.cell?_alloc_at _ _ _ _ (by simp)]; rfl
  have HE := Lib.hid (eqHoldS_any A A' c c' hl _ (h.below h0) (h'.below h0) hl1)
  have HI := Lib.hid (hi.below h0)
  have HI' := Lib.hid (hi'.below h0)
  have H0 := Lib.hid h0
  have K0 := Lib.hid hk0
  have K1 := Lib.hid hk1
  clear h h' hi hi' h0 hk0 hk1
  go_enter Try.func18, Try.ntmps18
  go_wp2_with fail
  refine HE.out.mono ?_
  rintro e w1 ⟨rfl, hb1⟩
  have hk0 := cell_keep K0.out hb1
  have hk1 := cell_keep K1.out hb1
  have HI := Lib.hid (HI.out.below hb1)
  have HI' := Lib.hid (HI'.out.below hb1)
  have H1 := Lib.hid (bthen H0.out hb1)
  clear hb1 HE
  go_wp2_with fail
  refine (eqIntS_any B B' d d' ll ll w1 HI.out HI'.out hl2 hl2).mono ?_
  rintro e w2 ⟨rfl, hd2⟩
  have H2 := Lib.hid (bthen H1.out (of_draws hd2))
  clear hd2
  go_wp2
  go_ret
  exact ⟨rfl, H2.out⟩

/-- Papers whose lists are marked. -/
def MarkPap (w : World) (A B : Option Addr) (r : Int) (e : Ending) (w' : World) : Prop :=
  e = .returned (vi r) ∧ ∃ w1 w2, Below w.heap.size w w1 ∧ w1.grownBy w2 (blk A) ∧ w2.grownBy w' (blk B)
theorem markPapers_any (A : Option Addr) (c : Nat) (hl : List (Int × Int)) (B : Option Addr) (d : Nat) (ll : List Int) (b1 b2 : Nat) (k : Int) (w : World) (h : Own encP 51 w b1 A hl.length c hl) (hi : OwnI w b2 B ll.length d ll) (hap : ∀ g, B = some ⟨g, 0, none⟩ → some g ≠ blk A) (hl1 : hl.length ≤ 1048576) (hl2 : ll.length ≤ 1048576) (hk0 : 0 ≤ k) (hk : k ≤ 1000000) :
    Calls Try.prog 28 #[.agg #[.slice A hl.length c, .slice B ll.length d], vi k] w (MarkPap w A B (k + 2 * hl.length + ll.length)) := by
  have h0 := (Below.refl w.heap.size w).alloc (Nat.le_refl _) (.cells #[.slice A hl.length c, .slice B ll.length d] 37)
  have hq1 : (w.alloc (.cells #[.slice A hl.length c, .slice B ll.length d] 37)).cell? ⟨w.heap.size, 1, none⟩ = some (.slice B ll.length d) := by
    rw [World.cell?_alloc_at _ _ _ _ rfl]; rfl
  have hq1s := World.block_lt_of_cell? _ _ hq1
  have hA := h.in_
  have HH := Lib.hid (markHoldS_any A hl.length c b1 hl k _ (h.below h0) (by omega) hk0 (by omega))
  have HI := Lib.hid (hi.below h0)
  have H0 := Lib.hid h0
  have HQ := Lib.hid hq1
  have HA := Lib.hid hA
  clear h hi h0 hq1 hA
  go_enter Try.func28, Try.ntmps28
  go_wp2_with fail
  refine HH.out.mono ?_
  rintro e w1 ⟨rfl, -, hg1⟩
  have hq1 : w1.cell? ⟨w.heap.size, 1, none⟩ = some (.slice B ll.length d) := (World.cell?_of_block (hg1.block _ (by simp) (fun e => by have := HA.out w.heap.size (.inr e.symm); omega))).trans HQ.out
  have HI1 := Lib.hid (HI.out.far hg1 hap)
  have HG1 := Lib.hid hg1
  clear hg1 HH
  go_wp2_with fail
  refine (markIntS_any B ll.length d b2 ll (k + 2 * hl.length) w1 HI1.out (by omega) (by omega) (by omega)).mono ?_
  rintro e w2 ⟨rfl, -, hg2⟩
  have HG2 := Lib.hid hg2
  clear hg2
  go_wp2
  go_ret
  exact ⟨rfl, _, _, H0.out, HG1.out, HG2.out⟩
end Go.Proofs.Ytjhbmikohcbkkaa
