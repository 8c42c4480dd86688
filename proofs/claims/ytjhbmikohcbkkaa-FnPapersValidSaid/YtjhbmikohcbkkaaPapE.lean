/-
  Contracts: papers are copied by the reference.
-/
import Derived.Test.YtjhbmikohcbkkaaPapD
namespace Go.Proofs.Ytjhbmikohcbkkaa
open Go.RowKit
set_option linter.unusedVariables false
set_option maxRecDepth 100000

/-- A row of holds is no row of ints. -/
theorem apartH {w : World} {base base' n c m d g b : Nat} {R : List (Int × Int)} {l : List Int} (h : Own encP 51 w base (some ⟨g, 0, none⟩) n c R) (k : OwnI w base' (some ⟨b, 0, none⟩) m d l) : b ≠ g := by
  intro e
  subst e
  rcases h.2 with ⟨e1, _⟩ | ⟨g1, cap1, cur1, e1, _, hh1, _⟩
  · cases e1
  · rcases k.2 with ⟨e2, _⟩ | ⟨g2, cap2, cur2, e2, _, hh2, _⟩
    · cases e2
    · injection e1 with e1 _ _
      injection e1 with e1
      injection e1 with e1
      injection e2 with e2 _ _
      injection e2 with e2
      injection e2 with e2
      subst e1 e2
      rw [hh1] at hh2
      injection hh2 with hh2
      injection hh2 with _ hh2 _
      cases hh2
theorem farH {w w' : World} {base base' n c m d : Nat} {A B : Option Addr} {R : List (Int × Int)} {l : List Int} (h : Own encP 51 w base A n c R) (k : OwnI w base' B m d l) (hg : w.grownBy w' (blk B)) : Own encP 51 w' base A n c R :=
  h.far hg fun g hA e => by
    subst hA
    rcases k.form with ⟨rfl, _⟩ | ⟨b, rfl, _, _⟩
    · simp [blk] at e
    · simp [blk] at e
      exact apartH h k e.symm
theorem farI {w w' : World} {base base' n c m d : Nat} {A B : Option Addr} {R : List (Int × Int)} {l : List Int} (k : OwnI w base' B m d l) (h : Own encP 51 w base A n c R) (hg : w.grownBy w' (blk A)) : OwnI w' base' B m d l :=
  k.far hg fun b hB e => by
    subst hB
    rcases h.form with ⟨rfl, _⟩ | ⟨g, rfl, _, _⟩
    · simp [blk] at e
    · simp [blk] at e
      exact apartH h k e

/-- Papers with lists of their own, however long (n holds, m that have left). -/
def PapI (w : World) (n m : Nat) (e : Ending) (w' : World) : Prop :=
  ∃ A c B d hl ll, e = .returned (.agg #[.slice A n c, .slice B m d]) ∧ Own encP 51 w' w.heap.size A n c hl ∧ OwnI w' w.heap.size B m d ll ∧ Below w.heap.size w w'

set_option maxHeartbeats 4000000 in
theorem l24Copy_any (A : Option Addr) (c : Nat) (hl : List (Int × Int)) (B : Option Addr) (d : Nat) (ll : List Int) (w : World) (h : Rd encP w A hl) (hi : RdI w B ll) (hl1 : hl.length ≤ 1000) (hl2 : ll.length ≤ 1000) :
    Calls Try.prog 72 #[.agg #[.slice A hl.length c, .slice B ll.length d]] w (PapI w hl.length ll.length) := by
  obtain ⟨w0, hw0⟩ : ∃ x, x = ((w.alloc (.cells #[.slice A hl.length c, .slice B ll.length d] 37)).alloc (.cells #[.slice none 0 0, .slice none 0 0] 37)) := ⟨_, rfl⟩
  have hb0 : Below w.heap.size w w0 := by rw [hw0]; exact ((Below.refl _ _).alloc (Nat.le_refl _) _).alloc (by simp) _
  have hs0 : w0.heap.size = w.heap.size + 1 + 1 := by rw [hw0]; simp
  have p0 : w0.cell? ⟨w.heap.size, 0, none⟩ = some (.slice A hl.length c) := by
    rw [hw0, World.cell?_alloc_past _ _ _ (by simp only [World.size_alloc]; omega), World.cell?_alloc_at _ _ _ _ rfl]; rfl
  have p1 : w0.cell? ⟨w.heap.size, 1, none⟩ = some (.slice B ll.length d) := by
    rw [hw0, World.cell?_alloc_past _ _ _ (by simp only [World.size_alloc]; omega), World.cell?_alloc_at _ _ _ _ rfl]; rfl
  have z0 : w0.heap[w.heap.size + 1]? = some (.cells #[.slice none 0 0, .slice none 0 0] 37 (0, 0)) := by
    rw [hw0]
    have := heap_alloc_new (w.alloc (.cells #[.slice A hl.length c, .slice B ll.length d] 37)) (.cells #[.slice none 0 0, .slice none 0 0] 37)
    rwa [World.size_alloc] at this
  have HR := Lib.hid (h.below hb0)
  have HI := Lib.hid (hi.below hb0)
  have HB := Lib.hid hb0
  have HZ := Lib.hid z0
  have HP1 := Lib.hid p1
  clear h hi hb0 z0
  go_enter Try.func72, Try.ntmps72
  go_wp2
  rw [← hw0]
  clear hw0
  have HNA := Lib.hid (show Own encP 51 (w0.alloc (.cells #[] 51)).drew w0.heap.size (some ⟨w0.heap.size, 0, none⟩) 0 0 [] from Own.none_made w0)
  have HRA := Lib.hid (show Rd encP (w0.alloc (.cells #[] 51)).drew A hl from HR.out.alloc _)
  have HBA := Lib.hid (((Below.refl w0.heap.size w0).alloc (Nat.le_refl _) (.cells #[] 51)).drew)
  have HNB := Lib.hid (show Own encP 51 ((w0.alloc (.cells #[] 51)).alloc (.cells #[] 3)).drew w0.heap.size (some ⟨w0.heap.size, 0, none⟩) 0 0 [] from (Own.none_made w0).alloc _)
  have HIB := Lib.hid (show OwnI ((w0.alloc (.cells #[] 51)).alloc (.cells #[] 3)).drew w0.heap.size (some ⟨w0.heap.size + 1, 0, none⟩) 0 0 [] from by have := (OwnI.none_made (w0.alloc (.cells #[] 51))).mono (b' := w0.heap.size) (by simp); rw [World.size_alloc] at this; exact this)
  have HRB := Lib.hid (show Rd encP ((w0.alloc (.cells #[] 51)).alloc (.cells #[] 3)).drew A hl from (HR.out.alloc _).alloc _)
  have HBB := Lib.hid ((((Below.refl w0.heap.size w0).alloc (Nat.le_refl _) (.cells #[] 51)).alloc (by simp) (.cells #[] 3)).drew)
  have HNC := Lib.hid (show Own encP 51 ((w0.alloc (.cells #[] 3)).alloc (.cells #[] 51)).drew w0.heap.size (some ⟨w0.heap.size + 1, 0, none⟩) 0 0 [] from by have := (Own.none_made (e := encP) (E := 51) (w0.alloc (.cells #[] 3))).mono (b' := w0.heap.size) (by simp); rw [World.size_alloc] at this; exact this)
  have HIC := Lib.hid (show OwnI ((w0.alloc (.cells #[] 3)).alloc (.cells #[] 51)).drew w0.heap.size (some ⟨w0.heap.size, 0, none⟩) 0 0 [] from (OwnI.none_made w0).alloc _)
  have HRC := Lib.hid (show Rd encP ((w0.alloc (.cells #[] 3)).alloc (.cells #[] 51)).drew A hl from (HR.out.alloc _).alloc _)
  have HBC := Lib.hid ((((Below.refl w0.heap.size w0).alloc (Nat.le_refl _) (.cells #[] 3)).alloc (by simp) (.cells #[] 51)).drew)
  go_region_law (first
    | (refine step_app_Hold rfl (.tmp 3) (.tmp 5) rfl w0.heap.size (some ⟨w0.heap.size, 0, none⟩) 0 0 [] (by simp [Act.eval]) HNA.out A hl.length c hl (by simp [Act.eval]) HRA.out rfl hl.length hl (by omega) rfl (by omega) (by simp) ?_
       intro A7 c7 w7 ho7 hg7
       have HO7 := Lib.hid ho7
       have HB7 := Lib.hid (HBA.out.grown hg7 (by simp) (fun q hq => by simp [blk] at hq; omega))
       have HI7 := Lib.hid (HI.out.below HB7.out)
       have p1' : w7.cell? ⟨w.heap.size, 1, none⟩ = some (.slice B ll.length d) := cell_keep HP1.out HB7.out
       have hs7 := HB7.out.size
       have HNI := Lib.hid (OwnI.none_made w7)
       have p1'' : (w7.alloc (.cells #[] 3)).cell? ⟨w.heap.size, 1, none⟩ = some (.slice B ll.length d) := cell_keep p1' ((Below.refl _ _).alloc (Nat.le_refl _) _)
       clear ho7 hg7)
    | (refine step_app_Hold rfl (.tmp 3) (.tmp 5) rfl w0.heap.size (some ⟨w0.heap.size, 0, none⟩) 0 0 [] (by simp [Act.eval]) HNB.out A hl.length c hl (by simp [Act.eval]) HRB.out rfl hl.length hl (by omega) rfl (by omega) (by simp; omega) ?_
       intro A7 c7 w7 ho7 hg7
       have HO7 := Lib.hid ho7
       have HB7 := Lib.hid (HBB.out.grown hg7 (by simp; omega) (fun q hq => by simp [blk] at hq; omega))
       have HI7 := Lib.hid (HI.out.below HB7.out)
       have p1' : w7.cell? ⟨w.heap.size, 1, none⟩ = some (.slice B ll.length d) := cell_keep HP1.out HB7.out
       have hs7 := HB7.out.size
       have HN7 := Lib.hid (farI HIB.out HNB.out hg7)
       clear ho7 hg7)
    | (refine step_app_Hold rfl (.tmp 3) (.tmp 5) rfl w0.heap.size (some ⟨w0.heap.size + 1, 0, none⟩) 0 0 [] (by simp [Act.eval]) HNC.out A hl.length c hl (by simp [Act.eval]) HRC.out rfl hl.length hl (by omega) rfl (by omega) (by simp; omega) ?_
       intro A7 c7 w7 ho7 hg7
       have HO7 := Lib.hid ho7
       have HB7 := Lib.hid (HBC.out.grown hg7 (by simp; omega) (fun q hq => by simp [blk] at hq; omega))
       have HI7 := Lib.hid (HI.out.below HB7.out)
       have p1' : w7.cell? ⟨w.heap.size, 1, none⟩ = some (.slice B ll.length d) := cell_keep HP1.out HB7.out
       have hs7 := HB7.out.size
       have HN7 := Lib.hid (farI HIC.out HNC.out hg7)
       clear ho7 hg7)
    | (refine step_app_int2 rfl (.tmp 7) (.tmp 9) rfl w0.heap.size (some ⟨w7.heap.size, 0, none⟩) 0 0 [] (by simp [Act.eval]) (HNI.out.mono hs7) B ll.length d ll (by simp [Act.eval]) (HI7.out.alloc _) rfl ll.length ll (by omega) rfl (by omega) (by simp; omega) ?_
       intro A8 c8 w8 ho8 hg8
       have HQ8 := Lib.hid ho8
       have HO8 := Lib.hid (farH (HO7.out.alloc _) (HNI.out) hg8)
       have HB8 := Lib.hid ((HB7.out.alloc hs7 (.cells #[] 3)).grown hg8 (by simp; omega) (fun q hq => by simp [blk] at hq; omega))
       have hz8 := (HB8.out.block _ (by omega)).trans HZ.out
       have q0 : w8.cell? ⟨w.heap.size + 1, 0, none⟩ = some (.slice none 0 0) := by rw [cell_of_row _ _ 0 _ _ _ hz8]; rfl
       have q1 : w8.cell? ⟨w.heap.size + 1, 1, none⟩ = some (.slice none 0 0) := by rw [cell_of_row _ _ 1 _ _ _ hz8]; rfl
       have f0 : w8.frozen? ⟨w.heap.size + 1, 0, none⟩ = false := frozen_of_row _ _ 0 _ _ hz8
       have f1 : w8.frozen? ⟨w.heap.size + 1, 1, none⟩ = false := frozen_of_row _ _ 1 _ _ hz8
       have HZ8 := Lib.hid hz8
       clear ho8 hg8 hz8)
    | (refine step_app_int2 rfl (.tmp 7) (.tmp 9) rfl w0.heap.size (some ⟨_, 0, none⟩) 0 0 [] (by simp [Act.eval]) HN7.out B ll.length d ll (by simp [Act.eval]) HI7.out rfl ll.length ll (by omega) rfl (by omega) hs7 ?_
       intro A8 c8 w8 ho8 hg8
       have HQ8 := Lib.hid ho8
       have HO8 := Lib.hid (farH HO7.out HN7.out hg8)
       have HB8 := Lib.hid (HB7.out.grown hg8 hs7 (fun q hq => by simp [blk] at hq; omega))
       have hz8 := (HB8.out.block _ (by omega)).trans HZ.out
       have q0 : w8.cell? ⟨w.heap.size + 1, 0, none⟩ = some (.slice none 0 0) := by rw [cell_of_row _ _ 0 _ _ _ hz8]; rfl
       have q1 : w8.cell? ⟨w.heap.size + 1, 1, none⟩ = some (.slice none 0 0) := by rw [cell_of_row _ _ 1 _ _ _ hz8]; rfl
       have f0 : w8.frozen? ⟨w.heap.size + 1, 0, none⟩ = false := frozen_of_row _ _ 0 _ _ hz8
       have f1 : w8.frozen? ⟨w.heap.size + 1, 1, none⟩ = false := frozen_of_row _ _ 1 _ _ hz8
       have HZ8 := Lib.hid hz8
       clear ho8 hg8 hz8))
  all_goals
    have HRS := Lib.hid (pair_stored (w := w8) (g := w.heap.size + 1) (u := .slice A7 hl.length c7) (v := .slice A8 ll.length c8) HZ8.out)
    have hgB : w8.grownBy ((w8.setCell ⟨w.heap.size + 1, 0, none⟩ (.slice A7 hl.length c7)).setCell ⟨w.heap.size + 1, 1, none⟩ (.slice A8 ll.length c8)) (some (w.heap.size + 1)) := grown_tr (grown_set _ _ _ _) (grown_set _ _ _ _)
    have HF : Hid (PapI w hl.length ll.length (.returned (.agg #[.slice A7 hl.length c7, .slice A8 ll.length c8])) ((w8.setCell ⟨w.heap.size + 1, 0, none⟩ (.slice A7 hl.length c7)).setCell ⟨w.heap.size + 1, 1, none⟩ (.slice A8 ll.length c8))) := Lib.hid
      ⟨A7, c7, A8, c8, hl, ll, rfl, (HO8.out.far hgB (fun q e1 e2 => by injection e2 with e2; have := HO8.out.in_ q (.inl e1); omega)).mono (by omega), (HQ8.out.far hgB (fun q e1 e2 => by injection e2 with e2; have := HQ8.out.in_ q (.inl e1); omega)).mono (by omega), (bthen HB.out HB8.out).grown hgB (by have := HB8.out.size; omega) (fun q hq => by injection hq with hq; omega)⟩
    obtain ⟨r0, r1⟩ := HRS.out
    clear hgB HRS
    go_wp2
    refine bodyPost_ret (v := .agg #[.slice A7 hl.length c7, .slice A8 ll.length c8]) (by simp [results, Try.results72, go_sem, r0, r1]) rfl HF.out
end Go.Proofs.Ytjhbmikohcbkkaa
