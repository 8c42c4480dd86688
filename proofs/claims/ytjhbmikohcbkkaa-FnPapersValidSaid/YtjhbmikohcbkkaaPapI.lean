/-
  Contracts: the reference does a deed.
-/
import Derived.Test.YtjhbmikohcbkkaaPapH
import Derived.Test.YtjhbmikohcbkkaaFree
import Derived.Laws.ResultCell
import Derived.StillTailTactics
namespace Go.Proofs.Ytjhbmikohcbkkaa
open Go.RowKit
set_option linter.unusedVariables false
set_option maxRecDepth 100000

set_option maxHeartbeats 8000000 in
theorem PaperDo_any (A : Option Addr) (c0 : Nat) (hl : List (Int × Int)) (B : Option Addr) (d0 base : Nat) (ll : List Int) (a b c : Int) (w : World) (h : Rd encP w A hl) (hi : OwnI w base B ll.length d0 ll) (hl1 : hl.length ≤ 900) (hl2 : ll.length ≤ 900)
    (ha : 0 ≤ a ∧ a ≤ 5) (hb : -10 ≤ b ∧ b ≤ 10) (hc : 0 ≤ c ∧ c ≤ 5) :
    Calls Try.prog 67 #[.agg #[.slice A hl.length c0, .slice B ll.length d0], .agg #[vi a, vi b, vi c]] w (PapD w (hl.length + 1) (ll.length + 1)) := by
  obtain ⟨w0, hw0⟩ : ∃ x, x = (((w.alloc (.cells #[.slice A hl.length c0, .slice B ll.length d0] 37)).alloc (.cells #[vi a, vi b, vi c] 83)).alloc (.cells #[.slice none 0 0, .slice none 0 0] 37)) := ⟨_, rfl⟩
  have hb0 : Below w.heap.size w w0 := by rw [hw0]; exact below3 w _ _ _
  have hs0 : w0.heap.size = w.heap.size + 1 + 1 + 1 := by rw [hw0]; simp
  have x0 : w0.heap[w.heap.size]? = some (.cells #[.slice A hl.length c0, .slice B ll.length d0] 37 (0, 0)) := by
    rw [hw0, heap_alloc_old _ _ (by simp only [World.size_alloc]; omega), heap_alloc_old _ _ (by simp only [World.size_alloc]; omega)]; exact heap_alloc_new w _
  have x1 : w0.heap[w.heap.size + 1]? = some (.cells #[vi a, vi b, vi c] 83 (0, 0)) := by
    rw [hw0, heap_alloc_old _ _ (by simp only [World.size_alloc]; omega)]
    have := heap_alloc_new (w.alloc (.cells #[.slice A hl.length c0, .slice B ll.length d0] 37)) (.cells #[vi a, vi b, vi c] 83)
    rwa [World.size_alloc] at this
  have x2 : w0.heap[w.heap.size + 1 + 1]? = some (.cells #[.slice none 0 0, .slice none 0 0] 37 (0, 0)) := by
    rw [hw0]
    have := heap_alloc_new ((w.alloc (.cells #[.slice A hl.length c0, .slice B ll.length d0] 37)).alloc (.cells #[vi a, vi b, vi c] 83)) (.cells #[.slice none 0 0, .slice none 0 0] 37)
    rwa [World.size_alloc, World.size_alloc] at this
  have HR := Lib.hid (h.below hb0)
  have HI := Lib.hid (hi.below hb0)
  have HB := Lib.hid hb0
  have HRw := Lib.hid h
  have HIw := Lib.hid hi
  have HX := Lib.hid (And.intro x0 (And.intro x1 x2))
  clear h hi hb0 x0 x1 x2
  go_enter Try.func67, Try.ntmps67
  go_wp2_with fail
  rw [← hw0]
  clear hw0
  refine (specPapersValid A c0 hl B d0 ll w0 HR.out HI.out.rd (by omega) (by omega)).mono ?_
  rintro e w1 ⟨rfl, hb1⟩
  have hk : ∀ {k : Nat} {o : Obj}, w0.heap[k]? = some o → w1.heap[k]? = some o := fun {k o} e => (hb1.block k (Array.getElem?_eq_some_iff.1 e).1).trans e
  have HX1 := Lib.hid (And.intro (hk HX.out.1) (And.intro (hk HX.out.2.1) (hk HX.out.2.2)))
  have HB1 := Lib.hid (bthen HB.out hb1)
  have HR1 := Lib.hid (HR.out.below hb1)
  have HI1 := Lib.hid (HI.out.below hb1)
  have hs1 := hb1.size
  clear hk hb1 HB HR HI HX
  cases hok : papersOk hl ll with
  | false =>
    have f0 : w1.frozen? ⟨w.heap.size + 1 + 1, 0, none⟩ = false := frozen_of_row _ _ 0 _ _ HX1.out.2.2
    have f1 : w1.frozen? ⟨w.heap.size + 1 + 1, 1, none⟩ = false := frozen_of_row _ _ 1 _ _ HX1.out.2.2
    have q0 : w1.cell? ⟨w.heap.size + 1 + 1, 0, none⟩ = some (.slice none 0 0) := by rw [cell_of_row _ _ 0 _ _ _ HX1.out.2.2]; rfl
    have q1 : w1.cell? ⟨w.heap.size + 1 + 1, 1, none⟩ = some (.slice none 0 0) := by rw [cell_of_row _ _ 1 _ _ _ HX1.out.2.2]; rfl
    have HD := Lib.hid (do_none HX1.out.2.2 HB1.out (hl.length + 1) (ll.length + 1) false)
    obtain ⟨r0, r1, _⟩ := HD.out
    go_wp2
    refine bodyPost_ret (v := .tuple #[.agg #[.slice none 0 0, .slice none 0 0], .bool false]) (by simp [results, Try.results67, go_sem, r0, r1]) rfl HD.out.2.2
  | true =>
    obtain ⟨m, hm⟩ : ∃ m, m = marksOf hl b := ⟨_, rfl⟩
    have hm0 : 0 ≤ m ∧ m ≤ 7 := by rw [hm]; exact marksOf_range b hok
    have Hm := Lib.hid hm
    have q0 : w1.cell? ⟨w.heap.size, 0, none⟩ = some (.slice A hl.length c0) := by rw [cell_of_row _ _ 0 _ _ _ HX1.out.1]; rfl
    have q1 : w1.cell? ⟨w.heap.size, 1, none⟩ = some (.slice B ll.length d0) := by rw [cell_of_row _ _ 1 _ _ _ HX1.out.1]; rfl
    clear hm
    go_wp2_with fail
    refine (l24Copy_any A c0 hl B d0 ll w1 HR1.out HI1.out.rd (by omega) (by omega)).mono ?_
    rintro e w2 ⟨A2, c2, B2, d2, hl2', ll2', rfl, ho2, hi2, hb2⟩
    have hs2 := hb2.size
    have hk : ∀ {k : Nat} {o : Obj}, w1.heap[k]? = some o → w2.heap[k]? = some o := fun {k o} e => (hb2.block k (Array.getElem?_eq_some_iff.1 e).1).trans e
    have HD : Hid (DoW w a b c A hl.length c0 B ll.length d0 w2.heap.size (w2.alloc (.cells #[.slice A2 hl.length c2, .slice B2 ll.length d2] 37)) A2 hl.length c2 B2 ll.length d2) := Lib.hid
      ⟨(heap_alloc_old _ _ (by omega)).trans (hk HX1.out.1), (heap_alloc_old _ _ (by omega)).trans (hk HX1.out.2.1), (heap_alloc_old _ _ (by omega)).trans (hk HX1.out.2.2), heap_alloc_new w2 _, ⟨hl2', (ho2.mono (by omega)).alloc _⟩, ⟨ll2', (hi2.mono (by omega)).alloc _⟩, fun q e => by have := ho2.in_ q (.inl e); omega, fun q e => by have := hi2.in_ q (.inl e); omega, (bthen HB1.out hb2).alloc (by omega) _, by omega⟩
    have HR2 := Lib.hid ((HR1.out.below hb2).alloc (.cells #[.slice A2 hl.length c2, .slice B2 ll.length d2] 37))
    have HI2 := Lib.hid ((HI1.out.below hb2).alloc (.cells #[.slice A2 hl.length c2, .slice B2 ll.length d2] 37))
    clear hk q0 q1 ho2 hi2 hb2 HR1 HI1 HX1 HB1
    obtain ⟨q0, q1, q2, q3, q4⟩ := HD.out.ins
    go_wp2_with fail
    obtain ⟨g6, hg6⟩ : ∃ x, x = w2.heap.size := ⟨_, rfl⟩
    obtain ⟨w3, hw3⟩ : ∃ x, x = w2.alloc (.cells #[.slice A2 hl.length c2, .slice B2 ll.length d2] 37) := ⟨_, rfl⟩
    rw [← hw3, ← hg6] at HD
    rw [← hw3] at HR2 HI2
    rw [← hw3, ← hg6]
    clear hw3 hg6 q0 q1 q2 q3 q4
    refine (specMarksOf A c0 hl B d0 ll b w3 HR2.out HI2.out.rd (by omega) (by omega)).mono ?_
    rintro e w4 ⟨rfl, hb4⟩
    rw [← Hm.out]
    have HD4 := Lib.hid (HD.out.below hb4)
    have HR4 := Lib.hid (HR2.out.below hb4)
    have HI4 := Lib.hid (HI2.out.below hb4)
    clear hb4 HD HR2 HI2
    obtain ⟨q0, q1, q2, q3, q4⟩ := HD4.out.ins
    go_wp2_with fail
    refine (l1Has_any B d0 ll b w4 HI4.out.rd (by omega)).mono ?_
    rintro e w5 ⟨rfl, rfl⟩
    obtain ⟨f, hf⟩ : ∃ f, f = hasI ll b := ⟨_, rfl⟩
    rw [← hf]
    clear hf
    have ha4 : a = 0 ∨ a = 1 ∨ a = 2 ∨ 3 ≤ a := by omega
    obtain ⟨u0, u1, u2, u3⟩ := HD4.out.outs
    obtain ⟨v0, v1, v2, v3⟩ := HD4.out.ress
    have HN := Lib.hid (HD4.out.done (N := hl.length + 1) (M := ll.length + 1) (by omega) (by omega) false)
    obtain ⟨⟨r0, r1⟩, _⟩ := HN.out
    rcases ha4 with rfl | rfl | rfl | ha3
    · go_wp2_with fail
      refine (l1In_any _ _ _ _).mono ?_
      rintro e wz ⟨rfl, rfl⟩
      rcases Int.lt_or_le 2 c with hc2 | hc2
      · rw [win_hi hc2]
        go_wp2
        refine bodyPost_ret (v := .tuple #[.agg #[.slice A2 hl.length c2, .slice B2 ll.length d2], .bool false]) (by simp [results, Try.results67, go_sem, r0, r1]) rfl HN.out.2
      rw [win_mk hc.1 hc2]
      have hc3 : c = 0 ∨ c = 1 ∨ c = 2 := by omega
      cases f with
      | true =>
        go_wp2
        refine bodyPost_ret (v := .tuple #[.agg #[.slice A2 hl.length c2, .slice B2 ll.length d2], .bool false]) (by simp [results, Try.results67, go_sem, r0, r1]) rfl HN.out.2
      | false =>
        rcases hc3 with rfl | rfl | rfl
        · go_wp2_with fail
          · skip
            go_still_tail 8, (by kernel_rfl)
            change wpList _ _ _ _ _ w4.drew
            have HD4 := Lib.hid (HD4.out.below (wx := w4.drew) (Below.refl _ _).drew)
            clear q0 q1 q2 q3 q4 u0 u1 u2 u3 v0 v1 v2 v3 r0 r1 HN HI4 HR4
            generalize w4.drew = w5 at *
            obtain ⟨q0, q1, q2, q3, q4⟩ := HD4.out.ins
            go_wp2_with fail
            refine (l24Set_any A c0 hl B d0 ll b _ w5 (HRw.out.below HD4.out.bel) (HIw.out.rd.below HD4.out.bel) (by omega) (by omega)).mono ?_
            rintro e w6 ⟨n6, hn6, A6, c6, B6, d6, hl6, ll6, rfl, ho6, hi6, hb6⟩
            have hl6e := ho6.len
            have ll6e := hi6.len
            subst hl6e
            have HD7 := Lib.hid (HD4.out.put hb6 ho6 hi6)
            have hs4 := HD4.out.size
            have hg7 : w6.grownBy ((w6.setCell ⟨g6, 0, none⟩ (.slice A6 hl6.length c6)).setCell ⟨g6, 1, none⟩ (.slice B6 ll.length d6)) (some g6) := grown_tr (grown_set _ _ _ _) (grown_set _ _ _ _)
            have HQ7 := Lib.hid (And.intro (ho6.far hg7 (fun q e1 e2 => by injection e2 with e2; have := ho6.in_ q (.inl e1); omega)).rd (hi6.far hg7 (fun q e1 e2 => by injection e2 with e2; have := hi6.in_ q (.inl e1); omega)).rd)
            obtain ⟨u0, u1, u2, u3⟩ := (HD4.out.below hb6).outs
            obtain ⟨s0, s1, _, _⟩ := HD7.out.outs
            clear q0 q1 q2 q3 q4 ho6 hi6 hb6 hg7 HD4
            go_wp2_with fail
            generalize ((w6.setCell ⟨g6, 0, none⟩ (.slice A6 hl6.length c6)).setCell ⟨g6, 1, none⟩ (.slice B6 ll.length d6)) = w7 at *
            clear s0 s1 u0 u1 u2 u3
            have HP := specPapersValid A6 c6 hl6 B6 d6 ll6 w7 HQ7.out.1 HQ7.out.2 (by omega) (by omega)
            rw [ll6e] at HP
            clear ll6e
            refine HP.mono ?_
            rintro e w8 ⟨rfl, hb8⟩
            have HD8 := Lib.hid (HD7.out.below hb8)
            have hs8 := HD8.out.size
            clear hb8 HD7 HQ7 HP
            cases hok8 : papersOk hl6 ll6 with
            | true =>
              obtain ⟨u0, u1, u2, u3⟩ := HD8.out.outs
              obtain ⟨v0, v1, v2, v3⟩ := HD8.out.ress
              have HN := Lib.hid (HD8.out.done (N := hl.length + 1) (M := ll.length + 1) (by omega) (by omega) true)
              obtain ⟨⟨r0, r1⟩, _⟩ := HN.out
              go_wp2
              refine bodyPost_ret (v := .tuple #[.agg #[.slice A6 hl6.length c6, .slice B6 ll.length d6], .bool true]) (by simp [results, Try.results67, go_sem, r0, r1]) rfl HN.out.2
            | false =>
              obtain ⟨q0, q1, _, _, _⟩ := HD8.out.ins
              go_wp2_with fail
              refine (l24Copy_any A c0 hl B d0 ll w8 (HRw.out.below HD8.out.bel) (HIw.out.rd.below HD8.out.bel) (by omega) (by omega)).mono ?_
              rintro e w9 ⟨A9, c9, B9, d9, hl9, ll9, rfl, ho9, hi9, hb9⟩
              obtain ⟨v0, v1, v2, v3⟩ := (HD8.out.below hb9).ress
              have HN := Lib.hid (HD8.out.doneNew (N := hl.length + 1) (M := ll.length + 1) hb9 ho9 hi9 (by omega) (by omega) false)
              obtain ⟨⟨r0, r1⟩, _⟩ := HN.out
              clear ho9 hi9 hb9 HD8 q0 q1
              go_wp2
              refine bodyPost_ret (v := .tuple #[.agg #[.slice A9 hl.length c9, .slice B9 ll.length d9], .bool false]) (by simp [results, Try.results67, go_sem, r0, r1]) rfl HN.out.2
          · refine bodyPost_ret (v := .tuple #[.agg #[.slice A2 hl.length c2, .slice B2 ll.length d2], .bool false]) (by simp [results, Try.results67, go_sem, r0, r1]) rfl HN.out.2
        · go_wp2_with fail
          · skip
            go_still_tail 8, (by kernel_rfl)
            change wpList _ _ _ _ _ w4.drew
            have HD4 := Lib.hid (HD4.out.below (wx := w4.drew) (Below.refl _ _).drew)
            clear q0 q1 q2 q3 q4 u0 u1 u2 u3 v0 v1 v2 v3 r0 r1 HN HI4 HR4
            generalize w4.drew = w5 at *
            obtain ⟨q0, q1, q2, q3, q4⟩ := HD4.out.ins
            go_wp2_with fail
            refine (l24Set_any A c0 hl B d0 ll b _ w5 (HRw.out.below HD4.out.bel) (HIw.out.rd.below HD4.out.bel) (by omega) (by omega)).mono ?_
            rintro e w6 ⟨n6, hn6, A6, c6, B6, d6, hl6, ll6, rfl, ho6, hi6, hb6⟩
            have hl6e := ho6.len
            have ll6e := hi6.len
            subst hl6e
            have HD7 := Lib.hid (HD4.out.put hb6 ho6 hi6)
            have hs4 := HD4.out.size
            have hg7 : w6.grownBy ((w6.setCell ⟨g6, 0, none⟩ (.slice A6 hl6.length c6)).setCell ⟨g6, 1, none⟩ (.slice B6 ll.length d6)) (some g6) := grown_tr (grown_set _ _ _ _) (grown_set _ _ _ _)
            have HQ7 := Lib.hid (And.intro (ho6.far hg7 (fun q e1 e2 => by injection e2 with e2; have := ho6.in_ q (.inl e1); omega)).rd (hi6.far hg7 (fun q e1 e2 => by injection e2 with e2; have := hi6.in_ q (.inl e1); omega)).rd)
            obtain ⟨u0, u1, u2, u3⟩ := (HD4.out.below hb6).outs
            obtain ⟨s0, s1, _, _⟩ := HD7.out.outs
            clear q0 q1 q2 q3 q4 ho6 hi6 hb6 hg7 HD4
            go_wp2_with fail
            generalize ((w6.setCell ⟨g6, 0, none⟩ (.slice A6 hl6.length c6)).setCell ⟨g6, 1, none⟩ (.slice B6 ll.length d6)) = w7 at *
            clear s0 s1 u0 u1 u2 u3
            have HP := specPapersValid A6 c6 hl6 B6 d6 ll6 w7 HQ7.out.1 HQ7.out.2 (by omega) (by omega)
            rw [ll6e] at HP
            clear ll6e
            refine HP.mono ?_
            rintro e w8 ⟨rfl, hb8⟩
            have HD8 := Lib.hid (HD7.out.below hb8)
            have hs8 := HD8.out.size
            clear hb8 HD7 HQ7 HP
            cases hok8 : papersOk hl6 ll6 with
            | true =>
              obtain ⟨u0, u1, u2, u3⟩ := HD8.out.outs
              obtain ⟨v0, v1, v2, v3⟩ := HD8.out.ress
              have HN := Lib.hid (HD8.out.done (N := hl.length + 1) (M := ll.length + 1) (by omega) (by omega) true)
              obtain ⟨⟨r0, r1⟩, _⟩ := HN.out
              go_wp2
              refine bodyPost_ret (v := .tuple #[.agg #[.slice A6 hl6.length c6, .slice B6 ll.length d6], .bool true]) (by simp [results, Try.results67, go_sem, r0, r1]) rfl HN.out.2
            | false =>
              obtain ⟨q0, q1, _, _, _⟩ := HD8.out.ins
              go_wp2_with fail
              refine (l24Copy_any A c0 hl B d0 ll w8 (HRw.out.below HD8.out.bel) (HIw.out.rd.below HD8.out.bel) (by omega) (by omega)).mono ?_
              rintro e w9 ⟨A9, c9, B9, d9, hl9, ll9, rfl, ho9, hi9, hb9⟩
              obtain ⟨v0, v1, v2, v3⟩ := (HD8.out.below hb9).ress
              have HN := Lib.hid (HD8.out.doneNew (N := hl.length + 1) (M := ll.length + 1) hb9 ho9 hi9 (by omega) (by omega) false)
              obtain ⟨⟨r0, r1⟩, _⟩ := HN.out
              clear ho9 hi9 hb9 HD8 q0 q1
              go_wp2
              refine bodyPost_ret (v := .tuple #[.agg #[.slice A9 hl.length c9, .slice B9 ll.length d9], .bool false]) (by simp [results, Try.results67, go_sem, r0, r1]) rfl HN.out.2
          · refine bodyPost_ret (v := .tuple #[.agg #[.slice A2 hl.length c2, .slice B2 ll.length d2], .bool false]) (by simp [results, Try.results67, go_sem, r0, r1]) rfl HN.out.2
        · go_wp2_with fail
          · skip
            go_still_tail 8, (by kernel_rfl)
            change wpList _ _ _ _ _ w4.drew
            have HD4 := Lib.hid (HD4.out.below (wx := w4.drew) (Below.refl _ _).drew)
            clear q0 q1 q2 q3 q4 u0 u1 u2 u3 v0 v1 v2 v3 r0 r1 HN HI4 HR4
            generalize w4.drew = w5 at *
            obtain ⟨q0, q1, q2, q3, q4⟩ := HD4.out.ins
            go_wp2_with fail
            refine (l24Set_any A c0 hl B d0 ll b _ w5 (HRw.out.below HD4.out.bel) (HIw.out.rd.below HD4.out.bel) (by omega) (by omega)).mono ?_
            rintro e w6 ⟨n6, hn6, A6, c6, B6, d6, hl6, ll6, rfl, ho6, hi6, hb6⟩
            have hl6e := ho6.len
            have ll6e := hi6.len
            subst hl6e
            have HD7 := Lib.hid (HD4.out.put hb6 ho6 hi6)
            have hs4 := HD4.out.size
            have hg7 : w6.grownBy ((w6.setCell ⟨g6, 0, none⟩ (.slice A6 hl6.length c6)).setCell ⟨g6, 1, none⟩ (.slice B6 ll.length d6)) (some g6) := grown_tr (grown_set _ _ _ _) (grown_set _ _ _ _)
            have HQ7 := Lib.hid (And.intro (ho6.far hg7 (fun q e1 e2 => by injection e2 with e2; have := ho6.in_ q (.inl e1); omega)).rd (hi6.far hg7 (fun q e1 e2 => by injection e2 with e2; have := hi6.in_ q (.inl e1); omega)).rd)
            obtain ⟨u0, u1, u2, u3⟩ := (HD4.out.below hb6).outs
            obtain ⟨s0, s1, _, _⟩ := HD7.out.outs
            clear q0 q1 q2 q3 q4 ho6 hi6 hb6 hg7 HD4
            go_wp2_with fail
            generalize ((w6.setCell ⟨g6, 0, none⟩ (.slice A6 hl6.length c6)).setCell ⟨g6, 1, none⟩ (.slice B6 ll.length d6)) = w7 at *
            clear s0 s1 u0 u1 u2 u3
            have HP := specPapersValid A6 c6 hl6 B6 d6 ll6 w7 HQ7.out.1 HQ7.out.2 (by omega) (by omega)
            rw [ll6e] at HP
            clear ll6e
            refine HP.mono ?_
            rintro e w8 ⟨rfl, hb8⟩
            have HD8 := Lib.hid (HD7.out.below hb8)
            have hs8 := HD8.out.size
            clear hb8 HD7 HQ7 HP
            cases hok8 : papersOk hl6 ll6 with
            | true =>
              obtain ⟨u0, u1, u2, u3⟩ := HD8.out.outs
              obtain ⟨v0, v1, v2, v3⟩ := HD8.out.ress
              have HN := Lib.hid (HD8.out.done (N := hl.length + 1) (M := ll.length + 1) (by omega) (by omega) true)
              obtain ⟨⟨r0, r1⟩, _⟩ := HN.out
              go_wp2
              refine bodyPost_ret (v := .tuple #[.agg #[.slice A6 hl6.length c6, .slice B6 ll.length d6], .bool true]) (by simp [results, Try.results67, go_sem, r0, r1]) rfl HN.out.2
            | false =>
              obtain ⟨q0, q1, _, _, _⟩ := HD8.out.ins
              go_wp2_with fail
              refine (l24Copy_any A c0 hl B d0 ll w8 (HRw.out.below HD8.out.bel) (HIw.out.rd.below HD8.out.bel) (by omega) (by omega)).mono ?_
              rintro e w9 ⟨A9, c9, B9, d9, hl9, ll9, rfl, ho9, hi9, hb9⟩
              obtain ⟨v0, v1, v2, v3⟩ := (HD8.out.below hb9).ress
              have HN := Lib.hid (HD8.out.doneNew (N := hl.length + 1) (M := ll.length + 1) hb9 ho9 hi9 (by omega) (by omega) false)
              obtain ⟨⟨r0, r1⟩, _⟩ := HN.out
              clear ho9 hi9 hb9 HD8 q0 q1
              go_wp2
              refine bodyPost_ret (v := .tuple #[.agg #[.slice A9 hl.length c9, .slice B9 ll.length d9], .bool false]) (by simp [results, Try.results67, go_sem, r0, r1]) rfl HN.out.2
          · refine bodyPost_ret (v := .tuple #[.agg #[.slice A2 hl.length c2, .slice B2 ll.length d2], .bool false]) (by simp [results, Try.results67, go_sem, r0, r1]) rfl HN.out.2
    · go_wp2_with fail
      refine (l1In_any _ _ _ _).mono ?_
      rintro e wz ⟨rfl, rfl⟩
      rcases Int.lt_or_le 2 c with hc2 | hc2
      · rw [win_hi hc2]
        go_wp2
        refine bodyPost_ret (v := .tuple #[.agg #[.slice A2 hl.length c2, .slice B2 ll.length d2], .bool false]) (by simp [results, Try.results67, go_sem, r0, r1]) rfl HN.out.2
      rw [win_mk hc.1 hc2]
      have hc3 : c = 0 ∨ c = 1 ∨ c = 2 := by omega
      rcases hc3 with rfl | rfl | rfl
      · go_wp2_with fail
        · skip
          go_still_tail 8, (by kernel_rfl)
          change wpList _ _ _ _ _ w4.drew
          have HD4 := Lib.hid (HD4.out.below (wx := w4.drew) (Below.refl _ _).drew)
          clear q0 q1 q2 q3 q4 u0 u1 u2 u3 v0 v1 v2 v3 r0 r1 HN HI4 HR4
          generalize w4.drew = w5 at *
          obtain ⟨q0, q1, q2, q3, q4⟩ := HD4.out.ins
          go_wp2_with fail
          refine (l24Set_any A c0 hl B d0 ll b _ w5 (HRw.out.below HD4.out.bel) (HIw.out.rd.below HD4.out.bel) (by omega) (by omega)).mono ?_
          rintro e w6 ⟨n6, hn6, A6, c6, B6, d6, hl6, ll6, rfl, ho6, hi6, hb6⟩
          have hl6e := ho6.len
          have ll6e := hi6.len
          subst hl6e
          have HD7 := Lib.hid (HD4.out.put hb6 ho6 hi6)
          have hs4 := HD4.out.size
          have hg7 : w6.grownBy ((w6.setCell ⟨g6, 0, none⟩ (.slice A6 hl6.length c6)).setCell ⟨g6, 1, none⟩ (.slice B6 ll.length d6)) (some g6) := grown_tr (grown_set _ _ _ _) (grown_set _ _ _ _)
          have HQ7 := Lib.hid (And.intro (ho6.far hg7 (fun q e1 e2 => by injection e2 with e2; have := ho6.in_ q (.inl e1); omega)).rd (hi6.far hg7 (fun q e1 e2 => by injection e2 with e2; have := hi6.in_ q (.inl e1); omega)).rd)
          obtain ⟨u0, u1, u2, u3⟩ := (HD4.out.below hb6).outs
          obtain ⟨s0, s1, _, _⟩ := HD7.out.outs
          clear q0 q1 q2 q3 q4 ho6 hi6 hb6 hg7 HD4
          go_wp2_with fail
          generalize ((w6.setCell ⟨g6, 0, none⟩ (.slice A6 hl6.length c6)).setCell ⟨g6, 1, none⟩ (.slice B6 ll.length d6)) = w7 at *
          clear s0 s1 u0 u1 u2 u3
          have HP := specPapersValid A6 c6 hl6 B6 d6 ll6 w7 HQ7.out.1 HQ7.out.2 (by omega) (by omega)
          rw [ll6e] at HP
          clear ll6e
          refine HP.mono ?_
          rintro e w8 ⟨rfl, hb8⟩
          have HD8 := Lib.hid (HD7.out.below hb8)
          have hs8 := HD8.out.size
          clear hb8 HD7 HQ7 HP
          cases hok8 : papersOk hl6 ll6 with
          | true =>
            obtain ⟨u0, u1, u2, u3⟩ := HD8.out.outs
            obtain ⟨v0, v1, v2, v3⟩ := HD8.out.ress
            have HN := Lib.hid (HD8.out.done (N := hl.length + 1) (M := ll.length + 1) (by omega) (by omega) true)
            obtain ⟨⟨r0, r1⟩, _⟩ := HN.out
            go_wp2
            refine bodyPost_ret (v := .tuple #[.agg #[.slice A6 hl6.length c6, .slice B6 ll.length d6], .bool true]) (by simp [results, Try.results67, go_sem, r0, r1]) rfl HN.out.2
          | false =>
            obtain ⟨q0, q1, _, _, _⟩ := HD8.out.ins
            go_wp2_with fail
            refine (l24Copy_any A c0 hl B d0 ll w8 (HRw.out.below HD8.out.bel) (HIw.out.rd.below HD8.out.bel) (by omega) (by omega)).mono ?_
            rintro e w9 ⟨A9, c9, B9, d9, hl9, ll9, rfl, ho9, hi9, hb9⟩
            obtain ⟨v0, v1, v2, v3⟩ := (HD8.out.below hb9).ress
            have HN := Lib.hid (HD8.out.doneNew (N := hl.length + 1) (M := ll.length + 1) hb9 ho9 hi9 (by omega) (by omega) false)
            obtain ⟨⟨r0, r1⟩, _⟩ := HN.out
            clear ho9 hi9 hb9 HD8 q0 q1
            go_wp2
            refine bodyPost_ret (v := .tuple #[.agg #[.slice A9 hl.length c9, .slice B9 ll.length d9], .bool false]) (by simp [results, Try.results67, go_sem, r0, r1]) rfl HN.out.2
        · refine bodyPost_ret (v := .tuple #[.agg #[.slice A2 hl.length c2, .slice B2 ll.length d2], .bool false]) (by simp [results, Try.results67, go_sem, r0, r1]) rfl HN.out.2
      · go_wp2_with fail
        · skip
          go_still_tail 8, (by kernel_rfl)
          change wpList _ _ _ _ _ w4.drew
          have HD4 := Lib.hid (HD4.out.below (wx := w4.drew) (Below.refl _ _).drew)
          clear q0 q1 q2 q3 q4 u0 u1 u2 u3 v0 v1 v2 v3 r0 r1 HN HI4 HR4
          generalize w4.drew = w5 at *
          obtain ⟨q0, q1, q2, q3, q4⟩ := HD4.out.ins
          go_wp2_with fail
          refine (l24Set_any A c0 hl B d0 ll b _ w5 (HRw.out.below HD4.out.bel) (HIw.out.rd.below HD4.out.bel) (by omega) (by omega)).mono ?_
          rintro e w6 ⟨n6, hn6, A6, c6, B6, d6, hl6, ll6, rfl, ho6, hi6, hb6⟩
          have hl6e := ho6.len
          have ll6e := hi6.len
          subst hl6e
          have HD7 := Lib.hid (HD4.out.put hb6 ho6 hi6)
          have hs4 := HD4.out.size
          have hg7 : w6.grownBy ((w6.setCell ⟨g6, 0, none⟩ (.slice A6 hl6.length c6)).setCell ⟨g6, 1, none⟩ (.slice B6 ll.length d6)) (some g6) := grown_tr (grown_set _ _ _ _) (grown_set _ _ _ _)
          have HQ7 := Lib.hid (And.intro (ho6.far hg7 (fun q e1 e2 => by injection e2 with e2; have := ho6.in_ q (.inl e1); omega)).rd (hi6.far hg7 (fun q e1 e2 => by injection e2 with e2; have := hi6.in_ q (.inl e1); omega)).rd)
          obtain ⟨u0, u1, u2, u3⟩ := (HD4.out.below hb6).outs
          obtain ⟨s0, s1, _, _⟩ := HD7.out.outs
          clear q0 q1 q2 q3 q4 ho6 hi6 hb6 hg7 HD4
          go_wp2_with fail
          generalize ((w6.setCell ⟨g6, 0, none⟩ (.slice A6 hl6.length c6)).setCell ⟨g6, 1, none⟩ (.slice B6 ll.length d6)) = w7 at *
          clear s0 s1 u0 u1 u2 u3
          have HP := specPapersValid A6 c6 hl6 B6 d6 ll6 w7 HQ7.out.1 HQ7.out.2 (by omega) (by omega)
          rw [ll6e] at HP
          clear ll6e
          refine HP.mono ?_
          rintro e w8 ⟨rfl, hb8⟩
          have HD8 := Lib.hid (HD7.out.below hb8)
          have hs8 := HD8.out.size
          clear hb8 HD7 HQ7 HP
          cases hok8 : papersOk hl6 ll6 with
          | true =>
            obtain ⟨u0, u1, u2, u3⟩ := HD8.out.outs
            obtain ⟨v0, v1, v2, v3⟩ := HD8.out.ress
            have HN := Lib.hid (HD8.out.done (N := hl.length + 1) (M := ll.length + 1) (by omega) (by omega) true)
            obtain ⟨⟨r0, r1⟩, _⟩ := HN.out
            go_wp2
            refine bodyPost_ret (v := .tuple #[.agg #[.slice A6 hl6.length c6, .slice B6 ll.length d6], .bool true]) (by simp [results, Try.results67, go_sem, r0, r1]) rfl HN.out.2
          | false =>
            obtain ⟨q0, q1, _, _, _⟩ := HD8.out.ins
            go_wp2_with fail
            refine (l24Copy_any A c0 hl B d0 ll w8 (HRw.out.below HD8.out.bel) (HIw.out.rd.below HD8.out.bel) (by omega) (by omega)).mono ?_
            rintro e w9 ⟨A9, c9, B9, d9, hl9, ll9, rfl, ho9, hi9, hb9⟩
            obtain ⟨v0, v1, v2, v3⟩ := (HD8.out.below hb9).ress
            have HN := Lib.hid (HD8.out.doneNew (N := hl.length + 1) (M := ll.length + 1) hb9 ho9 hi9 (by omega) (by omega) false)
            obtain ⟨⟨r0, r1⟩, _⟩ := HN.out
            clear ho9 hi9 hb9 HD8 q0 q1
            go_wp2
            refine bodyPost_ret (v := .tuple #[.agg #[.slice A9 hl.length c9, .slice B9 ll.length d9], .bool false]) (by simp [results, Try.results67, go_sem, r0, r1]) rfl HN.out.2
        · refine bodyPost_ret (v := .tuple #[.agg #[.slice A2 hl.length c2, .slice B2 ll.length d2], .bool false]) (by simp [results, Try.results67, go_sem, r0, r1]) rfl HN.out.2
      · go_wp2_with fail
        · skip
          go_still_tail 8, (by kernel_rfl)
          change wpList _ _ _ _ _ w4.drew
          have HD4 := Lib.hid (HD4.out.below (wx := w4.drew) (Below.refl _ _).drew)
          clear q0 q1 q2 q3 q4 u0 u1 u2 u3 v0 v1 v2 v3 r0 r1 HN HI4 HR4
          generalize w4.drew = w5 at *
          obtain ⟨q0, q1, q2, q3, q4⟩ := HD4.out.ins
          go_wp2_with fail
          refine (l24Set_any A c0 hl B d0 ll b _ w5 (HRw.out.below HD4.out.bel) (HIw.out.rd.below HD4.out.bel) (by omega) (by omega)).mono ?_
          rintro e w6 ⟨n6, hn6, A6, c6, B6, d6, hl6, ll6, rfl, ho6, hi6, hb6⟩
          have hl6e := ho6.len
          have ll6e := hi6.len
          subst hl6e
          have HD7 := Lib.hid (HD4.out.put hb6 ho6 hi6)
          have hs4 := HD4.out.size
          have hg7 : w6.grownBy ((w6.setCell ⟨g6, 0, none⟩ (.slice A6 hl6.length c6)).setCell ⟨g6, 1, none⟩ (.slice B6 ll.length d6)) (some g6) := grown_tr (grown_set _ _ _ _) (grown_set _ _ _ _)
          have HQ7 := Lib.hid (And.intro (ho6.far hg7 (fun q e1 e2 => by injection e2 with e2; have := ho6.in_ q (.inl e1); omega)).rd (hi6.far hg7 (fun q e1 e2 => by injection e2 with e2; have := hi6.in_ q (.inl e1); omega)).rd)
          obtain ⟨u0, u1, u2, u3⟩ := (HD4.out.below hb6).outs
          obtain ⟨s0, s1, _, _⟩ := HD7.out.outs
          clear q0 q1 q2 q3 q4 ho6 hi6 hb6 hg7 HD4
          go_wp2_with fail
          generalize ((w6.setCell ⟨g6, 0, none⟩ (.slice A6 hl6.length c6)).setCell ⟨g6, 1, none⟩ (.slice B6 ll.length d6)) = w7 at *
          clear s0 s1 u0 u1 u2 u3
          have HP := specPapersValid A6 c6 hl6 B6 d6 ll6 w7 HQ7.out.1 HQ7.out.2 (by omega) (by omega)
          rw [ll6e] at HP
          clear ll6e
          refine HP.mono ?_
          rintro e w8 ⟨rfl, hb8⟩
          have HD8 := Lib.hid (HD7.out.below hb8)
          have hs8 := HD8.out.size
          clear hb8 HD7 HQ7 HP
          cases hok8 : papersOk hl6 ll6 with
          | true =>
            obtain ⟨u0, u1, u2, u3⟩ := HD8.out.outs
            obtain ⟨v0, v1, v2, v3⟩ := HD8.out.ress
            have HN := Lib.hid (HD8.out.done (N := hl.length + 1) (M := ll.length + 1) (by omega) (by omega) true)
            obtain ⟨⟨r0, r1⟩, _⟩ := HN.out
            go_wp2
            refine bodyPost_ret (v := .tuple #[.agg #[.slice A6 hl6.length c6, .slice B6 ll.length d6], .bool true]) (by simp [results, Try.results67, go_sem, r0, r1]) rfl HN.out.2
          | false =>
            obtain ⟨q0, q1, _, _, _⟩ := HD8.out.ins
            go_wp2_with fail
            refine (l24Copy_any A c0 hl B d0 ll w8 (HRw.out.below HD8.out.bel) (HIw.out.rd.below HD8.out.bel) (by omega) (by omega)).mono ?_
            rintro e w9 ⟨A9, c9, B9, d9, hl9, ll9, rfl, ho9, hi9, hb9⟩
            obtain ⟨v0, v1, v2, v3⟩ := (HD8.out.below hb9).ress
            have HN := Lib.hid (HD8.out.doneNew (N := hl.length + 1) (M := ll.length + 1) hb9 ho9 hi9 (by omega) (by omega) false)
            obtain ⟨⟨r0, r1⟩, _⟩ := HN.out
            clear ho9 hi9 hb9 HD8 q0 q1
            go_wp2
            refine bodyPost_ret (v := .tuple #[.agg #[.slice A9 hl.length c9, .slice B9 ll.length d9], .bool false]) (by simp [results, Try.results67, go_sem, r0, r1]) rfl HN.out.2
        · refine bodyPost_ret (v := .tuple #[.agg #[.slice A2 hl.length c2, .slice B2 ll.length d2], .bool false]) (by simp [results, Try.results67, go_sem, r0, r1]) rfl HN.out.2
    · cases f with
      | true =>
        go_wp2
        refine bodyPost_ret (v := .tuple #[.agg #[.slice A2 hl.length c2, .slice B2 ll.length d2], .bool false]) (by simp [results, Try.results67, go_sem, r0, r1]) rfl HN.out.2
      | false =>
        by_cases hm1 : m = 0
        · subst hm1
          go_wp2_with fail
          refine (l4Sorted_any B base d0 ll b w4 (HIw.out.below HD4.out.bel) (by omega)).mono ?_
          rintro e w6 ⟨B6, d6, ll6, rfl, hi6, hb6⟩
          have ll6e := hi6.len
          have HD7 := Lib.hid (HD4.out.putL hb6 hi6)
          have hs4 := HD4.out.size
          have hg7 : w6.grownBy (w6.setCell ⟨g6, 1, none⟩ (.slice B6 (ll.length + 1) d6)) (some g6) := grown_set _ _ _ _
          obtain ⟨hl6, hl6e, hr6⟩ := HD7.out.rdA
          have HQ7 := Lib.hid (And.intro hr6 (hi6.far hg7 (fun q e1 e2 => by injection e2 with e2; have := hi6.in_ q (.inl e1); omega)).rd)
          obtain ⟨u0, u1, u2, u3⟩ := (HD4.out.below hb6).outs
          obtain ⟨s0, s1, _, _⟩ := HD7.out.outs
          clear q0 q1 q2 q3 q4 hi6 hb6 hg7 HD4 hr6 v0 v1 v2 v3 r0 r1 HN HI4 HR4
          go_wp2_with fail
          generalize (w6.setCell ⟨g6, 1, none⟩ (.slice B6 (ll.length + 1) d6)) = w7 at *
          clear s0 s1 u0 u1 u2 u3
          have HP := specPapersValid A2 c2 hl6 B6 d6 ll6 w7 HQ7.out.1 HQ7.out.2 (by omega) (by omega)
          rw [ll6e, hl6e] at HP
          clear ll6e hl6e
          refine HP.mono ?_
          rintro e w8 ⟨rfl, hb8⟩
          have HD8 := Lib.hid (HD7.out.below hb8)
          have hs8 := HD8.out.size
          clear hb8 HD7 HQ7 HP
          cases hok8 : papersOk hl6 ll6 with
          | true =>
            obtain ⟨u0, u1, u2, u3⟩ := HD8.out.outs
            obtain ⟨v0, v1, v2, v3⟩ := HD8.out.ress
            have HN := Lib.hid (HD8.out.done (N := hl.length + 1) (M := ll.length + 1) (by omega) (by omega) true)
            obtain ⟨⟨r0, r1⟩, _⟩ := HN.out
            go_wp2
            refine bodyPost_ret (v := .tuple #[.agg #[.slice A2 hl.length c2, .slice B6 (ll.length + 1) d6], .bool true]) (by simp [results, Try.results67, go_sem, r0, r1]) rfl HN.out.2
          | false =>
            obtain ⟨q0, q1, _, _, _⟩ := HD8.out.ins
            go_wp2_with fail
            refine (l24Copy_any A c0 hl B d0 ll w8 (HRw.out.below HD8.out.bel) (HIw.out.rd.below HD8.out.bel) (by omega) (by omega)).mono ?_
            rintro e w9 ⟨A9, c9, B9, d9, hl9, ll9, rfl, ho9, hi9, hb9⟩
            obtain ⟨v0, v1, v2, v3⟩ := (HD8.out.below hb9).ress
            have HN := Lib.hid (HD8.out.doneNew (N := hl.length + 1) (M := ll.length + 1) hb9 ho9 hi9 (by omega) (by omega) false)
            obtain ⟨⟨r0, r1⟩, _⟩ := HN.out
            clear ho9 hi9 hb9 HD8 q0 q1
            go_wp2
            refine bodyPost_ret (v := .tuple #[.agg #[.slice A9 hl.length c9, .slice B9 ll.length d9], .bool false]) (by simp [results, Try.results67, go_sem, r0, r1]) rfl HN.out.2
        · go_wp2
          refine bodyPost_ret (v := .tuple #[.agg #[.slice A2 hl.length c2, .slice B2 ll.length d2], .bool false]) (by simp [results, Try.results67, go_sem, r0, r1]) rfl HN.out.2
    · have hx0 : ¬ a = 0 := by omega
      have hx1 : ¬ a = 1 := by omega
      have hx2 : ¬ a = 2 := by omega
      go_wp2_with fail
      refine (l1In_any _ _ _ _).mono ?_
      rintro e wz ⟨rfl, rfl⟩
      cases win c 0 2 with
      | true =>
        go_wp2
        refine bodyPost_ret (v := .tuple #[.agg #[.slice A2 hl.length c2, .slice B2 ll.length d2], .bool false]) (by simp [results, Try.results67, go_sem, r0, r1]) rfl HN.out.2
      | false =>
        go_wp2
        refine bodyPost_ret (v := .tuple #[.agg #[.slice A2 hl.length c2, .slice B2 ll.length d2], .bool false]) (by simp [results, Try.results67, go_sem, r0, r1]) rfl HN.out.2
end Go.Proofs.Ytjhbmikohcbkkaa
