/-
  Contract: the function that extends an order, and calls itself.
-/
import Derived.Test.YtpabfbaoibmnlaaPermA
namespace Go.Proofs.Ytpabfbaoibmnlaa
open Go.RowKit Go.Shelf
set_option linter.unusedVariables false
set_option maxRecDepth 100000
attribute [local go_sem] Oper.semAt_some

/-- What comes of the first k numbers of the list behind a beginning. -/
def extK (Lst : List Int) (f : Nat) (p : List Int) (k : Nat) : List (List Int) := (Lst.take k).flatMap fun n => if hasI p n then [] else exts Lst f (p ++ [n])
theorem extK_zero (Lst : List Int) (f : Nat) (p : List Int) : extK Lst f p 0 = [] := by simp [extK]
theorem extK_yes {Lst : List Int} {f : Nat} {p : List Int} {k : Nat} (hk : k < Lst.length) (h : hasI p (nth Lst k) = true) : extK Lst f p (k + 1) = extK Lst f p k := by
  simp [extK, take_snoc Lst k hk, List.flatMap_append, h]
theorem extK_no {Lst : List Int} {f : Nat} {p : List Int} {k : Nat} (hk : k < Lst.length) (h : hasI p (nth Lst k) = false) : extK Lst f p (k + 1) = extK Lst f p k ++ exts Lst f (p ++ [nth Lst k]) := by
  simp [extK, take_snoc Lst k hk, List.flatMap_append, h]
theorem extK_all (Lst : List Int) (f : Nat) (p : List Int) : extK Lst f p Lst.length = exts Lst (f + 1) p := by simp [extK, exts]

set_option maxHeartbeats 4000000 in
theorem extend_in (s l lbk lc lo D : Nat) (LA : Option Addr) (Lst : List Int) (hm : Lst.length ≤ 100) (hl : lo ≤ lbk ∧ lbk < D) (hD : D < s) (hA : ∀ b o, LA = some ⟨b, o, none⟩ → lo ≤ b ∧ b < D) (J : List (List Int) → World → Prop)
    (hJ : ∀ pre A B row, J pre A → A.grownBy B row → (∀ r, row = some r → r = s + 1 ∨ r = s + 2) → J pre B)
    (hY : ∀ m pre x W, J pre W → St W s l lbk LA lc Lst x → x.length = Lst.length → YieldAt Fence.wide m Try.prog l #[.slice (some ⟨s + 1, 0, none⟩) Lst.length Lst.length] W fun e W' =>
      e = .returned (.bool true) ∧ J (pre ++ [x]) W' ∧ Kp lo D s W W') :
    ∀ (f n : Nat) (p : List Int) (pre : List (List Int)) (W : World), p.length + f = Lst.length → St W s l lbk LA lc Lst p → J pre W →
      CallsIn Fence.wide n Try.prog 75 #[.pointer (some ⟨s + 2, 0, none⟩), .pointer (some ⟨lbk, 0, none⟩), .pointer (some ⟨s, 0, none⟩), .pointer (some ⟨s + 3, 0, none⟩)] W fun e W' =>
        e = .returned (.bool true) ∧ J (pre ++ exts Lst f p) W' ∧ St W' s l lbk LA lc Lst p := by
  intro f
  induction f with
  | zero =>
    intro n p pre W hp hst hj
    have hpl : p.length = Lst.length := by omega
    obtain ⟨fn, tmps, assign, body, hy, hR⟩ := hY (n - 1) pre p W hj hst hpl
    have HS := Lib.hid hst
    have co := cell_of_row W (s + 2) 0 _ _ _ hst.ord
    have cl := cell_of_row W lbk 0 _ _ _ hst.lb
    have cy := cell_of_row W s 0 _ _ _ hst.yb
    simp only [List.getElem?_toArray, List.getElem?_cons_zero] at co cl cy
    rw [hpl] at co
    have HR := Lib.hid hR
    clear hst hj hpl hY hJ hR
    refine callsIn_of_wp Try.func75 rfl trivial ?_ rfl
    simp only [Try.ntmps75, List.size_toArray, List.length_cons, List.length_nil, Nat.reduceAdd, Nat.reduceSub, Array.replicate_succ, Array.replicate_zero, List.push_toArray, List.append_toArray, List.nil_append, List.cons_append]
    gi_wp2
    refine ⟨fun h => by simp [Fence.wide] at h, ?_⟩
    refine HR.out.mono ?_
    rintro e W' ⟨rfl, hj, hk⟩
    have HJ := Lib.hid hj
    have HS' := Lib.hid (HS.out.kept hk hl hA)
    clear hj hk
    gi_wp2
    go_ret
    exact ⟨rfl, by simpa [exts] using HJ.out, HS'.out⟩
  | succ f ih =>
    intro n p pre W hp hst hj
    have hne : ¬ p.length = Lst.length := by omega
    have hne1 : ((p.length : Int) == (Lst.length : Int)) = false := beq_false_of_ne (by omega)
    have hne2 : (p.length == Lst.length) = false := beq_false_of_ne hne
    have HS := Lib.hid hst
    have HJ := Lib.hid hj
    have co := cell_of_row W (s + 2) 0 _ _ _ hst.ord
    have cl := cell_of_row W lbk 0 _ _ _ hst.lb
    simp only [List.getElem?_toArray, List.getElem?_cons_zero] at co cl
    have HIH := Lib.hid ih
    have HJJ := Lib.hid hJ
    clear hst hj hY hJ ih hne
    refine callsIn_of_wp Try.func75 rfl trivial ?_ rfl
    simp only [Try.ntmps75, List.size_toArray, List.length_cons, List.length_nil, Nat.reduceAdd, Nat.reduceSub, Array.replicate_succ, Array.replicate_zero, List.push_toArray, List.append_toArray, List.nil_append, List.cons_append]
    gi_wp2
    clear co cl
    gi_loopw [18] (fun i wr => ∃ k : Nat, k ≤ Lst.length ∧ i = vi k ∧ J (pre ++ extK Lst f p k) wr ∧ St wr s l lbk LA lc Lst p) (fun i _ => Lst.length - (intOf i).toNat)
    case atStart => exact ⟨0, Nat.zero_le _, rfl, by rw [extK_zero, List.append_nil]; exact HJ.out, HS.out⟩
    case round =>
      obtain ⟨k, hk, rfl, hj, hst⟩ := hrel
      have HSr := Lib.hid hst
      have HJr := Lib.hid hj
      have co := cell_of_row wr (s + 2) 0 _ _ _ hst.ord
      have fo := frozen_of_row wr (s + 2) 0 _ _ hst.ord
      have ce := cell_of_row wr (s + 3) 0 _ _ _ hst.eb
      simp only [List.getElem?_toArray, List.getElem?_cons_zero] at co ce
      clear hst hj
      by_cases hlt : k < Lst.length
      · obtain ⟨b, o, rfl, hbl, hc⟩ := HSr.out.lst (by omega)
        have hck := hc k hlt
        clear hc
        cases hh : hasI p (nth Lst k) with
        | true =>
          have HX := Lib.hid (extK_yes (f := f) hlt hh)
          have HC := Lib.hid (contains_any (some ⟨s + 1, 0, none⟩) Lst.length p (nth Lst k) wr HSr.out.arr.rd (by omega))
          rw [hh] at HC
          gi_wp2
          refine ⟨trivial, fun h => by simp [Fence.wide] at h, ?_⟩
          refine (callsIn_wide.2 HC.out).mono ?_
          rintro e w' ⟨rfl, rfl⟩
          gi_wp2
          go_roundw
          case rel => exact ⟨k + 1, by omega, by go_num, by rw [HX.out]; exact HJr.out, HSr.out⟩
          case measure => simp [intOf]; omega
        | false =>
          have HX := Lib.hid (extK_no (f := f) hlt hh)
          have HC := Lib.hid (contains_any (some ⟨s + 1, 0, none⟩) Lst.length p (nth Lst k) wr HSr.out.arr.rd (by omega))
          rw [hh] at HC
          gi_wp2
          refine ⟨trivial, fun h => by simp [Fence.wide] at h, ?_⟩
          refine (callsIn_wide.2 HC.out).mono ?_
          rintro e w' ⟨rfl, rfl⟩
          have HN1 := Lib.hid (RdI.one wr (nth Lst k))
          obtain ⟨i0, hi, hz0, hz1, hz2⟩ := info_parts intInfo
          have HC1 : Hid (∀ j u, [vi (nth Lst k)][j]? = some u → (wr.alloc (.cells #[vi (nth Lst k)] 3)).cell? ((⟨wr.heap.size, 0, none⟩ : Addr).add j) = some u) := Lib.hid (fun j u hu => by
            match j, hu with
            | 0, hu => simp at hu; subst hu; simp [Addr.add]
            | j + 1, hu => simp at hu)
          have HC2 : Hid (∀ u ∈ [vi (nth Lst k)], u.oneCell' = true) := Lib.hid (fun u hu => by simp at hu; subst hu; rfl)
          have hlbs : lbk < s := by omega
          have hAs : ∀ b' o', (some (⟨b, o, none⟩ : Addr)) = some ⟨b', o', none⟩ → b' < s := fun b' o' e => by have := (hA b' o' e).2; omega
          have HF := Lib.hid (fun (w7 : World) (ho7 : w7.ownsRow (s + 1) 3 1 (.slice (some ⟨s + 1, 0, none⟩) (p.length + 1) Lst.length) (p.length + 1) (p.map vi ++ [vi (nth Lst k)])) (hg7 : (wr.alloc (.cells #[vi (nth Lst k)] 3)).grownBy w7 (some (s + 1))) =>
            show OwnI w7 (s + 1) (some ⟨s + 1, 0, none⟩) (p ++ [nth Lst k]).length Lst.length (p ++ [nth Lst k]) ∧ St w7 s l lbk (some ⟨b, o, none⟩) lc Lst p from by
              have ho7' : OwnI w7 (s + 1) (some ⟨s + 1, 0, none⟩) (p ++ [nth Lst k]).length Lst.length (p ++ [nth Lst k]) := by
                unfold OwnI
                rw [List.map_append, List.length_append]
                exact ho7
              exact ⟨ho7', (HSr.out.below ((Below.refl _ _).alloc (Nat.le_refl _) _) hlbs).grow hg7 ho7' List.take_left (by simp) hlbs hAs⟩)
          gi_wp2_with (gi_at_builtin; refine wpListIn_append_fits _ rfl (.tmp 25) (.tmp 27) 30 rfl (s + 1) 3 i0 1 Try.underlying30 hi hz1 (s + 1) p.length Lst.length (p.map vi) rfl (HSr.out.arr.alloc (.cells #[vi (nth Lst k)] 3)) ⟨wr.heap.size, 0, none⟩ 1 1 [vi (nth Lst k)] rfl rfl HC1.out HC2.out (by omega) ?_; intro w7 ho7 hg7; have HO7 := Lib.hid ho7; have HG7 := Lib.hid hg7; have HS7 := Lib.hid (HF.out w7 HO7.out HG7.out); clear ho7 hg7; have co7 := cell_of_row w7 (s + 2) 0 _ _ _ HS7.out.2.ord; have fo7 := frozen_of_row w7 (s + 2) 0 _ _ HS7.out.2.ord; have ce7 := cell_of_row w7 (s + 3) 0 _ _ _ HS7.out.2.eb; simp only [List.getElem?_toArray, List.getElem?_cons_zero] at co7 ce7)
          refine ⟨trivial, fun h => by simp [Fence.wide] at h, ?_⟩
          have HST := Lib.hid (HS7.out.2.store HS7.out.1 hlbs hAs)
          rw [List.length_append, List.length_singleton] at HST
          have HJ8 := Lib.hid (HJJ.out _ _ _ _ (HJJ.out _ _ _ _ (HJJ.out _ _ (wr.alloc (.cells #[vi (nth Lst k)] 3)) none HJr.out (World.grownBy_alloc _ _ _) (fun r e => by cases e)) HG7.out (fun r e => by injection e with e; omega)) HST.out.2 (fun r e => by injection e with e; omega))
          refine (HIH.out (n - 1) (p ++ [nth Lst k]) _ _ (by simp; omega) HST.out.1 HJ8.out).mono ?_
          rintro e w9 ⟨rfl, hj9, hs9⟩
          have HJ9 := Lib.hid hj9
          have HS9 := Lib.hid hs9
          have co9 := cell_of_row w9 (s + 2) 0 _ _ _ hs9.ord
          have fo9 := frozen_of_row w9 (s + 2) 0 _ _ hs9.ord
          simp only [List.getElem?_toArray, List.getElem?_cons_zero, List.length_append, List.length_singleton] at co9
          have hcut := hs9.arr.cut p.length (by simp) (by simp)
          rw [List.take_left] at hcut
          have HST9 := Lib.hid (hs9.store hcut hlbs hAs)
          have HJ10 := Lib.hid (HJJ.out _ _ _ _ hj9 HST9.out.2 (fun r e => by injection e with e; omega))
          have hw1 : IntKind.i64.wrap ((p.length : Int) + 1 - 1) = (p.length : Int) := by rw [IntKind.wrap_i64]; omega
          clear hj9 hs9 hcut co7 fo7 ce7 co fo ce
          gi_wp2
          go_roundw
          case rel => exact ⟨k + 1, by omega, by go_num, by rw [HX.out, ← List.append_assoc]; exact HJ10.out, HST9.out.1⟩
          case measure => simp [intOf]; omega
      · obtain rfl : k = Lst.length := by omega
        have HX := Lib.hid (extK_all Lst f p)
        gi_wp2
        go_ret
        exact ⟨rfl, by rw [← HX.out]; exact HJr.out, HSr.out⟩
end Go.Proofs.Ytpabfbaoibmnlaa
