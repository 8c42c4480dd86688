/-
  Contracts: the iterator over all orders; the numbers from 0 on.
-/
import Derived.Test.YtpabfbaoibmnlaaPermB
import Derived.Laws.EntriesVeiled
namespace Go.Proofs.Ytpabfbaoibmnlaa
open Go.RowKit Go.Shelf
set_option linter.unusedVariables false
set_option maxRecDepth 100000
attribute [local go_sem] Oper.semAt_some

/-- make([]int, 0, m) -/
theorem make_room (m : Nat) (h : m ≤ 1000000000) (w : World) :
    (Instr.makeSlice 30 (.int .i64 0) (.int .i64 (m : Int))).run Try.prog w = .ok (.slice (some ⟨w.heap.size, 0, none⟩) 0 m) (w.alloc (.cells (madeCells #[vi 0] m) 3)) := by
  obtain ⟨i0, hi, hz0, hz1, hz2⟩ := info_parts intInfo
  have hr := run_make (P := Try.prog) w 30 3 i0 (vi 0) Try.underlying30 hi hz0 .i64 .i64 0 (m : Int) (by omega) (by omega) (by rw [hz2]; omega) (by omega)
  rw [hz1] at hr
  simp only [Int.toNat_natCast, Nat.mul_one, Value.cells] at hr
  exact hr

set_option maxHeartbeats 4000000 in
theorem perms_in (l lbk lc lo D n : Nat) (LA : Option Addr) (Lst : List Int) (W : World) (hm : Lst.length ≤ 100) (hl : lo ≤ lbk ∧ lbk < D) (hD : D < W.heap.size) (hA : ∀ b o, LA = some ⟨b, o, none⟩ → lo ≤ b ∧ b < D) (J : List (List Int) → World → Prop)
    (hlb : W.heap[lbk]? = some (.cells #[.slice LA Lst.length lc] 30 (0, 0))) (hls : RdI W LA Lst)
    (hJ : ∀ pre A B row, J pre A → A.grownBy B row → (∀ r, row = some r → W.heap.size ≤ r ∧ r < W.heap.size + 4) → J pre B) (h0 : J [] W)
    (hY : ∀ m pre x W1, J pre W1 → St W1 W.heap.size l lbk LA lc Lst x → x.length = Lst.length → YieldAt Fence.wide m Try.prog l #[.slice (some ⟨W.heap.size + 1, 0, none⟩) Lst.length Lst.length] W1 fun e W' =>
      e = .returned (.bool true) ∧ J (pre ++ [x]) W' ∧ Kp lo D W.heap.size W1 W') :
    CallsIn Fence.wide n Try.prog 74 #[.func (.yield l) #[] #[], .pointer (some ⟨lbk, 0, none⟩)] W fun e W' => (∃ v, e = .returned v) ∧ J (exts Lst Lst.length []) W' := by
  have HE := Lib.hid (extend_in W.heap.size l lbk lc lo D LA Lst hm hl hD hA J (fun pre A B row hj hg hr => hJ pre A B row hj hg (fun r e => by have := hr r e; omega)) hY Lst.length (n - 1) [] [])
  have hmk := make_room Lst.length (by omega)
  have cl := cell_of_row W lbk 0 _ _ _ hlb
  simp only [List.getElem?_toArray, List.getElem?_cons_zero] at cl
  have HW : Hid (∃ W4, W4 = (((W.alloc (.cells #[.func (.yield l) #[] #[]] 76)).alloc (.cells (madeCells #[vi 0] Lst.length) 3)).alloc (.cells #[.slice (some ⟨W.heap.size + 1, 0, none⟩) 0 Lst.length] 30)).alloc (.cells #[.func (.func 75) #[] #[.pointer (some ⟨W.heap.size + 1 + 1, 0, none⟩), .pointer (some ⟨lbk, 0, none⟩), .pointer (some ⟨W.heap.size, 0, none⟩), .pointer (some ⟨W.heap.size + 1 + 1 + 1, 0, none⟩)]] 29) ∧ St W4 W.heap.size l lbk LA lc Lst [] ∧ J [] W4) := Lib.hid (by
    refine ⟨_, rfl, ⟨by simp, ?_, ?_, ?_, ?_, ?_, ?_⟩, ?_⟩
    · have h1 := heap_alloc_new W (.cells #[.func (.yield l) #[] #[]] 76)
      rw [Below.heap_alloc _ _ _ (by simp; omega), Below.heap_alloc _ _ _ (by simp; omega), Below.heap_alloc _ _ _ (by simp)]
      exact h1
    · have h2 := OwnI.made (W.alloc (.cells #[.func (.yield l) #[] #[]] 76)) Lst.length (by simp only [maxLen]; omega)
      rw [World.size_alloc] at h2
      have h3 : OwnI ((W.alloc (.cells #[.func (.yield l) #[] #[]] 76)).alloc (.cells (madeCells #[vi 0] Lst.length) 3)) (W.heap.size + 1) (some ⟨W.heap.size + 1, 0, none⟩) 0 Lst.length [] := by
        rcases Nat.eq_zero_or_pos Lst.length with h4 | h4
        · rw [h4] at h2 ⊢; exact h2
        · have := h2.cut 0 (Nat.zero_le _) h4
          rwa [List.take_zero] at this
      exact (h3.alloc _).alloc _
    · have h4 := heap_alloc_new ((W.alloc (.cells #[.func (.yield l) #[] #[]] 76)).alloc (.cells (madeCells #[vi 0] Lst.length) 3)) (.cells #[.slice (some ⟨W.heap.size + 1, 0, none⟩) 0 Lst.length] 30)
      rw [World.size_alloc, World.size_alloc] at h4
      rw [Below.heap_alloc _ _ _ (by simp)]
      exact h4
    · have := heap_alloc_new (((W.alloc (.cells #[.func (.yield l) #[] #[]] 76)).alloc (.cells (madeCells #[vi 0] Lst.length) 3)).alloc (.cells #[.slice (some ⟨W.heap.size + 1, 0, none⟩) 0 Lst.length] 30)) (.cells #[.func (.func 75) #[] #[.pointer (some ⟨W.heap.size + 1 + 1, 0, none⟩), .pointer (some ⟨lbk, 0, none⟩), .pointer (some ⟨W.heap.size, 0, none⟩), .pointer (some ⟨W.heap.size + 1 + 1 + 1, 0, none⟩)]] 29)
      rw [World.size_alloc, World.size_alloc, World.size_alloc] at this
      exact this
    · rw [Below.heap_alloc _ _ _ (by simp; omega), Below.heap_alloc _ _ _ (by simp; omega), Below.heap_alloc _ _ _ (by simp; omega), Below.heap_alloc _ _ _ (by omega)]
      exact hlb
    · exact (((hls.alloc _).alloc _).alloc _).alloc _
    · exact hJ _ _ _ none (hJ _ _ _ none (hJ _ _ _ none (hJ _ _ _ none h0 (World.grownBy_alloc _ _ _) (fun r e => by cases e)) (World.grownBy_alloc _ _ _) (fun r e => by cases e)) (World.grownBy_alloc _ _ _) (fun r e => by cases e)) (World.grownBy_alloc _ _ _) (fun r e => by cases e))
  have cl1 : (W.alloc (.cells #[.func (.yield l) #[] #[]] 76)).cell? ⟨lbk, 0, none⟩ = some (.slice LA Lst.length lc) := by rw [World.cell?_alloc_past _ _ _ (by omega)]; exact cl
  clear hlb hls hJ h0 hY hA
  refine callsIn_of_wp Try.func74 rfl trivial ?_ rfl
  simp only [Try.ntmps74, List.size_toArray, List.length_cons, List.length_nil, Nat.reduceAdd, Nat.reduceSub, Array.replicate_succ, Array.replicate_zero, List.push_toArray, List.append_toArray, List.nil_append, List.cons_append]
  gi_wp2
  refine ⟨trivial, fun h => by simp [Fence.wide] at h, ?_⟩
  obtain ⟨W4, hW4, hs4, hj4⟩ := HW.out
  rw [hW4] at hs4 hj4
  refine (HE.out _ (by simp) hs4 hj4).mono ?_
  rintro e W5 ⟨rfl, hj5, -⟩
  have HJ5 := Lib.hid hj5
  clear hj5 hj4 hs4 hW4
  gi_wp2
  go_end0
  exact ⟨⟨_, rfl⟩, by simpa using HJ5.out⟩

def ups (m : Nat) : List Int := (List.range m).map fun (i : Nat) => (i : Int)
theorem ups_length (m : Nat) : (ups m).length = m := by simp [ups]
theorem ups_nth (m k : Nat) (h : k < m) : nth (ups m) k = k := by rw [nth_eq _ _ (by simpa [ups] using h)]; simp [ups]

theorem indices_any (m : Nat) (w : World) (hm : m ≤ 100) : Calls Try.prog 66 #[vi m] w (NewI w (ups m)) := by
  have hmk := make_int m (by omega)
  go_enter Try.func66, Try.ntmps66
  go_wp2
  clear hmk
  go_loopw [9] (fun i wr => ∃ k : Nat, k ≤ m ∧ i = vi k ∧ OwnI wr w.heap.size (some ⟨w.heap.size, 0, none⟩) m m (part (ups m) k) ∧ Below w.heap.size w wr) (fun i _ => m - (intOf i).toNat)
  case atStart => exact ⟨0, Nat.zero_le _, rfl, by rw [part_zero, ups_length]; exact OwnI.made w _ (by simp only [maxLen]; omega), (Below.refl _ _).alloc (Nat.le_refl _) _⟩
  case round =>
    obtain ⟨k, hk, rfl, hown, hb⟩ := hrel
    by_cases hlt : k < m
    · have hcd := hown.cell k hlt
      have hcf := hown.frozen k
      have Hown := Lib.hid hown
      have HP := Lib.hid (part_set (ups m) k (by rw [ups_length]; exact hlt))
      rw [ups_nth m k hlt] at HP
      clear hown
      go_wp2
      go_roundw
      case rel => exact ⟨k + 1, by omega, by go_num, by rw [← HP.out]; exact (Hown.out.put k _).1, hb.setCell (Nat.le_refl _) _⟩
      case measure => simp [intOf]; omega
    · obtain rfl : k = m := by omega
      have hp := part_all (ups k)
      rw [ups_length] at hp
      rw [hp] at hown
      clear hp
      go_wp2
      go_ret
      exact ⟨some ⟨w.heap.size, 0, none⟩, k, by rw [ups_length]; rfl, by rw [ups_length]; exact hown, hb⟩
end Go.Proofs.Ytpabfbaoibmnlaa
