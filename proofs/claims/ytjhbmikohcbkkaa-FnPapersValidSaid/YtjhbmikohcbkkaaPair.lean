/-
  Contracts: lists of structs of two ints are copied, compared, made and grown.
-/
import Derived.Test.YtjhbmikohcbkkaaBase2
import Derived.Test.YtjhbmikohcbkkaaEnc
import Derived.StillTailTactics
namespace Go.Proofs.Ytjhbmikohcbkkaa
open Go.RowKit
set_option linter.unusedVariables false
set_option maxRecDepth 100000

theorem quiet_left {P : Program} {f : FuncId} {args : Array Value} {w : World} {n : Nat} {v : Value}
    (h : Calls P f args (w.drewN n) fun e w' => e = .returned v ∧ w.drewN n = w') : Calls P f args (w.drewN n) fun e w'' => e = .returned v ∧ ∃ m, w'' = w.drewN m :=
  h.mono fun _ _ ⟨he, hm⟩ => ⟨he, n, hm.symm⟩

/-- What a size guard leaves. -/
def szV (n : Nat) (left : Int) : Int := if left < n then -1 else left - n
theorem szV_lo {n : Nat} {left : Int} (h : left < n) : szV n left = -1 := if_pos h
theorem szV_hi {n : Nat} {left : Int} (h : ¬ left < n) : szV n left = left - n := if_neg h

set_option maxRecDepth 100000 in
/-- append(s, x...) of any encoded elements, s a slice of the call's own. -/
theorem app_enc {α : Type} [Inhabited α] (e : Enc α) (E T : TypeId) (hT : Try.prog.underlying T = some (.slice E)) (i0 : TypeInfo) (z : Value) (bytes : Nat)
    (hi : Try.prog.info? E = some i0) (hz0 : i0.zero = some z) (hz1 : i0.size = e.s) (hz2 : i0.bytes = bytes) (hzs : z.cells.size = e.s) (hby : bytes ≤ 128)
    {ops : Array Oper} {rest : List Oper} {o : Oper} {a : Act} {Q : Exit → Act → World → Prop} {w : World} (hgd : Region.wanted o (yielded ops a.tmps) = true) (s x : Operand)
    (ho : o.op = .call { callee := .builtin .append, args := #[s, x], argTypes := #[T, T] })
    (base : Nat) (A0 : Option Addr) (n0 c0 : Nat) (xs : List α) (hs : a.eval s = .slice A0 n0 c0) (hown : Own e E w base A0 n0 c0 xs)
    (A : Option Addr) (m c : Nat) (l : List α) (hx : a.eval x = .slice A m c) (hr : Rd e w A l) (hm : l.length = m)
    (hn : n0 + m ≤ 1000000000) (hbase : base ≤ w.heap.size)
    (h : ∀ A' c' w', Own e E w' base A' (n0 + m) c' (xs ++ l) → w.grownBy w' (blk A0) → wpList Try.prog ops Q rest (a.put o.dst (.slice A' (n0 + m) c')) w') :
    wpList Try.prog ops Q (o :: rest) a w := by
  have hone : ∀ u ∈ l.flatMap e.f, u.oneCell' = true := by
    intro u hu
    obtain ⟨y, _, hy⟩ := List.mem_flatMap.1 hu
    exact e.one y u hy
  have hblk : ∀ B : Option Addr, Value.ownBlock (.slice B n0 c0) = blk B := by intro B; cases B <;> rfl
  have fin : ∀ v' w', (Builtin.append_ #[T, T] o.type #[.slice A0 n0 c0, .slice A m c]).run Try.prog w = .ok v' w' →
      w'.ownsRow base E e.s v' (n0 + m) ((xs ++ l).flatMap e.f) → w.grownBy w' (blk A0) → wpList Try.prog ops Q (o :: rest) a w := by
    intro v' w' hrun h2 h3
    have hv : ∃ A' c', v' = .slice A' (n0 + m) c' := by
      rcases h2.2 with ⟨rfl, e1⟩ | ⟨g, cap, cur, rfl, _⟩
      · exact ⟨none, 0, by rw [e1]⟩
      · exact ⟨_, _, rfl⟩
    obtain ⟨A', c', rfl⟩ := hv
    refine wpList_step fun K hK => ?_
    rw [if_pos hgd]
    unfold Oper.wp execOp
    simp only [ho, resolve, invoke, builtin, Sem.run_bind, Sem.run_pure, Result.andThen_ok, List.map_toArray, List.map_cons, List.map_nil, hs, hx, hrun]
    exact hK _ _ (h A' c' w' h2 h3)
  rcases A with _ | ad
  · have hl0 : l = [] := by
      rcases Nat.eq_zero_or_pos l.length with h0 | h0
      · exact List.eq_nil_of_length_eq_zero h0
      · obtain ⟨b, o, e1, _⟩ := hr h0; cases e1
    subst hl0
    obtain rfl : m = 0 := by simpa using hm.symm
    have hrun : (Builtin.append_ #[T, T] o.type #[.slice A0 n0 c0, .slice none 0 c]).run Try.prog w = .ok (.slice A0 n0 c0) w := by
      rcases hown.2 with ⟨e1, h0⟩ | ⟨g, cap, cur, e1, _, _, hnc, _⟩
      · injection e1 with e1 e2 e3; subst e1 e2 e3
        simp [Builtin.append_, run_underlying hT, sizeOf, typeInfo, hi, Builtin.lenOf, Builtin.firstCells]
      · injection e1 with e1 e2 e3; subst e1 e3
        simp [Builtin.append_, run_underlying hT, sizeOf, typeInfo, hi, Builtin.lenOf, Builtin.firstCells, hnc, storeCells]
    exact fin _ _ hrun (by rw [List.append_nil]; exact hown) (World.grownBy.refl _ _)
  · have hcells : ∀ j u, (l.flatMap e.f)[j]? = some u → w.cell? (ad.add j) = some u := by
      intro j u hu
      have hj : j < l.length * e.s := by rw [← flat_length]; exact (List.getElem?_eq_some_iff.1 hu).1
      have hl0 : 0 < l.length := by
        rcases Nat.eq_zero_or_pos l.length with h0 | h0
        · rw [h0] at hj; omega
        · exact h0
      obtain ⟨b, o, e1, hb, hc⟩ := hr hl0
      injection e1 with e1; subst e1
      have hq : j / e.s < l.length := by rw [Nat.div_lt_iff_lt_mul e.pos]; exact hj
      have hrr : j % e.s < e.s := Nat.mod_lt _ e.pos
      have hi2 : j = j / e.s * e.s + j % e.s := by rw [Nat.mul_comm]; exact (Nat.div_add_mod j e.s).symm
      have hg := flat_get e l (j / e.s) (j % e.s) hq hrr
      rw [← hi2] at hg
      rw [hg] at hu
      have := hc _ hq _ _ hu
      rw [← hi2] at this
      rw [Addr.add_lit]
      exact this
    have hbn : (n0 + m) * bytes ≤ 140737488355328 := Nat.le_trans (Nat.mul_le_mul_right _ hn) (Nat.le_trans (Nat.mul_le_mul_left _ hby) (by omega))
    obtain ⟨v', w', hrun, h2, h3, _⟩ := run_append_own (P := Try.prog) w base T o.type E i0 z e.s bytes hT hi hz0 hz1 hz2 hzs e.pos _ n0 (xs.flatMap e.f) hown ad m c (l.flatMap e.f) (by rw [flat_length, hm]) hcells hone (by simp only [maxLen]; omega) hbn hbase
    rw [hblk] at h3
    rw [← List.flatMap_append] at h2
    exact fin _ _ hrun h2 h3

/-! ### Rate -/






/-! ### Wagon -/






/-! ### Booking -/






/-! ### Task -/






/-! ### Hold -/
theorem HoldInfo : (Try.prog.info? 51).map (fun i => (i.zero, i.size, i.bytes)) = some (some (.agg #[.int .i64 0, .int .i64 0]), 2, 16) := by kernel_rfl

theorem make_Hold (n : Nat) (h : n ≤ 1000000000) (w : World) :
    (Instr.makeSlice 35 (.int .i64 (n : Int)) (.int .i64 (n : Int))).run Try.prog w = .ok (.slice (some ⟨w.heap.size, 0, none⟩) n n) (w.alloc (.cells (madeCells #[vi 0, vi 0] (n * 2)) 51)) := by
  obtain ⟨i0, hi, hz0, hz1, hz2⟩ := info_parts HoldInfo
  have hr := run_make (P := Try.prog) w 35 51 i0 _ Try.underlying35 hi hz0 .i64 .i64 (n : Int) (n : Int) (by omega) (by omega) (by rw [hz2]; omega) (by omega)
  rw [hz1] at hr
  simp only [Int.toNat_natCast, Value.cells] at hr
  exact hr

/-- A call that hands back a new slice of them. -/
def NewHold (w : World) (l : List (Int × Int)) (e : Ending) (w' : World) : Prop :=
  ∃ A c, e = .returned (.slice A l.length c) ∧ Own encP 51 w' w.heap.size A l.length c l ∧ Below w.heap.size w w'
/-- .. and a value beside it. -/
def New2Hold (w : World) (l : List (Int × Int)) (v : Value) (e : Ending) (w' : World) : Prop :=
  ∃ A c, e = .returned (.tuple #[.slice A l.length c, v]) ∧ Own encP 51 w' w.heap.size A l.length c l ∧ Below w.heap.size w w'

/-- append(s, x...), s a slice of the call's own. -/
theorem app_Hold {ops : Array Oper} {rest : List Oper} {o : Oper} {a : Act} {Q : Exit → Act → World → Prop} {w : World} (hgd : Region.wanted o (yielded ops a.tmps) = true) (s x : Operand)
    (ho : o.op = .call { callee := .builtin .append, args := #[s, x], argTypes := #[35, 35] })
    (base : Nat) (A0 : Option Addr) (n0 c0 : Nat) (xs : List (Int × Int)) (hs : a.eval s = .slice A0 n0 c0) (hown : Own encP 51 w base A0 n0 c0 xs)
    (A : Option Addr) (m c : Nat) (l : List (Int × Int)) (hx : a.eval x = .slice A m c) (hr : Rd encP w A l) (hm : l.length = m)
    (hn : n0 + m ≤ 1000000000) (hbase : base ≤ w.heap.size)
    (h : ∀ A' c' w', Own encP 51 w' base A' (n0 + m) c' (xs ++ l) → w.grownBy w' (blk A0) → wpList Try.prog ops Q rest (a.put o.dst (.slice A' (n0 + m) c')) w') :
    wpList Try.prog ops Q (o :: rest) a w := by
  obtain ⟨i0, hi, hz0, hz1, hz2⟩ := info_parts HoldInfo
  exact app_enc encP 51 35 Try.underlying35 i0 _ 16 hi hz0 hz1 hz2 rfl (by omega) hgd s x ho base A0 n0 c0 xs hs hown A m c l hx hr hm hn hbase h

theorem toHold_any (a b : Int) (w : World) :
    Calls Try.prog 55 #[.agg #[vi a, vi b]] w fun e w' => e = .returned (.agg #[vi a, vi b]) ∧ Below w.heap.size w w' := by
  go_enter Try.func55, Try.ntmps55
  go_wp2
  refine bodyPost_ret (v := .agg #[vi a, vi b]) (by simp [results, Try.results55, go_sem]) rfl ⟨rfl, ?_⟩
  exact (((Below.refl _ _).alloc (Nat.le_refl _) _).alloc (by simp) _).alloc (by simp; omega) _

theorem toHoldS_any (A : Option Addr) (c : Nat) (l : List (Int × Int)) (w : World) (h : Rd encP w A l) (hl : l.length ≤ 1048576) :
    Calls Try.prog 37 #[.slice A l.length c] w (NewHold w l) := by
  have hmk := make_Hold l.length (by omega)
  go_enter Try.func37, Try.ntmps37
  go_wp2
  clear hmk
  go_loopw [4] (fun i wr => ∃ k : Nat, k ≤ l.length ∧ i = vi k ∧ Own encP 51 wr w.heap.size (some ⟨w.heap.size, 0, none⟩) l.length l.length (partL l k) ∧ Below w.heap.size w wr)
    (fun i _ => l.length - (intOf i).toNat)
  case atStart => exact ⟨0, Nat.zero_le _, rfl, by rw [partL_zero]; exact Own.made (e := encP) w #[vi 0, vi 0] rfl _ (by simp only [maxLen]; omega), (Below.refl _ _).alloc (Nat.le_refl _) _⟩
  case round =>
    obtain ⟨k, hk, rfl, hown, hb⟩ := hrel
    by_cases hlt : k < l.length
    · obtain ⟨b, o, rfl, hbl, _⟩ := h.below hb (by omega)
      obtain ⟨hc1, hc2⟩ := (h.below hb).at2 k hlt
      have HO := Lib.hid hown
      have HB := Lib.hid hb
      clear hown hb h
      go_wp2_with fail
      refine (toHold_any _ _ _).mono ?_
      rintro e w2 ⟨rfl, hb2⟩
      have HO2 := Lib.hid (HO.out.below hb2)
      have HB2 := Lib.hid (bthen HB.out hb2)
      have hq := HO2.out.cell2 k hlt
      have hq1 := hq.1
      have hf1 := HO2.out.frozen (k * 2)
      have hf2 := HO2.out.frozen (k * 2 + 1)
      have hq2 : (w2.setCell ⟨w.heap.size, k * 2, none⟩ (vi (nth l k).1)).cell? ⟨w.heap.size, k * 2 + 1, none⟩ = some (vi (nth (partL l k) k).2) := by
        rw [World.cell?_setCell_other _ _ _ _ (by intro e; injection e with _ e; omega)]; exact hq.2
      have HP := Lib.hid (HO2.out.put2 k hlt (nth l k))
      clear hb2 hq
      go_wp2
      go_roundw
      case rel => exact ⟨k + 1, by omega, by go_num, by rw [← partL_set l k hlt]; exact HP.out.1, (HB2.out.setCell (Nat.le_refl _) _).setCell (Nat.le_refl _) _⟩
      case measure => simp [intOf]; omega
    · obtain rfl : k = l.length := by omega
      rw [partL_all] at hown
      go_wp2
      go_ret
      exact ⟨_, _, rfl, hown, hb⟩

theorem szHoldS_any (A : Option Addr) (n c : Nat) (left : Int) (w : World) (hn : n ≤ 9223372036854775807) (h0 : 0 ≤ left) (h1 : left ≤ 1048576) :
    Calls Try.prog 35 #[.slice A n c, vi left] w fun e w' => e = .returned (vi (szV n left)) ∧ w = w' := by
  by_cases h : left < n
  · have He := Lib.hid (szV_lo h)
    go_enter Try.func35, Try.ntmps35
    go_wp2
    go_ret
    exact ⟨by rw [He.out]; rfl, rfl⟩
  · have He := Lib.hid (szV_hi h)
    go_enter Try.func35, Try.ntmps35
    go_wp2
    go_ret
    exact ⟨by rw [He.out]; rfl, rfl⟩

theorem eqHold_any (a b c d : Int) (w : World) :
    Calls Try.prog 56 #[.agg #[vi a, vi b], .agg #[vi c, vi d]] w fun e w' => e = .returned (.bool (decide ((a, b) = (c, d)))) ∧ Below w.heap.size w w' := by
  by_cases h : a = c
  · by_cases h2 : b = d
    · have e1 : (a != c) = false := by simp [h]
      have e2 : (b != d) = false := by simp [h2]
      have He : Hid (decide ((a, b) = (c, d)) = true) := Lib.hid (by simp [h, h2])
      clear h h2
      go_enter Try.func56, Try.ntmps56
      go_wp2
      go_ret
      exact ⟨by rw [He.out]; rfl, ((Below.refl _ _).alloc (Nat.le_refl _) _).alloc (by simp) _⟩
    · have e1 : (a != c) = false := by simp [h]
      have e2 : (b != d) = true := by simp [h2]
      have He : Hid (decide ((a, b) = (c, d)) = false) := Lib.hid (by simp [h2])
      clear h h2
      go_enter Try.func56, Try.ntmps56
      go_wp2
      go_ret
      exact ⟨by rw [He.out]; rfl, ((Below.refl _ _).alloc (Nat.le_refl _) _).alloc (by simp) _⟩
  · have e1 : (a != c) = true := by simp [h]
    have He : Hid (decide ((a, b) = (c, d)) = false) := Lib.hid (by simp [h])
    clear h
    go_enter Try.func56, Try.ntmps56
    go_wp2
    go_ret
    exact ⟨by rw [He.out]; rfl, ((Below.refl _ _).alloc (Nat.le_refl _) _).alloc (by simp) _⟩

/-- Equal lists: what the laws need. -/
theorem eqHoldS_any (A B : Option Addr) (c d : Nat) (l : List (Int × Int)) (w : World) (h : Rd encP w A l) (hm : Rd encP w B l) (hl : l.length ≤ 1000000000) :
    Calls Try.prog 39 #[.slice A l.length c, .slice B l.length d] w fun e w' => e = .returned (.bool true) ∧ Below w.heap.size w w' := by
  go_enter Try.func39, Try.ntmps39
  go_wp2
  go_loopw [5] (fun i wr => ∃ k : Nat, k ≤ l.length ∧ i = vi k ∧ Below w.heap.size w wr) (fun i _ => l.length - (intOf i).toNat)
  case atStart => exact ⟨0, Nat.zero_le _, rfl, Below.refl _ _⟩
  case round =>
    obtain ⟨k, hk, rfl, hb⟩ := hrel
    have HB := Lib.hid hb
    by_cases hlt : k < l.length
    · obtain ⟨b, o, rfl, hbl, _⟩ := h.below hb (by omega)
      obtain ⟨hc1, hc2⟩ := (h.below hb).at2 k hlt
      obtain ⟨b2, o2, rfl, hbl2, _⟩ := hm.below hb (by omega)
      obtain ⟨hc3, hc4⟩ := (hm.below hb).at2 k hlt
      clear h hm hb
      go_wp2
      go_still_tail 8, (by kernel_rfl)
      change wpList _ _ _ _ _ wr.drew
      generalize hw2 : wr.drew = w2
      have HW2 := Lib.hid hw2
      clear hw2
      go_wp2_with fail
      refine (eqHold_any _ _ _ _ _).mono ?_
      rintro e w3 ⟨rfl, hb3⟩
      have HB3 : Hid (Below w.heap.size w w3) := Lib.hid (by
        have h1 : Below w.heap.size w w2 := by rw [← HW2.out]; exact HB.out.drew
        exact bthen h1 hb3)
      clear hb3
      go_wp2
      go_roundw
      case rel => exact ⟨k + 1, by omega, by go_num, HB3.out⟩
      case measure => simp [intOf]; omega
    · go_wp2
      go_ret
      exact ⟨rfl, HB.out⟩
end Go.Proofs.Ytjhbmikohcbkkaa
