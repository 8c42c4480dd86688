/-
  Contracts: lists of boxes are copied, compared, made and grown.
-/
import Derived.Test.YtdhpjajhkeanjaaPair
import Derived.Test.YtdhpjajhkeanjaaBox
namespace Go.Proofs.Ytdhpjajhkeanjaa
open Go.RowKit
set_option linter.unusedVariables false

theorem BoxInfo : (Try.prog.info? 52).map (fun i => (i.zero, i.size, i.bytes)) = some (some (.agg #[.int .i64 0, .int .i64 0, .int .i64 0, .int .i64 0, .bool false]), 5, 40) := by kernel_rfl

theorem make_Box (n : Nat) (h : n ≤ 1000000000) (w : World) :
    (Instr.makeSlice 40 (.int .i64 (n : Int)) (.int .i64 (n : Int))).run Try.prog w = .ok (.slice (some ⟨w.heap.size, 0, none⟩) n n) (w.alloc (.cells (madeCells #[vi 0, vi 0, vi 0, vi 0, .bool false] (n * 5)) 52)) := by
  obtain ⟨i0, hi, hz0, hz1, hz2⟩ := info_parts BoxInfo
  have hr := run_make (P := Try.prog) w 40 52 i0 _ Try.underlying40 hi hz0 .i64 .i64 (n : Int) (n : Int) (by omega) (by omega) (by rw [hz2]; omega) (by omega)
  rw [hz1] at hr
  simp only [Int.toNat_natCast, Value.cells] at hr
  exact hr

/-- A call that hands back a new slice of them. -/
def NewBox (w : World) (l : List Bx) (e : Ending) (w' : World) : Prop :=
  ∃ A c, e = .returned (.slice A l.length c) ∧ Own encB 52 w' w.heap.size A l.length c l ∧ Below w.heap.size w w'

/-- append(s, x...), s a slice of the call's own. -/
theorem app_Box {ops : Array Oper} {rest : List Oper} {o : Oper} {a : Act} {Q : Exit → Act → World → Prop} {w : World} (hgd : Region.wanted o (yielded ops a.tmps) = true) (s x : Operand)
    (ho : o.op = .call { callee := .builtin .append, args := #[s, x], argTypes := #[40, 40] })
    (base : Nat) (A0 : Option Addr) (n0 c0 : Nat) (xs : List Bx) (hs : a.eval s = .slice A0 n0 c0) (hown : Own encB 52 w base A0 n0 c0 xs)
    (A : Option Addr) (m c : Nat) (l : List Bx) (hx : a.eval x = .slice A m c) (hr : Rd encB w A l) (hm : l.length = m)
    (hn : n0 + m ≤ 1000000000) (hbase : base ≤ w.heap.size)
    (h : ∀ A' c' w', Own encB 52 w' base A' (n0 + m) c' (xs ++ l) → w.grownBy w' (blk A0) → wpList Try.prog ops Q rest (a.put o.dst (.slice A' (n0 + m) c')) w') :
    wpList Try.prog ops Q (o :: rest) a w := by
  obtain ⟨i0, hi, hz0, hz1, hz2⟩ := info_parts BoxInfo
  exact app_enc encB 52 40 Try.underlying40 i0 _ 40 hi hz0 hz1 hz2 rfl (by omega) hgd s x ho base A0 n0 c0 xs hs hown A m c l hx hr hm hn hbase h

theorem toBox_any (b : Bx) (w : World) :
    Calls Try.prog 51 #[.agg #[vi b.id, vi b.wt, vi b.cls, vi b.port, .bool b.cold]] w fun e w' => e = .returned (.agg #[vi b.id, vi b.wt, vi b.cls, vi b.port, .bool b.cold]) ∧ Below w.heap.size w w' := by
  go_enter Try.func51, Try.ntmps51
  go_wp2
  refine bodyPost_ret (v := .agg #[vi b.id, vi b.wt, vi b.cls, vi b.port, .bool b.cold]) (by simp [results, Try.results51, go_sem]) rfl ⟨rfl, ?_⟩
  exact (((Below.refl _ _).alloc (Nat.le_refl _) _).alloc (by simp) _).alloc (by simp; omega) _

theorem toBoxS_any (A : Option Addr) (c : Nat) (l : List Bx) (w : World) (h : Rd encB w A l) (hl : l.length ≤ 1048576) :
    Calls Try.prog 22 #[.slice A l.length c] w (NewBox w l) := by
  have hmk := make_Box l.length (by omega)
  go_enter Try.func22, Try.ntmps22
  go_wp2
  clear hmk
  go_loopw [4] (fun i wr => ∃ k : Nat, k ≤ l.length ∧ i = vi k ∧ Own encB 52 wr w.heap.size (some ⟨w.heap.size, 0, none⟩) l.length l.length (partL l k) ∧ Below w.heap.size w wr)
    (fun i _ => l.length - (intOf i).toNat)
  case atStart => exact ⟨0, Nat.zero_le _, rfl, by rw [partL_zero]; exact Own.made (e := encB) w #[vi 0, vi 0, vi 0, vi 0, .bool false] rfl _ (by simp only [maxLen]; omega), (Below.refl _ _).alloc (Nat.le_refl _) _⟩
  case round =>
    obtain ⟨k, hk, rfl, hown, hb⟩ := hrel
    by_cases hlt : k < l.length
    · obtain ⟨b, o, rfl, hbl, _⟩ := h.below hb (by omega)
      obtain ⟨hc1, hc2, hc3, hc4, hc5⟩ := (h.below hb).at5 k hlt
      have HO := Lib.hid hown
      have HB := Lib.hid hb
      clear hown hb h
      go_wp2_with fail
      refine (toBox_any (nth l k) _).mono ?_
      rintro e w2 ⟨rfl, hb2⟩
      have HO2 := Lib.hid (HO.out.below hb2)
      have HB2 := Lib.hid (bthen HB.out hb2)
      obtain ⟨hq1, hq2, hq3, hq4, hq5⟩ := HO2.out.cell5 k hlt
      have hf1 := HO2.out.frozen (k * 5)
      have hf2 := HO2.out.frozen (k * 5 + 1)
      have hf3 := HO2.out.frozen (k * 5 + 2)
      have hf4 := HO2.out.frozen (k * 5 + 3)
      have hf5 := HO2.out.frozen (k * 5 + 4)
      have HP := Lib.hid (HO2.out.put5 k hlt (nth l k))
      clear hb2
      go_wp2
      go_roundw
      case rel => exact ⟨k + 1, by omega, by go_num, by rw [← partL_set l k hlt]; exact HP.out, ((((HB2.out.setCell (Nat.le_refl _) _).setCell (Nat.le_refl _) _).setCell (Nat.le_refl _) _).setCell (Nat.le_refl _) _).setCell (Nat.le_refl _) _⟩
      case measure => simp [intOf]; omega
    · obtain rfl : k = l.length := by omega
      rw [partL_all] at hown
      go_wp2
      go_ret
      exact ⟨_, _, rfl, hown, hb⟩

theorem szBoxS_any (A : Option Addr) (n c : Nat) (left : Int) (w : World) (hn : n ≤ 9223372036854775807) (h0 : 0 ≤ left) (h1 : left ≤ 1048576) :
    Calls Try.prog 20 #[.slice A n c, vi left] w fun e w' => e = .returned (vi (szV n left)) ∧ w = w' := by
  by_cases h : left < n
  · have He := Lib.hid (szV_lo h)
    go_enter Try.func20, Try.ntmps20
    go_wp2
    go_ret
    exact ⟨by rw [He.out]; rfl, rfl⟩
  · have He := Lib.hid (szV_hi h)
    go_enter Try.func20, Try.ntmps20
    go_wp2
    go_ret
    exact ⟨by rw [He.out]; rfl, rfl⟩

theorem eqBox_any (b : Bx) (w : World) :
    Calls Try.prog 53 #[.agg #[vi b.id, vi b.wt, vi b.cls, vi b.port, .bool b.cold], .agg #[vi b.id, vi b.wt, vi b.cls, vi b.port, .bool b.cold]] w fun e w' => e = .returned (.bool true) ∧ Below w.heap.size w w' := by
  have e1 : ∀ x : Int, (x != x) = false := fun x => by simp
  have e2 : (b.cold != b.cold) = false := by simp
  go_enter Try.func53, Try.ntmps53
  go_wp2
  go_ret
  exact ⟨rfl, ((Below.refl _ _).alloc (Nat.le_refl _) _).alloc (by simp) _⟩

/-- Equal lists: what the laws need. -/
theorem eqBoxS_any (A B : Option Addr) (c d : Nat) (l : List Bx) (w : World) (h : Rd encB w A l) (hm : Rd encB w B l) (hl : l.length ≤ 1000000000) :
    Calls Try.prog 25 #[.slice A l.length c, .slice B l.length d] w fun e w' => e = .returned (.bool true) ∧ Below w.heap.size w w' := by
  go_enter Try.func25, Try.ntmps25
  go_wp2
  go_loopw [5] (fun i wr => ∃ k : Nat, k ≤ l.length ∧ i = vi k ∧ Below w.heap.size w wr) (fun i _ => l.length - (intOf i).toNat)
  case atStart => exact ⟨0, Nat.zero_le _, rfl, Below.refl _ _⟩
  case round =>
    obtain ⟨k, hk, rfl, hb⟩ := hrel
    have HB := Lib.hid hb
    by_cases hlt : k < l.length
    · obtain ⟨b, o, rfl, hbl, _⟩ := h.below hb (by omega)
      obtain ⟨hc1, hc2, hc3, hc4, hc5⟩ := (h.below hb).at5 k hlt
      obtain ⟨b2, o2, rfl, hbl2, _⟩ := hm.below hb (by omega)
      obtain ⟨hd1, hd2, hd3, hd4, hd5⟩ := (hm.below hb).at5 k hlt
      clear h hm hb
      go_wp2
      go_still_tail 8, (by kernel_rfl)
      change wpList _ _ _ _ _ wr.drew
      generalize hw2 : wr.drew = w2
      have HW2 := Lib.hid hw2
      clear hw2
      go_wp2_with fail
      refine (eqBox_any _ _).mono ?_
      rintro e w3 ⟨rfl, hb3⟩
      have HB3 : Hid (Below w.heap.size w w3) := Lib.hid (by
        have h1 : Below w.heap.size w w2 := by rw [← HW2.out]; exact HB.out.drew
        exact bthen h1 hb3)
      clear hb3
      go_wp2
      go_roundw
      case rel => exact ⟨k + 1, by omega, by go_num, HB3.out⟩
      case measure => simp [intOf]; omega
    · go_wp2
      go_ret
      exact ⟨rfl, HB.out⟩
end Go.Proofs.Ytdhpjajhkeanjaa
