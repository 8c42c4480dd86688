/-
  Contracts: lists of differences are copied, compared, made and grown.
-/
import Derived.Test.YtjhbmikohcbkkaaBoxS
import Derived.Test.YtjhbmikohcbkkaaDiff
namespace Go.Proofs.Ytjhbmikohcbkkaa
open Go.RowKit
set_option linter.unusedVariables false
set_option maxRecDepth 100000

theorem DiffInfo : (Try.prog.info? 59).map (fun i => (i.zero, i.size, i.bytes)) = some (some (.agg #[.int .i64 0, .int .i64 0, .int .i64 0, .int .i64 0, .int .i64 0, .bool false]), 6, 48) := by kernel_rfl

theorem make_Diff (n : Nat) (h : n ≤ 1000000000) (w : World) :
    (Instr.makeSlice 25 (.int .i64 (n : Int)) (.int .i64 (n : Int))).run Try.prog w = .ok (.slice (some ⟨w.heap.size, 0, none⟩) n n) (w.alloc (.cells (madeCells #[vi 0, vi 0, vi 0, vi 0, vi 0, .bool false] (n * 6)) 59)) := by
  obtain ⟨i0, hi, hz0, hz1, hz2⟩ := info_parts DiffInfo
  have hr := run_make (P := Try.prog) w 25 59 i0 _ Try.underlying25 hi hz0 .i64 .i64 (n : Int) (n : Int) (by omega) (by omega) (by rw [hz2]; omega) (by omega)
  rw [hz1] at hr
  simp only [Int.toNat_natCast, Value.cells] at hr
  exact hr

/-- A call that hands back a new slice of them. -/
def NewDiff (w : World) (l : List (Int × Bx)) (e : Ending) (w' : World) : Prop :=
  ∃ A c, e = .returned (.slice A l.length c) ∧ Own encD 59 w' w.heap.size A l.length c l ∧ Below w.heap.size w w'

/-- append(s, x...), s a slice of the call's own. -/
theorem app_Diff {ops : Array Oper} {rest : List Oper} {o : Oper} {a : Act} {Q : Exit → Act → World → Prop} {w : World} (hgd : Region.wanted o (yielded ops a.tmps) = true) (s x : Operand)
    (ho : o.op = .call { callee := .builtin .append, args := #[s, x], argTypes := #[25, 25] })
    (base : Nat) (A0 : Option Addr) (n0 c0 : Nat) (xs : List (Int × Bx)) (hs : a.eval s = .slice A0 n0 c0) (hown : Own encD 59 w base A0 n0 c0 xs)
    (A : Option Addr) (m c : Nat) (l : List (Int × Bx)) (hx : a.eval x = .slice A m c) (hr : Rd encD w A l) (hm : l.length = m)
    (hn : n0 + m ≤ 1000000000) (hbase : base ≤ w.heap.size)
    (h : ∀ A' c' w', Own encD 59 w' base A' (n0 + m) c' (xs ++ l) → w.grownBy w' (blk A0) → wpList Try.prog ops Q rest (a.put o.dst (.slice A' (n0 + m) c')) w') :
    wpList Try.prog ops Q (o :: rest) a w := by
  obtain ⟨i0, hi, hz0, hz1, hz2⟩ := info_parts DiffInfo
  exact app_enc encD 59 25 Try.underlying25 i0 _ 48 hi hz0 hz1 hz2 rfl (by omega) hgd s x ho base A0 n0 c0 xs hs hown A m c l hx hr hm hn hbase h

theorem Own.cell6h {w : World} {base n c g : Nat} {E : TypeId} {b : Int × Bx} (h : Own encD E w base (some ⟨g, 0, none⟩) n c [b]) :
    w.cell? ⟨g, 0, none⟩ = some (vi b.1) ∧ w.cell? ⟨g, 1, none⟩ = some (vi b.2.id) ∧ w.cell? ⟨g, 2, none⟩ = some (vi b.2.wt) ∧ w.cell? ⟨g, 3, none⟩ = some (vi b.2.cls) ∧ w.cell? ⟨g, 4, none⟩ = some (vi b.2.port) ∧ w.cell? ⟨g, 5, none⟩ = some (.bool b.2.cold) := by
  have hn := h.len
  simp at hn
  have := h.cell6 0 (by omega)
  simpa [nth, List.getD] using this
theorem Own.putOf1 {w : World} {base c g : Nat} {E : TypeId} {b : Int × Bx} (h : Own encD E w base (some ⟨g, 0, none⟩) 1 c [b]) (p : Bx) :
    Own encD E (((((w.setCell ⟨g, 1, none⟩ (vi p.id)).setCell ⟨g, 2, none⟩ (vi p.wt)).setCell ⟨g, 3, none⟩ (vi p.cls)).setCell ⟨g, 4, none⟩ (vi p.port)).setCell ⟨g, 5, none⟩ (.bool p.cold)) base (some ⟨g, 0, none⟩) 1 c [(b.1, p)] := by
  have := h.putOf 0 (by omega) p
  simpa [nth, List.getD] using this
theorem Own.put61 {w : World} {base c g : Nat} {E : TypeId} {b : Int × Bx} (h : Own encD E w base (some ⟨g, 0, none⟩) 1 c [b]) (p : Int × Bx) :
    Own encD E ((((((w.setCell ⟨g, 0, none⟩ (vi p.1)).setCell ⟨g, 1, none⟩ (vi p.2.id)).setCell ⟨g, 2, none⟩ (vi p.2.wt)).setCell ⟨g, 3, none⟩ (vi p.2.cls)).setCell ⟨g, 4, none⟩ (vi p.2.port)).setCell ⟨g, 5, none⟩ (.bool p.2.cold)) base (some ⟨g, 0, none⟩) 1 c [p] := by
  have := h.put6 0 (by omega) p
  simpa using this

theorem below3 (w : World) (x y z : Obj) : Below w.heap.size w (((w.alloc x).alloc y).alloc z) :=
  (((Below.refl w.heap.size w).alloc (Nat.le_refl _) x).alloc (by simp) y).alloc (by simp; omega) z

theorem toDiff_any (d : Int × Bx) (w : World) :
    Calls Try.prog 32 #[.agg #[vi d.1, vi d.2.id, vi d.2.wt, vi d.2.cls, vi d.2.port, .bool d.2.cold]] w fun e w' => e = .returned (.agg #[vi d.1, vi d.2.id, vi d.2.wt, vi d.2.cls, vi d.2.port, .bool d.2.cold]) ∧ Below w.heap.size w w' := by
  have HA0 : Hid (Own encD 59 ((w.alloc (.cells #[vi d.1, vi d.2.id, vi d.2.wt, vi d.2.cls, vi d.2.port, .bool d.2.cold] 64)).alloc (.cells #[vi 0, vi 0, vi 0, vi 0, vi 0, .bool false] 59)) (w.heap.size + 1) (some ⟨w.heap.size + 1, 0, none⟩) 1 1 [(0, ⟨0, 0, 0, 0, false⟩)]) := Lib.hid (by
    have := Own.lit (E := 59) (e := encD) (w.alloc (.cells #[vi d.1, vi d.2.id, vi d.2.wt, vi d.2.cls, vi d.2.port, .bool d.2.cold] 64)) #[vi 0, vi 0, vi 0, vi 0, vi 0, .bool false] [(0, ⟨0, 0, 0, 0, false⟩)] rfl (by simp [maxLen])
    simp only [World.size_alloc] at this
    exact this)
  have HB0 : Hid (Own encD 59 (((w.alloc (.cells #[vi d.1, vi d.2.id, vi d.2.wt, vi d.2.cls, vi d.2.port, .bool d.2.cold] 64)).alloc (.cells #[vi 0, vi 0, vi 0, vi 0, vi 0, .bool false] 59)).alloc (.cells #[vi d.1, vi 0, vi 0, vi 0, vi 0, .bool false] 59)) (w.heap.size + 1 + 1) (some ⟨w.heap.size + 1 + 1, 0, none⟩) 1 1 [(d.1, ⟨0, 0, 0, 0, false⟩)]) := Lib.hid (by
    have := Own.lit (E := 59) (e := encD) ((w.alloc (.cells #[vi d.1, vi d.2.id, vi d.2.wt, vi d.2.cls, vi d.2.port, .bool d.2.cold] 64)).alloc (.cells #[vi 0, vi 0, vi 0, vi 0, vi 0, .bool false] 59)) #[vi d.1, vi 0, vi 0, vi 0, vi 0, .bool false] [(d.1, ⟨0, 0, 0, 0, false⟩)] rfl (by simp [maxLen])
    simp only [World.size_alloc] at this
    exact this)
  have H0 := Lib.hid (below3 w (.cells #[vi d.1, vi d.2.id, vi d.2.wt, vi d.2.cls, vi d.2.port, .bool d.2.cold] 64) (.cells #[vi 0, vi 0, vi 0, vi 0, vi 0, .bool false] 59) (.cells #[vi d.1, vi 0, vi 0, vi 0, vi 0, .bool false] 59))
  go_enter Try.func32, Try.ntmps32
  go_wp2_with fail
  refine (toBox_any d.2 _).mono ?_
  rintro e w1 ⟨rfl, hb1⟩
  have HA := Lib.hid ((HA0.out.alloc _).below hb1)
  have HB := Lib.hid (HB0.out.below hb1)
  have HW := Lib.hid (bthen H0.out hb1)
  have hs1 := HW.out.size
  clear hb1 HA0 HB0 H0
  obtain ⟨hb0, hb1, hb2, hb3, hb4, hb5⟩ := HB.out.cell6h
  have hg1 := HB.out.frozen 1
  have hg2 := HB.out.frozen 2
  have hg3 := HB.out.frozen 3
  have hg4 := HB.out.frozen 4
  have hg5 := HB.out.frozen 5
  have hG1 := grown5 w1 (w.heap.size + 1 + 1) 1 2 3 4 5 (vi d.2.id) (vi d.2.wt) (vi d.2.cls) (vi d.2.port) (.bool d.2.cold)
  have HA2 := Lib.hid (HA.out.far hG1 (fun q e1 e2 => by injection e1 with e1; injection e1 with e1; injection e2 with e2; omega))
  have HW2 := Lib.hid (HW.out.grown hG1 hs1 (fun q hq => by injection hq with hq; omega))
  obtain ⟨ha0, ha1, ha2, ha3, ha4, ha5⟩ := HA.out.cell6h
  have hf0 := HA.out.frozen 0
  have hf1 := HA.out.frozen 1
  have hf2 := HA.out.frozen 2
  have hf3 := HA.out.frozen 3
  have hf4 := HA.out.frozen 4
  have hf5 := HA.out.frozen 5
  have hne : w.heap.size + 1 ≠ w.heap.size + 1 + 1 := by omega
  clear hG1
  go_wp2
  obtain ⟨r0, r1, r2, r3, r4, r5⟩ := (HA2.out.put61 d).cell6h
  refine bodyPost_ret (v := .agg #[vi d.1, vi d.2.id, vi d.2.wt, vi d.2.cls, vi d.2.port, .bool d.2.cold]) (by simp [results, Try.results32, go_sem, r0, r1, r2, r3, r4, r5]) rfl ⟨rfl, HW2.out.grown (grown6 _ _ _ _ _ _ _ _ _ _ _ _ _ _) (by simp; omega) (fun q hq => by injection hq with hq; omega)⟩

theorem toDiffS_any (A : Option Addr) (c : Nat) (l : List (Int × Bx)) (w : World) (h : Rd encD w A l) (hl : l.length ≤ 1048576) :
    Calls Try.prog 11 #[.slice A l.length c] w (NewDiff w l) := by
  have hmk := make_Diff l.length (by omega)
  go_enter Try.func11, Try.ntmps11
  go_wp2
  clear hmk
  go_loopw [4] (fun i wr => ∃ k : Nat, k ≤ l.length ∧ i = vi k ∧ Own encD 59 wr w.heap.size (some ⟨w.heap.size, 0, none⟩) l.length l.length (partL l k) ∧ Below w.heap.size w wr)
    (fun i _ => l.length - (intOf i).toNat)
  case atStart => exact ⟨0, Nat.zero_le _, rfl, by rw [partL_zero]; exact Own.made (e := encD) w #[vi 0, vi 0, vi 0, vi 0, vi 0, .bool false] rfl _ (by simp only [maxLen]; omega), (Below.refl _ _).alloc (Nat.le_refl _) _⟩
  case round =>
    obtain ⟨k, hk, rfl, hown, hb⟩ := hrel
    by_cases hlt : k < l.length
    · obtain ⟨b, o, rfl, hbl, _⟩ := h.below hb (by omega)
      obtain ⟨hc1, hc2, hc3, hc4, hc5, hc6⟩ := (h.below hb).at6 k hlt
      have HO := Lib.hid hown
      have HB := Lib.hid hb
      clear hown hb h
      go_wp2_with fail
      refine (toDiff_any (nth l k) _).mono ?_
      rintro e w2 ⟨rfl, hb2⟩
      have HO2 := Lib.hid (HO.out.below hb2)
      have HB2 := Lib.hid (bthen HB.out hb2)
      obtain ⟨hq1, hq2, hq3, hq4, hq5, hq6⟩ := HO2.out.cell6 k hlt
      have hf1 := HO2.out.frozen (k * 6)
      have hf2 := HO2.out.frozen (k * 6 + 1)
      have hf3 := HO2.out.frozen (k * 6 + 2)
      have hf4 := HO2.out.frozen (k * 6 + 3)
      have hf5 := HO2.out.frozen (k * 6 + 4)
      have hf6 := HO2.out.frozen (k * 6 + 5)
      have HP := Lib.hid (HO2.out.put6 k hlt (nth l k))
      clear hb2
      go_wp2
      go_roundw
      case rel => exact ⟨k + 1, by omega, by go_num, by rw [← partL_set l k hlt]; exact HP.out, HB2.out.grown (grown6 _ _ _ _ _ _ _ _ _ _ _ _ _ _) HB2.out.size (fun q hq => by injection hq with hq; omega)⟩
      case measure => simp [intOf]; omega
    · obtain rfl : k = l.length := by omega
      rw [partL_all] at hown
      go_wp2
      go_ret
      exact ⟨_, _, rfl, hown, hb⟩

theorem szDiffS_any (A : Option Addr) (n c : Nat) (left : Int) (w : World) (hn : n ≤ 9223372036854775807) (h0 : 0 ≤ left) (h1 : left ≤ 1048576) :
    Calls Try.prog 9 #[.slice A n c, vi left] w fun e w' => e = .returned (vi (szV n left)) ∧ w = w' := by
  by_cases h : left < n
  · have He := Lib.hid (szV_lo h)
    go_enter Try.func9, Try.ntmps9
    go_wp2
    go_ret
    exact ⟨by rw [He.out]; rfl, rfl⟩
  · have He := Lib.hid (szV_hi h)
    go_enter Try.func9, Try.ntmps9
    go_wp2
    go_ret
    exact ⟨by rw [He.out]; rfl, rfl⟩

theorem eqDiff_any (b : Int × Bx) (w : World) :
    Calls Try.prog 34 #[.agg #[vi b.1, vi b.2.id, vi b.2.wt, vi b.2.cls, vi b.2.port, .bool b.2.cold], .agg #[vi b.1, vi b.2.id, vi b.2.wt, vi b.2.cls, vi b.2.port, .bool b.2.cold]] w fun e w' => e = .returned (.bool true) ∧ Below w.heap.size w w' := by
  have e1 : (b.1 != b.1) = false := by simp
  have H0 := Lib.hid (((Below.refl w.heap.size w).alloc (Nat.le_refl _) (.cells #[vi b.1, vi b.2.id, vi b.2.wt, vi b.2.cls, vi b.2.port, .bool b.2.cold] 59)).alloc (by simp) (.cells #[vi b.1, vi b.2.id, vi b.2.wt, vi b.2.cls, vi b.2.port, .bool b.2.cold] 59))
  go_enter Try.func34, Try.ntmps34
  go_wp2_with fail
  refine (eqBox_any b.2 _).mono ?_
  rintro e w2 ⟨rfl, hb2⟩
  have H2 := Lib.hid (bthen H0.out hb2)
  clear hb2
  go_wp2
  go_ret
  exact ⟨rfl, H2.out⟩

/-- Equal lists: what the laws need. -/
theorem eqDiffS_any (A B : Option Addr) (c d : Nat) (l : List (Int × Bx)) (w : World) (h : Rd encD w A l) (hm : Rd encD w B l) (hl : l.length ≤ 1000000000) :
    Calls Try.prog 13 #[.slice A l.length c, .slice B l.length d] w fun e w' => e = .returned (.bool true) ∧ Below w.heap.size w w' := by
  go_enter Try.func13, Try.ntmps13
  go_wp2
  go_loopw [5] (fun i wr => ∃ k : Nat, k ≤ l.length ∧ i = vi k ∧ Below w.heap.size w wr) (fun i _ => l.length - (intOf i).toNat)
  case atStart => exact ⟨0, Nat.zero_le _, rfl, Below.refl _ _⟩
  case round =>
    obtain ⟨k, hk, rfl, hb⟩ := hrel
    have HB := Lib.hid hb
    by_cases hlt : k < l.length
    · obtain ⟨b, o, rfl, hbl, _⟩ := h.below hb (by omega)
      obtain ⟨hc1, hc2, hc3, hc4, hc5, hc6⟩ := (h.below hb).at6 k hlt
      obtain ⟨b2, o2, rfl, hbl2, _⟩ := hm.below hb (by omega)
      obtain ⟨hd1, hd2, hd3, hd4, hd5, hd6⟩ := (hm.below hb).at6 k hlt
      clear h hm hb
      go_wp2
      go_still_tail 8, (by kernel_rfl)
      change wpList _ _ _ _ _ wr.drew
      generalize hw2 : wr.drew = w2
      have HW2 := Lib.hid hw2
      clear hw2
      go_wp2_with fail
      refine (eqDiff_any _ _).mono ?_
      rintro e w3 ⟨rfl, hb3⟩
      have HB3 : Hid (Below w.heap.size w w3) := Lib.hid (by
        have h1 : Below w.heap.size w w2 := by rw [← HW2.out]; exact HB.out.drew
        exact bthen h1 hb3)
      clear hb3
      go_wp2
      go_roundw
      case rel => exact ⟨k + 1, by omega, by go_num, HB3.out⟩
      case measure => simp [intOf]; omega
    · go_wp2
      go_ret
      exact ⟨rfl, HB.out⟩
end Go.Proofs.Ytjhbmikohcbkkaa
