/-
  Contracts: costs are drawn.
-/
import Derived.Test.YtpabfbaoibmnlaaMatA
import Derived.Test.YtpabfbaoibmnlaaHl
import Derived.Test.YtpabfbaoibmnlaaReader
import Derived.Test.YtpabfbaoibmnlaaStepE
import Derived.RegionTactic
import Derived.Deep.RegionWith
namespace Go.Proofs.Ytpabfbaoibmnlaa
open Go.RowKit
set_option linter.unusedVariables false
set_option maxRecDepth 100000

/-- append(s, x...), s a slice of slices of the call's own. -/
theorem app_R {ops : Array Oper} {rest : List Oper} {o : Oper} {a : Act} {Q : Exit → Act → World → Prop} {w : World} (hgd : Region.wanted o (yielded ops a.tmps) = true) (s x : Operand)
    (ho : o.op = .call { callee := .builtin .append, args := #[s, x], argTypes := #[22, 22] })
    (base : Nat) (A0 : Option Addr) (n0 c0 : Nat) (xs : List Rw) (hs : a.eval s = .slice A0 n0 c0) (hown : Own encR 30 w base A0 n0 c0 xs)
    (A : Option Addr) (m c : Nat) (l : List Rw) (hx : a.eval x = .slice A m c) (hr : Rd encR w A l) (hm : l.length = m)
    (hn : n0 + m ≤ 1000000000) (hbase : base ≤ w.heap.size)
    (h : ∀ A' c' w', Own encR 30 w' base A' (n0 + m) c' (xs ++ l) → w.grownBy w' (blk A0) → wpList Try.prog ops Q rest (a.put o.dst (.slice A' (n0 + m) c')) w') :
    wpList Try.prog ops Q (o :: rest) a w := by
  obtain ⟨i0, hi, hz0, hz1, hz2⟩ := info_parts rowsInfo
  exact app_enc encR 30 22 Try.underlying22 i0 _ 24 hi hz0 hz1 hz2 rfl (by omega) hgd s x ho base A0 n0 c0 xs hs hown A m c l hx hr hm hn hbase h
theorem step_app_R {ops : Array Oper} {o : Oper} {a : Act} {Q : Exit → Act → World → Prop} {K : Act → World → Prop} {G : Prop} {w : World} (hgd : o.guard = none) (s x : Operand)
    (ho : o.op = .call { callee := .builtin .append, args := #[s, x], argTypes := #[22, 22] })
    (base : Nat) (A0 : Option Addr) (n0 c0 : Nat) (xs : List Rw) (hs : a.eval s = .slice A0 n0 c0) (hown : Own encR 30 w base A0 n0 c0 xs)
    (A : Option Addr) (m c : Nat) (l : List Rw) (hx : a.eval x = .slice A m c) (hr : Rd encR w A l) (hm : l.length = m) (N : Nat) (l' : List Rw) (hN : n0 + m = N) (hl' : xs ++ l = l')
    (hn : N ≤ 1000000000) (hbase : base ≤ w.heap.size)
    (h : ∀ A' c' w', Own encR 30 w' base A' N c' l' → w.grownBy w' (blk A0) → K (a.put o.dst (.slice A' N c')) w') :
    if Region.wanted o (yielded ops a.tmps) = true then Oper.wp Try.prog o a w K Q else G := by
  subst hN hl'
  obtain ⟨i0, hi, hz0, hz1, hz2⟩ := info_parts rowsInfo
  exact step_app_enc encR 30 22 Try.underlying22 i0 _ 24 hi hz0 hz1 hz2 rfl (by omega) hgd s x ho base A0 n0 c0 xs hs hown A m c l hx hr hm hn hbase h
/-- A number of a row is stored. -/
theorem RowsOwn.put {w : World} {base m b i : Nat} {R : List Rw} {L : List (List Int)} (h : RowsOwn w base R L m) (hL : L.length = m) (hi : i < m) (hb : (nth R i).1 = some ⟨b, 0, none⟩) (j : Nat) (x : Int) :
    RowsOwn (w.setCell ⟨b, j, none⟩ (vi x)) base R (L.set i ((nth L i).set j x)) m := fun k hk => by
  obtain ⟨h1, h2, h3⟩ := h i hi
  rw [hb] at h2
  have hp := OwnI.put h2 j x
  by_cases hki : k = i
  · subst hki
    rw [nth_set _ _ _ _ (by omega), if_pos rfl, List.length_set, hb]
    exact ⟨h1, hp.1, fun b' hb' => by rw [← hb] at hb'; exact h3 b' hb'⟩
  · rw [nth_set _ _ _ _ (by omega), if_neg (fun e => hki e.symm)]
    obtain ⟨k1, k2, k3⟩ := h k hk
    refine ⟨k1, k2.far hp.2 (fun b' hb' e => ?_), k3⟩
    injection e with e
    subst e
    exact h3 b' hb k hk hki hb'
/-- A row more, in all three tellings. -/
theorem RowsOwn.add {w : World} {base c N m : Nat} {B : Option Addr} {R : List Rw} {L : List (List Int)} {l : List Int} (h : RowsOwn w base R L m) (hR : R.length = m) (hL : L.length = m)
    (hlt : ∀ k, k < m → ∀ b, (nth R k).1 = some ⟨b, 0, none⟩ → b < N) (hbs : base ≤ N) (ho : OwnI w N B l.length c l) : RowsOwn w base (R ++ [(B, l.length, c)]) (L ++ [l]) (m + 1) := by
  have e1 : nth (L ++ [l]) m = l := nth_app_here L l m hL.symm
  refine RowsOwn.snoc (A := B) (c := c) (h.same (fun k hk => nth_app_lt _ _ _ (by omega)) (fun k hk => nth_app_lt _ _ _ (by omega))) (fun k hk b hb => ?_) hbs ?_ ?_
  · rw [nth_app_lt _ _ _ (by omega)] at hb; exact hlt k hk b hb
  · rw [e1]; exact nth_app_here R _ m hR.symm
  · rw [e1]; exact ho

/-- Costs, drawn. -/
def DrawM (w : World) (lim g : Nat) (N M : Int) (e : Ending) (w' : World) : Prop :=
  ∃ (A : Option Addr) (c : Nat) (L : List (List Int)), e = .returned (.slice A L.length c) ∧ OwnM w' w.heap.size A L.length c L ∧ L.length ≤ 6 ∧ (∀ k, k < L.length → (nth L k).length ≤ 5) ∧ Rdr w' lim g (N + M) ∧ w.grownBy w' (some g)

set_option maxHeartbeats 4000000 in
theorem l20Costs_any (lim g : Nat) (N n : Int) (w : World) (h : Rdr w lim g N) (hN : N ≤ 80000000) (hn : n ≤ 100) (hn1 : 1 ≤ n) :
    Calls Try.prog 45 #[.pointer (some ⟨g, 0, none⟩), vi n] w (DrawM w lim g N 60) := by
  have hgs := h.lt
  have HH := Lib.hid h
  have HZ := Lib.hid (Own.none_made (e := encR) (E := 30) w)
  clear h
  go_enter Try.func45, Try.ntmps45
  go_wp2_with fail
  refine (pick_any lim g _ 6 _ (HH.out.alloc _) (by omega)).mono ?_
  rintro e w1 ⟨x1, rfl, hx1, hx1b, -, hr1, hg1⟩
  have hx1c := hx1b (by omega)
  have HR1 := Lib.hid hr1
  have HG1 := Lib.hid ((grown_alloc (World.grownBy.refl w (some g)) _).trans hg1)
  have HO1 := Lib.hid (HZ.out.farG hg1 hgs.2)
  clear hr1 hg1 hx1b HZ
  obtain ⟨q, rfl⟩ : ∃ q : Nat, x1 = q := ⟨x1.toNat, by omega⟩
  go_wp2
  go_loopw [5, 7] (fun v i wr => ∃ (k ga c : Nat) (R : List Rw) (L : List (List Int)), k ≤ q ∧ i = vi k ∧ v = .slice (some ⟨ga, 0, none⟩) k c ∧ Own encR 30 wr w.heap.size (some ⟨ga, 0, none⟩) k c R ∧ RowsOwn wr w.heap.size R L k ∧ L.length = k ∧ (∀ j, j < k → (nth L j).length = q) ∧ Rdr wr lim g (N + 1 + 5 * k) ∧ w.grownBy wr (some g)) (fun _ i _ => q - (intOf i).toNat)
  case atStart => exact ⟨0, w.heap.size, 0, [], [], Nat.zero_le _, rfl, rfl, HO1.out, RowsOwn.zero, rfl, (fun j hj => absurd hj (by omega)), HR1.out.mono (by omega), HG1.out⟩
  case round =>
    obtain ⟨k, ga, c, R, L, hk, rfl, rfl, ho, hro, hL, hq, hr, hg⟩ := hrel
    obtain ⟨wo, hwo⟩ : ∃ x, x = wr := ⟨wr, rfl⟩
    subst hwo
    have HO := Lib.hid ho
    have HRO := Lib.hid hro
    have HL := Lib.hid hL
    have HQ := Lib.hid hq
    have HR := Lib.hid hr
    have HG := Lib.hid hg
    have hsz := hg.size
    have hga := ho.in_ ga (.inl rfl)
    have HLT := Lib.hid hro.lt
    have HRl := Lib.hid ho.len
    clear ho hro hL hq hr hg HO1 HR1 HG1 HH
    by_cases hlt : k < q
    · have HN := Lib.hid (OwnI.none_made wo)
      go_wp2
      go_loopw [8, 9] (fun v i wq => ∃ (j d : Nat) (B : Option Addr) (l : List Int), j ≤ q ∧ i = vi j ∧ v = .slice B j d ∧ l.length = j ∧ OwnI wq wo.heap.size B j d l ∧ Own encR 30 wq w.heap.size (some ⟨ga, 0, none⟩) k c R ∧ RowsOwn wq w.heap.size R L k ∧ Rdr wq lim g (N + 1 + 5 * k + j) ∧ w.grownBy wq (some g) ∧ wo.heap.size ≤ wq.heap.size) (fun _ i _ => q - (intOf i).toNat)
      case atStart => exact ⟨0, 0, some ⟨wo.heap.size, 0, none⟩, [], Nat.zero_le _, rfl, rfl, rfl, HN.out, HO.out.alloc _, HRO.out.below ((Below.refl _ _).alloc (Nat.le_refl _) _), (HR.out.alloc _).mono (by omega), grown_alloc HG.out _, by simp⟩
      case round =>
        obtain ⟨j, d, B, l, hj, rfl, rfl, hl, hob, hoa, hro, hr, hg, hsq⟩ := hrel
        obtain ⟨wq, hwq⟩ : ∃ x, x = wr := ⟨wr, rfl⟩
        subst hwq
        have HOB := Lib.hid hob
        have HIB := Lib.hid hob.in_
        have HOA := Lib.hid hoa
        have HRA := Lib.hid hro
        have HRQ := Lib.hid hr
        have HGQ := Lib.hid hg
        have HLL := Lib.hid hl
        clear hl hob hoa hro hr hg HN
        by_cases hjq : j < q
        · go_wp2_with fail
          refine (pick_any lim g _ 20 _ HRQ.out (by omega)).mono ?_
          rintro e w3 ⟨x3, rfl, hx3, hx3b, -, hr3, hg3⟩
          have HR3 := Lib.hid hr3
          have HG3 := Lib.hid (HGQ.out.trans hg3)
          have HOB3 := Lib.hid (HOB.out.farG hg3 (by omega))
          have HIB3 := Lib.hid HOB3.out.in_
          have HOA3 := Lib.hid (HOA.out.farG hg3 hgs.2)
          have HRA3 := Lib.hid (HRA.out.farG hg3 hgs.2)
          have hs3 := hg3.size
          clear hr3 hg3 hx3b
          go_wp2_with (at_builtin; refine app_int rfl (.tmp 24) (.tmp 27) rfl wo.heap.size B j d l rfl (HOB3.out.alloc _) (some ⟨w3.heap.size, 0, none⟩) 1 1 [x3] rfl (RdI.one _ _) rfl (by omega) (by simp; omega) ?_; intro A7 c7 w7 ho7 hg7; skip)
          have hB7 : ∀ b, blk B = some b → wo.heap.size ≤ b := fun b hb => (HIB3.out b (.inr hb)).1
          have HO7 := Lib.hid ho7
          have HR7 := Lib.hid ((HR3.out.alloc (.cells #[vi x3] 3)).far hg7 (fun b hb => by have := hB7 b hb; omega))
          have HG7 := Lib.hid (grown_past (grown_alloc HG3.out (.cells #[vi x3] 3)) hg7 (fun b hb => by have := hB7 b hb; omega))
          have HOA7 := Lib.hid ((HOA3.out.alloc (.cells #[vi x3] 3)).far hg7 (fun b hb e2 => by injection hb with hb; injection hb with hb; have := hB7 b e2.symm; omega))
          have HRA7 := Lib.hid ((HRA3.out.below ((Below.refl _ _).alloc (Nat.le_refl _) (.cells #[vi x3] 3))).far hg7 (fun i hi b hb e2 => by have := HLT.out i hi b hb; have := hB7 b e2.symm; omega))
          have hs7 := hg7.size
          clear ho7 hg7 hB7
          go_wp2
          go_roundw
          case rel => exact ⟨j + 1, c7, A7, l ++ [x3], by omega, by go_num, rfl, by rw [List.length_append, HLL.out]; rfl, HO7.out, HOA7.out, HRA7.out, HR7.out.mono (by omega), HG7.out, by simp at hs7; omega⟩
          case measure => simp [intOf]; omega
        · obtain rfl : j = q := by omega
          have HLt := Lib.hid (Own.lit (E := 30) (e := encR) wq #[.slice B j d] [(B, j, d)] rfl (by simp [maxLen]))
          go_wp2_with (at_builtin; refine app_R rfl (.tmp 29) (.tmp 31) rfl w.heap.size (some ⟨ga, 0, none⟩) k c R rfl (HOA.out.alloc _) (some ⟨wq.heap.size, 0, none⟩) 1 1 [(B, j, d)] rfl HLt.out.rd rfl (by omega) (by have := HGQ.out.size; simp; omega) ?_; intro A7 c7 w7 ho7 hg7; skip)
          rcases ho7.form with ⟨_, e0⟩ | ⟨g7, rfl, _, _⟩
          · simp at e0
          have hla : ∀ b, blk (some (⟨ga, 0, none⟩ : Addr)) = some b → b = ga := fun b hb => by simp [blk] at hb; exact hb.symm
          have HR7 := Lib.hid ((HRQ.out.alloc (.cells #[.slice B j d] 30)).far hg7 (fun b hb => by have := hla b hb; omega))
          have HG7 := Lib.hid (grown_past (grown_alloc HGQ.out (.cells #[.slice B j d] 30)) hg7 (fun b hb => by have := hla b hb; omega))
          have HOB7 := Lib.hid ((HOB.out.alloc (.cells #[.slice B j d] 30)).far hg7 (fun b hb e2 => by have := HIB.out b (.inl hb); have := hla b e2.symm; omega))
          have HRA7 := Lib.hid ((HRA.out.below ((Below.refl _ _).alloc (Nat.le_refl _) (.cells #[.slice B j d] 30))).farO (HOA.out.alloc _) hg7)
          have HO7 := Lib.hid ho7
          have HRN : Hid (RowsOwn w7 w.heap.size (R ++ [(B, j, d)]) (L ++ [l]) (k + 1)) := Lib.hid (by
            have h1 := HOB7.out
            rw [← HLL.out] at h1 ⊢
            exact RowsOwn.add HRA7.out HRl.out HL.out HLT.out hsz h1)
          clear ho7 hg7 hla
          go_wp2
          go_roundw
          case rel => exact ⟨k + 1, g7, c7, R ++ [(B, j, d)], L ++ [l], by omega, by go_num, rfl, HO7.out, HRN.out, by rw [List.length_append, HL.out]; rfl, (fun i hi => by
            rcases Nat.lt_succ_iff_lt_or_eq.1 hi with h1 | h1
            · rw [nth_app_lt _ _ _ (by rw [HL.out]; omega)]; exact HQ.out i h1
            · rw [nth_app_here _ _ _ (by rw [HL.out]; exact h1)]; exact HLL.out), HR7.out.mono (by omega), HG7.out⟩
          case measure => simp [intOf]; omega
    · obtain rfl : k = q := by omega
      go_wp2_with fail
      refine (odd_any lim g _ n _ HR.out (by omega) (by omega)).mono ?_
      rintro e w3 ⟨b, rfl, hr3, hg3⟩
      have HO3 := Lib.hid (HO.out.farG hg3 hgs.2)
      have HRO3 := Lib.hid (HRO.out.farG hg3 hgs.2)
      have HG3 := Lib.hid (HG.out.trans hg3)
      have HR3 := Lib.hid (hr3.mono (show _ ≤ N + 40 by omega))
      have hs3 := hg3.size
      clear hr3 hg3 HR HG HO HRO
      have HF := Lib.hid (fun (w' : World) (ho : Own encR 30 w' w.heap.size (some ⟨ga, 0, none⟩) k c R) (hro : RowsOwn w' w.heap.size R L k) => show OwnM w' w.heap.size (some ⟨ga, 0, none⟩) L.length c L by rw [HL.out]; exact ⟨HL.out, R, ho, hro⟩)
      cases b with
      | false =>
        go_wp2
        go_ret
        exact ⟨some ⟨ga, 0, none⟩, c, L, by rw [HL.out]; rfl, HF.out _ HO3.out HRO3.out, by rw [HL.out]; omega, (fun j hj => by rw [HL.out] at hj; rw [HQ.out j hj]; omega), HR3.out.mono (by omega), HG3.out⟩
      | true =>
        have HE := Lib.hid (fun (w4 : World) (hg4 : w.grownBy w4 (some g)) (hr4 : Rdr w4 lim g (N + 45)) (ho4 : Own encR 30 w4 w.heap.size (some ⟨ga, 0, none⟩) k c R) (hro4 : RowsOwn w4 w.heap.size R L k) => And.intro hg4 (And.intro hr4 (And.intro ho4 hro4)))
        by_cases hk0 : 0 < k
        · go_wp2_with fail
          refine (pick_any lim g _ 2 _ HR3.out (by omega)).mono ?_
          rintro e w4 ⟨y, rfl, hy, hyb, -, hr4, hg4⟩
          have hyc := hyb (by omega)
          have HR4 := Lib.hid hr4
          have HG4 := Lib.hid (HG3.out.trans hg4)
          have HO4 := Lib.hid (HO3.out.farG hg4 hgs.2)
          have HRO4 := Lib.hid (HRO3.out.farG hg4 hgs.2)
          have hs4 := hg4.size
          clear hr4 hg4 hyb
          have hy2 : y = 0 ∨ y = 1 := by omega
          clear hy hyc
          rcases hy2 with rfl | rfl
          · skip
            have hrow := HRO4.out 0 hk0
            rw [HQ.out 0 hk0] at hrow
            obtain ⟨hrw1, hrw2, hrw3⟩ := hrow
            have hq0 := HO4.out.cellR 0 hk0
            obtain ⟨B0, hB0⟩ : ∃ x, x = (nth R 0).1 := ⟨_, rfl⟩
            obtain ⟨c0, hc0⟩ : ∃ x, x = (nth R 0).2.2 := ⟨_, rfl⟩
            rw [← hB0, ← hc0] at hrw2 hq0
            rw [hrw1] at hq0
            rcases hrw2.form with ⟨_, e0⟩ | ⟨b0, rfl, hb01, hb02⟩
            · have := HQ.out 0 hk0; rw [e0] at this; simp at this; omega
            have HB0 := Lib.hid hB0.symm
            have HP := Lib.hid (fun (w' : World) (x : Int) (hro : RowsOwn w' w.heap.size R L k) => hro.put (i := 0) HL.out hk0 hB0.symm 0 x)
            have HX := Lib.hid (fun (w' : World) (hro : RowsOwn w' w.heap.size R L k) => show OwnI w' w.heap.size (some ⟨b0, 0, none⟩) k c0 (nth L 0) from by
              have := (hro 0 hk0).2.1
              rw [HQ.out 0 hk0, HB0.out, ← hc0] at this
              exact this)
            have HY := Lib.hid (fun (w' : World) (ho : Own encR 30 w' w.heap.size (some ⟨ga, 0, none⟩) k c R) => show w'.cell? ⟨ga, 0, none⟩ = some (.slice (some ⟨b0, 0, none⟩) k c0) from by
              have := ho.cellR 0 hk0
              rw [HB0.out, hrw1, ← hc0] at this
              exact this)
            have hga4 := (HO4.out.in_ ga (.inl rfl)).2
            have hgs4 : g < w4.heap.size := by have := HG4.out.size; omega
            have hz := HX.out _ HRO4.out
            have hzc := hz.cell 0 hk0
            have hzf := hz.frozen 0
            have hqa : (w4.alloc (.cells #[vi (-1), vi 100] 3)).cell? ⟨ga, 0, none⟩ = some (.slice (some ⟨b0, 0, none⟩) k c0) := by rw [World.cell?_alloc_past _ _ _ (by omega)]; exact hq0
            have HRA := Lib.hid (show Rdr (w4.alloc (.cells #[vi (-1), vi 100] 3)).drew lim g (N + 40 + 1) from (HR4.out.alloc _).drewN 1)
            have HRB := Lib.hid (show Rdr w4.drew lim g (N + 40 + 1) from HR4.out.drewN 1)
            have HGA := Lib.hid (show w.grownBy (w4.alloc (.cells #[vi (-1), vi 100] 3)).drew (some g) from only_drewN (grown_alloc HG4.out _) 1)
            have HGB := Lib.hid (show w.grownBy w4.drew (some g) from only_drewN HG4.out 1)
            have HOA := Lib.hid (show Own encR 30 (w4.alloc (.cells #[vi (-1), vi 100] 3)).drew w.heap.size (some ⟨ga, 0, none⟩) k c R from HO4.out.alloc _)
            have HOB := Lib.hid (show Own encR 30 w4.drew w.heap.size (some ⟨ga, 0, none⟩) k c R from HO4.out)
            have HSA := Lib.hid (show RowsOwn (w4.alloc (.cells #[vi (-1), vi 100] 3)).drew w.heap.size R L k from HRO4.out.below ((Below.refl _ _).alloc (Nat.le_refl _) _).drew)
            have HSB := Lib.hid (show RowsOwn w4.drew w.heap.size R L k from HRO4.out.below (Below.refl _ _).drew)
            clear hrw1 hrw2 hrw3 hz hB0 hc0 HE
            go_wp2
            go_region_with (first
              | (go_at_call 58
                 refine (pick_any lim g _ 2 _ HRA.out (by omega)).mono ?_
                 rintro e w5 ⟨v, rfl, hv, hvb, -, hr5, hg5⟩
                 have hvc := hvb (by omega)
                 have HR5 := Lib.hid hr5
                 have HG5 := Lib.hid (HGA.out.trans hg5)
                 have HO5 := Lib.hid (HOA.out.farG hg5 hgs.2)
                 have HS5 := Lib.hid (HSA.out.farG hg5 hgs.2)
                 have hbl : w5.heap[w4.heap.size]? = some (.cells #[vi (-1), vi 100] 3 (0, 0)) := (hg5.block _ (by simp) (by intro e; injection e with e; omega)).trans (heap_alloc_new w4 _)
                 have hcq : ∀ q : Nat, q < 2 → ∃ z : Int, w5.cell? ⟨w4.heap.size, q, none⟩ = some (vi z) := fun q hq => by
                   rw [cell_of_row _ _ q _ _ _ hbl]
                   match q, hq with
                   | 0, _ => exact ⟨-1, rfl⟩
                   | 1, _ => exact ⟨100, rfl⟩
                 obtain ⟨q, rfl⟩ : ∃ q : Nat, v = q := ⟨v.toNat, by omega⟩
                 obtain ⟨z, hcz⟩ := hcq q (by omega)
                 have hq2 : q < 2 := by omega
                 have hz5 := HX.out _ HS5.out
                 have hzc5 := hz5.cell 0 hk0
                 have hzf5 := hz5.frozen 0
                 have hq5 := HY.out _ HO5.out
                 have HPx := Lib.hid (HP.out w5 z HS5.out)
                 have HZx := Lib.hid (hz5.put 0 z).2
                 have HOx := Lib.hid HO5.out
                 clear hr5 hg5 hbl hvb hcq hv hvc hz5)
              | (go_at_call 58
                 refine (pick_any lim g _ 2 _ HRB.out (by omega)).mono ?_
                 rintro e w5 ⟨v, rfl, hv, hvb, -, hr5, hg5⟩
                 have hvc := hvb (by omega)
                 have HR5 := Lib.hid (hr5.alloc (.cells #[vi (-1), vi 100] 3))
                 have HG5 := Lib.hid (grown_alloc (HGB.out.trans hg5) (.cells #[vi (-1), vi 100] 3))
                 have HO5' := Lib.hid (HOB.out.farG hg5 hgs.2)
                 have HS5' := Lib.hid (HSB.out.farG hg5 hgs.2)
                 have HO5 := Lib.hid (HO5'.out.alloc (.cells #[vi (-1), vi 100] 3))
                 have HS5 := Lib.hid (HS5'.out.below ((Below.refl _ _).alloc (Nat.le_refl _) (.cells #[vi (-1), vi 100] 3)))
                 obtain ⟨q, rfl⟩ : ∃ q : Nat, v = q := ⟨v.toNat, by omega⟩
                 have hq2 : q < 2 := by omega
                 have hcq : ∃ z : Int, (w5.alloc (.cells #[vi (-1), vi 100] 3)).cell? ⟨w5.heap.size, q, none⟩ = some (vi z) := by
                   rw [cell_of_row _ _ q _ _ _ (heap_alloc_new w5 _)]
                   match q, hq2 with
                   | 0, _ => exact ⟨-1, rfl⟩
                   | 1, _ => exact ⟨100, rfl⟩
                 obtain ⟨z, hcz⟩ := hcq
                 have hz5 := HX.out _ HS5.out
                 have hzc5 := hz5.cell 0 hk0
                 have hzf5 := hz5.frozen 0
                 have hq5 := HY.out _ HO5.out
                 have hq5' := HY.out _ HO5'.out
                 have HPx := Lib.hid (HP.out _ z HS5.out)
                 have HZx := Lib.hid (hz5.put 0 z).2
                 clear hr5 hg5 hvb hv hvc hz5))
            all_goals
              have hne0 : b0 ≠ ga := by
                have := HX.out _ HS5.out
                exact apartTy HO5.out this
              have HRz := Lib.hid (HR5.out.far HZx.out (fun k hk => by injection hk with hk; omega))
              have HGz := Lib.hid (grown_past HG5.out HZx.out (fun k hk => by injection hk with hk; omega))
              have HOz := Lib.hid (HO5.out.far HZx.out (fun q e1 e2 => by injection e1 with e1; injection e1 with e1; injection e2 with e2; omega))
              clear hne0
              go_wp2
              go_ret
              refine ⟨some ⟨ga, 0, none⟩, c, L.set 0 ((nth L 0).set 0 z), by rw [List.length_set, HL.out]; rfl, by rw [List.length_set, HL.out]; exact ⟨by rw [List.length_set, HL.out], R, HOz.out, HPx.out⟩, by rw [List.length_set, HL.out]; omega, (fun j hj => ?_), HRz.out.mono (by omega), HGz.out⟩
              rw [List.length_set, HL.out] at hj
              rw [nth_set _ _ _ _ (by rw [HL.out]; exact hk0)]
              split
              · rw [List.length_set, HQ.out 0 hk0]; omega
              · rw [HQ.out j hj]; omega
          · skip
            have hs4a := HG4.out.size
            have HI1 := Lib.hid (RdI.one w4 1)
            have HW1 := Lib.hid (show OwnI (w4.alloc (.cells #[vi 1] 3)) w4.heap.size (some ⟨w4.heap.size, 0, none⟩) 1 1 [1] from World.ownsRow_lit (e := 3) (size := 1) (base := w4.heap.size) w4 #[vi 1] 1 (Nat.le_refl _) (by simp [maxLen]) (by simp))
            have HLt := Lib.hid (Own.lit (E := 30) (e := encR) (w4.alloc (.cells #[vi 1] 3)) #[.slice (some ⟨w4.heap.size, 0, none⟩) 1 1] [(some ⟨w4.heap.size, 0, none⟩, 1, 1)] rfl (by simp [maxLen]))
            rw [World.size_alloc] at HLt
            go_wp2_with (at_builtin; refine app_R rfl (.tmp 53) (.tmp 55) rfl w.heap.size (some ⟨ga, 0, none⟩) _ c R rfl ((HO4.out.alloc _).alloc _) (some ⟨w4.heap.size + 1, 0, none⟩) 1 1 [(some ⟨w4.heap.size, 0, none⟩, 1, 1)] rfl HLt.out.rd rfl (by omega) (by simp; omega) ?_; intro A7 c7 w7 ho7 hg7; skip)
            have hla : ∀ b, blk (some (⟨ga, 0, none⟩ : Addr)) = some b → b = ga := fun b hb => by simp [blk] at hb; exact hb.symm
            have hga2 := (HO4.out.in_ ga (.inl rfl)).2
            have HR7 := Lib.hid (((HR4.out.alloc (.cells #[vi 1] 3)).alloc (.cells #[.slice (some ⟨w4.heap.size, 0, none⟩) 1 1] 30)).far hg7 (fun b hb => by have := hla b hb; omega))
            have HG7 := Lib.hid (grown_past (grown_alloc (grown_alloc HG4.out (.cells #[vi 1] 3)) (.cells #[.slice (some ⟨w4.heap.size, 0, none⟩) 1 1] 30)) hg7 (fun b hb => by have := hla b hb; omega))
            have HOB7 := Lib.hid ((HW1.out.alloc (.cells #[.slice (some ⟨w4.heap.size, 0, none⟩) 1 1] 30)).far hg7 (fun b hb e2 => by injection hb with hb; injection hb with hb; have := hla b e2.symm; omega))
            have HRA7 := Lib.hid (((HRO4.out.below ((Below.refl _ _).alloc (Nat.le_refl _) (.cells #[vi 1] 3))).below ((Below.refl _ _).alloc (Nat.le_refl _) (.cells #[.slice (some ⟨w4.heap.size, 0, none⟩) 1 1] 30))).farO ((HO4.out.alloc _).alloc _) hg7)
            have HO7 := Lib.hid ho7
            have HRN := Lib.hid (RowsOwn.add (l := [1]) HRA7.out HRl.out HL.out (HRO4.out.lt) (by omega) HOB7.out)
            clear ho7 hg7 hla
            go_wp2
            go_ret
            exact ⟨A7, c7, L ++ [[1]], by rw [List.length_append, HL.out]; rfl, by rw [List.length_append, HL.out]; exact ⟨by rw [List.length_append, HL.out], _, HO7.out, HRN.out⟩, by rw [List.length_append, HL.out]; show _ + 1 ≤ 6; omega, (fun i hi => by
              rw [List.length_append, HL.out] at hi
              rcases Nat.lt_succ_iff_lt_or_eq.1 (show i < _ + 1 from hi) with h1 | h1
              · rw [nth_app_lt _ _ _ (by rw [HL.out]; omega), HQ.out i h1]; omega
              · rw [nth_app_here _ _ _ (by rw [HL.out]; exact h1)]; simp), HR7.out.mono (by omega), HG7.out⟩
        · obtain rfl : k = 0 := by omega
          have hs3a := HG3.out.size
          have HI1 := Lib.hid (RdI.one w3 1)
          have HW1 := Lib.hid (show OwnI (w3.alloc (.cells #[vi 1] 3)) w3.heap.size (some ⟨w3.heap.size, 0, none⟩) 1 1 [1] from World.ownsRow_lit (e := 3) (size := 1) (base := w3.heap.size) w3 #[vi 1] 1 (Nat.le_refl _) (by simp [maxLen]) (by simp))
          have HLt := Lib.hid (Own.lit (E := 30) (e := encR) (w3.alloc (.cells #[vi 1] 3)) #[.slice (some ⟨w3.heap.size, 0, none⟩) 1 1] [(some ⟨w3.heap.size, 0, none⟩, 1, 1)] rfl (by simp [maxLen]))
          rw [World.size_alloc] at HLt
          go_wp2_with (at_builtin; refine app_R rfl (.tmp 53) (.tmp 55) rfl w.heap.size (some ⟨ga, 0, none⟩) _ c R rfl ((HO3.out.alloc _).alloc _) (some ⟨w3.heap.size + 1, 0, none⟩) 1 1 [(some ⟨w3.heap.size, 0, none⟩, 1, 1)] rfl HLt.out.rd rfl (by omega) (by simp; omega) ?_; intro A7 c7 w7 ho7 hg7; skip)
          have hla : ∀ b, blk (some (⟨ga, 0, none⟩ : Addr)) = some b → b = ga := fun b hb => by simp [blk] at hb; exact hb.symm
          have hga2 := (HO3.out.in_ ga (.inl rfl)).2
          have HR7 := Lib.hid (((HR3.out.alloc (.cells #[vi 1] 3)).alloc (.cells #[.slice (some ⟨w3.heap.size, 0, none⟩) 1 1] 30)).far hg7 (fun b hb => by have := hla b hb; omega))
          have HG7 := Lib.hid (grown_past (grown_alloc (grown_alloc HG3.out (.cells #[vi 1] 3)) (.cells #[.slice (some ⟨w3.heap.size, 0, none⟩) 1 1] 30)) hg7 (fun b hb => by have := hla b hb; omega))
          have HOB7 := Lib.hid ((HW1.out.alloc (.cells #[.slice (some ⟨w3.heap.size, 0, none⟩) 1 1] 30)).far hg7 (fun b hb e2 => by injection hb with hb; injection hb with hb; have := hla b e2.symm; omega))
          have HRA7 := Lib.hid (((HRO3.out.below ((Below.refl _ _).alloc (Nat.le_refl _) (.cells #[vi 1] 3))).below ((Below.refl _ _).alloc (Nat.le_refl _) (.cells #[.slice (some ⟨w3.heap.size, 0, none⟩) 1 1] 30))).farO ((HO3.out.alloc _).alloc _) hg7)
          have HO7 := Lib.hid ho7
          have HRN := Lib.hid (RowsOwn.add (l := [1]) HRA7.out HRl.out HL.out (HRO3.out.lt) (by omega) HOB7.out)
          clear ho7 hg7 hla
          go_wp2
          go_ret
          exact ⟨A7, c7, L ++ [[1]], by rw [List.length_append, HL.out]; rfl, by rw [List.length_append, HL.out]; exact ⟨by rw [List.length_append, HL.out], _, HO7.out, HRN.out⟩, by rw [List.length_append, HL.out]; show _ + 1 ≤ 6; omega, (fun i hi => by
            rw [List.length_append, HL.out] at hi
            rcases Nat.lt_succ_iff_lt_or_eq.1 (show i < _ + 1 from hi) with h1 | h1
            · rw [nth_app_lt _ _ _ (by rw [HL.out]; omega), HQ.out i h1]; omega
            · rw [nth_app_here _ _ _ (by rw [HL.out]; exact h1)]; simp), HR7.out.mono (by omega), HG7.out⟩
end Go.Proofs.Ytpabfbaoibmnlaa
