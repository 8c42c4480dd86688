/-
  Contracts: an order is drawn.
-/
import Derived.Test.YtpabfbaoibmnlaaHaulDraw2
namespace Go.Proofs.Ytpabfbaoibmnlaa
open Go.RowKit
set_option linter.unusedVariables false
set_option maxRecDepth 100000

theorem RdI.drop {w : World} {b o : Nat} {l : List Int} (h : RdI w (some ⟨b, o, none⟩) l) (n : Nat) : RdI w (some ⟨b, o + n, none⟩) (l.drop n) := fun hp => by
  simp at hp
  obtain ⟨b', o', e1, hb, hc⟩ := h (by omega)
  injection e1 with e1
  injection e1 with e2 e3
  subst e2 e3
  refine ⟨b, o + n, rfl, hb, fun k hk => ?_⟩
  have := hc (n + k) (by simp at hk; omega)
  rw [nth_drop, ← this]
  congr 2
  omega

theorem drawI_put {w w5 : World} {lim g k c ga : Nat} {N M : Int} {l : List Int} (ho : OwnI w5 w.heap.size (some ⟨ga, 0, none⟩) k c l) (hl : l.length = k) (hr : Rdr w5 lim g (N + M)) (hg : w.grownBy w5 (some g)) (hgs : lim ≤ g ∧ g < w.heap.size) (hM : M ≤ 40) (hk : k ≤ 11) (z : Int) :
    DrawI w lim g N 40 0 11 (.returned (.slice (some ⟨ga, 0, none⟩) k c)) (w5.setCell ⟨ga, 0, none⟩ (vi z)) := by
  have hi := (ho.in_ ga (.inl rfl)).1
  have hp := ho.put 0 z
  exact ⟨some ⟨ga, 0, none⟩, c, l.set 0 z, by rw [List.length_set, hl], by rw [List.length_set, hl]; exact hp.1, Nat.zero_le _, by rw [List.length_set, hl]; exact hk, (hr.far hp.2 (fun b e => by injection e with e; omega)).mono (by omega), grown_past hg hp.2 (fun b e => by injection e with e; omega)⟩

set_option maxHeartbeats 8000000 in
theorem l20Shuffle_any (lim g : Nat) (N n : Int) (many : Nat) (w : World) (h : Rdr w lim g N) (hN : N ≤ 80000000) (hn : n ≤ 100) (hn1 : 1 ≤ n) (hm : many ≤ 10) :
    Calls Try.prog 53 #[.pointer (some ⟨g, 0, none⟩), vi many, vi n] w (DrawI w lim g N 40 0 11) := by
  have hgs := h.lt
  have HH := Lib.hid h
  clear h
  go_enter Try.func53, Try.ntmps53
  go_wp2
  go_loopw [7, 8] (fun v i wr => ∃ (k ga c : Nat) (l : List Int), k ≤ many ∧ i = vi k ∧ v = .slice (some ⟨ga, 0, none⟩) k c ∧ l.length = k ∧ OwnI wr w.heap.size (some ⟨ga, 0, none⟩) k c l ∧ Rdr wr lim g (N + k) ∧ w.grownBy wr (some g)) (fun _ i _ => many - (intOf i).toNat)
  case atStart => exact ⟨0, w.heap.size, 0, [], Nat.zero_le _, rfl, rfl, rfl, OwnI.none_made w, (HH.out.alloc _).mono (by omega), grown_alloc (World.grownBy.refl _ _) _⟩
  case round =>
    obtain ⟨k, ga, c, l, hk, rfl, rfl, hl, ho, hr, hg⟩ := hrel
    have HO := Lib.hid ho
    have HR := Lib.hid hr
    have HG := Lib.hid hg
    have HL := Lib.hid hl
    have hcap := ho.cap
    simp only [maxLen] at hcap
    obtain ⟨hcap1, hcap2⟩ := hcap
    have hga := ho.in_ ga (.inl rfl)
    have hsz := hg.size
    clear ho hr hg hl HH
    by_cases hlt : k < many
    · go_wp2_with fail
      refine (pick_any lim g _ ((k : Int) + 1) _ HR.out (by omega)).mono ?_
      rintro e w3 ⟨x3, rfl, hx3, hx3b, -, hr3, hg3⟩
      have hx3c := hx3b (by omega)
      have HR3 := Lib.hid hr3
      have HG3 := Lib.hid (HG.out.trans hg3)
      have HO3 := Lib.hid (HO.out.farG hg3 hgs.2)
      have hs3 := hg3.size
      clear hr3 hg3 hx3b HO HR HG
      obtain ⟨q, rfl⟩ : ∃ q : Nat, x3 = q := ⟨x3.toNat, by omega⟩
      have hqk : q ≤ k := by omega
      have HCut : Hid (OwnI w3 w.heap.size (some ⟨ga, 0, none⟩) q c (l.take q)) := Lib.hid (by
        rcases Nat.eq_zero_or_pos k with h0 | h0
        · have hq0 : q = 0 := by omega
          have h1 := HO3.out
          have hl0 : l = [] := List.eq_nil_of_length_eq_zero (by rw [HL.out]; exact h0)
          rw [hl0] at h1 ⊢
          rw [h0] at h1
          rw [hq0]; exact h1
        · exact HO3.out.cut q hqk h0)
      by_cases hcq : c = q
      · subst hcq
        have HD := Lib.hid (show RdI w3 (some ⟨ga, 0, none⟩) (l.drop c) from by rw [List.drop_eq_nil_of_le (by rw [HL.out]; exact hcap1)]; exact RdI.nil_)
        have HNM := Lib.hid (OwnI.none_made w3)
        go_wp2_with (first
          | (at_builtin; refine app_int rfl (.tmp 21) (.tmp 24) rfl w3.heap.size (some ⟨w3.heap.size, 0, none⟩) 0 0 [] rfl (OwnI.none_made w3) (some ⟨ga, 0, none⟩) 0 0 (l.drop c) rfl (HD.out.alloc _) (by rw [List.length_drop, HL.out]; omega) (by omega) (by simp) ?_; intro A5 c5 w5 ho5 hg5; rw [Nat.zero_add] at ho5 ⊢; rw [List.nil_append] at ho5; have HO5 := Lib.hid ho5; have HI5 := Lib.hid ho5.in_; have HB5 : Hid (Below w3.heap.size w3 w5) := Lib.hid (((Below.refl _ _).alloc (Nat.le_refl _) _).grown hg5 (by simp) (fun q hq => by simp [blk] at hq; omega)); have HC5 := Lib.hid (HCut.out.below HB5.out); have HR5 := Lib.hid (HR3.out.below HB5.out); have HG5 := Lib.hid (grown_below HG3.out HB5.out); have hs5 := HB5.out.size; clear ho5 hg5)
          | (at_builtin; refine app_int rfl (.tmp 28) (.tmp 30) rfl w.heap.size (some ⟨ga, 0, none⟩) c c (l.take c) rfl (HC5.out.alloc _) (some ⟨w5.heap.size, 0, none⟩) 1 1 [(k : Int)] rfl (RdI.one _ _) rfl (by omega) (by simp; omega) ?_; intro A6 c6 w6 ho6 hg6; have HO6 := Lib.hid ho6; have HI6 := Lib.hid ho6.in_; have HZ6 := Lib.hid (HO5.out.alloc (.cells #[vi (k : Int)] 3) |>.far hg6 (fun b e e2 => by simp [blk] at e2; have := (HI5.out b (.inl e)).1; omega)); have HR6 := Lib.hid ((HR5.out.alloc (.cells #[vi (k : Int)] 3)).far hg6 (fun b e => by simp [blk] at e; omega)); have HG6 := Lib.hid (grown_past (grown_alloc HG5.out (.cells #[vi (k : Int)] 3)) hg6 (fun b e => by simp [blk] at e; omega)); have hs6 := hg6.size; clear ho6 hg6)
          | (at_builtin; refine app_int rfl (.tmp 31) (.tmp 32) rfl w.heap.size A6 (c + 1) c6 (l.take c ++ [(k : Int)]) rfl HO6.out A5 0 c5 (l.drop c) rfl HZ6.out.rd (by rw [List.length_drop, HL.out]; omega) (by omega) (by have := HG6.out.size; omega) ?_; intro A7 c7 w7 ho7 hg7; have HO7 := Lib.hid ho7; have HR7 := Lib.hid (HR6.out.far hg7 (fun b e => by have := (HI6.out b (.inr e)).1; omega)); have HG7 := Lib.hid (grown_past HG6.out hg7 (fun b e => (HI6.out b (.inr e)).1)); clear ho7 hg7))
        have HO8 : Hid (OwnI w7 w.heap.size A7 (k + 1) c7 (l.take c ++ [(k : Int)] ++ l.drop c)) := Lib.hid (by have := HO7.out; rwa [show c + 1 + 0 = k + 1 by omega] at this)
        rcases HO8.out.form with ⟨_, e0⟩ | ⟨g7, rfl, _, _⟩
        · simp at e0
        go_roundw
        case rel => exact ⟨k + 1, g7, c7, l.take c ++ [(k : Int)] ++ l.drop c, by omega, by go_num, by rw [show c + 1 + 0 = k + 1 by omega], HO8.out.len, HO8.out, HR7.out.mono (by omega), HG7.out⟩
        case measure => simp [intOf]; omega
      · have HD := Lib.hid (show RdI w3 (some ⟨ga, q, none⟩) (l.drop q) from by have := HO3.out.rd.drop q; rwa [Nat.zero_add] at this)
        have HNM := Lib.hid (OwnI.none_made w3)
        go_wp2_with (first
          | (at_builtin; refine app_int rfl (.tmp 21) (.tmp 24) rfl w3.heap.size (some ⟨w3.heap.size, 0, none⟩) 0 0 [] rfl (OwnI.none_made w3) (some ⟨ga, q, none⟩) (k - q) (c - q) (l.drop q) rfl (HD.out.alloc _) (by rw [List.length_drop, HL.out]) (by omega) (by simp) ?_; intro A5 c5 w5 ho5 hg5; rw [Nat.zero_add] at ho5 ⊢; rw [List.nil_append] at ho5; have HO5 := Lib.hid ho5; have HI5 := Lib.hid ho5.in_; have HB5 : Hid (Below w3.heap.size w3 w5) := Lib.hid (((Below.refl _ _).alloc (Nat.le_refl _) _).grown hg5 (by simp) (fun q hq => by simp [blk] at hq; omega)); have HC5 := Lib.hid (HCut.out.below HB5.out); have HR5 := Lib.hid (HR3.out.below HB5.out); have HG5 := Lib.hid (grown_below HG3.out HB5.out); have hs5 := HB5.out.size; clear ho5 hg5)
          | (at_builtin; refine app_int rfl (.tmp 28) (.tmp 30) rfl w.heap.size (some ⟨ga, 0, none⟩) q c (l.take q) rfl (HC5.out.alloc _) (some ⟨w5.heap.size, 0, none⟩) 1 1 [(k : Int)] rfl (RdI.one _ _) rfl (by omega) (by simp; omega) ?_; intro A6 c6 w6 ho6 hg6; have HO6 := Lib.hid ho6; have HI6 := Lib.hid ho6.in_; have HZ6 := Lib.hid (HO5.out.alloc (.cells #[vi (k : Int)] 3) |>.far hg6 (fun b e e2 => by simp [blk] at e2; have := (HI5.out b (.inl e)).1; omega)); have HR6 := Lib.hid ((HR5.out.alloc (.cells #[vi (k : Int)] 3)).far hg6 (fun b e => by simp [blk] at e; omega)); have HG6 := Lib.hid (grown_past (grown_alloc HG5.out (.cells #[vi (k : Int)] 3)) hg6 (fun b e => by simp [blk] at e; omega)); have hs6 := hg6.size; clear ho6 hg6)
          | (at_builtin; refine app_int rfl (.tmp 31) (.tmp 32) rfl w.heap.size A6 (q + 1) c6 (l.take q ++ [(k : Int)]) rfl HO6.out A5 (k - q) c5 (l.drop q) rfl HZ6.out.rd (by rw [List.length_drop, HL.out]) (by omega) (by have := HG6.out.size; omega) ?_; intro A7 c7 w7 ho7 hg7; have HO7 := Lib.hid ho7; have HR7 := Lib.hid (HR6.out.far hg7 (fun b e => by have := (HI6.out b (.inr e)).1; omega)); have HG7 := Lib.hid (grown_past HG6.out hg7 (fun b e => (HI6.out b (.inr e)).1)); clear ho7 hg7))
        have HO8 : Hid (OwnI w7 w.heap.size A7 (k + 1) c7 (l.take q ++ [(k : Int)] ++ l.drop q)) := Lib.hid (by have := HO7.out; rwa [show q + 1 + (k - q) = k + 1 by omega] at this)
        rcases HO8.out.form with ⟨_, e0⟩ | ⟨g7, rfl, _, _⟩
        · simp at e0
        go_roundw
        case rel => exact ⟨k + 1, g7, c7, l.take q ++ [(k : Int)] ++ l.drop q, by omega, by go_num, by rw [show q + 1 + (k - q) = k + 1 by omega], HO8.out.len, HO8.out, HR7.out.mono (by omega), HG7.out⟩
        case measure => simp [intOf]; omega
    · obtain rfl : k = many := by omega
      go_wp2_with fail
      refine (odd_any lim g _ n _ HR.out (by omega) (by omega)).mono ?_
      rintro e w3 ⟨b, rfl, hr3, hg3⟩
      have HO3 := Lib.hid (HO.out.farG hg3 hgs.2)
      have HG3 := Lib.hid (HG.out.trans hg3)
      have HR3 := Lib.hid (hr3.mono (show _ ≤ N + 20 by omega))
      have hs3 := hg3.size
      clear hr3 hg3 HR HG HO
      cases b with
      | false =>
        go_wp2
        go_ret
        exact ⟨some ⟨ga, 0, none⟩, c, l, by rw [HL.out]; rfl, by rw [HL.out]; exact HO3.out, Nat.zero_le _, by rw [HL.out]; omega, HR3.out.mono (by omega), HG3.out⟩
      | true =>
        by_cases hk0 : 0 < k
        · go_wp2_with fail
          refine (pick_any lim g _ 2 _ HR3.out (by omega)).mono ?_
          rintro e w4 ⟨y, rfl, hy, hyb, -, hr4, hg4⟩
          have hyc := hyb (by omega)
          have HR4 := Lib.hid hr4
          have HG4 := Lib.hid (HG3.out.trans hg4)
          have HO4 := Lib.hid (HO3.out.farG hg4 hgs.2)
          have hs4 := hg4.size
          clear hr4 hg4 hyb HR3 HG3 HO3
          have hy2 : y = 0 ∨ y = 1 := by omega
          clear hy hyc
          rcases hy2 with rfl | rfl
          · skip
            have hz := HO4.out
            have hzc := hz.cell 0 hk0
            have hzl := hz.cell (k - 1) (by omega)
            have hzf := hz.frozen 0
            obtain ⟨zl, hzl2⟩ : ∃ z, z = nth l (k - 1) := ⟨_, rfl⟩
            rw [← hzl2] at hzl
            have hkw : IntKind.i64.wrap ((k - 1 : Nat) : Int) = ((k - 1 : Nat) : Int) := by rw [IntKind.wrap_i64]; omega
            have hkl : k - 1 < k := by omega
            have hkl2 : ((k - 1 : Nat) : Int) < (k : Int) := by omega
            have hk1 : ((k : Int) - 1) = ((k - 1 : Nat) : Int) := by omega
            have HRB := Lib.hid (show Rdr w4.drew lim g (N + 20 + 1) from HR4.out.drewN 1)
            have HGB := Lib.hid (show w.grownBy w4.drew (some g) from only_drewN HG4.out 1)
            have HOB := Lib.hid (show OwnI w4.drew w.heap.size (some ⟨ga, 0, none⟩) k c l from HO4.out)
            clear hz hzl2
            go_wp2
            go_region_with (first
              | (go_at_call 58
                 refine (pick_any lim g _ 2 _ HRB.out (by omega)).mono ?_
                 rintro e w5 ⟨v, rfl, hv, hvb, -, hr5, hg5⟩
                 have hvc := hvb (by omega)
                 have HR5 := Lib.hid (hr5.mono (show _ ≤ N + 40 by omega))
                 have HG5 := Lib.hid (HGB.out.trans hg5)
                 have HO5 := Lib.hid (HOB.out.farG hg5 hgs.2)
                 have hz5 := HO5.out
                 have hzc5 := hz5.cell 0 hk0
                 have hzl5 := hz5.cell (k - 1) (by omega)
                 have hzf5 := hz5.frozen 0
                 clear hr5 hg5 hvb hz5))
            all_goals
              have HIx := Lib.hid HO5.out.in_
              go_wp2
              go_ret
              exact drawI_put HO5.out HL.out HR5.out HG5.out hgs (by omega) (by omega) _
          · skip
            have hs4a := HG4.out.size
            have HIx := Lib.hid HO4.out.in_
            go_wp2_with (at_builtin; refine app_int rfl (.tmp 58) (.tmp 60) rfl w.heap.size (some ⟨ga, 0, none⟩) _ c l rfl (HO4.out.alloc _) (some ⟨w4.heap.size, 0, none⟩) 1 1 [_] rfl (RdI.one _ _) rfl (by omega) (by simp; omega) ?_; intro A7 c7 w7 ho7 hg7; skip)
            have HO7 := Lib.hid ho7
            have HR7 := Lib.hid ((HR4.out.alloc _).far hg7 (fun b e => by have := (HIx.out b (.inr e)).1; omega))
            have HG7 := Lib.hid (grown_past (grown_alloc HG4.out _) hg7 (fun b e => (HIx.out b (.inr e)).1))
            have hl7 := ho7.len
            clear ho7 hg7
            go_wp2
            go_ret
            exact ⟨A7, c7, _, by rw [hl7]; rfl, by rw [hl7]; exact HO7.out, Nat.zero_le _, by rw [hl7]; omega, HR7.out.mono (by omega), HG7.out⟩
        · obtain rfl : k = 0 := by omega
          have hs3a := HG3.out.size
          have HIx := Lib.hid HO3.out.in_
          go_wp2_with (at_builtin; refine app_int rfl (.tmp 58) (.tmp 60) rfl w.heap.size (some ⟨ga, 0, none⟩) _ c l rfl (HO3.out.alloc _) (some ⟨w3.heap.size, 0, none⟩) 1 1 [_] rfl (RdI.one _ _) rfl (by omega) (by simp; omega) ?_; intro A7 c7 w7 ho7 hg7; skip)
          have HO7 := Lib.hid ho7
          have HR7 := Lib.hid ((HR3.out.alloc _).far hg7 (fun b e => by have := (HIx.out b (.inr e)).1; omega))
          have HG7 := Lib.hid (grown_past (grown_alloc HG3.out _) hg7 (fun b e => (HIx.out b (.inr e)).1))
          have hl7 := ho7.len
          clear ho7 hg7
          go_wp2
          go_ret
          exact ⟨A7, c7, _, by rw [hl7]; rfl, by rw [hl7]; exact HO7.out, Nat.zero_le _, by rw [hl7]; omega, HR7.out.mono (by omega), HG7.out⟩

/-- Costs and who does what, drawn. -/
def DrawnMW (w : World) (e : Ending) (w' : World) : Prop :=
  ∃ (A : Option Addr) (c : Nat) (L : List (List Int)) (B : Option Addr) (d : Nat) (who : List Int), e = .returned (.tuple #[.slice A L.length c, .slice B who.length d]) ∧ OwnM w' w.heap.size A L.length c L ∧ OwnI w' w.heap.size B who.length d who ∧ L.length ≤ 6 ∧ (∀ k, k < L.length → (nth L k).length ≤ 5) ∧ who.length ≤ 11 ∧ Below w.heap.size w w'
theorem DrawHaulCost_any (A : Option Addr) (c : Nat) (l : List Int) (w : World) (h : RdB w w.heap.size A l) (hcap : l.length ≤ c) :
    Calls Try.prog 31 #[.slice A l.length c] w (DrawnMW w) := by
  have H := Lib.hid (open_any A c l w h hcap)
  clear h hcap
  go_enter Try.func31, Try.ntmps31
  go_wp2_with fail
  refine H.out.mono ?_
  rintro e w1 ⟨rfl, hr1, hb1, hs1⟩
  have HR1 := Lib.hid hr1
  have HB1 := Lib.hid hb1
  have hlt1 := hr1.lt
  have hz1 := hb1.size
  clear hr1 hb1 hs1 H
  go_wp2_with fail
  refine (l20Costs_any w.heap.size w.heap.size 0 9 w1 HR1.out (by omega) (by omega) (by omega)).mono ?_
  rintro e w2 ⟨A2, c2, L2, rfl, ho2, h6, h5, hr2, hg2⟩
  have HO2 := Lib.hid ho2
  have H5 := Lib.hid h5
  have HR2 := Lib.hid hr2
  have HG2 := Lib.hid hg2
  have hs2 := hg2.size
  clear ho2 hr2 hg2 h5
  go_wp2_with fail
  refine (l20Shuffle_any w.heap.size w.heap.size _ 9 L2.length w2 HR2.out (by omega) (by omega) (by omega) (by omega)).mono ?_
  rintro e w3 ⟨A3, c3, who, rfl, ho3, -, h11, hr3, hg3⟩
  have HO3 := Lib.hid ho3
  have HM3 := Lib.hid (HO2.out.farG hg3 hlt1.2)
  have HBL := Lib.hid (grown_all HB1.out (HG2.out.trans hg3) (Nat.le_refl _))
  clear ho3 hr3 hg3
  go_wp2
  go_ret2
  exact ⟨A2, c2, L2, A3, c3, who, rfl, HM3.out.mono hz1, HO3.out.mono (by omega), h6, H5.out, h11, HBL.out⟩
end Go.Proofs.Ytpabfbaoibmnlaa
