/-
  Contracts: a train is filled; wagons and boxes are marked.
-/
import Derived.Test.YtdhpjajhkeanjaaTrainA
import Derived.Test.YtdhpjajhkeanjaaFill
import Derived.Test.YtdhpjajhkeanjaaStep
namespace Go.Proofs.Ytdhpjajhkeanjaa
open Go.RowKit
set_option linter.unusedVariables false

/-- What a filled train is. -/
def fillL (wl : List (Int × Int)) (l : List Bx) : List Int := if wagonsOk wl && boxesOk l then fill wl l l.length else []
theorem fillL_f1 {wl : List (Int × Int)} {l : List Bx} (h : wagonsOk wl = false) : fillL wl l = [] := by simp [fillL, h]
theorem fillL_f2 {wl : List (Int × Int)} {l : List Bx} (h : boxesOk l = false) : fillL wl l = [] := by simp [fillL, h]
theorem fillL_t {wl : List (Int × Int)} {l : List Bx} (h : wagonsOk wl = true) (h2 : boxesOk l = true) : fillL wl l = fill wl l l.length := by simp [fillL, h, h2]
theorem length_fillL (wl : List (Int × Int)) (l : List Bx) : (fillL wl l).length ≤ 10 := by
  unfold fillL
  split
  · rename_i h
    rw [length_fill]
    simp only [Bool.and_eq_true] at h
    exact (boxesOk_t h.2).2
  · simp

theorem cloneWagon_any (A : Option Addr) (c : Nat) (l : List (Int × Int)) (w : World) (h : Rd encP w A l) (hl : l.length ≤ 1000000000) :
    Calls Try.prog 58 #[.slice A l.length c] w (NewWagon w l) := by
  rcases A with _ | a
  · have hl0 : l = [] := by
      rcases Nat.eq_zero_or_pos l.length with h0 | h0
      · exact List.eq_nil_of_length_eq_zero h0
      · obtain ⟨b, o, e, _⟩ := h h0; cases e
    subst hl0
    have heq := fun w => Lib.run_eql_slice_nil (P := Try.prog) w 25 32 none 0 c 0 0 Try.underlying25
    go_enter Try.func58, Try.ntmps58
    go_wp2
    go_ret
    exact ⟨none, 0, rfl, Own.nil_ _ _, Below.refl _ _⟩
  · have heq := fun w => Lib.run_eql_slice_nil (P := Try.prog) w 25 32 (some a) l.length c 0 0 Try.underlying25
    go_enter Try.func58, Try.ntmps58
    go_wp2_with (at_builtin; refine app_Wagon rfl (.tmp 5) (.tmp 6) rfl w.heap.size (some ⟨w.heap.size, 0, none⟩) 0 0 [] rfl (Own.none_made w) (some a) l.length c l rfl (h.alloc _) rfl (by omega) (by simp) ?_; intro A1 c1 w1 hown1 hg1; skip)
    have hb1 : Below w.heap.size w w1 := ((Below.refl _ _).alloc (Nat.le_refl _) _).grown hg1 (by simp) (fun k hk => by simp [blk] at hk; omega)
    go_ret
    simp only [Nat.zero_add, List.nil_append] at hown1
    exact ⟨A1, c1, by simp, hown1, hb1⟩

theorem roomOf_any (B : Nat) (wt : Int) (p : Int × Int) (w : World) (hB : w.cell? ⟨B, 1, none⟩ = some (vi wt)) :
    Calls Try.prog 60 #[.agg #[vi p.1, vi p.2], .pointer (some ⟨B, 0, none⟩)] w fun e w' => e = .returned (.bool (decide (0 < p.1) && decide (wt ≤ p.2))) ∧ Below w.heap.size w w' := by
  have hlt := World.block_lt_of_cell? w _ hB
  simp only at hlt
  have hne : B ≠ w.heap.size := by omega
  by_cases h1 : 0 < p.1
  · by_cases h2 : wt ≤ p.2
    · have Hr : Hid ((decide (0 < p.1) && decide (wt ≤ p.2)) = true) := Lib.hid (by simp [h1, h2])
      go_enter Try.func60, Try.ntmps60
      go_wp2
      go_ret
      exact ⟨by rw [Hr.out]; rfl, (Below.refl _ _).alloc (Nat.le_refl _) _⟩
    · have Hr : Hid ((decide (0 < p.1) && decide (wt ≤ p.2)) = false) := Lib.hid (by simp; omega)
      go_enter Try.func60, Try.ntmps60
      go_wp2
      go_ret
      exact ⟨by first | (rw [Hr.out]; rfl) | (simp; omega), (Below.refl _ _).alloc (Nat.le_refl _) _⟩
  · have Hr : Hid ((decide (0 < p.1) && decide (wt ≤ p.2)) = false) := Lib.hid (by simp; omega)
    go_enter Try.func60, Try.ntmps60
    go_wp2
    go_ret
    exact ⟨by rw [Hr.out]; rfl, (Below.refl _ _).alloc (Nat.le_refl _) _⟩

theorem indexWagon_any (A : Option Addr) (n c : Nat) (l : List (Int × Int)) (B : Nat) (wt : Int) (w : World) (h : Rd encP w A l) (hn : l.length = n) (hB : w.cell? ⟨B, 1, none⟩ = some (vi wt)) (hl : n ≤ 1000000000) :
    Calls Try.prog 59 #[.slice A n c, .func (.func 60) #[] #[.pointer (some ⟨B, 0, none⟩)]] w fun e w' => e = .returned (vi (ffrom (roomP l wt) 0 l.length)) ∧ Below w.heap.size w w' := by
  subst hn
  have hlB := World.block_lt_of_cell? w _ hB
  simp only at hlB
  go_enter Try.func59, Try.ntmps59
  go_wp2
  go_loopw [5, 8] (fun u v wr => ∃ k : Nat, k ≤ l.length ∧ v = vi k ∧ (∀ j, j < k → roomP l wt j = false) ∧ Below w.heap.size w wr) (fun _ v _ => l.length - (intOf v).toNat)
  case atStart => exact ⟨0, Nat.zero_le _, rfl, (fun j hj => absurd hj (by omega)), Below.refl _ _⟩
  case round =>
    obtain ⟨k, hk, rfl, hj, hb⟩ := hrel
    have Hj := Lib.hid hj
    have HB := Lib.hid hb
    clear hj
    by_cases hlt : k < l.length
    · obtain ⟨b, o, rfl, hbl, _⟩ := h.below hb (by omega)
      obtain ⟨hc1, hc2⟩ := (h.below hb).at2 k hlt
      have hB' : wr.cell? ⟨B, 1, none⟩ = some (vi wt) := (hb.cell (p := ⟨B, 1, none⟩) hlB).trans hB
      clear h hb hB
      have hcl := roomOf_any B wt (nth l k) wr hB'
      clear hB'
      cases he : roomP l wt k with
      | true =>
        rw [show (decide (0 < (nth l k).1) && decide (wt ≤ (nth l k).2)) = true from he] at hcl
        have Hcl := Lib.hid hcl
        have Hr := Lib.hid (ffrom_hit hlt he Hj.out)
        clear he hcl
        go_wp2_with fail
        refine Hcl.out.mono ?_
        rintro e w2 ⟨rfl, hb2⟩
        have HB2 := Lib.hid (bthen HB.out hb2)
        clear hb2
        go_wp2
        go_ret
        exact ⟨by rw [Hr.out]; rfl, HB2.out⟩
      | false =>
        rw [show (decide (0 < (nth l k).1) && decide (wt ≤ (nth l k).2)) = false from he] at hcl
        have Hcl := Lib.hid hcl
        have He := Lib.hid he
        clear he hcl
        go_wp2_with fail
        refine Hcl.out.mono ?_
        rintro e w2 ⟨rfl, hb2⟩
        have HB2 := Lib.hid (bthen HB.out hb2)
        clear hb2
        go_wp2
        go_roundw
        case rel => exact ⟨k + 1, by omega, by go_num, (fun j hj => by
          rcases Nat.lt_succ_iff_lt_or_eq.1 hj with h1 | h1
          · exact Hj.out j h1
          · subst h1; exact He.out), HB2.out⟩
        case measure => simp [intOf]; omega
    · obtain rfl : k = l.length := by omega
      have Hr := Lib.hid (ffrom_miss Hj.out)
      clear hb
      go_wp2
      go_ret
      exact ⟨by rw [Hr.out]; rfl, HB.out⟩

theorem implTrainFill (C : Option Addr) (cc : Nat) (wl : List (Int × Int)) (A : Option Addr) (c : Nat) (l : List Bx) (w : World) (hwg : Rd encP w C wl) (h : Rd encB w A l) (hgl : wl.length ≤ 1000000000) (hl : l.length ≤ 1000000000) (hcap : l.length ≤ c) :
    Calls Try.prog 32 #[.slice C wl.length cc, .slice A l.length c] w (NewI w (fillL wl l)) := by
  have HA := Lib.hid (implWagonsValid C cc wl w hwg hgl)
  cases hok1 : wagonsOk wl with
  | false =>
    have Hr := Lib.hid (fillL_f1 (l := l) hok1)
    go_enter Try.func32, Try.ntmps32
    go_wp2_with fail
    refine HA.out.mono ?_
    rw [hok1]
    rintro e w1 ⟨rfl, hb1⟩
    have H1 := Lib.hid hb1
    clear hb1 HA
    go_wp2
    go_ret
    rw [Hr.out]
    exact ⟨none, 0, rfl, OwnI.nil_ _ _, H1.out⟩
  | true =>
    cases hok2 : boxesOk l with
    | false =>
      have Hr := Lib.hid (fillL_f2 (wl := wl) hok2)
      go_enter Try.func32, Try.ntmps32
      go_wp2_with fail
      refine HA.out.mono ?_
      rw [hok1]
      rintro e w1 ⟨rfl, hb1⟩
      have H1 := Lib.hid hb1
      clear hb1 HA
      go_wp2_with fail
      refine (implBoxesValid A c l w1 (h.below H1.out) hl hcap).mono ?_
      rw [hok2]
      rintro e w2 ⟨rfl, hb2⟩
      have H2 := Lib.hid (bthen H1.out hb2)
      clear hb2 H1
      go_wp2
      go_ret
      rw [Hr.out]
      exact ⟨none, 0, rfl, OwnI.nil_ _ _, H2.out⟩
    | true =>
      have Hr := Lib.hid (fillL_t hok1 hok2)
      have hl10 := (boxesOk_t hok2).2
      have hl6 := (wagonsOk_t hok1).2
      have Hok1 := Lib.hid hok1
      have Hok2 := Lib.hid hok2
      go_enter Try.func32, Try.ntmps32
      go_wp2_with fail
      refine HA.out.mono ?_
      rw [hok1]
      rintro e w1 ⟨rfl, hb1⟩
      have H1 := Lib.hid hb1
      clear hb1 HA
      go_wp2_with fail
      refine (implBoxesValid A c l w1 (h.below H1.out) hl hcap).mono ?_
      rw [hok2]
      rintro e w2 ⟨rfl, hb2⟩
      have H2 := Lib.hid (bthen H1.out hb2)
      clear hb2 H1
      clear hok1 hok2
      go_wp2_with fail
      refine (cloneWagon_any C cc wl w2 (hwg.below H2.out) hgl).mono ?_
      rintro e w3 ⟨A3, c3, rfl, ho3, hb3⟩
      have H3 := Lib.hid (bthen H2.out hb3)
      have HO3 := Lib.hid ho3
      have HI3 := Lib.hid ho3.in_
      have hs3 := H3.out.size
      have hs23 := hb3.size
      have hs2 := H2.out.size
      have hR2 := h.below H2.out
      have HB3 := Lib.hid hb3
      clear ho3 hb3 h hwg
      go_wp2
      go_loopw [6, 22] (fun v i wr => ∃ (k : Nat) (A4 : Option Addr) (c4 : Nat), k ≤ l.length ∧ i = vi k ∧ v = .slice A4 k c4 ∧ OwnI wr w3.heap.size A4 k c4 (fill wl l k) ∧ Own encP 32 wr w2.heap.size A3 wl.length c3 (leftL wl l (fill wl l k) k) ∧ Below w2.heap.size w2 wr ∧ w3.heap.size ≤ wr.heap.size) (fun _ i _ => l.length - (intOf i).toNat)
      case atStart => exact ⟨0, none, 0, Nat.zero_le _, rfl, rfl, OwnI.nil_ _ _, by rw [show fill wl l 0 = [] from rfl, leftL_zero]; exact HO3.out, HB3.out, Nat.le_refl _⟩
      case round =>
        obtain ⟨k, A4, c4, hk, rfl, rfl, ho, hL, hb, hsz⟩ := hrel
        have HO := Lib.hid ho
        have HL := Lib.hid hL
        have HI4 := Lib.hid ho.in_
        have HB := Lib.hid hb
        have hbs := hb.size
        clear HO3
        by_cases hlt : k < l.length
        · obtain ⟨b, o, rfl, hbl, _⟩ := (hR2.below hb) (by omega)
          obtain ⟨hc1, hc2, hc3, hc4, hc5⟩ := (hR2.below hb).at5 k hlt
          have hcl := indexWagon_any A3 wl.length c3 (leftL wl l (fill wl l k) k) wr.heap.size (nth l k).wt (wr.alloc (.cells #[vi (nth l k).id, vi (nth l k).wt, vi (nth l k).cls, vi (nth l k).port, .bool (nth l k).cold] 52)) (hL.rd.alloc _) (length_leftL _ _ _ _) (by simp) hgl
          rw [roomP_left] at hcl
          have hfe : fill wl l (k + 1) = fill wl l k ++ [fillAt wl l (fill wl l k) k] := rfl
          have hfa : FillInv wl l (fill wl l k) k := fill_inv wl l Hok1.out k
          clear ho hL hb hR2
          rcases ffrom_cases (fitsOne wl l (fill wl l k) k) wl.length 0 with ⟨hm, _⟩ | ⟨m, _, hml, hm, hmf, _⟩
          · have hm' : fillAt wl l (fill wl l k) k = -1 := hm
            rw [hm'] at hcl hfe
            have Hfe := Lib.hid hfe
            have Hlm := Lib.hid (leftL_miss wl l (fill wl l k) k (length_fill _ _ _))
            have Hcl := Lib.hid hcl
            clear hcl hfe hm hm' hfa
            go_wp2_with fail
            refine Hcl.out.mono ?_
            rintro e w5 ⟨rfl, hb5⟩
            have HB5 := Lib.hid (bthen ((Below.refl _ wr).alloc (Nat.le_refl _) _) hb5)
            have hs5 := HB5.out.size
            clear hb5
            go_wp2_with (at_builtin; refine app_int rfl (.tmp 49) (.tmp 51) rfl w3.heap.size A4 k c4 (fill wl l k) rfl ((HO.out.below HB5.out).alloc _) (some ⟨w5.heap.size, 0, none⟩) 1 1 [-1] rfl (RdI.one _ _) rfl (by omega) (by simp; omega) ?_; intro A7 c7 w7 ho7 hg7; skip)
            have HO7 := Lib.hid ho7
            have HL7 := Lib.hid (((HL.out.below HB5.out).alloc (.cells #[vi (-1)] 3)).far hg7 (apart HI3.out HI4.out (by omega)))
            have HB7 := Lib.hid (((bthen HB.out HB5.out).alloc (by omega) (.cells #[vi (-1)] 3)).grown hg7 (by simp; omega) (fun q hq => by have := HI4.out q (.inr hq); omega))
            have hs7 := hg7.size
            simp only [World.size_alloc] at hs7
            clear ho7 hg7
            go_wp2
            go_roundw
            case rel => exact ⟨k + 1, A7, c7, by omega, by go_num, rfl, by rw [Hfe.out]; exact HO7.out, by rw [Hfe.out, Hlm.out]; exact HL7.out, HB7.out, by omega⟩
            case measure => simp [intOf]; omega
          · have hm' : fillAt wl l (fill wl l k) k = (m : Int) := hm
            rw [hm'] at hcl hfe
            have Hfe := Lib.hid hfe
            have Hlm := Lib.hid (leftL_hit wl l (fill wl l k) k m (length_fill _ _ _) (by omega))
            have Hcl := Lib.hid hcl
            have hml2 : m < wl.length := by omega
            have hx := nth_leftL wl l (fill wl l k) k m hml2
            have hw3 := wagOk_t ((wagonsOk_t Hok1.out).1 m hml2)
            have hbd := onMany_bd (fill wl l k) m k
            have hbw := onWt_bd Hok2.out (fill wl l k) m k hk
            have hwt := boxesOk_wt Hok2.out k hlt
            simp only [fitsOne, Bool.and_eq_true, decide_eq_true_eq] at hmf
            have hx1 : 1 ≤ (nth (leftL wl l (fill wl l k) k) m).1 ∧ (nth (leftL wl l (fill wl l k) k) m).1 ≤ 3 := by rw [hx]; simp only; omega
            have hx2 : (nth l k).wt ≤ (nth (leftL wl l (fill wl l k) k) m).2 ∧ (nth (leftL wl l (fill wl l k) k) m).2 ≤ 90 := by rw [hx]; simp only; omega
            clear hcl hfe hm hm' hfa hx hw3 hbd hbw hmf hml
            rcases HL.out.form with ⟨_, e0⟩ | ⟨g3, rfl, hg31, hg32⟩
            · have := length_leftL wl l (fill wl l k) k
              rw [e0] at this; simp at this; omega
            have hg33 : g3 < w3.heap.size := (HI3.out g3 (.inl rfl)).2
            have hg34 : w2.heap.size ≤ g3 := (HI3.out g3 (.inl rfl)).1
            go_wp2_with fail
            refine Hcl.out.mono ?_
            rintro e w5 ⟨rfl, hb5⟩
            have hbx : w5.cell? ⟨wr.heap.size, 1, none⟩ = some (vi (nth l k).wt) := (hb5.cell (p := ⟨wr.heap.size, 1, none⟩) (by simp)).trans (by simp)
            have HB5 := Lib.hid (bthen ((Below.refl _ wr).alloc (Nat.le_refl _) _) hb5)
            have hs5 := HB5.out.size
            have HL5 := Lib.hid (HL.out.below HB5.out)
            have hq := (HL5.out.cell2 m hml2).1
            have hq2 := (HL5.out.cell2 m hml2).2
            have hf := HL5.out.frozen (m * 2)
            generalize hy : nth (leftL wl l (fill wl l k) k) m = y at *
            have HP := HL5.out.put_fst m hml2 (y.1 - 1)
            rw [hy] at HP
            have hr2 : (w5.setCell ⟨g3, m * 2, none⟩ (vi (y.1 - 1))).cell? ⟨g3, m * 2 + 1, none⟩ = some (vi y.2) := by
              rw [World.cell?_setCell_other _ _ _ _ (by intro e; injection e with _ e; omega)]; exact hq2
            have hbx2 : (w5.setCell ⟨g3, m * 2, none⟩ (vi (y.1 - 1))).cell? ⟨wr.heap.size, 1, none⟩ = some (vi (nth l k).wt) := by
              rw [World.cell?_setCell_other _ _ _ _ (by intro e; injection e with e; omega)]; exact hbx
            have HP1 := Lib.hid HP
            clear hb5 hq2 HP
            go_wp2
            clear hbx hq hf
            generalize hw6 : w5.setCell ⟨g3, m * 2, none⟩ (vi (y.1 - 1)) = w6 at *
            go_still_tail 10, (by kernel_rfl)
            change wpList _ _ _ _ _ w6.drew
            have HD := (show Own encP 32 w6.drew w2.heap.size (some ⟨g3, 0, none⟩) wl.length c3 _ from HP1.out.1)
            have hg6 := grown_drew HP1.out.2
            have hbs6 := HB5.out
            have hc6 : w6.drew.cell? ⟨g3, m * 2 + 1, none⟩ = some (vi y.2) := hr2
            generalize hw7 : w6.drew = w7 at *
            have hf7 := HD.frozen (m * 2 + 1)
            have HL8 := HD.put_snd m hml2 (y.2 - (nth l k).wt)
            rw [nth_set _ _ _ _ (by rw [length_leftL]; exact hml2), if_pos rfl, List.set_set, ← Hlm.out] at HL8
            have HLE := Lib.hid HL8.1
            have HGE := Lib.hid (hg6.trans HL8.2)
            have hgs := (hg6.trans HL8.2).size
            clear HD HL8 hg6 hw7 hw6 hr2 HP1
            have HOE := Lib.hid ((HO.out.below HB5.out).far HGE.out (fun q hq e => by injection e with e; have := (HI4.out q (.inl hq)).1; omega))
            have HBE := Lib.hid ((bthen HB.out HB5.out).grown HGE.out (by omega) (fun q hq => by injection hq with hq; omega))
            go_wp2_with (at_builtin; refine app_int rfl (.tmp 49) (.tmp 51) rfl w3.heap.size A4 k c4 (fill wl l k) rfl (HOE.out.alloc _) (some ⟨w7.heap.size, 0, none⟩) 1 1 [(m : Int)] rfl (by have := RdI.one (w7.setCell ⟨g3, m * 2 + 1, none⟩ (vi (y.2 - (nth l k).wt))) (m : Int); simpa using this) rfl (by omega) (by simp at hgs ⊢; omega) ?_; intro A7 c7 w8 ho7 hg7; skip)
            have HO7 := Lib.hid ho7
            have HL7 := Lib.hid ((HLE.out.alloc (.cells #[vi (m : Int)] 3)).far hg7 (apart HI3.out HI4.out (by omega)))
            have HB7 := Lib.hid ((HBE.out.alloc HBE.out.size (.cells #[vi (m : Int)] 3)).grown hg7 (by have := HBE.out.size; simp at this ⊢; omega) (fun q hq => by have := HI4.out q (.inr hq); omega))
            have hs7 := hg7.size
            simp only [World.size_alloc] at hs7
            simp at hs7 hgs
            clear ho7 hg7
            go_wp2
            go_roundw
            case rel => exact ⟨k + 1, A7, c7, by omega, by go_num, rfl, by rw [Hfe.out]; exact HO7.out, by rw [Hfe.out]; exact HL7.out, HB7.out, by omega⟩
            case measure => simp [intOf]; omega
        · obtain rfl : k = l.length := by omega
          clear ho hL hb hR2
          go_wp2
          go_ret
          have hfl : fillL wl l = fill wl l l.length := Hr.out
          refine ⟨A4, c4, ?_, ?_, ?_⟩
          · rw [hfl, length_fill]; rfl
          · rw [hfl, length_fill]; exact HO.out.mono (by omega)
          · exact bthen H2.out HB.out
end Go.Proofs.Ytdhpjajhkeanjaa
