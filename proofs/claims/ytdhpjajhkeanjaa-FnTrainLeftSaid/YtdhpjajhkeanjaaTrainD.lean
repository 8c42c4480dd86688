/-
  Contracts: who is left of a train.
-/
import Derived.Test.YtdhpjajhkeanjaaTrainA
import Derived.Test.YtdhpjajhkeanjaaFill
namespace Go.Proofs.Ytdhpjajhkeanjaa
open Go.RowKit
set_option linter.unusedVariables false

/-- The ids of the boxes ahead of n that are on no wagon. -/
def leftIds (l : List Bx) (ws : List Int) : Nat → List Int
  | 0 => []
  | n + 1 => if nth ws n = -1 then leftIds l ws n ++ [(nth l n).id] else leftIds l ws n
theorem leftIds_hit {l : List Bx} {ws : List Int} {n : Nat} (h : nth ws n = -1) : leftIds l ws (n + 1) = leftIds l ws n ++ [(nth l n).id] := if_pos h
theorem leftIds_miss {l : List Bx} {ws : List Int} {n : Nat} (h : ¬ nth ws n = -1) : leftIds l ws (n + 1) = leftIds l ws n := if_neg h
theorem length_leftIds (l : List Bx) (ws : List Int) (n : Nat) : (leftIds l ws n).length ≤ n := by
  induction n with
  | zero => simp [leftIds]
  | succ n ih =>
    simp only [leftIds]
    split
    · simp; omega
    · omega
def trainLeft (wl : List (Int × Int)) (l : List Bx) (ws : List Int) : List Int := if trainOk wl l ws then leftIds l ws ws.length else []
theorem trainLeft_f {wl : List (Int × Int)} {l : List Bx} {ws : List Int} (h : trainOk wl l ws = false) : trainLeft wl l ws = [] := by simp [trainLeft, h]
theorem trainLeft_t {wl : List (Int × Int)} {l : List Bx} {ws : List Int} (h : trainOk wl l ws = true) : trainLeft wl l ws = leftIds l ws ws.length := by simp [trainLeft, h]
theorem trainOk_len {wl : List (Int × Int)} {l : List Bx} {ws : List Int} (h : trainOk wl l ws = true) : ws.length = l.length ∧ l.length ≤ 10 := by
  obtain ⟨_, h2, _⟩ := trainOk_t h
  exact ⟨(onOk_t h2).2, (boxesOk_t (onOk_t h2).1).2⟩
theorem length_trainLeft (wl : List (Int × Int)) (l : List Bx) (ws : List Int) : (trainLeft wl l ws).length ≤ 10 := by
  cases h : trainOk wl l ws with
  | true => rw [trainLeft_t h]; have := length_leftIds l ws ws.length; have := trainOk_len h; omega
  | false => rw [trainLeft_f h]; simp

theorem implTrainLeft (C : Option Addr) (cc : Nat) (wl : List (Int × Int)) (A : Option Addr) (c : Nat) (l : List Bx) (B : Option Addr) (d : Nat) (ws : List Int) (w : World)
    (hwg : Rd encP w C wl) (h : Rd encB w A l) (hw : RdI w B ws) (hgl : wl.length ≤ 1000000000) (hl : l.length ≤ 1000000000) (hwl : ws.length ≤ 1000000000) (hcap : l.length ≤ c) :
    Calls Try.prog 39 #[.slice C wl.length cc, .slice A l.length c, .slice B ws.length d] w (NewI w (trainLeft wl l ws)) := by
  have HA := Lib.hid (implTrainValid C cc wl A c l B d ws w hwg h hw hgl hl hwl hcap)
  cases hok : trainOk wl l ws with
  | false =>
    have Hr := Lib.hid (trainLeft_f hok)
    go_enter Try.func39, Try.ntmps39
    go_wp2_with fail
    refine HA.out.mono ?_
    rw [hok]
    rintro e w1 ⟨rfl, hb1⟩
    have H1 := Lib.hid hb1
    clear hb1 HA
    go_wp2
    go_ret
    rw [Hr.out]
    exact ⟨none, 0, rfl, OwnI.nil_ _ _, H1.out⟩
  | true =>
    have Hr := Lib.hid (trainLeft_t hok)
    obtain ⟨hlen, hl10⟩ := trainOk_len hok
    have Hlen := Lib.hid hlen
    clear hlen
    go_enter Try.func39, Try.ntmps39
    go_wp2_with fail
    refine HA.out.mono ?_
    rw [hok]
    rintro e w1 ⟨rfl, hb1⟩
    have H1 := Lib.hid hb1
    have hR := h.below hb1
    have hW := hw.below hb1
    have hs1 := hb1.size
    clear hb1 HA h hw hwg hok
    go_wp2
    go_loopw [7, 17] (fun v i wr => ∃ (k : Nat) (A4 : Option Addr) (c4 : Nat), k ≤ l.length ∧ i = vi k ∧ v = .slice A4 (leftIds l ws k).length c4 ∧ OwnI wr w1.heap.size A4 (leftIds l ws k).length c4 (leftIds l ws k) ∧ Below w1.heap.size w1 wr) (fun _ i _ => l.length - (intOf i).toNat)
    case atStart => exact ⟨0, none, 0, Nat.zero_le _, rfl, rfl, OwnI.nil_ _ _, Below.refl _ _⟩
    case round =>
      obtain ⟨k, A4, c4, hk, rfl, rfl, ho, hb⟩ := hrel
      have HO := Lib.hid ho
      have HB := Lib.hid hb
      have HI4 := Lib.hid ho.in_
      have hbs := hb.size
      have hll := length_leftIds l ws k
      by_cases hlt : k < l.length
      · obtain ⟨b, o, rfl, hbl, _⟩ := hR.below hb (by omega)
        obtain ⟨hc1, hc2, hc3, hc4, hc5⟩ := (hR.below hb).at5 k hlt
        have hlw : k < ws.length := by rw [Hlen.out]; exact hlt
        obtain ⟨b2, o2, rfl, hbl2, hcw⟩ := hW.below hb (by omega)
        have hcw2 := hcw k hlw
        clear hR hW hb ho hcw
        by_cases he : nth ws k = -1
        · have he1 : (nth ws k == -1) = true := by simp [he]
          have Hh := Lib.hid (leftIds_hit (l := l) he)
          clear he
          have HONE := Lib.hid (by have := RdI.one (wr.alloc (.cells #[vi (nth l k).id, vi (nth l k).wt, vi (nth l k).cls, vi (nth l k).port, .bool (nth l k).cold] 52)) (nth l k).id; rw [World.size_alloc] at this; exact this)
          have HOx := Lib.hid (HO.out.alloc (.cells #[vi (nth l k).id, vi (nth l k).wt, vi (nth l k).cls, vi (nth l k).port, .bool (nth l k).cold] 52))
          have HBx := Lib.hid (HB.out.alloc HB.out.size (.cells #[vi (nth l k).id, vi (nth l k).wt, vi (nth l k).cls, vi (nth l k).port, .bool (nth l k).cold] 52))
          go_wp2_with (at_builtin; refine app_int rfl (.tmp 27) (.tmp 30) rfl w1.heap.size A4 (leftIds l ws k).length c4 (leftIds l ws k) rfl (HOx.out.alloc _) (some ⟨wr.heap.size + 1, 0, none⟩) 1 1 [(nth l k).id] rfl (HONE.out) rfl (by omega) (by simp; omega) ?_; intro A7 c7 w7 ho7 hg7; skip)
          have HO7 := Lib.hid ho7
          have HB7 := Lib.hid ((HBx.out.alloc (by have := (HBx.out).size; omega) (.cells #[vi (nth l k).id] 3)).grown hg7 (by have := (HBx.out).size; simp; omega) (fun q hq => by have := HI4.out q (.inr hq); omega))
          clear ho7 hg7
          go_wp2
          go_roundw
          case rel => exact ⟨k + 1, A7, c7, by omega, by go_num, by rw [Hh.out]; simp, by rw [Hh.out]; simpa using HO7.out, HB7.out⟩
          case measure => simp [intOf]; omega
        · have he1 : (nth ws k == -1) = false := by simp [he]
          have Hh := Lib.hid (leftIds_miss (l := l) he)
          clear he
          go_wp2
          go_roundw
          case rel => exact ⟨k + 1, A4, c4, by omega, by go_num, by rw [Hh.out], by rw [Hh.out]; exact HO.out.alloc _, HB.out.alloc HB.out.size _⟩
          case measure => simp [intOf]; omega
      · obtain rfl : k = l.length := by omega
        clear hb ho
        go_wp2
        go_ret
        have hfl : trainLeft wl l ws = leftIds l ws l.length := by rw [Hr.out, Hlen.out]
        rw [hfl]
        exact ⟨A4, c4, rfl, HO.out.mono hs1, bthen H1.out HB.out⟩

theorem specTrainLeft (C : Option Addr) (cc : Nat) (wl : List (Int × Int)) (A : Option Addr) (c : Nat) (l : List Bx) (B : Option Addr) (d : Nat) (ws : List Int) (w : World)
    (hwg : Rd encP w C wl) (h : Rd encB w A l) (hw : RdI w B ws) (hgl : wl.length ≤ 1000000000) (hl : l.length ≤ 1000000000) (hwl : ws.length ≤ 1000000000) (hcap : l.length ≤ c) :
    Calls Try.prog 38 #[.slice C wl.length cc, .slice A l.length c, .slice B ws.length d] w (NewI w (trainLeft wl l ws)) := by
  have HT := Lib.hid (fun (w' : World) (hb : Below w.heap.size w w') => specTrainValid C cc wl A c l B d ws w' (hwg.below hb) (h.below hb) (hw.below hb) hgl hl hwl)
  have H0 := Lib.hid ((Below.refl w.heap.size w).alloc (Nat.le_refl _) (.cells #[] 3))
  have HO0 := Lib.hid (OwnI.none_made w)
  by_cases h0 : 0 < ws.length
  · cases hok : trainOk wl l ws with
    | false =>
      have Hr := Lib.hid (trainLeft_f hok)
      go_enter Try.func38, Try.ntmps38
      go_wp2
      go_loopw [7, 8] (fun v i wr => i = vi 0 ∧ v = .slice (some ⟨w.heap.size, 0, none⟩) 0 0 ∧ OwnI wr w.heap.size (some ⟨w.heap.size, 0, none⟩) 0 0 [] ∧ Below w.heap.size w wr) (fun _ i _ => ws.length - (intOf i).toNat)
      case atStart => exact ⟨rfl, rfl, HO0.out, H0.out⟩
      case round =>
        obtain ⟨rfl, rfl, ho, hb⟩ := hrel
        have HO := Lib.hid ho
        have HB := Lib.hid hb
        clear ho hb
        go_wp2_with fail
        refine (HT.out _ HB.out).mono ?_
        rw [hok]
        rintro e w1 ⟨rfl, hb1⟩
        have H1 := Lib.hid (bthen HB.out hb1)
        have HO1 := Lib.hid (HO.out.below hb1)
        clear hb1
        go_wp2
        go_ret
        rw [Hr.out]
        exact ⟨_, _, rfl, HO1.out, H1.out⟩
    | true =>
      have Hr := Lib.hid (trainLeft_t hok)
      obtain ⟨hlen, hl10⟩ := trainOk_len hok
      have Hlen := Lib.hid hlen
      have hw10 : ws.length ≤ 10 := by omega
      clear hlen h0
      go_enter Try.func38, Try.ntmps38
      go_wp2
      go_loopw [7, 8] (fun v i wr => ∃ (k : Nat) (A4 : Option Addr) (c4 : Nat), k ≤ ws.length ∧ i = vi k ∧ v = .slice A4 (leftIds l ws k).length c4 ∧ OwnI wr w.heap.size A4 (leftIds l ws k).length c4 (leftIds l ws k) ∧ Below w.heap.size w wr) (fun _ i _ => ws.length - (intOf i).toNat)
      case atStart => exact ⟨0, _, _, Nat.zero_le _, rfl, rfl, HO0.out, H0.out⟩
      case round =>
        obtain ⟨k, A4, c4, hk, rfl, rfl, ho, hb⟩ := hrel
        have HO := Lib.hid ho
        have HB := Lib.hid hb
        have HI4 := Lib.hid ho.in_
        have hbs := hb.size
        have hll := length_leftIds l ws k
        clear ho hb H0 HO0
        by_cases hlt : k < ws.length
        · go_wp2_with fail
          refine (HT.out _ HB.out).mono ?_
          rw [hok]
          rintro e w1 ⟨rfl, hb1⟩
          have H1 := Lib.hid (bthen HB.out hb1)
          have HO1 := Lib.hid (HO.out.below hb1)
          have hs1 := hb1.size
          clear hb1
          have hll2 : k < l.length := by rw [← Hlen.out]; exact hlt
          obtain ⟨b, o, rfl, hbl, _⟩ := (h.below H1.out) (by omega)
          obtain ⟨hc1, _⟩ := (h.below H1.out).at5 k hll2
          obtain ⟨b2, o2, rfl, hbl2, hcw⟩ := (hw.below H1.out) (by omega)
          have hcw2 := hcw k hlt
          clear h hw hcw hwg HT
          by_cases he : nth ws k = -1
          · have he1 : (nth ws k == -1) = true := by simp [he]
            have Hh := Lib.hid (leftIds_hit (l := l) he)
            clear he
            go_wp2_with (at_builtin; refine app_int rfl (.tmp 27) (.tmp 33) rfl w.heap.size A4 (leftIds l ws k).length c4 (leftIds l ws k) rfl (HO1.out.alloc _) (some ⟨w1.heap.size, 0, none⟩) 1 1 [(nth l k).id] rfl (RdI.one _ _) rfl (by omega) (by simp; omega) ?_; intro A7 c7 w7 ho7 hg7; skip)
            have HO7 := Lib.hid ho7
            have HB7 := Lib.hid ((H1.out.alloc (by have := (H1.out).size; omega) (.cells #[vi (nth l k).id] 3)).grown hg7 (by have := (H1.out).size; simp; omega) (fun q hq => by have := HI4.out q (.inr hq); omega))
            clear ho7 hg7
            go_wp2
            go_roundw
            case rel => exact ⟨k + 1, A7, c7, by omega, by go_num, by rw [Hh.out]; simp, by rw [Hh.out]; simpa using HO7.out, HB7.out⟩
            case measure => simp [intOf]; omega
          · have he1 : (nth ws k == -1) = false := by simp [he]
            have Hh := Lib.hid (leftIds_miss (l := l) he)
            clear he
            go_wp2
            go_roundw
            case rel => exact ⟨k + 1, A4, c4, by omega, by go_num, by rw [Hh.out], by rw [Hh.out]; exact HO1.out, H1.out⟩
            case measure => simp [intOf]; omega
        · obtain rfl : k = ws.length := by omega
          go_wp2
          go_ret
          rw [Hr.out]
          exact ⟨A4, c4, rfl, HO.out, HB.out⟩
  · have hz : ws.length = 0 := by omega
    have hn : trainLeft wl l ws = [] := by
      cases hok : trainOk wl l ws with
      | true => rw [trainLeft_t hok, hz]; rfl
      | false => exact trainLeft_f hok
    have Hn := Lib.hid hn
    clear hn
    rw [hz]
    clear hz
    go_enter Try.func38, Try.ntmps38
    go_wp2
    go_loopw [7, 8] (fun v i wr => i = vi 0 ∧ v = .slice (some ⟨w.heap.size, 0, none⟩) 0 0 ∧ OwnI wr w.heap.size (some ⟨w.heap.size, 0, none⟩) 0 0 [] ∧ Below w.heap.size w wr) (fun _ i _ => 0)
    case atStart => exact ⟨rfl, rfl, HO0.out, H0.out⟩
    case round =>
      obtain ⟨rfl, rfl, ho, hb⟩ := hrel
      have HO := Lib.hid ho
      have HB := Lib.hid hb
      clear ho hb
      go_wp2
      go_ret
      rw [Hn.out]
      exact ⟨_, _, rfl, HO.out, HB.out⟩
end Go.Proofs.Ytdhpjajhkeanjaa
