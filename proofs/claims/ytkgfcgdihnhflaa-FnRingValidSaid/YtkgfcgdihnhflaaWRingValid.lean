/-
  The walk of 'FnRingValid'.
-/
import Derived.Test.YtkgfcgdihnhflaaRingDraw2
namespace Go.Proofs.Ytkgfcgdihnhflaa
open Go.RowKit
set_option linter.unusedVariables false

theorem walkFnRingValid (w : World) (A0a : Option Addr) (c0a : Nat) (l0 : List Int) (rd0 : RdB w w.heap.size A0a l0) (cap0 : l0.length ≤ c0a) :
    Calls Try.prog 6 #[.slice A0a l0.length c0a] w fun e w' => e = .returned (.bool true) ∧ Below w.heap.size w w' := by
  by_cases hbig0 : 1048576 < l0.length
  · go_enter Try.func6, Try.ntmps6
    go_wp2
    go_ret
    exact ⟨rfl, Below.refl _ _⟩
  go_enter Try.func6, Try.ntmps6
  go_wp2_with fail
  refine (DrawRingValid_any A0a c0a l0 w rd0 cap0).mono ?_
  rintro e w1 ⟨A1, c1, l, rfl, ho1, hlo, hhi, hb1⟩
  have HO1 := Lib.hid ho1
  have HB1 := Lib.hid hb1
  have HI1 := Lib.hid ho1.in_
  clear ho1 hb1
  go_wp2_with fail
  refine (implRingValid A1 c1 l w1 HO1.out.rd (by omega)).mono ?_
  rintro e w' ⟨rfl, rfl⟩
  go_wp2_with fail
  refine (specRingValid A1 c1 l w1 HO1.out.rd (by omega)).mono ?_
  rintro e w' ⟨rfl, rfl⟩
  cases ho : ringOk l with
  | false =>
    have hk : ringOk [-1] = false := by decide
    go_wp2_with fail
    refine (implRingValid (some ⟨w1.heap.size, 0, none⟩) 1 [-1] _ (RdI.one w1 (-1)) (by simp)).mono ?_
    rintro e w' ⟨rfl, rfl⟩
    go_wp2_with fail
    refine (alive_any _).mono ?_
    rintro e w' ⟨rfl, rfl⟩
    go_wp2
    go_ret
    exact ⟨rfl, HB1.out.alloc HB1.out.size _⟩
  | true =>
    have Ho := Lib.hid ho
    have hlen := ringOk_len ho
    have hcap := HO1.out.cap
    have hs1 : w.heap.size ≤ w1.heap.size := HB1.out.size
    clear ho
    go_wp2
    go_loopw [5, 6] (fun v i wr => ∃ (k : Nat) (B : Option Addr) (d : Nat), k ≤ l.length ∧ i = vi k ∧ v = .slice B k d ∧ OwnI wr w1.heap.size B k d (List.replicate k (-1)) ∧ OwnI wr w.heap.size A1 l.length c1 l ∧ Below w.heap.size w wr ∧ w1.heap.size ≤ wr.heap.size)
      (fun _ i _ => l.length - (intOf i).toNat)
    case atStart => exact ⟨0, _, _, Nat.zero_le _, rfl, rfl, OwnI.none_made w1, HO1.out.alloc _, HB1.out.alloc HB1.out.size _, by simp⟩
    case round =>
      obtain ⟨k, B, d, hk, rfl, rfl, hz, ho, hb, hs⟩ := hrel
      have HZ := Lib.hid hz
      have HO := Lib.hid ho
      have HB := Lib.hid hb
      have HI := Lib.hid hz.in_
      clear hz ho hb
      by_cases hlt : k < l.length
      · go_wp2_with (at_builtin; refine app_int rfl (.tmp 33) (.tmp 34) rfl w1.heap.size B k d (List.replicate k (-1)) rfl (HZ.out.alloc _) (some ⟨wr.heap.size, 0, none⟩) 1 1 [-1] rfl (RdI.one _ _) rfl (by omega) (by simp; omega) ?_; intro A7 c7 w7 ho7 hg7; skip)
        have HZ7 : Hid (OwnI w7 w1.heap.size A7 (k + 1) c7 (List.replicate (k + 1) (-1))) := Lib.hid (by rw [List.replicate_succ']; exact ho7)
        have HO7 := Lib.hid ((HO.out.alloc (.cells #[vi (-1)] 3)).far hg7 (apart HI1.out HI.out (Nat.le_refl _)))
        have HB7 := Lib.hid ((HB.out.alloc HB.out.size (.cells #[vi (-1)] 3)).grown hg7 (by have := HB.out.size; simp; omega) (blk_from HI.out (by omega)))
        have hs7 : wr.heap.size ≤ w7.heap.size := by have := hg7.size; simp at this; omega
        clear ho7 hg7
        go_wp2
        go_roundw
        case rel => exact ⟨k + 1, A7, c7, by omega, by go_num, rfl, HZ7.out, HO7.out, HB7.out, by omega⟩
        case measure => simp [intOf]; omega
      · obtain rfl : k = l.length := by omega
        have hk1 : ringOk (List.replicate l.length (-1)) = true := ringOk_of (by simp; omega) (by simp; omega) (fun j hj => by
          rw [nth_eq _ _ hj]; simp)
        have hk2 : ringOk (l.take 1) = false := by
          cases hq : ringOk (l.take 1) with
          | false => rfl
          | true => have := ringOk_len hq; simp at this; omega
        have hv := implRingValid B d (List.replicate l.length (-1)) wr HZ.out.rd (by simp; omega)
        rw [List.length_replicate] at hv
        have HV := Lib.hid hv
        have hv2 := implRingValid A1 c1 (l.take 1) wr (HO.out.rd.take 1) (by simp; omega)
        have e1 : (l.take 1).length = 1 := by simp; omega
        rw [e1] at hv2
        have HV2 := Lib.hid hv2
        clear hv hv2 e1
        rcases HO.out.form with ⟨_, e⟩ | ⟨g1, rfl, hgb, hgs1⟩
        · rw [e] at hlen; simp at hlen
        go_wp2_with fail
        refine HV.out.mono ?_
        rintro e w' ⟨rfl, rfl⟩
        go_wp2_with fail
        refine HV2.out.mono ?_
        rintro e w' ⟨rfl, rfl⟩
        go_wp2
        go_ret
        exact ⟨rfl, HB.out⟩
end Go.Proofs.Ytkgfcgdihnhflaa
