/-
  The walk of 'FnTrainValid'.
-/
import Derived.Test.YtdhpjajhkeanjaaTrainDraw
import Derived.Test.YtdhpjajhkeanjaaTrainD
import Derived.Test.YtdhpjajhkeanjaaTrainP
namespace Go.Proofs.Ytdhpjajhkeanjaa
open Go.RowKit
set_option linter.unusedVariables false

theorem walkFnTrainValid (w : World) (A0a : Option Addr) (c0a : Nat) (l0 : List Int) (rd0 : RdB w w.heap.size A0a l0) (cap0 : l0.length ≤ c0a) :
    Calls Try.prog 9 #[.slice A0a l0.length c0a] w fun e w' => e = .returned (.bool true) ∧ Below w.heap.size w w' := by
  by_cases hbig0 : 1048576 < l0.length
  · go_enter Try.func9, Try.ntmps9
    go_wp2
    go_ret
    exact ⟨rfl, Below.refl _ _⟩
  go_enter Try.func9, Try.ntmps9
  go_wp2_with fail
  refine (DrawTrainValid_any A0a c0a l0 w rd0 cap0).mono ?_
  rintro e w1 ⟨A1, c1, wl, A2, c2, l, A3, c3, ws, rfl, hW, hL, hS, hwl, hl, hws, hb1⟩
  have HB1 := Lib.hid hb1
  have hs1 := hb1.size
  have HW1 := Lib.hid hW
  have HL1 := Lib.hid hL
  have HS1 := Lib.hid hS
  clear hb1 hW hL hS rd0 cap0
  go_wp2_with fail
  refine (implTrainValid A1 c1 wl A2 c2 l A3 c3 ws w1 HW1.out.rd HL1.out.rd HS1.out.rd (by omega) (by omega) (by omega) HL1.out.cap.1).mono ?_
  rintro e w2 ⟨he, hb2⟩
  subst he
  have HB2 := Lib.hid (bthen HB1.out hb2)
  have hs2 : w1.heap.size ≤ w2.heap.size := hb2.size
  have HW2 := Lib.hid (HW1.out.below hb2)
  have HL2 := Lib.hid (HL1.out.below hb2)
  have HS2 := Lib.hid (HS1.out.below hb2)
  clear hb2
  go_wp2_with fail
  refine (specTrainValid A1 c1 wl A2 c2 l A3 c3 ws w2 HW2.out.rd HL2.out.rd HS2.out.rd (by omega) (by omega) (by omega)).mono ?_
  rintro e w3 ⟨he, hb3⟩
  subst he
  have HB3 := Lib.hid (bthen HB2.out hb3)
  have hs3 : w2.heap.size ≤ w3.heap.size := hb3.size
  have HW3 := Lib.hid (HW2.out.below hb3)
  have HL3 := Lib.hid (HL2.out.below hb3)
  have HS3 := Lib.hid (HS2.out.below hb3)
  clear hb3
  have hself : ∀ b : Bool, (b != b) = false := fun b => by cases b <;> rfl
  cases hok : trainOk wl l ws with
  | false =>
    go_wp2
    clear hself
    go_loop [7] (fun i => i = vi 0) (fun _ => 0)
    case atStart => exact rfl
    case round =>
      obtain rfl := hrel
      by_cases h0 : 0 < ws.length
      · skip
        go_wp2_with fail
        refine (alive_any w3).mono ?_
        rintro e w' ⟨rfl, rfl⟩
        go_wp2
        go_ret
        first | exact ⟨rfl, HB3.out⟩ | exact ⟨by simp; omega, HB3.out⟩
      · skip
        go_wp2_with fail
        refine (alive_any w3).mono ?_
        rintro e w' ⟨rfl, rfl⟩
        go_wp2
        go_ret
        first | exact ⟨rfl, HB3.out⟩ | exact ⟨by simp; omega, HB3.out⟩
  | true =>
    have Hok := Lib.hid hok
    clear hok
    go_wp2
    clear hself
    go_loopw [7] (fun i wr => ∃ k : Nat, k ≤ ws.length ∧ i = vi k ∧ Below w3.heap.size w3 wr) (fun i _ => ws.length - (intOf i).toNat)
    case atStart => exact ⟨0, Nat.zero_le _, rfl, Below.refl _ _⟩
    case round =>
      obtain ⟨k, hk, rfl, hb⟩ := hrel
      have HB := Lib.hid hb
      have hz := hb.size
      have HWr := Lib.hid (HW3.out.below hb)
      have HLr := Lib.hid (HL3.out.below hb)
      have HSr := Lib.hid (HS3.out.below hb)
      clear hb
      by_cases hlt : k < ws.length
      · have Hoff := Lib.hid (train_off Hok.out k hlt)
        have HBa := Lib.hid (HB.out.alloc HB.out.size (.cells #[] 3))
        go_wp2_with (at_builtin; refine app_int rfl (.tmp 37) (.tmp 38) rfl wr.heap.size (some ⟨wr.heap.size, 0, none⟩) 0 0 [] rfl (OwnI.none_made wr) A3 ws.length c3 ws rfl (HSr.out.rd.alloc _) rfl (by omega) (by simp) ?_; intro A7 c7 w7 ho7 hg7; simp only [Nat.zero_add, List.nil_append] at ho7; skip)
        have HB7 := Lib.hid (HBa.out.grown hg7 (by simp; omega) (fun q hq => by simp [blk] at hq; omega))
        have hs7 := hg7.size
        simp only [World.size_alloc] at hs7
        rcases ho7.form with ⟨_, e0⟩ | ⟨g7, rfl, hg71, hg72⟩
        · rw [e0] at hlt; simp at hlt
        have hcd := ho7.cell k hlt
        have hcf := ho7.frozen k
        have HP := Lib.hid (ho7.put k (-1))
        clear ho7 hg7
        have HB8 := Lib.hid (HB7.out.grown HP.out.2 (by omega) (fun q hq => by injection hq with hq; omega))
        have hcl := implTrainValid A1 c1 wl A2 c2 l (some ⟨g7, 0, none⟩) c7 (ws.set k (-1)) (w7.setCell ⟨g7, k, none⟩ (vi (-1))) (HW3.out.below HB8.out).rd (HL3.out.below HB8.out).rd HP.out.1.rd (by omega) (by omega) (by simp; omega) HL3.out.cap.1
        rw [Hoff.out, List.length_set] at hcl
        have Hcl := Lib.hid hcl
        clear hcl
        go_simp
        go_wp2_with fail
        refine Hcl.out.mono ?_
        rintro e w9 ⟨rfl, hb9⟩
        have HB9 := Lib.hid (bthen HB8.out hb9)
        clear hb9
        go_wp2
        go_roundw
        case rel => exact ⟨k + 1, by omega, by go_num, HB9.out⟩
        case measure => simp [intOf]; omega
      · obtain rfl : k = ws.length := by omega
        go_wp2_with fail
        refine (alive_any wr).mono ?_
        rintro e w' ⟨rfl, rfl⟩
        go_wp2
        go_ret
        first | exact ⟨rfl, (bthen HB3.out HB.out)⟩ | exact ⟨by simp; omega, (bthen HB3.out HB.out)⟩
end Go.Proofs.Ytdhpjajhkeanjaa
