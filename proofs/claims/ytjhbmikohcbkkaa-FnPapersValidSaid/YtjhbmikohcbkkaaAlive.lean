/-
  The contract of 'alive', which checks two fixed answers.
-/
import Derived.Test.YtjhbmikohcbkkaaBase
import Derived.Lib.Bytealg
namespace Go.Proofs.Ytjhbmikohcbkkaa
open Go.RowKit
set_option linter.unusedVariables false
set_option maxRecDepth 100000

theorem checkRest_empty (w : World) :
    Calls Try.prog 48 #[.string ⟨#[]⟩] w fun e w' => e = .returned (vi (-1)) ∧ w = w' := by
  go_enter Try.func48, Try.ntmps48
  go_wp2
  go_ret
  exact ⟨rfl, rfl⟩

theorem ownerValid_key (w : World) :
    Calls Try.prog 63 #[.string ⟨#[67, 83, 81]⟩] w fun e w' => e = .returned (.bool true) ∧ w = w' := by
  go_enter Try.func63, Try.ntmps63
  go_wp2
  go_ret
  exact ⟨rfl, rfl⟩

theorem indexByte_key (w : World) :
    Calls Try.prog 64 #[.string ⟨#[85, 74, 90]⟩, .int .u8 85] w fun e w' => e = .returned (vi 0) ∧ w = w' := by
  go_enter Try.func64, Try.ntmps64
  go_wp2
  rw [run_callFunc_extern Try.func75 (by kernel_rfl) (by kernel_rfl) (by kernel_rfl) (e := Extern.BytealgIndexByte.indexByte) (by kernel_rfl), Lib.run_indexByteString]
  simp only [Result.andThen]
  rw [Oper.upon_value]
  go_wp2
  go_ret
  exact ⟨rfl, rfl⟩

theorem charValue_48 (w : World) :
    Calls Try.prog 66 #[.string ⟨#[48]⟩] w fun e w' => e = .returned (vi 0) ∧ w = w' := by
  go_enter Try.func66, Try.ntmps66
  go_wp2
  go_ret
  exact ⟨rfl, rfl⟩

theorem charValue_51 (w : World) :
    Calls Try.prog 66 #[.string ⟨#[51]⟩] w fun e w' => e = .returned (vi 3) ∧ w = w' := by
  go_enter Try.func66, Try.ntmps66
  go_wp2
  go_ret
  exact ⟨rfl, rfl⟩

theorem charValue_52 (w : World) :
    Calls Try.prog 66 #[.string ⟨#[52]⟩] w fun e w' => e = .returned (vi 4) ∧ w = w' := by
  go_enter Try.func66, Try.ntmps66
  go_wp2
  go_ret
  exact ⟨rfl, rfl⟩

theorem charValue_53 (w : World) :
    Calls Try.prog 66 #[.string ⟨#[53]⟩] w fun e w' => e = .returned (vi 5) ∧ w = w' := by
  go_enter Try.func66, Try.ntmps66
  go_wp2
  go_ret
  exact ⟨rfl, rfl⟩

theorem charValue_56 (w : World) :
    Calls Try.prog 66 #[.string ⟨#[56]⟩] w fun e w' => e = .returned (vi 8) ∧ w = w' := by
  go_enter Try.func66, Try.ntmps66
  go_wp2
  go_ret
  exact ⟨rfl, rfl⟩

theorem charValue_67 (w : World) :
    Calls Try.prog 66 #[.string ⟨#[67]⟩] w fun e w' => e = .returned (vi 13) ∧ w = w' := by
  go_enter Try.func66, Try.ntmps66
  go_wp2
  go_ret
  exact ⟨rfl, rfl⟩

theorem charValue_81 (w : World) :
    Calls Try.prog 66 #[.string ⟨#[81]⟩] w fun e w' => e = .returned (vi 28) ∧ w = w' := by
  go_enter Try.func66, Try.ntmps66
  go_wp2
  go_ret
  exact ⟨rfl, rfl⟩

theorem charValue_83 (w : World) :
    Calls Try.prog 66 #[.string ⟨#[83]⟩] w fun e w' => e = .returned (vi 30) ∧ w = w' := by
  go_enter Try.func66, Try.ntmps66
  go_wp2
  go_ret
  exact ⟨rfl, rfl⟩

theorem charValue_85 (w : World) :
    Calls Try.prog 66 #[.string ⟨#[85]⟩] w fun e w' => e = .returned (vi 32) ∧ w = w' := by
  go_enter Try.func66, Try.ntmps66
  go_wp2
  go_ret
  exact ⟨rfl, rfl⟩

/-- The sum of the first k bytes. -/
def keySum : Nat → Int
  | 0 => 0
  | 1 => 13
  | 2 => 73
  | 3 => 185
  | 4 => 441
  | 5 => 489
  | 6 => 489
  | 7 => 809
  | 8 => 1321
  | 9 => 2089
  | 10 => 6185
  | _ => 0

set_option maxHeartbeats 2000000 in
theorem checkRest_key (w : World) :
    Calls Try.prog 48 #[.string ⟨#[67, 83, 81, 85, 51, 48, 53, 52, 51, 56]⟩] w fun e w' => e = .returned (vi 3) ∧ w = w' := by
  have e03 : ByteArray.extract ⟨#[67, 83, 81, 85, 51, 48, 53, 52, 51, 56]⟩ 0 3 = ⟨#[67, 83, 81]⟩ := rfl
  have e0 : ByteArray.extract ⟨#[67, 83, 81, 85, 51, 48, 53, 52, 51, 56]⟩ 0 1 = ⟨#[67]⟩ := rfl
  have e1 : ByteArray.extract ⟨#[67, 83, 81, 85, 51, 48, 53, 52, 51, 56]⟩ 1 2 = ⟨#[83]⟩ := rfl
  have e2 : ByteArray.extract ⟨#[67, 83, 81, 85, 51, 48, 53, 52, 51, 56]⟩ 2 3 = ⟨#[81]⟩ := rfl
  have e3 : ByteArray.extract ⟨#[67, 83, 81, 85, 51, 48, 53, 52, 51, 56]⟩ 3 4 = ⟨#[85]⟩ := rfl
  have e4 : ByteArray.extract ⟨#[67, 83, 81, 85, 51, 48, 53, 52, 51, 56]⟩ 4 5 = ⟨#[51]⟩ := rfl
  have e5 : ByteArray.extract ⟨#[67, 83, 81, 85, 51, 48, 53, 52, 51, 56]⟩ 5 6 = ⟨#[48]⟩ := rfl
  have e6 : ByteArray.extract ⟨#[67, 83, 81, 85, 51, 48, 53, 52, 51, 56]⟩ 6 7 = ⟨#[53]⟩ := rfl
  have e7 : ByteArray.extract ⟨#[67, 83, 81, 85, 51, 48, 53, 52, 51, 56]⟩ 7 8 = ⟨#[52]⟩ := rfl
  have e8 : ByteArray.extract ⟨#[67, 83, 81, 85, 51, 48, 53, 52, 51, 56]⟩ 8 9 = ⟨#[51]⟩ := rfl
  have e9 : ByteArray.extract ⟨#[67, 83, 81, 85, 51, 48, 53, 52, 51, 56]⟩ 9 10 = ⟨#[56]⟩ := rfl
  go_enter Try.func48, Try.ntmps48
  go_wp2_with (first
    | (go_at_call 63; refine (ownerValid_key _).mono ?_; rintro e w' ⟨rfl, rfl⟩)
    | (go_at_call 64; refine (indexByte_key _).mono ?_; rintro e w' ⟨rfl, rfl⟩))
  go_loop [3, 22] (fun s i => ∃ k : Nat, k ≤ 10 ∧ i = vi k ∧ s = vi (keySum k)) (fun _ i => 10 - (intOf i).toNat)
  case atStart => exact ⟨0, Nat.zero_le _, rfl, rfl⟩
  case round =>
    obtain ⟨k, hk, rfl, rfl⟩ := hrel
    have hk' : k = 0 ∨ k = 1 ∨ k = 2 ∨ k = 3 ∨ k = 4 ∨ k = 5 ∨ k = 6 ∨ k = 7 ∨ k = 8 ∨ k = 9 ∨ k = 10 := by omega
    clear hk
    rcases hk' with rfl | rfl | rfl | rfl | rfl | rfl | rfl | rfl | rfl | rfl | rfl
    · go_wp2_with (first
        | (go_at_call 66; refine (charValue_67 _).mono ?_; rintro e w' ⟨rfl, rfl⟩)
        | (go_at_call 65; go_in))
      go_round
      case rel => exact ⟨1, by omega, by go_num, by first | (simp [keySum]; done) | (simp [keySum, IntWalk.wrap64_in])⟩
      case measure => simp [intOf]
    · go_wp2_with (first
        | (go_at_call 66; refine (charValue_83 _).mono ?_; rintro e w' ⟨rfl, rfl⟩)
        | (go_at_call 65; go_in))
      go_round
      case rel => exact ⟨2, by omega, by go_num, by first | (simp [keySum]; done) | (simp [keySum, IntWalk.wrap64_in])⟩
      case measure => simp [intOf]
    · go_wp2_with (first
        | (go_at_call 66; refine (charValue_81 _).mono ?_; rintro e w' ⟨rfl, rfl⟩)
        | (go_at_call 65; go_in))
      go_round
      case rel => exact ⟨3, by omega, by go_num, by first | (simp [keySum]; done) | (simp [keySum, IntWalk.wrap64_in])⟩
      case measure => simp [intOf]
    · go_wp2_with (first
        | (go_at_call 66; refine (charValue_85 _).mono ?_; rintro e w' ⟨rfl, rfl⟩)
        | (go_at_call 65; go_in))
      go_round
      case rel => exact ⟨4, by omega, by go_num, by first | (simp [keySum]; done) | (simp [keySum, IntWalk.wrap64_in])⟩
      case measure => simp [intOf]
    · go_wp2_with (first
        | (go_at_call 66; refine (charValue_51 _).mono ?_; rintro e w' ⟨rfl, rfl⟩)
        | (go_at_call 65; go_in))
      go_round
      case rel => exact ⟨5, by omega, by go_num, by first | (simp [keySum]; done) | (simp [keySum, IntWalk.wrap64_in])⟩
      case measure => simp [intOf]
    · go_wp2_with (first
        | (go_at_call 66; refine (charValue_48 _).mono ?_; rintro e w' ⟨rfl, rfl⟩)
        | (go_at_call 65; go_in))
      go_round
      case rel => exact ⟨6, by omega, by go_num, by first | (simp [keySum]; done) | (simp [keySum, IntWalk.wrap64_in])⟩
      case measure => simp [intOf]
    · go_wp2_with (first
        | (go_at_call 66; refine (charValue_53 _).mono ?_; rintro e w' ⟨rfl, rfl⟩)
        | (go_at_call 65; go_in))
      go_round
      case rel => exact ⟨7, by omega, by go_num, by first | (simp [keySum]; done) | (simp [keySum, IntWalk.wrap64_in])⟩
      case measure => simp [intOf]
    · go_wp2_with (first
        | (go_at_call 66; refine (charValue_52 _).mono ?_; rintro e w' ⟨rfl, rfl⟩)
        | (go_at_call 65; go_in))
      go_round
      case rel => exact ⟨8, by omega, by go_num, by first | (simp [keySum]; done) | (simp [keySum, IntWalk.wrap64_in])⟩
      case measure => simp [intOf]
    · go_wp2_with (first
        | (go_at_call 66; refine (charValue_51 _).mono ?_; rintro e w' ⟨rfl, rfl⟩)
        | (go_at_call 65; go_in))
      go_round
      case rel => exact ⟨9, by omega, by go_num, by first | (simp [keySum]; done) | (simp [keySum, IntWalk.wrap64_in])⟩
      case measure => simp [intOf]
    · go_wp2_with (first
        | (go_at_call 66; refine (charValue_56 _).mono ?_; rintro e w' ⟨rfl, rfl⟩)
        | (go_at_call 65; go_in))
      go_round
      case rel => exact ⟨10, by omega, by go_num, by first | (simp [keySum]; done) | (simp [keySum, IntWalk.wrap64_in])⟩
      case measure => simp [intOf]
    · go_wp2
      go_ret
      exact ⟨by simp [keySum], rfl⟩

theorem alive_any (w : World) :
    Calls Try.prog 22 #[] w fun e w' => e = .returned (.bool true) ∧ w = w' := by
  go_enter Try.func22, Try.ntmps22
  go_wp2_with fail
  refine (checkRest_key _).mono ?_
  rintro e w' ⟨rfl, rfl⟩
  go_wp2_with fail
  refine (checkRest_empty _).mono ?_
  rintro e w' ⟨rfl, rfl⟩
  go_wp2
  go_ret
  exact ⟨rfl, rfl⟩
end Go.Proofs.Ytjhbmikohcbkkaa
