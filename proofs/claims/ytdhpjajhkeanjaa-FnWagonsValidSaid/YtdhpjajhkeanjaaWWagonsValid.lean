/-
  The walk of 'FnWagonsValid'.
-/
import Derived.Test.YtdhpjajhkeanjaaWagonDraw
namespace Go.Proofs.Ytdhpjajhkeanjaa
open Go.RowKit
set_option linter.unusedVariables false

theorem walkFnWagonsValid (w : World) (A0a : Option Addr) (c0a : Nat) (l0 : List Int) (rd0 : RdB w w.heap.size A0a l0) (cap0 : l0.length ≤ c0a) :
    Calls Try.prog 4 #[.slice A0a l0.length c0a] w fun e w' => e = .returned (.bool true) ∧ Below w.heap.size w w' := by
  by_cases hbig0 : 1048576 < l0.length
  · go_enter Try.func4, Try.ntmps4
    go_wp2
    go_ret
    exact ⟨rfl, Below.refl _ _⟩
  go_enter Try.func4, Try.ntmps4
  go_wp2_with fail
  refine (DrawWagonsValid_any A0a c0a l0 w rd0 cap0).mono ?_
  rintro e w1 ⟨A1, c1, l, rfl, ho1, hhi, hb1⟩
  have HO1 := Lib.hid ho1
  have HB1 := Lib.hid hb1
  clear ho1 hb1
  go_wp2_with fail
  refine (implWagonsValid A1 c1 l w1 HO1.out.rd (by omega)).mono ?_
  rintro e w2 ⟨he, hb2⟩
  subst he
  have HB2 := Lib.hid (bthen HB1.out hb2)
  have HO2 := Lib.hid (HO1.out.below hb2)
  have hs2 := HB2.out.size
  clear hb2
  go_wp2_with fail
  refine (specWagonsValid A1 c1 l w2 HO2.out.rd (by omega)).mono ?_
  rintro e w3 ⟨he, hb3⟩
  subst he
  have HB3 := Lib.hid (bthen HB2.out hb3)
  have HO3 := Lib.hid (HO2.out.below hb3)
  have hs3 := HB3.out.size
  clear hb3
  cases hr : wagonsOk l with
  | false =>
    have HN := Lib.hid (Own.none_made (E := 32) (e := encP) w3)
    have HR := Lib.hid (HO3.out.rd.alloc (.cells #[] 32))
    go_wp2_with (first | (at_builtin; refine app_Wagon rfl (.tmp 29) (.tmp 30) rfl w3.heap.size _ 0 0 [] rfl HN.out A1 l.length c1 l rfl HR.out rfl (by simp; try omega) (by simp) ?_; intro A7 c7 w7 ho7 hg7; simp only [Nat.zero_add, List.nil_append] at ho7; have HO7 := Lib.hid ho7; have hs7 : w3.heap.size + 1 ≤ w7.heap.size := (by have := hg7.size; simpa using this); have HB7 := Lib.hid ((HB3.out.alloc HB3.out.size (.cells #[] 32)).grown hg7 (by simp; omega) (fun k e => by simp [blk] at e; omega)); have HL := Lib.hid (Own.lit (E := 32) (e := encP) w7 #[vi 0, vi 5] [((0 : Int), (5 : Int))] rfl (by simp [maxLen])); clear ho7 hg7; skip) | (at_builtin; refine app_Wagon rfl (.tmp 31) (.tmp 33) rfl w3.heap.size A7 l.length c7 l rfl (HO7.out.alloc _) (some ⟨w7.heap.size, 0, none⟩) 1 1 [((0 : Int), (5 : Int))] rfl HL.out.rd rfl (by simp; try omega) (by simp; omega) ?_; intro A8 c8 w8 ho8 hg8; skip))
    have HO8 := Lib.hid ho8
    have hs8 := hg8.size
    have HB8 := Lib.hid ((HB7.out.alloc HB7.out.size (.cells #[vi 0, vi 5] 32)).grown hg8 (by simp; omega) (fun k e => by have := HO7.out.in_ k (.inr e); omega))
    clear ho8 hg8
    have hln : (l ++ [((0 : Int), (5 : Int))]).length = l.length + 1 := by simp
    have hcl := implWagonsValid A8 c8 (l ++ [((0 : Int), (5 : Int))]) w8 HO8.out.rd (by simp; try omega)
    rw [wagonsOk_snoc l _ rfl, hln] at hcl
    have HCL := Lib.hid hcl
    clear hcl
    refine HCL.out.mono ?_
    rintro e w9 ⟨rfl, hb9⟩
    have HB9 := Lib.hid (bthen HB8.out hb9)
    clear hb9
    go_wp2_with fail
    refine (implWagonsValid none 0 [] w9 Rd.nil_ (by simp)).mono ?_
    rintro e w10 ⟨he, hb10⟩
    rw [wagonsOk_nil] at he
    subst he
    have HB10 := Lib.hid (bthen HB9.out hb10)
    clear hb10
    go_wp2_with fail
    refine (alive_any w10).mono ?_
    rintro e w' ⟨rfl, rfl⟩
    go_wp2
    go_ret
    first | exact ⟨rfl, HB10.out⟩ | exact ⟨by simp; omega, HB10.out⟩
  | true =>
    have Hr := Lib.hid hr
    clear hr
    rcases l with _ | ⟨p, _ | ⟨q, t⟩⟩
    · skip
      have HN := Lib.hid (Own.none_made (E := 32) (e := encP) w3)
      have HR := Lib.hid (HO3.out.rd.alloc (.cells #[] 32))
      go_wp2_with (first | (at_builtin; refine app_Wagon rfl (.tmp 29) (.tmp 30) rfl w3.heap.size _ 0 0 [] rfl HN.out A1 0 c1 [] rfl HR.out rfl (by simp; try omega) (by simp) ?_; intro A7 c7 w7 ho7 hg7; simp only [Nat.zero_add, List.nil_append] at ho7; have HO7 := Lib.hid ho7; have hs7 : w3.heap.size + 1 ≤ w7.heap.size := (by have := hg7.size; simpa using this); have HB7 := Lib.hid ((HB3.out.alloc HB3.out.size (.cells #[] 32)).grown hg7 (by simp; omega) (fun k e => by simp [blk] at e; omega)); have HL := Lib.hid (Own.lit (E := 32) (e := encP) w7 #[vi 0, vi 5] [((0 : Int), (5 : Int))] rfl (by simp [maxLen])); clear ho7 hg7; skip) | (at_builtin; refine app_Wagon rfl (.tmp 31) (.tmp 33) rfl w3.heap.size A7 0 c7 [] rfl (HO7.out.alloc _) (some ⟨w7.heap.size, 0, none⟩) 1 1 [((0 : Int), (5 : Int))] rfl HL.out.rd rfl (by simp; try omega) (by simp; omega) ?_; intro A8 c8 w8 ho8 hg8; skip))
      have HO8 := Lib.hid ho8
      have hs8 := hg8.size
      have HB8 := Lib.hid ((HB7.out.alloc HB7.out.size (.cells #[vi 0, vi 5] 32)).grown hg8 (by simp; omega) (fun k e => by have := HO7.out.in_ k (.inr e); omega))
      clear ho8 hg8
      have hln : ([] ++ [((0 : Int), (5 : Int))]).length = 0 + 1 := by simp
      have hcl := implWagonsValid A8 c8 ([] ++ [((0 : Int), (5 : Int))]) w8 HO8.out.rd (by simp; try omega)
      rw [wagonsOk_snoc [] _ rfl, hln] at hcl
      have HCL := Lib.hid hcl
      clear hcl
      refine HCL.out.mono ?_
      rintro e w9 ⟨rfl, hb9⟩
      have HB9 := Lib.hid (bthen HB8.out hb9)
      clear hb9
      go_wp2_with fail
      refine (implWagonsValid none 0 [] w9 Rd.nil_ (by simp)).mono ?_
      rintro e w10 ⟨he, hb10⟩
      rw [wagonsOk_nil] at he
      subst he
      have HB10 := Lib.hid (bthen HB9.out hb10)
      clear hb10
      go_wp2_with fail
      refine (alive_any w10).mono ?_
      rintro e w' ⟨rfl, rfl⟩
      go_wp2
      go_ret
      first | exact ⟨rfl, HB10.out⟩ | exact ⟨by simp; omega, HB10.out⟩
    · have Hd : Hid (wagonsOk [] = true) := Lib.hid wagonsOk_nil
      have hcap := HO3.out.cap
      by_cases hc1 : c1 = 1
      · subst hc1
        go_wp2_with fail
        refine (implWagonsValid _ _ [] w3 Rd.nil_ (by simp)).mono ?_
        rintro e w4 ⟨he, hb4⟩
        rw [Hd.out] at he
        subst he
        have HB4 := Lib.hid (bthen HB3.out hb4)
        have HO4 := Lib.hid (HO3.out.below hb4)
        have hs4 := HB4.out.size
        clear hb4
        have HN := Lib.hid (Own.none_made (E := 32) (e := encP) w4)
        have HR := Lib.hid (HO4.out.rd.alloc (.cells #[] 32))
        go_wp2_with (first | (at_builtin; refine app_Wagon rfl (.tmp 29) (.tmp 30) rfl w4.heap.size _ 0 0 [] rfl HN.out A1 1 1 [p] rfl HR.out rfl (by simp; try omega) (by simp) ?_; intro A7 c7 w7 ho7 hg7; simp only [Nat.zero_add, List.nil_append] at ho7; have HO7 := Lib.hid ho7; have hs7 : w4.heap.size + 1 ≤ w7.heap.size := (by have := hg7.size; simpa using this); have HB7 := Lib.hid ((HB4.out.alloc HB4.out.size (.cells #[] 32)).grown hg7 (by simp; omega) (fun k e => by simp [blk] at e; omega)); have HL := Lib.hid (Own.lit (E := 32) (e := encP) w7 #[vi 0, vi 5] [((0 : Int), (5 : Int))] rfl (by simp [maxLen])); clear ho7 hg7; skip) | (at_builtin; refine app_Wagon rfl (.tmp 31) (.tmp 33) rfl w4.heap.size A7 1 c7 [p] rfl (HO7.out.alloc _) (some ⟨w7.heap.size, 0, none⟩) 1 1 [((0 : Int), (5 : Int))] rfl HL.out.rd rfl (by simp; try omega) (by simp; omega) ?_; intro A8 c8 w8 ho8 hg8; skip))
        have HO8 := Lib.hid ho8
        have hs8 := hg8.size
        have HB8 := Lib.hid ((HB7.out.alloc HB7.out.size (.cells #[vi 0, vi 5] 32)).grown hg8 (by simp; omega) (fun k e => by have := HO7.out.in_ k (.inr e); omega))
        clear ho8 hg8
        have hln : ([p] ++ [((0 : Int), (5 : Int))]).length = 1 + 1 := by simp
        have hcl := implWagonsValid A8 c8 ([p] ++ [((0 : Int), (5 : Int))]) w8 HO8.out.rd (by simp; try omega)
        rw [wagonsOk_snoc [p] _ rfl, hln] at hcl
        have HCL := Lib.hid hcl
        clear hcl
        refine HCL.out.mono ?_
        rintro e w9 ⟨rfl, hb9⟩
        have HB9 := Lib.hid (bthen HB8.out hb9)
        clear hb9
        go_wp2_with fail
        refine (implWagonsValid none 0 [] w9 Rd.nil_ (by simp)).mono ?_
        rintro e w10 ⟨he, hb10⟩
        rw [wagonsOk_nil] at he
        subst he
        have HB10 := Lib.hid (bthen HB9.out hb10)
        clear hb10
        go_wp2_with fail
        refine (alive_any w10).mono ?_
        rintro e w' ⟨rfl, rfl⟩
        go_wp2
        go_ret
        first | exact ⟨rfl, HB10.out⟩ | exact ⟨by simp; omega, HB10.out⟩
      · skip
        go_wp2_with fail
        refine (implWagonsValid _ _ [] w3 Rd.nil_ (by simp)).mono ?_
        rintro e w4 ⟨he, hb4⟩
        rw [Hd.out] at he
        subst he
        have HB4 := Lib.hid (bthen HB3.out hb4)
        have HO4 := Lib.hid (HO3.out.below hb4)
        have hs4 := HB4.out.size
        clear hb4
        have HN := Lib.hid (Own.none_made (E := 32) (e := encP) w4)
        have HR := Lib.hid (HO4.out.rd.alloc (.cells #[] 32))
        go_wp2_with (first | (at_builtin; refine app_Wagon rfl (.tmp 29) (.tmp 30) rfl w4.heap.size _ 0 0 [] rfl HN.out A1 1 c1 [p] rfl HR.out rfl (by simp; try omega) (by simp) ?_; intro A7 c7 w7 ho7 hg7; simp only [Nat.zero_add, List.nil_append] at ho7; have HO7 := Lib.hid ho7; have hs7 : w4.heap.size + 1 ≤ w7.heap.size := (by have := hg7.size; simpa using this); have HB7 := Lib.hid ((HB4.out.alloc HB4.out.size (.cells #[] 32)).grown hg7 (by simp; omega) (fun k e => by simp [blk] at e; omega)); have HL := Lib.hid (Own.lit (E := 32) (e := encP) w7 #[vi 0, vi 5] [((0 : Int), (5 : Int))] rfl (by simp [maxLen])); clear ho7 hg7; skip) | (at_builtin; refine app_Wagon rfl (.tmp 31) (.tmp 33) rfl w4.heap.size A7 1 c7 [p] rfl (HO7.out.alloc _) (some ⟨w7.heap.size, 0, none⟩) 1 1 [((0 : Int), (5 : Int))] rfl HL.out.rd rfl (by simp; try omega) (by simp; omega) ?_; intro A8 c8 w8 ho8 hg8; skip))
        have HO8 := Lib.hid ho8
        have hs8 := hg8.size
        have HB8 := Lib.hid ((HB7.out.alloc HB7.out.size (.cells #[vi 0, vi 5] 32)).grown hg8 (by simp; omega) (fun k e => by have := HO7.out.in_ k (.inr e); omega))
        clear ho8 hg8
        have hln : ([p] ++ [((0 : Int), (5 : Int))]).length = 1 + 1 := by simp
        have hcl := implWagonsValid A8 c8 ([p] ++ [((0 : Int), (5 : Int))]) w8 HO8.out.rd (by simp; try omega)
        rw [wagonsOk_snoc [p] _ rfl, hln] at hcl
        have HCL := Lib.hid hcl
        clear hcl
        refine HCL.out.mono ?_
        rintro e w9 ⟨rfl, hb9⟩
        have HB9 := Lib.hid (bthen HB8.out hb9)
        clear hb9
        go_wp2_with fail
        refine (implWagonsValid none 0 [] w9 Rd.nil_ (by simp)).mono ?_
        rintro e w10 ⟨he, hb10⟩
        rw [wagonsOk_nil] at he
        subst he
        have HB10 := Lib.hid (bthen HB9.out hb10)
        clear hb10
        go_wp2_with fail
        refine (alive_any w10).mono ?_
        rintro e w' ⟨rfl, rfl⟩
        go_wp2
        go_ret
        first | exact ⟨rfl, HB10.out⟩ | exact ⟨by simp; omega, HB10.out⟩
    · generalize hl : p :: q :: t = l at *
      have h2 : 2 ≤ l.length := by rw [← hl]; simp
      clear hl
      have e0 : ((l.length : Int) == 0) = false := by simp; intro h; rw [h] at h2; simp at h2
      have hl2 : (l.drop 1).length = l.length - 1 := by simp
      have Hd := Lib.hid (wagonsOk_drop Hr.out (by omega))
      have hcap := HO3.out.cap
      obtain ⟨bb, o, rfl, hbl, _⟩ := HO3.out.rd (by omega)
      have hS : ∀ w d, Rd encP w (some ⟨bb, o, none⟩) l → Calls Try.prog 16 #[.slice (some ⟨bb, o + 2, none⟩) (l.length - 1) d] w fun e w' => e = .returned (.bool true) ∧ Below w.heap.size w w' := fun w d h => by
        have := implWagonsValid _ d _ w (h.drop 1 (by omega)) (by omega); rw [Hd.out, hl2] at this; exact this
      have HS := Lib.hid hS
      clear hS
      go_wp2_with fail
      refine (HS.out w3 _ HO3.out.rd).mono ?_
      rintro e w4 ⟨he, hb4⟩
      subst he
      have HB4 := Lib.hid (bthen HB3.out hb4)
      have HO4 := Lib.hid (HO3.out.below hb4)
      have hs4 := HB4.out.size
      clear hb4
      have HN := Lib.hid (Own.none_made (E := 32) (e := encP) w4)
      have HR := Lib.hid (HO4.out.rd.alloc (.cells #[] 32))
      go_wp2_with (first | (at_builtin; refine app_Wagon rfl (.tmp 29) (.tmp 30) rfl w4.heap.size _ 0 0 [] rfl HN.out (some ⟨bb, o, none⟩) l.length c1 l rfl HR.out rfl (by simp; try omega) (by simp) ?_; intro A7 c7 w7 ho7 hg7; simp only [Nat.zero_add, List.nil_append] at ho7; have HO7 := Lib.hid ho7; have hs7 : w4.heap.size + 1 ≤ w7.heap.size := (by have := hg7.size; simpa using this); have HB7 := Lib.hid ((HB4.out.alloc HB4.out.size (.cells #[] 32)).grown hg7 (by simp; omega) (fun k e => by simp [blk] at e; omega)); have HL := Lib.hid (Own.lit (E := 32) (e := encP) w7 #[vi 0, vi 5] [((0 : Int), (5 : Int))] rfl (by simp [maxLen])); clear ho7 hg7; skip) | (at_builtin; refine app_Wagon rfl (.tmp 31) (.tmp 33) rfl w4.heap.size A7 l.length c7 l rfl (HO7.out.alloc _) (some ⟨w7.heap.size, 0, none⟩) 1 1 [((0 : Int), (5 : Int))] rfl HL.out.rd rfl (by simp; try omega) (by simp; omega) ?_; intro A8 c8 w8 ho8 hg8; skip))
      have HO8 := Lib.hid ho8
      have hs8 := hg8.size
      have HB8 := Lib.hid ((HB7.out.alloc HB7.out.size (.cells #[vi 0, vi 5] 32)).grown hg8 (by simp; omega) (fun k e => by have := HO7.out.in_ k (.inr e); omega))
      clear ho8 hg8
      have hln : (l ++ [((0 : Int), (5 : Int))]).length = l.length + 1 := by simp
      have hcl := implWagonsValid A8 c8 (l ++ [((0 : Int), (5 : Int))]) w8 HO8.out.rd (by simp; try omega)
      rw [wagonsOk_snoc l _ rfl, hln] at hcl
      have HCL := Lib.hid hcl
      clear hcl
      refine HCL.out.mono ?_
      rintro e w9 ⟨rfl, hb9⟩
      have HB9 := Lib.hid (bthen HB8.out hb9)
      clear hb9
      go_wp2_with fail
      refine (implWagonsValid none 0 [] w9 Rd.nil_ (by simp)).mono ?_
      rintro e w10 ⟨he, hb10⟩
      rw [wagonsOk_nil] at he
      subst he
      have HB10 := Lib.hid (bthen HB9.out hb10)
      clear hb10
      go_wp2_with fail
      refine (alive_any w10).mono ?_
      rintro e w' ⟨rfl, rfl⟩
      go_wp2
      go_ret
      first | exact ⟨rfl, HB10.out⟩ | exact ⟨by simp; omega, HB10.out⟩
end Go.Proofs.Ytdhpjajhkeanjaa
