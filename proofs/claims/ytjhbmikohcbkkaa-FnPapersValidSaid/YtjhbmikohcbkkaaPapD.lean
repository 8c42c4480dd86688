/-
  Contracts: what the reference does to papers, told loosely.
-/
import Derived.Test.YtjhbmikohcbkkaaPapA
import Derived.Test.YtjhbmikohcbkkaaPapL
import Derived.Test.YtjhbmikohcbkkaaStepE
namespace Go.Proofs.Ytjhbmikohcbkkaa
open Go.RowKit
set_option linter.unusedVariables false
set_option maxRecDepth 100000

theorem RdI.dropP {w : World} {b o : Nat} {l : List Int} (h : RdI w (some ⟨b, o, none⟩) l) (n : Nat) : RdI w (some ⟨b, o + n, none⟩) (l.drop n) := fun hp => by
  simp at hp
  obtain ⟨b', o', e1, hb, hc⟩ := h (by omega)
  injection e1 with e1
  injection e1 with e2 e3
  subst e2 e3
  refine ⟨b, o + n, rfl, hb, fun k hk => ?_⟩
  have := hc (n + k) (by simp at hk; omega)
  rw [nth_drop, ← this]
  congr 2
  omega
theorem OwnI.nocap {w : World} {base n c : Nat} {l : List Int} (h : OwnI w base none n c l) : n = 0 ∧ c = 0 ∧ l = [] := by
  have hl := h.len
  rcases h.form with ⟨_, e⟩ | ⟨g, e, _, _⟩
  · subst e
    simp at hl
    refine ⟨hl.symm, ?_, rfl⟩
    have := h
    unfold OwnI at this
    simp only [World.ownsRow] at this
    simp_all
  · cases e

set_option maxHeartbeats 4000000 in
theorem l4Sorted_any (B : Option Addr) (base c : Nat) (l : List Int) (x : Int) (w : World) (h : OwnI w base B l.length c l) (hl : l.length ≤ 1000) :
    Calls Try.prog 74 #[.slice B l.length c, vi x] w fun e w' => ∃ A' c' l', e = .returned (.slice A' (l.length + 1) c') ∧ OwnI w' w.heap.size A' (l.length + 1) c' l' ∧ Below w.heap.size w w' := by
  have HO := Lib.hid h
  have hcap := h.cap.1
  clear h
  go_enter Try.func74, Try.ntmps74
  go_wp2
  go_loopw [5, 6] (fun v i wr => ∃ (k : Nat) (A' : Option Addr) (c' : Nat) (l' : List Int), k ≤ l.length ∧ i = vi k ∧ v = .slice A' k c' ∧ OwnI wr w.heap.size A' k c' l' ∧ Below w.heap.size w wr) (fun _ i _ => l.length - (intOf i).toNat)
  case atStart => exact ⟨0, some ⟨w.heap.size, 0, none⟩, 0, [], Nat.zero_le _, rfl, rfl, OwnI.none_made w, (Below.refl _ _).alloc (Nat.le_refl _) _⟩
  case round =>
    obtain ⟨k, A', c', l', hk, rfl, rfl, ho, hb⟩ := hrel
    have HN := Lib.hid ho
    have HI := Lib.hid ho.in_
    have HB := Lib.hid hb
    have hsz := hb.size
    have HW := Lib.hid (HO.out.below hb)
    clear ho hb
    by_cases hgo : k < l.length ∧ nth l k < x
    · obtain ⟨hlt, hless⟩ := hgo
      rcases HW.out.form with ⟨_, e0⟩ | ⟨g, rfl, hg1, hg2⟩
      · rw [e0] at hlt; simp at hlt
      have hck := HW.out.cell k hlt
      go_wp2_with (at_builtin; refine app_int rfl (.tmp 20) (.tmp 25) rfl w.heap.size A' k c' l' rfl (HN.out.alloc _) (some ⟨wr.heap.size, 0, none⟩) 1 1 [_] rfl (RdI.one _ _) rfl (by omega) (by simp; omega) ?_; intro A7 c7 w7 ho7 hg7; have HO7 := Lib.hid ho7; have HB7 := Lib.hid ((HB.out.alloc hsz (.cells #[vi (nth l k)] 3)).grown hg7 (by simp; omega) (fun q hq => (HI.out q (.inr hq)).1)); clear ho7 hg7)
      go_roundw
      case rel => exact ⟨k + 1, A7, c7, _, by omega, by go_num, rfl, HO7.out, HB7.out⟩
      case measure => simp [intOf]; omega
    · have hcell : ∀ g, B = some ⟨g, 0, none⟩ → k < l.length → wr.cell? ⟨g, k, none⟩ = some (vi (nth l k)) := fun g e hlt => by subst e; exact HW.out.cell k hlt
      have hge : k < l.length → x ≤ nth l k := fun hlt => by
        rcases Int.lt_or_le (nth l k) x with h1 | h1
        · exact absurd ⟨hlt, h1⟩ hgo
        · exact h1
      clear hgo
      have HNA := Lib.hid (show OwnI (wr.alloc (.cells #[vi x] 3)).drew w.heap.size A' k c' l' from HN.out.alloc _)
      have HMA := Lib.hid (show RdI (wr.alloc (.cells #[vi x] 3)).drew (some ⟨wr.heap.size, 0, none⟩) [x] from RdI.one wr x)
      have HBA := Lib.hid (show Below w.heap.size w (wr.alloc (.cells #[vi x] 3)).drew from (HB.out.alloc hsz _).drew)
      rcases Nat.lt_or_ge k l.length with hlt | hrk
      · rcases HW.out.form with ⟨_, e0⟩ | ⟨g, rfl, hg1, hg2⟩
        · rw [e0] at hlt; simp at hlt
        have hcx := hcell g rfl hlt
        have hgx := hge hlt
        have hne : ¬ (c = k) := by omega
        have HBl : Hid (∀ b o, (some ⟨g, k, none⟩ : Option Addr) = some ⟨b, o, none⟩ → b < w.heap.size) := Lib.hid (fun b o e => by injection e with e; injection e with e; have := HO.out.in_ g (.inl rfl); omega)
        clear hcell hge
        have HSR := Lib.hid (show RdI wr (some ⟨g, k, none⟩) (l.drop k) from by have := RdI.dropP HW.out.rd k; simpa using this)
        go_wp2
        go_region_law (first
          | (refine step_app_int2 rfl (.tmp 29) (.tmp 31) rfl w.heap.size A' k c' l' (by simp [Act.eval]) HNA.out (some ⟨wr.heap.size, 0, none⟩) 1 1 [x] (by simp [Act.eval]) HMA.out rfl (k + 1) (l' ++ [x]) rfl rfl (by omega) (by simp; omega) ?_
             intro A7 c7 w7 ho7 hg7
             have HO7 := Lib.hid ho7
             have HB7 := Lib.hid (HBA.out.grown hg7 (by simp; omega) (fun q hq => (HI.out q (.inr hq)).1))
             have HS7 := Lib.hid (show RdI w7 (some ⟨g, k, none⟩) (l.drop k) from RdI.far (w := (wr.alloc (.cells #[vi x] 3)).drew) (HSR.out.alloc _) hg7 (fun b o e e2 => by
               have := (HI.out b (.inr e2.symm)).1
               have := HBl.out b o e; omega))
             have hs7 := HB7.out.size
             clear ho7 hg7)
          | (refine step_app_int2 rfl (.tmp 32) (.tmp 35) rfl w.heap.size A7 (k + 1) c7 (l' ++ [x]) (by simp [Act.eval]) HO7.out (some ⟨g, k, none⟩) (l.length - k) (c - k) (l.drop k) (by simp [Act.eval]) HS7.out (by simp) (l.length + 1) (l' ++ [x] ++ l.drop k) (by omega) rfl (by omega) hs7 ?_
             intro A8 c8 w8 ho8 hg8
             have HO8 := Lib.hid ho8
             have HB8 := Lib.hid (HB7.out.grown hg8 hs7 (fun q hq => (HO7.out.in_ q (.inr hq)).1))
             clear ho8 hg8))
        all_goals
          go_wp2
          go_ret
          exact ⟨A8, c8, _, rfl, HO8.out, HB8.out⟩
      · obtain rfl : k = l.length := by omega
        clear hcell hge
        rcases Option.eq_none_or_eq_some B with rfl | ⟨bq, hbq⟩
        · obtain ⟨e1, rfl, e2⟩ := HW.out.nocap
          subst e2
          have HBl : Hid (∀ b o, (none : Option Addr) = some ⟨b, o, none⟩ → b < w.heap.size) := Lib.hid (fun b o e => by cases e)
          simp only [List.length_nil] at *
          have HSR := Lib.hid (show RdI wr (none : Option Addr) (([] : List Int)) from RdI.nil_)
          go_wp2
          go_region_law (first
            | (refine step_app_int2 rfl (.tmp 29) (.tmp 31) rfl w.heap.size A' 0 c' l' (by simp [Act.eval]) HNA.out (some ⟨wr.heap.size, 0, none⟩) 1 1 [x] (by simp [Act.eval]) HMA.out rfl (0 + 1) (l' ++ [x]) rfl rfl (by omega) (by simp; omega) ?_
               intro A7 c7 w7 ho7 hg7
               have HO7 := Lib.hid ho7
               have HB7 := Lib.hid (HBA.out.grown hg7 (by simp; omega) (fun q hq => (HI.out q (.inr hq)).1))
               have HS7 := Lib.hid (show RdI w7 (none : Option Addr) (([] : List Int)) from RdI.far (w := (wr.alloc (.cells #[vi x] 3)).drew) (HSR.out.alloc _) hg7 (fun b o e e2 => by
                 have := (HI.out b (.inr e2.symm)).1
                 have := HBl.out b o e; omega))
               have hs7 := HB7.out.size
               clear ho7 hg7)
            | (refine step_app_int2 rfl (.tmp 32) (.tmp 35) rfl w.heap.size A7 (0 + 1) c7 (l' ++ [x]) (by simp [Act.eval]) HO7.out (none : Option Addr) (0) (0) (([] : List Int)) (by simp [Act.eval]) HS7.out rfl (0 + 1) (l' ++ [x] ++ ([] : List Int)) rfl rfl (by omega) hs7 ?_
               intro A8 c8 w8 ho8 hg8
               have HO8 := Lib.hid ho8
               have HB8 := Lib.hid (HB7.out.grown hg8 hs7 (fun q hq => (HO7.out.in_ q (.inr hq)).1))
               clear ho8 hg8))
          all_goals
            go_wp2
            go_ret
            exact ⟨A8, c8, _, rfl, HO8.out, HB8.out⟩
        · rcases HW.out.form with ⟨e0, _⟩ | ⟨g, hB, hg1, hg2⟩
          · rw [e0] at hbq; cases hbq
          subst hB
          have hgw := HO.out.in_ g (.inl rfl)
          clear hbq
          by_cases hcq : c = l.length
          · subst hcq
            have HBl : Hid (∀ b o, (some ⟨g, 0, none⟩ : Option Addr) = some ⟨b, o, none⟩ → b < w.heap.size) := Lib.hid (fun b o e => by injection e with e; injection e with e; omega)
            have HSR := Lib.hid (show RdI wr (some ⟨g, 0, none⟩) (l.drop l.length) from by rw [List.drop_eq_nil_of_le (by omega)]; exact RdI.nil_)
            go_wp2
            go_region_law (first
              | (refine step_app_int2 rfl (.tmp 29) (.tmp 31) rfl w.heap.size A' l.length c' l' (by simp [Act.eval]) HNA.out (some ⟨wr.heap.size, 0, none⟩) 1 1 [x] (by simp [Act.eval]) HMA.out rfl (l.length + 1) (l' ++ [x]) rfl rfl (by omega) (by simp; omega) ?_
                 intro A7 c7 w7 ho7 hg7
                 have HO7 := Lib.hid ho7
                 have HB7 := Lib.hid (HBA.out.grown hg7 (by simp; omega) (fun q hq => (HI.out q (.inr hq)).1))
                 have HS7 := Lib.hid (show RdI w7 (some ⟨g, 0, none⟩) (l.drop l.length) from RdI.far (w := (wr.alloc (.cells #[vi x] 3)).drew) (HSR.out.alloc _) hg7 (fun b o e e2 => by
                   have := (HI.out b (.inr e2.symm)).1
                   have := HBl.out b o e; omega))
                 have hs7 := HB7.out.size
                 clear ho7 hg7)
              | (refine step_app_int2 rfl (.tmp 32) (.tmp 35) rfl w.heap.size A7 (l.length + 1) c7 (l' ++ [x]) (by simp [Act.eval]) HO7.out (some ⟨g, 0, none⟩) (0) (0) (l.drop l.length) (by simp [Act.eval]) HS7.out (by simp) (l.length + 1) (l' ++ [x] ++ l.drop l.length) (by omega) rfl (by omega) hs7 ?_
                 intro A8 c8 w8 ho8 hg8
                 have HO8 := Lib.hid ho8
                 have HB8 := Lib.hid (HB7.out.grown hg8 hs7 (fun q hq => (HO7.out.in_ q (.inr hq)).1))
                 clear ho8 hg8))
            all_goals
              go_wp2
              go_ret
              exact ⟨A8, c8, _, rfl, HO8.out, HB8.out⟩
          · have HBl : Hid (∀ b o, (some ⟨g, l.length, none⟩ : Option Addr) = some ⟨b, o, none⟩ → b < w.heap.size) := Lib.hid (fun b o e => by injection e with e; injection e with e; omega)
            have HSR := Lib.hid (show RdI wr (some ⟨g, l.length, none⟩) (l.drop l.length) from by rw [List.drop_eq_nil_of_le (by omega)]; exact RdI.nil_)
            go_wp2
            go_region_law (first
              | (refine step_app_int2 rfl (.tmp 29) (.tmp 31) rfl w.heap.size A' l.length c' l' (by simp [Act.eval]) HNA.out (some ⟨wr.heap.size, 0, none⟩) 1 1 [x] (by simp [Act.eval]) HMA.out rfl (l.length + 1) (l' ++ [x]) rfl rfl (by omega) (by simp; omega) ?_
                 intro A7 c7 w7 ho7 hg7
                 have HO7 := Lib.hid ho7
                 have HB7 := Lib.hid (HBA.out.grown hg7 (by simp; omega) (fun q hq => (HI.out q (.inr hq)).1))
                 have HS7 := Lib.hid (show RdI w7 (some ⟨g, l.length, none⟩) (l.drop l.length) from RdI.far (w := (wr.alloc (.cells #[vi x] 3)).drew) (HSR.out.alloc _) hg7 (fun b o e e2 => by
                   have := (HI.out b (.inr e2.symm)).1
                   have := HBl.out b o e; omega))
                 have hs7 := HB7.out.size
                 clear ho7 hg7)
              | (refine step_app_int2 rfl (.tmp 32) (.tmp 35) rfl w.heap.size A7 (l.length + 1) c7 (l' ++ [x]) (by simp [Act.eval]) HO7.out (some ⟨g, l.length, none⟩) (0) (c - l.length) (l.drop l.length) (by simp [Act.eval]) HS7.out (by simp) (l.length + 1) (l' ++ [x] ++ l.drop l.length) (by omega) rfl (by omega) hs7 ?_
                 intro A8 c8 w8 ho8 hg8
                 have HO8 := Lib.hid ho8
                 have HB8 := Lib.hid (HB7.out.grown hg8 hs7 (fun q hq => (HO7.out.in_ q (.inr hq)).1))
                 clear ho8 hg8))
            all_goals
              go_wp2
              go_ret
              exact ⟨A8, c8, _, rfl, HO8.out, HB8.out⟩
end Go.Proofs.Ytjhbmikohcbkkaa
