/-
  Contracts: the reference books.
-/
import Derived.Test.YtnniogdnlcokmaaBkG
namespace Go.Proofs.Ytnniogdnlcokmaa
open Go.RowKit
set_option linter.unusedVariables false
set_option maxRecDepth 100000

set_option maxHeartbeats 4000000 in
theorem specBook (A : Option Addr) (c : Nat) (l : List (Int × Int)) (room t h : Int) (w : World) (hr : Rd encP w A l) (hl : l.length ≤ 10000000) :
    Calls Try.prog 20 #[.slice A l.length c, vi room, vi t, vi h] w (New2Booking w (bookL l room t h) (.bool (bookB l room t h))) := by
  have HR := Lib.hid hr
  clear hr
  go_enter Try.func20, Try.ntmps20
  go_wp2_with fail
  refine (specBookingsValid A c l room w HR.out (by omega)).mono ?_
  rintro e w1 ⟨rfl, hb⟩
  have HB1 := Lib.hid hb
  have HR1 := Lib.hid (HR.out.below hb)
  have hs1 := hb.size
  clear hb
  cases hv : booksOk l room with
  | false =>
    have H1 : Hid (bookL l room t h = []) := Lib.hid (by simp [bookL, hv])
    have H2 : Hid (bookB l room t h = false) := Lib.hid (by simp [bookB, hv])
    go_wp2
    go_ret2
    exact ⟨some ⟨w1.heap.size, 0, none⟩, 0, by rw [H1.out, H2.out]; rfl, by rw [H1.out]; exact (Own.none_made w1).mono hs1, HB1.out.alloc hs1 _⟩
  | true =>
    have Hc : Hid (cancelL l room t = without l t) := Lib.hid (by simp [cancelL, hv])
    have hlw := length_without l t
    have HC := Lib.hid (specCancelAt A c l room t w1 HR1.out (by omega))
    rw [Hc.out] at HC
    obtain ⟨r, hrr⟩ : ∃ r, r = without l t := ⟨_, rfl⟩
    rw [← hrr] at HC hlw
    have HRR := Lib.hid hrr
    clear hrr Hc
    go_wp2_with fail
    refine HC.out.mono ?_
    rintro e w2 ⟨g, c2, rfl, ho2, hb2⟩
    have HB2 := Lib.hid (bthen HB1.out hb2)
    have HO2 := Lib.hid ho2
    have hcap := ho2.cap.1
    have hs2 := hb2.size
    clear ho2 hb2 HC HR1
    go_wp2
    go_loopw [12, 13] (fun v i wr => ∃ (k : Nat) (A' : Option Addr) (c' : Nat), k ≤ r.length ∧ i = vi k ∧ v = .slice A' k c' ∧ (∀ j, j < k → (nth r j).1 < t) ∧ Own encP 36 wr w2.heap.size A' k c' (r.take k) ∧ Below w2.heap.size w2 wr) (fun _ i _ => r.length - (intOf i).toNat)
    case atStart => exact ⟨0, some ⟨w2.heap.size, 0, none⟩, 0, Nat.zero_le _, rfl, rfl, fun j hj => absurd hj (by omega), Own.none_made w2, (Below.refl _ _).alloc (Nat.le_refl _) _⟩
    case round =>
      obtain ⟨k, A', c', hk, rfl, rfl, hall, ho, hb⟩ := hrel
      have HAL := Lib.hid hall
      have HO := Lib.hid ho
      have HI := Lib.hid ho.in_
      have HB := Lib.hid hb
      have HW := Lib.hid (bthen HB2.out hb)
      have HO2r := Lib.hid (HO2.out.below hb)
      have hsz := hb.size
      clear hall ho hb
      by_cases hgo : k < r.length ∧ (nth r k).1 < t
      · obtain ⟨hlt, hless⟩ := hgo
        obtain ⟨hc1, hc2⟩ := HO2r.out.cell2 k hlt
        have HS := Lib.hid (take_snoc r k hlt)
        have HL := Lib.hid (Own.lit (E := 36) (e := encP) wr #[vi (nth r k).1, vi (nth r k).2] [nth r k] rfl (by simp [maxLen]))
        go_wp2_with (at_builtin; refine app_Booking rfl (.tmp 43) (.tmp 48) rfl w2.heap.size A' k c' (r.take k) rfl (HO.out.alloc _) (some ⟨wr.heap.size, 0, none⟩) 1 1 [nth r k] rfl HL.out.rd rfl (by omega) (by simp; omega) ?_; intro A7 c7 w7 ho7 hg7; skip)
        have HO7 := Lib.hid ho7
        have HB7 := Lib.hid ((HB.out.alloc hsz (.cells #[vi (nth r k).1, vi (nth r k).2] 36)).grown hg7 (by simp; omega) (fun q hq => (HI.out q (.inr hq)).1))
        have HL7 := Lib.hid hless
        clear ho7 hg7 hless
        go_wp2
        go_roundw
        case rel => exact ⟨k + 1, A7, c7, by omega, by go_num, rfl, fun j hj => by
          rcases Nat.lt_succ_iff_lt_or_eq.1 hj with h1 | h1
          · exact HAL.out j h1
          · subst h1; exact HL7.out, by rw [HS.out]; exact HO7.out, HB7.out⟩
        case measure => simp [intOf]; omega
      · have hcut : CutAt r t k := ⟨hk, HAL.out, fun hlt hless => hgo ⟨hlt, hless⟩⟩
        have Hp : Hid (placeL l t h = r.take k ++ (t, h) :: r.drop k) := Lib.hid (by
          have e := HRR.out
          subst e
          exact placeL_at hcut)
        have Hlen : Hid ((placeL l t h).length = r.length + 1) := Lib.hid (by rw [Hp.out]; simp; omega)
        clear hcut
        have HNA := Lib.hid (show Own encP 36 (wr.alloc (.cells #[vi t, vi h] 36)).drew w2.heap.size A' k c' (r.take k) from HO.out.alloc _)
        have HMA := Lib.hid (show Rd encP (wr.alloc (.cells #[vi t, vi h] 36)).drew (some ⟨wr.heap.size, 0, none⟩) [(t, h)] from (Own.lit (E := 36) (e := encP) wr #[vi t, vi h] [(t, h)] rfl (by simp [maxLen])).rd)
        have HBA := Lib.hid (show Below w2.heap.size w2 (wr.alloc (.cells #[vi t, vi h] 36)).drew from (HB.out.alloc hsz _).drew)
        have hcell : k < r.length → wr.cell? ⟨g, k * 2, none⟩ = some (vi (nth r k).1) := fun hlt => (HO2r.out.cell2 k hlt).1
        have hge : k < r.length → t ≤ (nth r k).1 := fun hlt => by
          rcases Int.lt_or_le (nth r k).1 t with h1 | h1
          · exact absurd ⟨hlt, h1⟩ hgo
          · exact h1
        have hg2 := (HO2.out.in_ g (.inl rfl)).2
        clear hgo
        rcases Nat.lt_or_ge k r.length with hlt | hrk
        · have hcx := hcell hlt
          have hgx := hge hlt
          have hne : ¬ (c2 = k) := by omega
          have HSR := Lib.hid (show Rd encP wr (some ⟨g, k * 2, none⟩) (r.drop k) by have := HO2r.out.rd.drop k hlt; simpa [encP] using this)
          clear hcell hge
          go_wp2
          go_region_law (first
            | (refine step_app_Booking rfl (.tmp 52) (.tmp 56) rfl w2.heap.size A' k c' (r.take k) (by simp [Act.eval]) HNA.out (some ⟨wr.heap.size, 0, none⟩) 1 1 [(t, h)] (by simp [Act.eval]) HMA.out rfl (k + 1) (r.take k ++ [(t, h)]) rfl rfl (by omega) (by simp; omega) ?_
               intro A7 c7 w7 ho7 hg7
               have HO7 := Lib.hid ho7
               have HB7 := Lib.hid (HBA.out.grown hg7 (by simp; omega) (fun q hq => (HI.out q (.inr hq)).1))
               have HS7 := Lib.hid (show Rd encP w7 (some ⟨g, k * 2, none⟩) (r.drop k) from Rd.far (w := (wr.alloc (.cells #[vi t, vi h] 36)).drew) (HSR.out.alloc _) hg7 (fun b o e e2 => by
                 have := (HI.out b (.inr e2.symm)).1
                 injection e with e; injection e with e; omega))
               have hs7 := HB7.out.size
               clear ho7 hg7)
            | (refine step_app_Booking rfl (.tmp 57) (.tmp 60) rfl w2.heap.size A7 (k + 1) c7 (r.take k ++ [(t, h)]) (by simp [Act.eval]) HO7.out (some ⟨g, k * 2, none⟩) (r.length - k) (c2 - k) (r.drop k) (by simp [Act.eval]) HS7.out (by simp) (r.length + 1) (placeL l t h) (by omega) (by rw [Hp.out]; simp) (by omega) hs7 ?_
               intro A8 c8 w8 ho8 hg8
               have HO8 := Lib.hid ho8
               have HB8 := Lib.hid (bthen HB2.out (HB7.out.grown hg8 hs7 (fun q hq => (HO7.out.in_ q (.inr hq)).1)))
               clear ho8 hg8))
          all_goals
            have HV : Hid (Calls Try.prog 14 #[.slice A8 (r.length + 1) c8, vi room] w8 fun e w' => e = .returned (.bool (booksOk (placeL l t h) room)) ∧ Below w8.heap.size w8 w') := Lib.hid (by
              have := specBookingsValid A8 c8 (placeL l t h) room w8 HO8.out.rd (by rw [Hlen.out]; omega)
              rw [Hlen.out] at this
              exact this)
            go_wp2_with fail
            refine HV.out.mono ?_
            rintro e w9 ⟨rfl, hb9⟩
            have HO9 := Lib.hid ((HO8.out.below hb9).mono (b' := w.heap.size) (by omega))
            have HB9 := Lib.hid (bthen HB8.out hb9)
            have hs9 := HB9.out.size
            clear hb9 HV HO8 HB8
            cases hv2 : booksOk (placeL l t h) room with
            | false =>
              have H1 : Hid (bookL l room t h = l) := Lib.hid (by simp [bookL, hv, hv2])
              have H2 : Hid (bookB l room t h = false) := Lib.hid (by simp [bookB, hv, hv2])
              have HR9 := Lib.hid (HR.out.below HB9.out)
              go_wp2_with (at_builtin; refine app_Booking rfl (.tmp 66) (.tmp 67) rfl w9.heap.size (some ⟨w9.heap.size, 0, none⟩) 0 0 [] rfl (Own.none_made w9) A l.length c l rfl (HR9.out.alloc _) rfl (by omega) (by simp) ?_; intro AA cc ww how hgw; skip)
              simp only [Nat.zero_add, List.nil_append] at how
              have HOX := Lib.hid (how.mono (b' := w.heap.size) hs9)
              have HBX := Lib.hid ((HB9.out.alloc hs9 (.cells #[] 36)).grown hgw (by simp; omega) (fun q hq => by simp [blk] at hq; omega))
              clear how hgw
              go_wp2
              go_ret2
              exact ⟨AA, cc, by rw [H1.out, H2.out]; simp, by rw [H1.out]; exact HOX.out, HBX.out⟩
            | true =>
              have H1 : Hid (bookL l room t h = placeL l t h) := Lib.hid (by simp [bookL, hv, hv2])
              have H2 : Hid (bookB l room t h = true) := Lib.hid (by simp [bookB, hv, hv2])
              go_wp2
              go_ret2
              exact ⟨A8, c8, by rw [H1.out, H2.out, Hlen.out]; rfl, by rw [H1.out, Hlen.out]; exact HO9.out, HB9.out⟩
        · obtain rfl : k = r.length := by omega
          clear hcell hge
          by_cases hcq : c2 = r.length
          · subst hcq
            have HSR := Lib.hid (show Rd encP wr (some ⟨g, 0, none⟩) (r.drop r.length) from by rw [List.drop_eq_nil_of_le (by omega)]; exact Rd.nil_)
            go_wp2
            go_region_law (first
              | (refine step_app_Booking rfl (.tmp 52) (.tmp 56) rfl w2.heap.size A' r.length c' (r.take r.length) (by simp [Act.eval]) HNA.out (some ⟨wr.heap.size, 0, none⟩) 1 1 [(t, h)] (by simp [Act.eval]) HMA.out rfl (r.length + 1) (r.take r.length ++ [(t, h)]) rfl rfl (by omega) (by simp; omega) ?_
                 intro A7 c7 w7 ho7 hg7
                 have HO7 := Lib.hid ho7
                 have HB7 := Lib.hid (HBA.out.grown hg7 (by simp; omega) (fun q hq => (HI.out q (.inr hq)).1))
                 have HS7 := Lib.hid (show Rd encP w7 (some ⟨g, 0, none⟩) (r.drop r.length) from Rd.far (w := (wr.alloc (.cells #[vi t, vi h] 36)).drew) (HSR.out.alloc _) hg7 (fun b o e e2 => by
                   have := (HI.out b (.inr e2.symm)).1
                   injection e with e; injection e with e; omega))
                 have hs7 := HB7.out.size
                 clear ho7 hg7)
              | (refine step_app_Booking rfl (.tmp 57) (.tmp 60) rfl w2.heap.size A7 (r.length + 1) c7 (r.take r.length ++ [(t, h)]) (by simp [Act.eval]) HO7.out (some ⟨g, 0, none⟩) 0 0 (r.drop r.length) (by simp [Act.eval]) HS7.out (by simp) (r.length + 1) (placeL l t h) (by omega) (by rw [Hp.out]; simp) (by omega) hs7 ?_
                 intro A8 c8 w8 ho8 hg8
                 have HO8 := Lib.hid ho8
                 have HB8 := Lib.hid (bthen HB2.out (HB7.out.grown hg8 hs7 (fun q hq => (HO7.out.in_ q (.inr hq)).1)))
                 clear ho8 hg8))
            all_goals
              have HV : Hid (Calls Try.prog 14 #[.slice A8 (r.length + 1) c8, vi room] w8 fun e w' => e = .returned (.bool (booksOk (placeL l t h) room)) ∧ Below w8.heap.size w8 w') := Lib.hid (by
                have := specBookingsValid A8 c8 (placeL l t h) room w8 HO8.out.rd (by rw [Hlen.out]; omega)
                rw [Hlen.out] at this
                exact this)
              go_wp2_with fail
              refine HV.out.mono ?_
              rintro e w9 ⟨rfl, hb9⟩
              have HO9 := Lib.hid ((HO8.out.below hb9).mono (b' := w.heap.size) (by omega))
              have HB9 := Lib.hid (bthen HB8.out hb9)
              have hs9 := HB9.out.size
              clear hb9 HV HO8 HB8
              cases hv2 : booksOk (placeL l t h) room with
              | false =>
                have H1 : Hid (bookL l room t h = l) := Lib.hid (by simp [bookL, hv, hv2])
                have H2 : Hid (bookB l room t h = false) := Lib.hid (by simp [bookB, hv, hv2])
                have HR9 := Lib.hid (HR.out.below HB9.out)
                go_wp2_with (at_builtin; refine app_Booking rfl (.tmp 66) (.tmp 67) rfl w9.heap.size (some ⟨w9.heap.size, 0, none⟩) 0 0 [] rfl (Own.none_made w9) A l.length c l rfl (HR9.out.alloc _) rfl (by omega) (by simp) ?_; intro AA cc ww how hgw; skip)
                simp only [Nat.zero_add, List.nil_append] at how
                have HOX := Lib.hid (how.mono (b' := w.heap.size) hs9)
                have HBX := Lib.hid ((HB9.out.alloc hs9 (.cells #[] 36)).grown hgw (by simp; omega) (fun q hq => by simp [blk] at hq; omega))
                clear how hgw
                go_wp2
                go_ret2
                exact ⟨AA, cc, by rw [H1.out, H2.out]; simp, by rw [H1.out]; exact HOX.out, HBX.out⟩
              | true =>
                have H1 : Hid (bookL l room t h = placeL l t h) := Lib.hid (by simp [bookL, hv, hv2])
                have H2 : Hid (bookB l room t h = true) := Lib.hid (by simp [bookB, hv, hv2])
                go_wp2
                go_ret2
                exact ⟨A8, c8, by rw [H1.out, H2.out, Hlen.out]; rfl, by rw [H1.out, Hlen.out]; exact HO9.out, HB9.out⟩
          · have HSR := Lib.hid (show Rd encP wr (some ⟨g, r.length * 2, none⟩) (r.drop r.length) from by rw [List.drop_eq_nil_of_le (by omega)]; exact Rd.nil_)
            go_wp2
            go_region_law (first
              | (refine step_app_Booking rfl (.tmp 52) (.tmp 56) rfl w2.heap.size A' r.length c' (r.take r.length) (by simp [Act.eval]) HNA.out (some ⟨wr.heap.size, 0, none⟩) 1 1 [(t, h)] (by simp [Act.eval]) HMA.out rfl (r.length + 1) (r.take r.length ++ [(t, h)]) rfl rfl (by omega) (by simp; omega) ?_
                 intro A7 c7 w7 ho7 hg7
                 have HO7 := Lib.hid ho7
                 have HB7 := Lib.hid (HBA.out.grown hg7 (by simp; omega) (fun q hq => (HI.out q (.inr hq)).1))
                 have HS7 := Lib.hid (show Rd encP w7 (some ⟨g, r.length * 2, none⟩) (r.drop r.length) from Rd.far (w := (wr.alloc (.cells #[vi t, vi h] 36)).drew) (HSR.out.alloc _) hg7 (fun b o e e2 => by
                   have := (HI.out b (.inr e2.symm)).1
                   injection e with e; injection e with e; omega))
                 have hs7 := HB7.out.size
                 clear ho7 hg7)
              | (refine step_app_Booking rfl (.tmp 57) (.tmp 60) rfl w2.heap.size A7 (r.length + 1) c7 (r.take r.length ++ [(t, h)]) (by simp [Act.eval]) HO7.out (some ⟨g, r.length * 2, none⟩) 0 (c2 - r.length) (r.drop r.length) (by simp [Act.eval]) HS7.out (by simp) (r.length + 1) (placeL l t h) (by omega) (by rw [Hp.out]; simp) (by omega) hs7 ?_
                 intro A8 c8 w8 ho8 hg8
                 have HO8 := Lib.hid ho8
                 have HB8 := Lib.hid (bthen HB2.out (HB7.out.grown hg8 hs7 (fun q hq => (HO7.out.in_ q (.inr hq)).1)))
                 clear ho8 hg8))
            all_goals
              have HV : Hid (Calls Try.prog 14 #[.slice A8 (r.length + 1) c8, vi room] w8 fun e w' => e = .returned (.bool (booksOk (placeL l t h) room)) ∧ Below w8.heap.size w8 w') := Lib.hid (by
                have := specBookingsValid A8 c8 (placeL l t h) room w8 HO8.out.rd (by rw [Hlen.out]; omega)
                rw [Hlen.out] at this
                exact this)
              go_wp2_with fail
              refine HV.out.mono ?_
              rintro e w9 ⟨rfl, hb9⟩
              have HO9 := Lib.hid ((HO8.out.below hb9).mono (b' := w.heap.size) (by omega))
              have HB9 := Lib.hid (bthen HB8.out hb9)
              have hs9 := HB9.out.size
              clear hb9 HV HO8 HB8
              cases hv2 : booksOk (placeL l t h) room with
              | false =>
                have H1 : Hid (bookL l room t h = l) := Lib.hid (by simp [bookL, hv, hv2])
                have H2 : Hid (bookB l room t h = false) := Lib.hid (by simp [bookB, hv, hv2])
                have HR9 := Lib.hid (HR.out.below HB9.out)
                go_wp2_with (at_builtin; refine app_Booking rfl (.tmp 66) (.tmp 67) rfl w9.heap.size (some ⟨w9.heap.size, 0, none⟩) 0 0 [] rfl (Own.none_made w9) A l.length c l rfl (HR9.out.alloc _) rfl (by omega) (by simp) ?_; intro AA cc ww how hgw; skip)
                simp only [Nat.zero_add, List.nil_append] at how
                have HOX := Lib.hid (how.mono (b' := w.heap.size) hs9)
                have HBX := Lib.hid ((HB9.out.alloc hs9 (.cells #[] 36)).grown hgw (by simp; omega) (fun q hq => by simp [blk] at hq; omega))
                clear how hgw
                go_wp2
                go_ret2
                exact ⟨AA, cc, by rw [H1.out, H2.out]; simp, by rw [H1.out]; exact HOX.out, HBX.out⟩
              | true =>
                have H1 : Hid (bookL l room t h = placeL l t h) := Lib.hid (by simp [bookL, hv, hv2])
                have H2 : Hid (bookB l room t h = true) := Lib.hid (by simp [bookB, hv, hv2])
                go_wp2
                go_ret2
                exact ⟨A8, c8, by rw [H1.out, H2.out, Hlen.out]; rfl, by rw [H1.out, Hlen.out]; exact HO9.out, HB9.out⟩
end Go.Proofs.Ytnniogdnlcokmaa
