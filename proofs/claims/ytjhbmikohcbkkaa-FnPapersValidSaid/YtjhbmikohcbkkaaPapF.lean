/-
  Contracts: a hold is set by the reference.
-/
import Derived.Test.YtjhbmikohcbkkaaPapE
namespace Go.Proofs.Ytjhbmikohcbkkaa
open Go.RowKit
set_option linter.unusedVariables false
set_option maxRecDepth 100000

/-- What the loop keeps: the new papers' box g7, its lists. -/
structure SetW (w w0 : World) (g7 m d7 : Nat) (B7 : Option Addr) (wr : World) (A' : Option Addr) (n c' : Nat) : Prop where
  box : wr.heap[g7]? = some (.cells #[.slice A' n c', .slice B7 m d7] 37 (0, 0))
  own : ∃ hl', Own encP 51 wr (g7 + 1) A' n c' hl'
  left : ∃ ll', OwnI wr w.heap.size B7 m d7 ll' ∧ ∀ g, B7 = some ⟨g, 0, none⟩ → g < g7 ∧ w.heap.size + 2 ≤ g
  bel : Below w.heap.size w wr
  low : w.heap.size + 2 ≤ g7
  keep : ∀ b, b < w.heap.size + 2 → wr.heap[b]? = w0.heap[b]?
theorem SetW.cells {w w0 wr : World} {g7 m d7 n c' : Nat} {B7 A' : Option Addr} (h : SetW w w0 g7 m d7 B7 wr A' n c') :
    wr.cell? ⟨g7, 0, none⟩ = some (.slice A' n c') ∧ wr.cell? ⟨g7, 1, none⟩ = some (.slice B7 m d7) ∧ wr.frozen? ⟨g7, 0, none⟩ = false := by
  have h1 := h.box
  exact ⟨by rw [cell_of_row _ _ 0 _ _ _ h1]; rfl, by rw [cell_of_row _ _ 1 _ _ _ h1]; rfl, frozen_of_row _ _ 0 _ _ h1⟩
/-- One hold is appended behind a new literal, and the box's field is stored. -/
theorem SetW.app {w w0 wr w5 w7 : World} {g7 m d7 n c' N c7 : Nat} {B7 A' A7 : Option Addr} {hl7 : List (Int × Int)} (h : SetW w w0 g7 m d7 B7 wr A' n c') (hb : Below wr.heap.size wr w5) (hg : w5.grownBy w7 (blk A')) (ho : Own encP 51 w7 (g7 + 1) A7 N c7 hl7) :
    SetW w w0 g7 m d7 B7 (w7.setCell ⟨g7, 0, none⟩ (.slice A7 N c7)) A7 N c7 ∧ w7.cell? ⟨g7, 0, none⟩ = some (.slice A' n c') ∧ w7.frozen? ⟨g7, 0, none⟩ = false ∧ ∀ b, b < w.heap.size + 2 → w7.heap[b]? = w0.heap[b]? := by
  obtain ⟨hl', ho'⟩ := h.own
  have hA : ∀ q, some q = blk A' → g7 + 1 ≤ q := fun q e => (ho'.in_ q (.inr e.symm)).1
  have hlt := (Array.getElem?_eq_some_iff.1 h.box).1
  have hkeep : ∀ b, b < wr.heap.size → b < g7 + 1 → w7.heap[b]? = wr.heap[b]? := fun b hb1 hb2 => (hg.block b (Nat.lt_of_lt_of_le hb1 hb.size) (fun e => by have := hA b e; omega)).trans (hb.block b hb1)
  have hbx := (hkeep g7 hlt (by omega)).trans h.box
  have hs := h.low
  have hgs := grown_set w7 g7 0 (.slice A7 N c7)
  obtain ⟨ll', hll, hlb⟩ := h.left
  refine ⟨⟨?_, ⟨hl7, ho.far hgs (fun q e e2 => by injection e2 with e2; have := ho.in_ q (.inl e); omega)⟩, ⟨ll', ?_, hlb⟩, ?_, h.low, ?_⟩, by rw [cell_of_row _ _ 0 _ _ _ hbx]; rfl, frozen_of_row _ _ 0 _ _ hbx, fun b hb2 => (hkeep b (by omega) (by omega)).trans (h.keep b hb2)⟩
  · rw [heap_setCell_same w7 g7 0 _ _ _ hbx]; rfl
  · refine OwnI.far (w := w7) ?_ hgs (fun q e e2 => by injection e2 with e2; have := (hlb q e).1; omega)
    exact hll.kept (Nat.le_trans hb.size hg.size) (fun q h1 h2 e => hkeep q h2 (by have := (hlb q e).1; omega))
  · exact (((h.bel.trans (hb.mono h.bel.size)).grown hg (Nat.le_trans h.bel.size hb.size) (fun q e => by have := hA q e.symm; omega)).setCell (p := ⟨g7, 0, none⟩) (by show w.heap.size ≤ g7; omega) _)
  · intro b hb2
    rw [heap_setCell_other w7 _ _ _ (by simp only; omega)]
    exact (hkeep b (by omega) (by omega)).trans (h.keep b hb2)

theorem SetW.done {w w0 wr : World} {g7 m d7 n c' : Nat} {B7 A' : Option Addr} (h : SetW w w0 g7 m d7 B7 wr A' n c') (hz : w0.heap[w.heap.size + 1]? = some (.cells #[.slice none 0 0, .slice none 0 0] 37 (0, 0))) :
    (wr.cell? ⟨w.heap.size + 1, 0, none⟩ = some (.slice none 0 0) ∧ wr.cell? ⟨w.heap.size + 1, 1, none⟩ = some (.slice none 0 0) ∧ wr.frozen? ⟨w.heap.size + 1, 0, none⟩ = false ∧ wr.frozen? ⟨w.heap.size + 1, 1, none⟩ = false) ∧
    (((wr.setCell ⟨w.heap.size + 1, 0, none⟩ (.slice A' n c')).setCell ⟨w.heap.size + 1, 1, none⟩ (.slice B7 m d7)).cell? ⟨w.heap.size + 1, 0, none⟩ = some (.slice A' n c') ∧ ((wr.setCell ⟨w.heap.size + 1, 0, none⟩ (.slice A' n c')).setCell ⟨w.heap.size + 1, 1, none⟩ (.slice B7 m d7)).cell? ⟨w.heap.size + 1, 1, none⟩ = some (.slice B7 m d7)) ∧
    PapI w n m (.returned (.agg #[.slice A' n c', .slice B7 m d7])) ((wr.setCell ⟨w.heap.size + 1, 0, none⟩ (.slice A' n c')).setCell ⟨w.heap.size + 1, 1, none⟩ (.slice B7 m d7)) := by
  have hz1 := (h.keep (w.heap.size + 1) (by omega)).trans hz
  obtain ⟨hl', ho⟩ := h.own
  obtain ⟨ll', hll, hlb⟩ := h.left
  have hlow := h.low
  have hg : wr.grownBy ((wr.setCell ⟨w.heap.size + 1, 0, none⟩ (.slice A' n c')).setCell ⟨w.heap.size + 1, 1, none⟩ (.slice B7 m d7)) (some (w.heap.size + 1)) := grown_tr (grown_set _ _ _ _) (grown_set _ _ _ _)
  refine ⟨⟨by rw [cell_of_row _ _ 0 _ _ _ hz1]; rfl, by rw [cell_of_row _ _ 1 _ _ _ hz1]; rfl, frozen_of_row _ _ 0 _ _ hz1, frozen_of_row _ _ 1 _ _ hz1⟩, pair_stored hz1, ⟨A', c', B7, d7, hl', ll', rfl, ?_, ?_, ?_⟩⟩
  · exact (ho.far hg (fun q e e2 => by injection e2 with e2; have := ho.in_ q (.inl e); omega)).mono (by omega)
  · exact hll.far hg (fun q e e2 => by injection e2 with e2; have := hlb q e; omega)
  · exact h.bel.grown hg h.bel.size (fun q e => by injection e with e; omega)

set_option maxHeartbeats 8000000 in
theorem l24Set_any (A : Option Addr) (c : Nat) (hl : List (Int × Int)) (B : Option Addr) (d : Nat) (ll : List Int) (id mk : Int) (w : World) (h : Rd encP w A hl) (hi : RdI w B ll) (hl1 : hl.length ≤ 1000) (hl2 : ll.length ≤ 1000) :
    Calls Try.prog 73 #[.agg #[.slice A hl.length c, .slice B ll.length d], vi id, vi mk] w fun e w' => ∃ n, n ≤ hl.length + 1 ∧ PapI w n ll.length e w' := by
  obtain ⟨w0, hw0⟩ : ∃ x, x = ((w.alloc (.cells #[.slice A hl.length c, .slice B ll.length d] 37)).alloc (.cells #[.slice none 0 0, .slice none 0 0] 37)) := ⟨_, rfl⟩
  have hb0 : Below w.heap.size w w0 := by rw [hw0]; exact ((Below.refl _ _).alloc (Nat.le_refl _) _).alloc (by simp) _
  have hs0 : w0.heap.size = w.heap.size + 1 + 1 := by rw [hw0]; simp
  have p0 : w0.cell? ⟨w.heap.size, 0, none⟩ = some (.slice A hl.length c) := by
    rw [hw0, World.cell?_alloc_past _ _ _ (by simp only [World.size_alloc]; omega), World.cell?_alloc_at _ _ _ _ rfl]; rfl
  have p1 : w0.cell? ⟨w.heap.size, 1, none⟩ = some (.slice B ll.length d) := by
    rw [hw0, World.cell?_alloc_past _ _ _ (by simp only [World.size_alloc]; omega), World.cell?_alloc_at _ _ _ _ rfl]; rfl
  have p1' : (w0.alloc (.cells #[] 3)).cell? ⟨w.heap.size, 1, none⟩ = some (.slice B ll.length d) := cell_keep p1 ((Below.refl _ _).alloc (Nat.le_refl _) _)
  have z0 : w0.heap[w.heap.size + 1]? = some (.cells #[.slice none 0 0, .slice none 0 0] 37 (0, 0)) := by
    rw [hw0]
    have := heap_alloc_new (w.alloc (.cells #[.slice A hl.length c, .slice B ll.length d] 37)) (.cells #[.slice none 0 0, .slice none 0 0] 37)
    rwa [World.size_alloc] at this
  have HR := Lib.hid (h.below hb0)
  have HI := Lib.hid (hi.below hb0)
  have HB := Lib.hid hb0
  have HZ := Lib.hid z0
  have HP0 := Lib.hid p0
  have HN : Hid (OwnI (w0.alloc (.cells #[] 3)) (w.heap.size + 1 + 1) (some ⟨w.heap.size + 1 + 1, 0, none⟩) 0 0 []) := Lib.hid (by have := OwnI.none_made w0; rw [hs0] at this; exact this)
  have HW0 := Lib.hid hw0
  clear h hi hb0 z0
  go_enter Try.func73, Try.ntmps73
  rw [hw0] at p1'
  go_wp2_with (at_builtin; rw [← HW0.out]; refine app_int rfl (.tmp 10) (.tmp 12) rfl (w.heap.size + 1 + 1) (some ⟨w.heap.size + 1 + 1, 0, none⟩) 0 0 [] rfl HN.out B ll.length d ll rfl (HI.out.alloc _) rfl (by omega) (by simp; omega) ?_; intro B7 d7 w7 ho7 hg7; skip)
  have hb7 : Below w0.heap.size w0 w7 := ((Below.refl w0.heap.size w0).alloc (Nat.le_refl _) (.cells #[] 3)).grown hg7 (by simp) (fun q hq => by simp [blk] at hq; omega)
  have hs7 := hb7.size
  have HS0 : Hid (SetW w w0 w7.heap.size ll.length d7 B7 (w7.alloc (.cells #[.slice none 0 0, .slice B7 ll.length d7] 37)) none 0 0) := Lib.hid (by
    have hx := ho7.in_
    rw [Nat.zero_add] at ho7
    refine ⟨heap_alloc_new w7 _, ⟨[], Own.nil_ _ _⟩, ⟨_, (ho7.mono (by omega)).alloc _, fun g e => ⟨(hx g (.inl e)).2, (hx g (.inl e)).1⟩⟩, (bthen HB.out hb7).alloc (by omega) _, by omega, fun b hb => ?_⟩
    rw [Below.heap_alloc _ _ _ (by omega)]
    exact hb7.block b (by omega))
  have HL0 := Lib.hid hs0
  obtain ⟨g7, hg7e⟩ : ∃ g, g = w7.heap.size := ⟨_, rfl⟩
  rw [← hg7e] at HS0 hs7 ⊢
  obtain ⟨w8, hw8⟩ : ∃ x, x = w7.alloc (.cells #[.slice none 0 0, .slice B7 ll.length d7] 37) := ⟨_, rfl⟩
  rw [← hw8] at HS0 ⊢
  clear ho7 hg7 hb7 hg7e hw8 HN HI hw0 HW0 p0 p1 p1'
  have HA2 : Hid (∀ wx : World, w0.heap.size ≤ wx.heap.size → (∀ b, b < w.heap.size + 2 → wx.heap[b]? = w0.heap[b]?) → wx.cell? ⟨w.heap.size, 0, none⟩ = some (.slice A hl.length c) ∧ Rd encP wx A hl) := Lib.hid (fun wx hsx hkx =>
    ⟨(World.cell?_of_block (hkx w.heap.size (by omega))).trans HP0.out, HR.out.keep hsx fun b o e hb => hkx b (by have := HL0.out; omega)⟩)
  have HA : Hid (∀ wr A' n c', SetW w w0 g7 ll.length d7 B7 wr A' n c' → wr.cell? ⟨w.heap.size, 0, none⟩ = some (.slice A hl.length c) ∧ Rd encP wr A hl) := Lib.hid (fun wr A' n c' hw => by
    have h1 := (Array.getElem?_eq_some_iff.1 hw.box).1
    have h2 := hw.low
    have h3 := HL0.out
    exact HA2.out wr (by omega) hw.keep)
  have HSI := Lib.hid (show (0 : Nat) ≤ 0 + 1 from by omega)
  go_loopw [8, 9] (fun b i wr => ∃ (k n : Nat) (dn : Bool) (A' : Option Addr) (c' : Nat), k ≤ hl.length ∧ i = vi k ∧ b = .bool dn ∧ n ≤ k + 1 ∧ (dn = false → n ≤ k) ∧ SetW w w0 g7 ll.length d7 B7 wr A' n c') (fun _ i _ => hl.length - (intOf i).toNat)
  case atStart => exact ⟨0, 0, (mk == 0), none, 0, by omega, rfl, rfl, by omega, (fun _ => by omega), HS0.out⟩
  case round =>
    obtain ⟨k, n, dn, A', c', hk, rfl, rfl, hn1, hn2, hs⟩ := hrel
    have HS := Lib.hid hs
    clear hs HS0
    by_cases hlt : k < hl.length
    · obtain ⟨y1, hy1⟩ : ∃ y, y = (nth hl k).1 := ⟨_, rfl⟩
      obtain ⟨y2, hy2⟩ : ∃ y, y = (nth hl k).2 := ⟨_, rfl⟩
      have HY1 := Lib.hid hy1
      have HY2 := Lib.hid hy2
      clear hy1 hy2
      cases dn with
      | true =>
        obtain ⟨pb, hrb⟩ := HA.out _ _ _ _ HS.out
        obtain ⟨qb, _, fb⟩ := HS.out.cells
        obtain ⟨b, o, hAe, hbl, _⟩ := hrb (by omega)
        subst hAe
        obtain ⟨hc1, hc2⟩ := hrb.at2 k hlt
        rw [← HY1.out] at hc1
        rw [← HY2.out] at hc2
        have HL := Lib.hid (Own.lit (E := 51) (e := encP) wr #[vi y1, vi y2] ([(y1, y2)] : List (Int × Int)) rfl (by simp [maxLen]))
        have qa : (wr.alloc (.cells #[vi y1, vi y2] 51)).cell? ⟨g7, 0, none⟩ = _ := cell_keep qb ((Below.refl _ _).alloc (Nat.le_refl _) _)
        obtain ⟨hx, hox⟩ := HS.out.own
        have HOX := Lib.hid hox
        clear hox hrb
        by_cases hq : y1 = id
        · have hq1 : (y1 != id) = false := by simp [hq]
          clear hq qa
          go_wp2
          go_roundw
          case rel => exact ⟨k + 1, _, true, _, _, by omega, by go_num, rfl, by omega, (fun h => by first | (cases h; done) | omega), HS.out⟩
          case measure => simp [intOf]; omega
        · have hq1 : (y1 != id) = true := by simp [hq]
          clear hq
          go_wp2
          go_region_law (first
            | (refine step_app_Hold rfl (.tmp 53) (.tmp 59) rfl (g7 + 1) _ _ _ hx (by simp [Act.eval]) (show Own encP 51 (wr.alloc (.cells #[vi y1, vi y2] 51)).drew _ _ _ _ _ from HOX.out.alloc _) (some ⟨wr.heap.size, 0, none⟩) 1 1 [(y1, y2)] (by simp [Act.eval]) (show Rd encP (wr.alloc (.cells #[vi y1, vi y2] 51)).drew _ _ from HL.out.rd) rfl _ _ rfl rfl (by omega) (by have := (Array.getElem?_eq_some_iff.1 HS.out.box).1; simp; omega) ?_
               intro A9 c9 w9 ho9 hg9
               have HS9 := Lib.hid (HS.out.app (((Below.refl _ _).alloc (Nat.le_refl _) (.cells #[vi y1, vi y2] 51)).drew) hg9 ho9)
               obtain ⟨_, q9, f9, _⟩ := HS9.out
               clear ho9 hg9))
          all_goals
            go_wp2
            go_roundw
            case rel => exact ⟨k + 1, _, true, _, _, by omega, by go_num, rfl, by omega, (fun h => by first | (cases h; done) | omega), HS9.out.1⟩
            case measure => simp [intOf]; omega
      | false =>
        have hn3 := hn2 rfl
        by_cases hge : id ≤ y1
        · obtain ⟨hx0, hox0⟩ := HS.out.own
          have HOX0 := Lib.hid hox0
          have HL0' := Lib.hid (Own.lit (E := 51) (e := encP) wr #[vi id, vi mk] ([(id, mk)] : List (Int × Int)) rfl (by simp [maxLen]))
          obtain ⟨pb0, hrb0⟩ := HA.out _ _ _ _ HS.out
          obtain ⟨qb0, _, fb0⟩ := HS.out.cells
          have hbx := (Array.getElem?_eq_some_iff.1 HS.out.box).1
          obtain ⟨b0, o0, hAe0, hbl0, _⟩ := hrb0 (by omega)
          subst hAe0
          have hb0g : b0 < g7 := by
            obtain ⟨b', o', e', hb', _⟩ := HR.out (by omega)
            injection e' with e'; injection e' with e1 e2
            have := HL0.out; have := HS.out.low; omega
          have hb0ne : ¬ (b0 = g7) := by omega
          obtain ⟨hc10, hc20⟩ := hrb0.at2 k hlt
          rw [← HY1.out] at hc10
          clear hox0 hrb0 hc20
          by_cases hq : y1 = id
          · have hq1 : (y1 != id) = false := by simp [hq]
            clear hq
            go_wp2_with (at_builtin; refine app_Hold rfl (.tmp 37) (.tmp 41) rfl (g7 + 1) A' n c' hx0 rfl (HOX0.out.alloc _) (some ⟨wr.heap.size, 0, none⟩) 1 1 [(id, mk)] rfl HL0'.out.rd rfl (by omega) (by simp; omega) ?_; intro A8 c8 w8b ho8 hg8; have HS8 := Lib.hid (HS.out.app ((Below.refl _ _).alloc (Nat.le_refl _) (.cells #[vi id, vi mk] 51)) hg8 ho8); obtain ⟨_, q8, f8, k8⟩ := HS8.out; have HS8w := Lib.hid HS8.out.1; have hz8 := hg8.size; simp only [World.size_alloc] at hz8; obtain ⟨pb8, hrb8⟩ := HA2.out w8b (by have := HL0.out; have := HS.out.low; omega) k8; obtain ⟨hc18, hc28⟩ := hrb8.at2 k hlt; rw [← HY1.out] at hc18; clear hc28 ho8 hg8 hrb8 k8 HS8)
            go_wp2
            go_roundw
            case rel => exact ⟨k + 1, _, true, _, _, by omega, by go_num, rfl, by omega, (fun h => by cases h), HS8w.out⟩
            case measure => simp [intOf]; omega
          · have hq1 : (y1 != id) = true := by simp [hq]
            clear hq
            go_wp2_with (at_builtin; refine app_Hold rfl (.tmp 37) (.tmp 41) rfl (g7 + 1) A' n c' hx0 rfl (HOX0.out.alloc _) (some ⟨wr.heap.size, 0, none⟩) 1 1 [(id, mk)] rfl HL0'.out.rd rfl (by omega) (by simp; omega) ?_; intro A8 c8 w8b ho8 hg8; have HS8 := Lib.hid (HS.out.app ((Below.refl _ _).alloc (Nat.le_refl _) (.cells #[vi id, vi mk] 51)) hg8 ho8); obtain ⟨_, q8, f8, k8⟩ := HS8.out; have HS8w := Lib.hid HS8.out.1; have hz8 := hg8.size; simp only [World.size_alloc] at hz8; obtain ⟨pb8, hrb8⟩ := HA2.out w8b (by have := HL0.out; have := HS.out.low; omega) k8; obtain ⟨hc18, hc28⟩ := hrb8.at2 k hlt; rw [← HY1.out] at hc18; clear hc28 ho8 hg8 hrb8 k8 HS8)
            clear q8 f8 pb8 hc18 qb0 fb0 pb0 hc10 HOX0 HL0'
            obtain ⟨W, hW⟩ : ∃ x, x = w8b.setCell ⟨g7, 0, none⟩ (.slice A8 (n + 1) c8) := ⟨_, rfl⟩
            rw [← hW] at HS8w ⊢
            clear hW hz8
            obtain ⟨pb, hrb⟩ := HA.out _ _ _ _ HS8w.out
            obtain ⟨qb, _, fb⟩ := HS8w.out.cells
            
            skip
            obtain ⟨hc1, hc2⟩ := hrb.at2 k hlt
            rw [← HY1.out] at hc1
            rw [← HY2.out] at hc2
            have HL := Lib.hid (Own.lit (E := 51) (e := encP) W #[vi y1, vi y2] ([(y1, y2)] : List (Int × Int)) rfl (by simp [maxLen]))
            have qa : (W.alloc (.cells #[vi y1, vi y2] 51)).cell? ⟨g7, 0, none⟩ = _ := cell_keep qb ((Below.refl _ _).alloc (Nat.le_refl _) _)
            obtain ⟨hx, hox⟩ := HS8w.out.own
            have HOX := Lib.hid hox
            clear hox hrb
            · skip
              go_region_law (first
                | (refine step_app_Hold rfl (.tmp 53) (.tmp 59) rfl (g7 + 1) _ _ _ hx (by simp [Act.eval]) (show Own encP 51 (W.alloc (.cells #[vi y1, vi y2] 51)).drew _ _ _ _ _ from HOX.out.alloc _) (some ⟨W.heap.size, 0, none⟩) 1 1 [(y1, y2)] (by simp [Act.eval]) (show Rd encP (W.alloc (.cells #[vi y1, vi y2] 51)).drew _ _ from HL.out.rd) rfl _ _ rfl rfl (by omega) (by have := (Array.getElem?_eq_some_iff.1 HS8w.out.box).1; simp; omega) ?_
                   intro A9 c9 w9 ho9 hg9
                   have HS9 := Lib.hid (HS8w.out.app (((Below.refl _ _).alloc (Nat.le_refl _) (.cells #[vi y1, vi y2] 51)).drew) hg9 ho9)
                   obtain ⟨_, q9, f9, _⟩ := HS9.out
                   clear ho9 hg9))
              all_goals
                go_wp2
                go_roundw
                case rel => exact ⟨k + 1, _, true, _, _, by omega, by go_num, rfl, by omega, (fun h => by first | (cases h; done) | omega), HS9.out.1⟩
                case measure => simp [intOf]; omega
        · have hge1 : y1 < id := by omega
          obtain ⟨pb, hrb⟩ := HA.out _ _ _ _ HS.out
          obtain ⟨qb, _, fb⟩ := HS.out.cells
          obtain ⟨b, o, hAe, hbl, _⟩ := hrb (by omega)
          subst hAe
          obtain ⟨hc1, hc2⟩ := hrb.at2 k hlt
          rw [← HY1.out] at hc1
          rw [← HY2.out] at hc2
          have HL := Lib.hid (Own.lit (E := 51) (e := encP) wr #[vi y1, vi y2] ([(y1, y2)] : List (Int × Int)) rfl (by simp [maxLen]))
          have qa : (wr.alloc (.cells #[vi y1, vi y2] 51)).cell? ⟨g7, 0, none⟩ = _ := cell_keep qb ((Below.refl _ _).alloc (Nat.le_refl _) _)
          obtain ⟨hx, hox⟩ := HS.out.own
          have HOX := Lib.hid hox
          clear hox hrb
          by_cases hq : y1 = id
          · have hq1 : (y1 != id) = false := by simp [hq]
            clear hq qa
            go_wp2
            go_roundw
            case rel => exact ⟨k + 1, _, false, _, _, by omega, by go_num, rfl, by omega, (fun h => by first | (cases h; done) | omega), HS.out⟩
            case measure => simp [intOf]; omega
          · have hq1 : (y1 != id) = true := by simp [hq]
            clear hq
            go_wp2
            go_region_law (first
              | (refine step_app_Hold rfl (.tmp 53) (.tmp 59) rfl (g7 + 1) _ _ _ hx (by simp [Act.eval]) (show Own encP 51 (wr.alloc (.cells #[vi y1, vi y2] 51)).drew _ _ _ _ _ from HOX.out.alloc _) (some ⟨wr.heap.size, 0, none⟩) 1 1 [(y1, y2)] (by simp [Act.eval]) (show Rd encP (wr.alloc (.cells #[vi y1, vi y2] 51)).drew _ _ from HL.out.rd) rfl _ _ rfl rfl (by omega) (by have := (Array.getElem?_eq_some_iff.1 HS.out.box).1; simp; omega) ?_
                 intro A9 c9 w9 ho9 hg9
                 have HS9 := Lib.hid (HS.out.app (((Below.refl _ _).alloc (Nat.le_refl _) (.cells #[vi y1, vi y2] 51)).drew) hg9 ho9)
                 obtain ⟨_, q9, f9, _⟩ := HS9.out
                 clear ho9 hg9))
            all_goals
              go_wp2
              go_roundw
              case rel => exact ⟨k + 1, _, false, _, _, by omega, by go_num, rfl, by omega, (fun h => by first | (cases h; done) | omega), HS9.out.1⟩
              case measure => simp [intOf]; omega
    · obtain rfl : k = hl.length := by omega
      obtain ⟨pb, hrb⟩ := HA.out _ _ _ _ HS.out
      obtain ⟨qb, qc, fb⟩ := HS.out.cells
      clear hrb
      cases dn with
      | true =>
        have HD := Lib.hid (HS.out.done HZ.out)
        obtain ⟨z0, z1, z2, z3⟩ := HD.out.1
        obtain ⟨r0, r1⟩ := HD.out.2.1
        go_wp2
        refine bodyPost_ret (v := .agg #[.slice A' n c', .slice B7 ll.length d7]) (by simp [results, Try.results73, go_sem, r0, r1]) rfl ⟨_, by omega, HD.out.2.2⟩
      | false =>
        have hn3 := hn2 rfl
        obtain ⟨hx0, hox0⟩ := HS.out.own
        have HOX0 := Lib.hid hox0
        have HL0' := Lib.hid (Own.lit (E := 51) (e := encP) wr #[vi id, vi mk] ([(id, mk)] : List (Int × Int)) rfl (by simp [maxLen]))
        have hbx := (Array.getElem?_eq_some_iff.1 HS.out.box).1
        clear hox0
        go_wp2_with (at_builtin; refine app_Hold rfl (.tmp 65) (.tmp 69) rfl (g7 + 1) A' n c' hx0 rfl (HOX0.out.alloc _) (some ⟨wr.heap.size, 0, none⟩) 1 1 [(id, mk)] rfl HL0'.out.rd rfl (by omega) (by simp; omega) ?_; intro A8 c8 w8b ho8 hg8; have HS8 := Lib.hid (HS.out.app ((Below.refl _ _).alloc (Nat.le_refl _) (.cells #[vi id, vi mk] 51)) hg8 ho8); obtain ⟨_, q8, f8, k8⟩ := HS8.out; have HD := Lib.hid (HS8.out.1.done HZ.out); obtain ⟨q80, q81, q8f⟩ := HS8.out.1.cells; obtain ⟨z0, z1, z2, z3⟩ := HD.out.1; obtain ⟨r0, r1⟩ := HD.out.2.1; clear ho8 hg8 k8 HS8)
        refine bodyPost_ret (v := .agg #[.slice A8 (n + 1) c8, .slice B7 ll.length d7]) (by simp [results, Try.results73, go_sem, HD.out.2.1.1, HD.out.2.1.2]) rfl ⟨_, by omega, HD.out.2.2⟩
end Go.Proofs.Ytjhbmikohcbkkaa
