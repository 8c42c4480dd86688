/-
  Contracts: insertion sort.
-/
import Derived.Test.YtpabfbaoibmnlaaCyC
namespace Go.Proofs.Ytpabfbaoibmnlaa
open Go.RowKit
set_option linter.unusedVariables false
set_option maxRecDepth 100000

/-- What the loops keep: the box, the order's own row, what lies below. -/
structure InsW (w0 : World) (base cb : Nat) (A : Option Addr) (c : Nat) (l : List (Int × Int)) (g c' : Nat) (wr : World) (x : List Int) : Prop where
  box : CmpBox wr cb A c l
  own : OwnI wr base (some ⟨g, 0, none⟩) l.length c' x
  perm : isPerm x l.length = true
  bel : Below base w0 wr
theorem InsW.past {w0 wr w' : World} {base cb c g c' : Nat} {A : Option Addr} {l : List (Int × Int)} {x : List Int} (h : InsW w0 base cb A c l g c' wr x) (hb : Below wr.heap.size wr w') : InsW w0 base cb A c l g c' w' x :=
  ⟨h.box.below hb, h.own.below hb, h.perm, h.bel.trans (hb.mono (by have := h.own.lt; omega))⟩
theorem InsW.swap {w0 wr : World} {base cb c g c' : Nat} {A : Option Addr} {l : List (Int × Int)} {x : List Int} (h : InsW w0 base cb A c l g c' wr x) (hcb : cb < base) (hA : ∀ b o, A = some ⟨b, o, none⟩ → b < base) {a b : Nat} (ha : a < l.length) (hb : b < l.length) :
    InsW w0 base cb A c l g c' ((wr.setCell ⟨g, a, none⟩ (vi (nth x b))).setCell ⟨g, b, none⟩ (vi (nth x a))) (Go.Proofs.Ytpabfbaoibmnlaa.swap x a b) := by
  have hg := h.own.lt
  obtain ⟨o1, g1⟩ := h.own.put a (nth x b)
  obtain ⟨o2, g2⟩ := o1.put b (nth x a)
  have g3 := grown_tr g1 g2
  refine ⟨⟨?_, h.box.2.far g3 (fun b o e e2 => by have := hA b o e; injection e2 with e2; omega)⟩, o2, swap_perm h.perm ha hb, (h.bel.setCell (p := ⟨g, a, none⟩) hg.1 _).setCell (p := ⟨g, b, none⟩) hg.1 _⟩
  rw [g3.block cb (Array.getElem?_eq_some_iff.1 h.box.1).1 (fun e => by injection e with e; omega)]
  exact h.box.1

set_option maxHeartbeats 4000000 in
theorem insSort_any (base cb : Nat) (A : Option Addr) (c : Nat) (l : List (Int × Int)) (g c' : Nat) (x : List Int) (w : World) (h : InsW w base cb A c l g c' w x) (ht : tasksOk l = true) (h0 : 0 < l.length) (hcb : cb < base) (hA : ∀ b o, A = some ⟨b, o, none⟩ → b < base) :
    Calls Try.prog 78 #[.slice (some ⟨g, 0, none⟩) l.length c', vi 0, vi l.length, .func (.func 69) #[] #[.pointer (some ⟨cb, 0, none⟩)]] w fun e w' => (∃ v, e = .returned v) ∧ ∃ y, InsW w base cb A c l g c' w' y ∧ Sor l y l.length := by
  have hl6 := (tasksOk_t ht).2
  have HT := Lib.hid ht
  have HI := Lib.hid h
  clear h ht
  go_enter Try.func78, Try.ntmps78
  go_wp2
  go_loopw [8] (fun i wr => ∃ (k : Nat) (y : List Int), 1 ≤ k ∧ k ≤ l.length ∧ i = vi k ∧ InsW w base cb A c l g c' wr y ∧ Sor l y k) (fun i _ => l.length - (intOf i).toNat)
  case atStart => exact ⟨1, x, by omega, by omega, by go_num, HI.out, fun p q h1 h2 => absurd h2 (by omega)⟩
  case round =>
    obtain ⟨k, y, hk1, hk, rfl, hi, hs⟩ := hrel
    have HI := Lib.hid hi
    have HS := Lib.hid hs
    clear hi hs
    by_cases hlt : k < l.length
    · go_wp2
      go_loopw [9] (fun i wr => ∃ (j : Nat) (y : List Int), j ≤ k ∧ i = vi j ∧ InsW w base cb A c l g c' wr y ∧ InsR l y k j) (fun i _ => (intOf i).toNat)
      case atStart => exact ⟨k, y, by omega, rfl, HI.out, ins_start HS.out⟩
      case round =>
        obtain ⟨j, y, hj, rfl, hi, hs⟩ := hrel
        have HJ := Lib.hid hi
        have HR := Lib.hid hs
        have hyl := hi.own.len
        clear hi hs
        by_cases hj0 : 0 < j
        · have hjl : j < l.length := by omega
          have hjp : j - 1 < l.length := by omega
          have hpm := isPerm_iff.1 HJ.out.perm
          obtain ⟨a, ha⟩ : ∃ v : Nat, nth y j = (v : Int) := ⟨(nth y j).toNat, by have := hpm.2.1 j hjl; omega⟩
          obtain ⟨b, hb⟩ : ∃ v : Nat, nth y (j - 1) = (v : Int) := ⟨(nth y (j - 1)).toNat, by have := hpm.2.1 (j - 1) hjp; omega⟩
          have hal : a < l.length := by have := hpm.2.1 j hjl; omega
          have hbl : b < l.length := by have := hpm.2.1 (j - 1) hjp; omega
          have HCA := Lib.hid (fun v : Past wr => cmpAt_any cb A c l a b v.val (HJ.out.box.below v.below) HT.out hal hbl)
          have hz1 := HJ.out.own.cell j hjl
          have hz2 := HJ.out.own.cell (j - 1) hjp
          rw [ha] at hz1
          rw [hb] at hz2
          have q1 := Past.cell hz1
          have q2 := Past.cell hz2
          have ej : ((j : Int) - 1) = ((j - 1 : Nat) : Int) := by omega
          have hjw : IntKind.i64.wrap ((j - 1 : Nat) : Int) = ((j - 1 : Nat) : Int) := by rw [IntKind.wrap_i64]; omega
          have hji : ((j - 1 : Nat) : Int) < (l.length : Int) := by omega
          have hj0i : (0 : Int) < (j : Int) := by omega
          have hd0 : decide ((0 : Int) < (j : Int)) = true := by simpa using hj0
          have Hab := Lib.hid (show nth y j = (a : Int) ∧ nth y (j - 1) = (b : Int) from ⟨ha, hb⟩)
          obtain ⟨z, hz⟩ : ∃ z, z = cmpT (nth l a) (nth l b) := ⟨_, rfl⟩
          have HZ := Lib.hid hz
          rw [← hz] at HCA
          clear hz hz1 hz2 ha hb hpm
          by_cases hlz : z < 0
          · have HN : Hid (InsR l (swap y j (j - 1)) k (j - 1)) := Lib.hid (ins_swap HR.out hj0 hj (by omega) (by rw [Hab.out.1, Hab.out.2, Int.toNat_natCast, Int.toNat_natCast, ← HZ.out]; exact hlz))
            go_wp2
            refine wp_region_past (by kernel_rfl) (by kernel_rfl) ?_
            repeat (go_big_quiet_step ((go_at_call 69; exact past_call (HCA.out _))))
            refine wpQuiet_nil ?_
            rintro ⟨w2, hb2⟩
            simp only
            have HJ2 := Lib.hid (HJ.out.past hb2)
            have hz1 := HJ2.out.own.cell j hjl
            have hz2 := HJ2.out.own.cell (j - 1) hjp
            have hf := HJ2.out.own.frozen j
            have hf2 := HJ2.out.own.frozen (j - 1)
            rw [Hab.out.1] at hz1
            rw [Hab.out.2] at hz2
            clear hb2 q1 q2
            go_wp2
            go_region
            have HF : Hid (InsW w base cb A c l g c' ((w2.setCell ⟨g, j, none⟩ (vi (b : Int))).setCell ⟨g, j - 1, none⟩ (vi (a : Int))).drew (swap y j (j - 1))) := Lib.hid (by
              have := HJ2.out.swap hcb hA hjl hjp
              rw [Hab.out.1, Hab.out.2] at this
              exact this.past ((Below.refl _ _).drew))
            go_wp2
            go_roundw
            case rel => exact ⟨j - 1, swap y j (j - 1), by omega, by go_num, HF.out, HN.out⟩
            case measure => simp [intOf]; omega
          · have HN : Hid (Sor l y (k + 1)) := Lib.hid (ins_done HR.out (.inr (by rw [Hab.out.1, Hab.out.2, Int.toNat_natCast, Int.toNat_natCast, ← HZ.out]; exact hlz)))
            go_wp2
            refine wp_region_past (by kernel_rfl) (by kernel_rfl) ?_
            repeat (go_big_quiet_step ((go_at_call 69; exact past_call (HCA.out _))))
            refine wpQuiet_nil ?_
            rintro ⟨w2, hb2⟩
            simp only
            have HJ2 := Lib.hid (HJ.out.past hb2)
            clear hb2 q1 q2
            go_wp2
            go_roundw
            case rel => exact ⟨k + 1, y, by omega, by omega, by go_num, HJ2.out, HN.out⟩
            case measure => simp [intOf]; omega
        · obtain rfl : j = 0 := by omega
          have HN : Hid (Sor l y (k + 1)) := Lib.hid (ins_done HR.out (.inl rfl))
          go_wp2
          refine wp_region_past (by kernel_rfl) (by kernel_rfl) ?_
          repeat (go_big_quiet_step (fail))
          refine wpQuiet_nil ?_
          rintro ⟨w2, hb2⟩
          simp only
          have HJ2 := Lib.hid (HJ.out.past hb2)
          clear hb2
          go_wp2
          go_roundw
          case rel => exact ⟨k + 1, y, by omega, by omega, by go_num, HJ2.out, HN.out⟩
          case measure => simp [intOf]; omega
    · obtain rfl : k = l.length := by omega
      go_wp2
      go_end0
      exact ⟨⟨_, rfl⟩, y, HI.out, HS.out⟩

theorem insSort_none (B : Option Addr) (c' : Nat) (F : Value) (w : World) :
    Calls Try.prog 78 #[.slice B 0 c', vi 0, vi 0, F] w fun e w' => (∃ v, e = .returned v) ∧ w = w' := by
  go_enter Try.func78, Try.ntmps78
  go_wp2
  go_loopw [8] (fun i wr => i = vi 1 ∧ w = wr) (fun _ _ => 0)
  case atStart => exact ⟨by go_num, rfl⟩
  case round =>
    obtain ⟨rfl, rfl⟩ := hrel
    go_wp2
    go_end0
    exact ⟨⟨_, rfl⟩, rfl⟩

set_option maxHeartbeats 2000000 in
theorem stable_of (B : Option Addr) (n c' : Nat) (F : Value) (w : World) (Q : World → Prop) (hn : n ≤ 6) (h : Calls Try.prog 78 #[.slice B n c', vi 0, vi n, F] w fun e w' => (∃ v, e = .returned v) ∧ Q w') :
    Calls Try.prog 76 #[.slice B n c', vi n, F] w fun e w' => (∃ v, e = .returned v) ∧ Q w' := by
  have H := Lib.hid h
  clear h
  go_enter Try.func76, Try.ntmps76
  go_wp2
  go_loopw [7, 8] (fun i j wr => i = vi 0 ∧ j = vi 20 ∧ w = wr) (fun _ _ _ => 0)
  case atStart => exact ⟨rfl, rfl, rfl⟩
  case round =>
    obtain ⟨rfl, rfl, rfl⟩ := hrel
    go_wp2_with fail
    refine H.out.mono ?_
    rintro e w2 ⟨⟨v, rfl⟩, hq⟩
    have HQ := Lib.hid hq
    clear hq
    go_wp2
    go_loopw [6] (fun i wr => i = vi 20 ∧ Q wr) (fun _ _ => 0)
    case atStart => exact ⟨rfl, HQ.out⟩
    case round =>
      obtain ⟨rfl, hq⟩ := hrel
      go_wp2
      go_end0
      exact ⟨⟨_, rfl⟩, hq⟩
theorem sortStable_of (B : Option Addr) (n c' : Nat) (F : Value) (w : World) (Q : World → Prop) (hn : n ≤ 6) (h : Calls Try.prog 78 #[.slice B n c', vi 0, vi n, F] w fun e w' => (∃ v, e = .returned v) ∧ Q w') :
    Calls Try.prog 68 #[.slice B n c', F] w fun e w' => (∃ v, e = .returned v) ∧ Q w' := by
  have H := Lib.hid (stable_of B n c' F w Q hn h)
  clear h
  go_enter Try.func68, Try.ntmps68
  go_wp2_with fail
  refine H.out.mono ?_
  rintro e w2 ⟨⟨v, rfl⟩, hq⟩
  go_wp2
  go_end0
  exact ⟨⟨_, rfl⟩, hq⟩
end Go.Proofs.Ytpabfbaoibmnlaa
