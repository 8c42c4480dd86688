/-
  Contracts of the reader of a code: a number is picked.
-/
import Derived.Test.YtjhbmikohcbkkaaBase
namespace Go.Proofs.Ytjhbmikohcbkkaa
open Go.RowKit
set_option linter.unusedVariables false
set_option maxRecDepth 100000

/-- Block g holds a reader of bytes that lie below lim; its place is at most N. -/
def Rdr (w : World) (lim g : Nat) (N : Int) : Prop :=
  lim ≤ g ∧ ∃ (A : Option Addr) (c : Nat) (bs : List Int) (p : Int), w.heap[g]? = some (.cells #[.slice A bs.length c, vi p] 92 (0, 0)) ∧ 0 ≤ p ∧ p ≤ N ∧ bs.length ≤ 2000 ∧ RdB w lim A bs

section
variable {w w' : World} {lim g : Nat} {N N' : Int}
theorem Rdr.lt (h : Rdr w lim g N) : lim ≤ g ∧ g < w.heap.size := by
  obtain ⟨h1, A, c, bs, p, h2, _⟩ := h
  exact ⟨h1, (Array.getElem?_eq_some_iff.1 h2).1⟩
theorem Rdr.mono (h : Rdr w lim g N) (hN : N ≤ N') : Rdr w lim g N' := by
  obtain ⟨h1, A, c, bs, p, h2, h3, h4, h5⟩ := h
  exact ⟨h1, A, c, bs, p, h2, h3, by omega, h5⟩
theorem Rdr.kept (h : Rdr w lim g N) (hk : ∀ k, k < w.heap.size → (k < lim ∨ k = g) → w'.heap[k]? = w.heap[k]?) : Rdr w' lim g N := by
  have hlt := h.lt
  obtain ⟨h1, A, c, bs, p, h2, h3, h4, h5, h6⟩ := h
  exact ⟨h1, A, c, bs, p, (hk g hlt.2 (.inr rfl)).trans h2, h3, h4, h5, h6.keep fun b hb => hk b (by omega) (.inl hb)⟩
theorem Rdr.below (h : Rdr w lim g N) (hb : Below w.heap.size w w') : Rdr w' lim g N := h.kept fun k hk _ => hb.block k hk
theorem Rdr.alloc (h : Rdr w lim g N) (o : Obj) : Rdr (w.alloc o) lim g N := h.below ((Below.refl _ _).alloc (Nat.le_refl _) _)
theorem Rdr.far (h : Rdr w lim g N) {row : Option Nat} (hg : w.grownBy w' row) (hr : ∀ k, row = some k → lim ≤ k ∧ k ≠ g) : Rdr w' lim g N :=
  h.kept fun k hk hc => hg.block k hk (fun e => by
    have := hr k e.symm
    omega)
end

/-- What a pick of n leaves. -/
def PickPost (w : World) (lim g : Nat) (N n : Int) (e : Ending) (w' : World) : Prop :=
  ∃ x : Int, e = .returned (vi x) ∧ 0 ≤ x ∧ (1 ≤ n → x < n) ∧ (n < 1 → x = 0) ∧ Rdr w' lim g (N + 1) ∧ w.grownBy w' (some g)

theorem ofInt_i64 (a : Nat) (ha : a < 9223372036854775808) : (BitVec.ofInt 64 (a : Int)).toNat = a := by
  rw [BitVec.ofInt_natCast, BitVec.toNat_ofNat]; exact Nat.mod_eq_of_lt (by omega)
theorem i64_xor_nat (a b : Nat) (ha : a < 9223372036854775808) (hb : b < 9223372036854775808) : bits .xor .i64 (a : Int) (b : Int) = ((a ^^^ b : Nat) : Int) := by
  have hx : a ^^^ b < 2 ^ 63 := Nat.xor_lt_two_pow (by omega) (by omega)
  show IntKind.i64.wrap ((BitVec.ofInt 64 (a : Int) ^^^ BitVec.ofInt 64 (b : Int)).toNat : Int) = _
  rw [BitVec.toNat_xor, ofInt_i64 a ha, ofInt_i64 b hb, IntKind.wrap_i64]
  omega
/-- x ^ x/64 of a number that is not below 0. -/
def mixed (x : Int) : Int := bits .xor .i64 x (x / 64)
theorem mixed_nn (x : Int) (h : 0 ≤ x) (h2 : x < 1000000000000) : 0 ≤ mixed x ∧ mixed x ≤ 9223372036854775807 := by
  obtain ⟨n, rfl⟩ := Int.eq_ofNat_of_zero_le h
  have hx : n ^^^ (n / 64) < 2 ^ 63 := Nat.xor_lt_two_pow (by omega) (by omega)
  have e : mixed (n : Int) = ((n ^^^ (n / 64) : Nat) : Int) := by
    unfold mixed
    have := i64_xor_nat n (n / 64) (by omega) (by omega)
    rw [← this]; rfl
  rw [e]; omega

theorem tmod_in (x n : Int) (h : 0 ≤ x) (hn : 1 ≤ n) : 0 ≤ x.tmod n ∧ x.tmod n < n := by
  rw [Int.tmod_eq_emod_of_nonneg h]
  exact ⟨Int.emod_nonneg _ (by omega), Int.emod_lt_of_pos _ (by omega)⟩
theorem only_drewN {a w : World} {row : Option Nat} (h : a.grownBy w row) (n : Nat) : a.grownBy (w.drewN n) row := ⟨h.os, h.tape, h.output, h.size, h.block⟩
theorem Rdr.drewN {w : World} {lim g : Nat} {N : Int} (h : Rdr w lim g N) (n : Nat) : Rdr (w.drewN n) lim g N := h

theorem pick_any (lim g : Nat) (N n : Int) (w : World) (h : Rdr w lim g N) (hN : N ≤ 1000000000) :
    Calls Try.prog 47 #[.pointer (some ⟨g, 0, none⟩), vi n] w (PickPost w lim g N n) := by
  obtain ⟨hlg, A, c, bs, p, hg, hp0, hpN, hbl, hbs⟩ := h
  obtain ⟨q, rfl⟩ := Int.eq_ofNat_of_zero_le hp0
  have hc0 : w.cell? ⟨g, 0, none⟩ = some (.slice A bs.length c) := by rw [cell_of_row w g 0 _ _ _ hg]; rfl
  have hc1 : w.cell? ⟨g, 1, none⟩ = some (vi q) := by rw [cell_of_row w g 1 _ _ _ hg]; rfl
  have hf1 : w.frozen? ⟨g, 1, none⟩ = false := frozen_of_row w g 1 _ _ hg
  have hg1 : Hid ((w.setCell ⟨g, 1, none⟩ (vi (q + 1))).heap[g]? = some (.cells #[.slice A bs.length c, vi (q + 1)] 92 (0, 0))) := Lib.hid (by
    rw [heap_setCell_same w g 1 _ _ _ hg]; rfl)
  have HG : Hid (w.grownBy (w.setCell ⟨g, 1, none⟩ (vi (q + 1))) (some g)) := Lib.hid ⟨rfl, rfl, rfl, by simp, fun k _ hk => heap_setCell_other w _ k _ (fun e => hk (by rw [e]))⟩
  have HB : Hid (RdB (w.setCell ⟨g, 1, none⟩ (vi (q + 1))) lim A bs) := Lib.hid (hbs.keep fun b hb => heap_setCell_other w _ b _ (fun e => by simp at e; omega))
  have HR : Hid (Rdr (w.setCell ⟨g, 1, none⟩ (vi (q + 1))) lim g (N + 1)) := Lib.hid ⟨hlg, A, c, bs, (q : Int) + 1, hg1.out, by omega, by omega, hbl, HB.out⟩
  have hd0 : (w.setCell ⟨g, 1, none⟩ (vi (q + 1))).cell? ⟨g, 0, none⟩ = some (.slice A bs.length c) := by rw [cell_of_row _ g 0 _ _ _ hg1.out]; rfl
  have hd1 : (w.setCell ⟨g, 1, none⟩ (vi (q + 1))).cell? ⟨g, 1, none⟩ = some (vi (q + 1)) := by rw [cell_of_row _ g 1 _ _ _ hg1.out]; rfl
  clear hg hbs
  by_cases hn : n < 1
  · go_enter Try.func47, Try.ntmps47
    go_wp2
    go_ret
    exact ⟨0, rfl, Int.le_refl _, fun h => by omega, fun _ => rfl, HR.out, HG.out⟩
  by_cases hl : bs.length = 0
  · have hl1 : ((bs.length : Int) == 0) = true := by simp [hl]
    have hl2 : (bs.length == 0) = true := by simp [hl]
    clear hl
    go_enter Try.func47, Try.ntmps47
    go_wp2
    go_ret
    exact ⟨0, rfl, Int.le_refl _, fun h => by omega, fun _ => rfl, HR.out, HG.out⟩
  have hl1 : ((bs.length : Int) == 0) = false := by simp [hl]
  have hl2 : (bs.length == 0) = false := by simp [hl]
  have hl3 : 0 < bs.length := by omega
  clear hl
  obtain ⟨b, o, rfl, hb, hc⟩ := HB.out.2 hl3
  have hbd := HB.out.1
  by_cases hq : q < bs.length
  · have hcq := hc q hq
    have hbq := hbd q
    have h1 : 0 ≤ nth bs q % n := Int.emod_nonneg _ (by omega)
    have h2 : nth bs q % n < n := Int.emod_lt_of_pos _ (by omega)
    have hi1 : 0 ≤ (q : Int) % (bs.length : Int) := Int.emod_nonneg _ (by omega)
    have hi2 : (q : Int) % (bs.length : Int) < (bs.length : Int) := Int.emod_lt_of_pos _ (by omega)
    have hi3 : 0 ≤ ((q : Int) * 7 + 3) % (bs.length : Int) := Int.emod_nonneg _ (by omega)
    have hi4 : ((q : Int) * 7 + 3) % (bs.length : Int) < (bs.length : Int) := Int.emod_lt_of_pos _ (by omega)
    have hi5 : 0 ≤ (q : Int) / (bs.length : Int) := Int.ediv_nonneg (by omega) (by omega)
    have hi6 : (q : Int) / (bs.length : Int) ≤ (q : Int) := Int.ediv_le_self _ (by omega)
    clear hc hbd
    go_enter Try.func47, Try.ntmps47
    go_wp2
    go_ret
    exact ⟨nth bs q % n, rfl, h1, fun _ => h2, fun h => by omega, HR.out, HG.out⟩
  · have hm1 : q % bs.length < bs.length := Nat.mod_lt _ hl3
    have hm2 : (q * 7 + 3) % bs.length < bs.length := Nat.mod_lt _ hl3
    have hcq := hc _ hm1
    have hcr := hc _ hm2
    have hb1 := hbd (q % bs.length)
    have hb2 := hbd ((q * 7 + 3) % bs.length)
    have hi1 : 0 ≤ (q : Int) % (bs.length : Int) := Int.emod_nonneg _ (by omega)
    have hi2 : (q : Int) % (bs.length : Int) < (bs.length : Int) := Int.emod_lt_of_pos _ (by omega)
    have hi3 : 0 ≤ ((q : Int) * 7 + 3) % (bs.length : Int) := Int.emod_nonneg _ (by omega)
    have hi4 : ((q : Int) * 7 + 3) % (bs.length : Int) < (bs.length : Int) := Int.emod_lt_of_pos _ (by omega)
    have hi5 : 0 ≤ (q : Int) / (bs.length : Int) := Int.ediv_nonneg (by omega) (by omega)
    have hi6 : (q : Int) / (bs.length : Int) ≤ (q : Int) := Int.ediv_le_self _ (by omega)
    clear hc hbd
    go_enter Try.func47, Try.ntmps47
    go_wp2
    go_quiet (fail)
    go_wp2
    go_ret
    have hm := mixed_nn (nth bs (q % bs.length) * 131 + nth bs ((q * 7 + 3) % bs.length) * 1117 + (q : Int) * 29 + (q : Int) / (bs.length : Int) * 53) (by omega) (by omega)
    have ht := tmod_in _ n hm.1 (by omega)
    exact ⟨_, rfl, ht.1, fun _ => ht.2, fun h => by omega, HR.out.drewN nq, only_drewN HG.out nq⟩

/-- odd: true or false, one pick at most. -/
def OddPost (w : World) (lim g : Nat) (N : Int) (e : Ending) (w' : World) : Prop :=
  ∃ b : Bool, e = .returned (.bool b) ∧ Rdr w' lim g (N + 1) ∧ w.grownBy w' (some g)

theorem odd_any (lim g : Nat) (N n : Int) (w : World) (h : Rdr w lim g N) (hN : N ≤ 1000000000) (hn : n ≤ 1000000000) :
    Calls Try.prog 60 #[.pointer (some ⟨g, 0, none⟩), vi n] w (OddPost w lim g N) := by
  have HP := Lib.hid (pick_any lim g N n w h hN)
  by_cases h0 : 0 < n
  · go_enter Try.func60, Try.ntmps60
    go_wp2_with fail
    refine HP.out.mono ?_
    rintro e w1 ⟨x, rfl, hx0, hx1, _, hr, hg⟩
    have HR := Lib.hid hr
    have HG := Lib.hid hg
    clear hr hg HP h
    go_wp2
    go_ret
    exact ⟨_, rfl, HR.out, HG.out⟩
  · have HR := Lib.hid h
    clear HP h
    go_enter Try.func60, Try.ntmps60
    go_wp2
    go_ret
    exact ⟨_, rfl, HR.out.mono (by omega), World.grownBy.refl _ _⟩

/-- A new reader. -/
def OpenPost (w : World) (e : Ending) (w' : World) : Prop :=
  e = .returned (.pointer (some ⟨w.heap.size, 0, none⟩)) ∧ Rdr w' w.heap.size w.heap.size 0 ∧ Below w.heap.size w w' ∧ w'.heap.size = w.heap.size + 1

theorem open_any (A : Option Addr) (c : Nat) (l : List Int) (w : World) (h : RdB w w.heap.size A l) (hcap : l.length ≤ c) :
    Calls Try.prog 44 #[.slice A l.length c] w (OpenPost w) := by
  have HR := Lib.hid h
  clear h
  by_cases hl : 2000 < l.length
  · have hlen : Hid ((l.take 2000).length = 2000) := Lib.hid (by simp; omega)
    go_enter Try.func44, Try.ntmps44
    go_wp2
    go_ret
    refine ⟨rfl, ⟨Nat.le_refl _, A, c, l.take 2000, 0, by rw [hlen.out]; exact heap_alloc_new w _, by omega, by omega, by rw [hlen.out]; omega, (HR.out.take 2000).keep fun b hb => Below.heap_alloc w _ b hb⟩, (Below.refl _ _).alloc (Nat.le_refl _) _, by simp⟩
  · go_enter Try.func44, Try.ntmps44
    go_wp2
    go_ret
    exact ⟨rfl, ⟨Nat.le_refl _, A, c, l, 0, heap_alloc_new w _, by omega, by omega, by omega, HR.out.keep fun b hb => Below.heap_alloc w _ b hb⟩, (Below.refl _ _).alloc (Nat.le_refl _) _, by simp⟩

/-- A row of the call's own is kept while an older block is written. -/
theorem OwnI.farG {w w' : World} {base n c g : Nat} {A : Option Addr} {l : List Int} (h : OwnI w base A n c l) (hg : w.grownBy w' (some g)) (hlt : g < base) : OwnI w' base A n c l :=
  h.far hg fun k e e2 => by
    have := h.in_ k (.inl e)
    injection e2 with e2
    omega
/-- What was there and is not block g stays. -/
theorem grown_below {a w w' : World} {g : Nat} (h : a.grownBy w (some g)) (hb : Below w.heap.size w w') : a.grownBy w' (some g) :=
  ⟨hb.os.trans h.os, hb.tape.trans h.tape, hb.output.trans h.output, Nat.le_trans h.size hb.size, fun i hi hn => (hb.block i (Nat.lt_of_lt_of_le hi h.size)).trans (h.block i hi hn)⟩
/-- .. while a row beyond is written or grows. -/
theorem grown_past {a w w' : World} {g : Nat} {row : Option Nat} (h : a.grownBy w (some g)) (hg : w.grownBy w' row) (hr : ∀ k, row = some k → a.heap.size ≤ k) : a.grownBy w' (some g) :=
  ⟨hg.os.trans h.os, hg.tape.trans h.tape, hg.output.trans h.output, Nat.le_trans h.size hg.size, fun i hi hn => (hg.block i (Nat.lt_of_lt_of_le hi h.size) (fun e => by have := hr i e.symm; omega)).trans (h.block i hi hn)⟩
theorem grown_alloc {a w : World} {g : Nat} (h : a.grownBy w (some g)) (o : Obj) : a.grownBy (w.alloc o) (some g) := grown_below h ((Below.refl _ _).alloc (Nat.le_refl _) _)
/-- The whole call, its reader being new: nothing that was there has turned. -/
theorem grown_all {a w w' : World} {g : Nat} (h : Below a.heap.size a w) (hg : w.grownBy w' (some g)) (hlt : a.heap.size ≤ g) : Below a.heap.size a w' :=
  h.grown hg h.size fun k e => by injection e with e; omega

/-- A draw of a list of numbers, of lo to hi of them. -/
def DrawI (w : World) (lim g : Nat) (N M : Int) (lo hi : Nat) (e : Ending) (w' : World) : Prop :=
  ∃ (A : Option Addr) (c : Nat) (l : List Int), e = .returned (.slice A l.length c) ∧ OwnI w' w.heap.size A l.length c l ∧ lo ≤ l.length ∧ l.length ≤ hi ∧ Rdr w' lim g (N + M) ∧ w.grownBy w' (some g)
end Go.Proofs.Ytjhbmikohcbkkaa
