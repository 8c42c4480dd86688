/-
  Contracts: slices of slices of ints are copied and compared.
-/
import Derived.Test.YtpabfbaoibmnlaaMat
import Derived.Test.YtpabfbaoibmnlaaPair
namespace Go.Proofs.Ytpabfbaoibmnlaa
open Go.RowKit
set_option linter.unusedVariables false
set_option maxRecDepth 100000

theorem rowsInfo : (Try.prog.info? 30).map (fun i => (i.zero, i.size, i.bytes)) = some (some (.slice none 0 0), 1, 24) := by kernel_rfl
/-- make([][]int, n) -/
theorem make_rows (n : Nat) (h : n ≤ 1000000000) (w : World) :
    (Instr.makeSlice 22 (.int .i64 (n : Int)) (.int .i64 (n : Int))).run Try.prog w = .ok (.slice (some ⟨w.heap.size, 0, none⟩) n n) (w.alloc (.cells (madeCells #[.slice none 0 0] n) 30)) := by
  obtain ⟨i0, hi, hz0, hz1, hz2⟩ := info_parts rowsInfo
  have hr := run_make (P := Try.prog) w 22 30 i0 _ Try.underlying22 hi hz0 .i64 .i64 (n : Int) (n : Int) (by omega) (by omega) (by rw [hz2]; omega) (by omega)
  rw [hz1] at hr
  simp only [Int.toNat_natCast, Nat.mul_one, Value.cells] at hr
  exact hr
section
variable {w w' : World} {base n c g : Nat} {A : Option Addr} {R : List Rw}
theorem Own.cellR (h : Own encR 30 w base (some ⟨g, 0, none⟩) n c R) (k : Nat) (hk : k < n) : w.cell? ⟨g, k, none⟩ = some (.slice (nth R k).1 (nth R k).2.1 (nth R k).2.2) := by
  have := h.cell k 0 hk (u := .slice (nth R k).1 (nth R k).2.1 (nth R k).2.2) rfl
  simpa [encR] using this
theorem Own.putR (h : Own encR 30 w base (some ⟨g, 0, none⟩) n c R) (k : Nat) (hk : k < n) (r : Rw) :
    Own encR 30 (w.setCell ⟨g, k, none⟩ (.slice r.1 r.2.1 r.2.2)) base (some ⟨g, 0, none⟩) n c (R.set k r) ∧ w.grownBy (w.setCell ⟨g, k, none⟩ (.slice r.1 r.2.1 r.2.2)) (some g) := by
  have := h.put k 0 hk (by simp [encR]) r (.slice r.1 r.2.1 r.2.2) rfl
  simpa [encR] using this
end

/-- A slice of ints and a slice of slices do not lie in one block. -/
theorem apartTy {w : World} {base base' n c m d g b : Nat} {R : List Rw} {l : List Int} (h : Own encR 30 w base (some ⟨g, 0, none⟩) n c R) (k : OwnI w base' (some ⟨b, 0, none⟩) m d l) : b ≠ g := by
  intro e
  subst e
  rcases h.2 with ⟨e1, _⟩ | ⟨g1, cap1, cur1, e1, _, hh1, _⟩
  · cases e1
  · rcases k.2 with ⟨e2, _⟩ | ⟨g2, cap2, cur2, e2, _, hh2, _⟩
    · cases e2
    · injection e1 with e1 _ _
      injection e1 with e1
      injection e1 with e1
      injection e2 with e2 _ _
      injection e2 with e2
      injection e2 with e2
      subst e1
      subst e2
      rw [hh1] at hh2
      injection hh2 with hh2
      injection hh2 with _ hh2 _
      cases hh2
/-- The first m rows, told by R, are the call's own, each in a block of its own. -/
def RowsOwn (w : World) (base : Nat) (R : List Rw) (L : List (List Int)) (m : Nat) : Prop :=
  ∀ k, k < m → (nth R k).2.1 = (nth L k).length ∧ OwnI w base (nth R k).1 (nth L k).length (nth R k).2.2 (nth L k) ∧
    ∀ b, (nth R k).1 = some ⟨b, 0, none⟩ → ∀ j, j < m → j ≠ k → (nth R j).1 ≠ some ⟨b, 0, none⟩
section
variable {w w' : World} {base n c g : Nat} {A : Option Addr} {R R' : List Rw} {L L' : List (List Int)} {m : Nat}
theorem RowsOwn.below (h : RowsOwn w base R L m) (hb : Below w.heap.size w w') : RowsOwn w' base R L m := fun k hk => ⟨(h k hk).1, (h k hk).2.1.below hb, (h k hk).2.2⟩
theorem RowsOwn.mono (h : RowsOwn w base R L m) {b' : Nat} (hb : b' ≤ base) : RowsOwn w b' R L m := fun k hk => ⟨(h k hk).1, (h k hk).2.1.mono hb, (h k hk).2.2⟩
theorem RowsOwn.same (h : RowsOwn w base R L m) (he : ∀ k, k < m → nth R' k = nth R k) (hL : ∀ k, k < m → nth L' k = nth L k) : RowsOwn w base R' L' m := fun k hk => by
  rw [he k hk, hL k hk]
  obtain ⟨h1, h2, h3⟩ := h k hk
  exact ⟨h1, h2, fun b hb j hj hne => by rw [he j hj]; exact h3 b hb j hj hne⟩
/-- It is kept while a block that is no row's is written. -/
theorem RowsOwn.far (h : RowsOwn w base R L m) {row : Option Nat} (hg : w.grownBy w' row) (hne : ∀ k, k < m → ∀ b, (nth R k).1 = some ⟨b, 0, none⟩ → some b ≠ row) : RowsOwn w' base R L m := fun k hk => by
  obtain ⟨h1, h2, h3⟩ := h k hk
  exact ⟨h1, h2.far hg (fun b hb => hne k hk b hb), h3⟩
theorem RowsOwn.farG (h : RowsOwn w base R L m) (hg : w.grownBy w' (some g)) (hlt : g < base) : RowsOwn w' base R L m :=
  h.far hg fun k hk b hb e => by
    have := ((h k hk).2.1.in_ b (.inl hb)).1
    injection e with e
    omega
theorem RowsOwn.farO (h : RowsOwn w base R L m) {base' : Nat} {Ro : List Rw} (ho : Own encR 30 w base' (some ⟨g, 0, none⟩) n c Ro) (hg : w.grownBy w' (some g)) : RowsOwn w' base R L m :=
  h.far hg fun k hk b hb e => by
    injection e with e
    subst e
    have h2 := (h k hk).2.1
    rw [hb] at h2
    exact apartTy ho h2 rfl
theorem RowsOwn.zero : RowsOwn w base R L 0 := fun k hk => absurd hk (by omega)
theorem RowsOwn.lt (h : RowsOwn w base R L m) : ∀ k, k < m → ∀ b, (nth R k).1 = some ⟨b, 0, none⟩ → b < w.heap.size := fun k hk b hb => ((h k hk).2.1.in_ b (.inl hb)).2
/-- One row more, newer than all. -/
theorem RowsOwn.snoc (h : RowsOwn w base R L m) {N : Nat} (hlt : ∀ k, k < m → ∀ b, (nth R k).1 = some ⟨b, 0, none⟩ → b < N) (hbs : base ≤ N)
    (e : nth R m = (A, (nth L m).length, c)) (ho : OwnI w N A (nth L m).length c (nth L m)) : RowsOwn w base R L (m + 1) := fun k hk => by
  have hnew : ∀ b, A = some ⟨b, 0, none⟩ → N ≤ b := fun b hb => (ho.in_ b (.inl hb)).1
  rcases Nat.lt_succ_iff_lt_or_eq.1 hk with h1 | rfl
  · obtain ⟨h2, h3, h4⟩ := h k h1
    refine ⟨h2, h3, fun b hb j hj hne => ?_⟩
    rcases Nat.lt_succ_iff_lt_or_eq.1 hj with h5 | rfl
    · exact h4 b hb j h5 hne
    · rw [e]
      intro e2
      have := hnew b e2
      have := hlt k h1 b hb
      omega
  · rw [e]
    refine ⟨rfl, ho.mono hbs, fun b hb j hj hne e2 => ?_⟩
    have := hnew b hb
    have := hlt j (by omega) b e2
    omega
end
/-- A slice of slices of the call's own. -/
def OwnM (w : World) (base : Nat) (A : Option Addr) (n c : Nat) (L : List (List Int)) : Prop :=
  L.length = n ∧ ∃ (R : List Rw), Own encR 30 w base A n c R ∧ RowsOwn w base R L n
section
variable {w w' : World} {base n c g : Nat} {A : Option Addr} {L : List (List Int)}
theorem OwnM.below (h : OwnM w base A n c L) (hb : Below w.heap.size w w') : OwnM w' base A n c L := by
  obtain ⟨h1, R, h3, h4⟩ := h
  exact ⟨h1, R, h3.below hb, h4.below hb⟩
theorem OwnM.mono (h : OwnM w base A n c L) {b' : Nat} (hb : b' ≤ base) : OwnM w b' A n c L := by
  obtain ⟨h1, R, h3, h4⟩ := h
  exact ⟨h1, R, h3.mono hb, h4.mono hb⟩
theorem OwnM.rd (h : OwnM w base A n c L) : RdM w A L := by
  obtain ⟨h1, R, h3, h4⟩ := h
  subst h1
  exact ⟨R, h3.len, h3.rd, fun k hk => ⟨(h4 k hk).1, (h4 k hk).2.1.rd⟩⟩
theorem OwnM.in_ (h : OwnM w base A n c L) : ∀ g, A = some ⟨g, 0, none⟩ ∨ A.map (·.block) = some g → base ≤ g ∧ g < w.heap.size := by
  obtain ⟨h1, R, h3, h4⟩ := h
  exact h3.in_
theorem OwnM.cap (h : OwnM w base A n c L) : n ≤ c ∧ c ≤ maxLen := by
  obtain ⟨h1, R, h3, h4⟩ := h
  exact h3.cap
theorem OwnM.farG (h : OwnM w base A n c L) (hg : w.grownBy w' (some g)) (hlt : g < base) : OwnM w' base A n c L := by
  obtain ⟨h1, R, h3, h4⟩ := h
  exact ⟨h1, R, h3.farG hg hlt, h4.farG hg hlt⟩
end
/-- .. all of whose blocks lie below hi. -/
def OwnMB (w : World) (base hi : Nat) (A : Option Addr) (n c : Nat) (L : List (List Int)) : Prop :=
  L.length = n ∧ ∃ (R : List Rw), Own encR 30 w base A n c R ∧ RowsOwn w base R L n ∧ ∀ k, k < n → ∀ b, (nth R k).1 = some ⟨b, 0, none⟩ → b < hi
section
variable {w w' : World} {base hi n c g : Nat} {A : Option Addr} {L : List (List Int)}
theorem OwnMB.own (h : OwnMB w base hi A n c L) : OwnM w base A n c L := by
  obtain ⟨h1, R, h3, h4, _⟩ := h
  exact ⟨h1, R, h3, h4⟩
theorem OwnMB.below (h : OwnMB w base hi A n c L) (hb : Below w.heap.size w w') : OwnMB w' base hi A n c L := by
  obtain ⟨h1, R, h3, h4, h5⟩ := h
  exact ⟨h1, R, h3.below hb, h4.below hb, h5⟩
theorem OwnMB.rd (h : OwnMB w base hi A n c L) : RdM w A L := h.own.rd
theorem OwnMB.in_ (h : OwnMB w base hi A n c L) : ∀ g, A = some ⟨g, 0, none⟩ ∨ A.map (·.block) = some g → base ≤ g ∧ g < w.heap.size := h.own.in_
theorem OwnMB.cap (h : OwnMB w base hi A n c L) : n ≤ c ∧ c ≤ maxLen := h.own.cap
end
/-- A call that hands back a new slice of slices. -/
def NewM (w : World) (L : List (List Int)) (e : Ending) (w' : World) : Prop :=
  ∃ A c, e = .returned (.slice A L.length c) ∧ OwnMB w' w.heap.size w'.heap.size A L.length c L ∧ Below w.heap.size w w'

set_option maxHeartbeats 1000000 in
theorem toIntSS_any (A : Option Addr) (c : Nat) (L : List (List Int)) (w : World) (h : RdM w A L) (hl : L.length ≤ 1048576) (hr : ∀ k, k < L.length → (nth L k).length ≤ 1048576) :
    Calls Try.prog 15 #[.slice A L.length c] w (NewM w L) := by
  have hmk := make_rows L.length (by omega)
  have HZ := Lib.hid (Own.made (e := encR) (E := 30) w #[.slice none 0 0] rfl L.length (by simp only [maxLen]; omega))
  rw [show L.length * encR.s = L.length by simp [encR]] at HZ
  go_enter Try.func15, Try.ntmps15
  go_wp2
  clear hmk
  go_loopw [4] (fun i wr => ∃ (k : Nat) (R : List Rw), k ≤ L.length ∧ i = vi k ∧ Own encR 30 wr w.heap.size (some ⟨w.heap.size, 0, none⟩) L.length L.length R ∧ RowsOwn wr w.heap.size R L k ∧ Below w.heap.size w wr)
    (fun i _ => L.length - (intOf i).toNat)
  case atStart => exact ⟨0, _, Nat.zero_le _, rfl, HZ.out, RowsOwn.zero, (Below.refl _ _).alloc (Nat.le_refl _) _⟩
  case round =>
    obtain ⟨k, R, hk, rfl, ho, hro, hb⟩ := hrel
    have HO := Lib.hid ho
    have HR := Lib.hid hro
    have HB := Lib.hid hb
    have hsz := hb.size
    have hgs := (ho.in_ _ (.inl rfl)).2
    by_cases hlt : k < L.length
    · obtain ⟨b, o, B, cc, rfl, hbl, hc, hri⟩ := (h.below hb).at_ hlt
      have hrl := hr k hlt
      clear ho hro hb HZ
      go_wp2_with fail
      refine (toIntS_any B cc (nth L k) wr hri hrl).mono ?_
      rintro e w2 ⟨A2, c2, rfl, ho2, hb2⟩
      have HO2 := Lib.hid (HO.out.below hb2)
      have hq := HO2.out.cellR k hlt
      have hf := HO2.out.frozen k
      have HP := Lib.hid (HO2.out.putR k hlt (A2, (nth L k).length, c2))
      have HB2 := Lib.hid (bthen HB.out hb2)
      have HRn : Hid (RowsOwn w2 w.heap.size (R.set k (A2, (nth L k).length, c2)) L (k + 1)) := Lib.hid (by
        have hlR : k < R.length := by rw [HO.out.len]; exact hlt
        have e1 : ∀ j, j < k → nth (R.set k (A2, (nth L k).length, c2)) j = nth R j := fun j hj => by rw [nth_set _ _ _ _ hlR, if_neg (by omega)]
        have e2 : nth (R.set k (A2, (nth L k).length, c2)) k = (A2, (nth L k).length, c2) := by rw [nth_set _ _ _ _ hlR, if_pos rfl]
        exact RowsOwn.snoc ((HR.out.below hb2).same e1 (fun _ _ => rfl)) (fun j hj b hb => by rw [e1 j hj] at hb; exact HR.out.lt j hj b hb) hsz e2 ho2)
      clear ho2 hb2 hri hc h
      go_wp2
      go_roundw
      case rel => exact ⟨k + 1, R.set k (A2, (nth L k).length, c2), by omega, by go_num, HP.out.1, HRn.out.farO HO2.out HP.out.2, HB2.out.setCell (Nat.le_refl _) _⟩
      case measure => simp [intOf]; omega
    · obtain rfl : k = L.length := by omega
      clear HZ
      go_wp2
      go_ret
      exact ⟨_, _, rfl, ⟨rfl, R, HO.out, HR.out, HR.out.lt⟩, HB.out⟩

theorem eqIntSS_any (A B : Option Addr) (c d : Nat) (L : List (List Int)) (w : World) (h : RdM w A L) (hm : RdM w B L) (hl : Small L) :
    Calls Try.prog 17 #[.slice A L.length c, .slice B L.length d] w fun e w' => e = .returned (.bool true) ∧ Below w.heap.size w w' := by
  obtain ⟨hl1, hl2⟩ := hl
  have HL2 := Lib.hid hl2
  clear hl2
  go_enter Try.func17, Try.ntmps17
  go_wp2
  go_loopw [5] (fun i wr => ∃ k : Nat, k ≤ L.length ∧ i = vi k ∧ ∃ n, wr = w.drewN n) (fun i _ => L.length - (intOf i).toNat)
  case atStart => exact ⟨0, Nat.zero_le _, rfl, 0, rfl⟩
  case round =>
    obtain ⟨k, hk, rfl, hwr⟩ := hrel
    have HB : Hid (Below w.heap.size w wr) := Lib.hid (by obtain ⟨n, rfl⟩ := hwr; exact below_drewN (Below.refl _ _) n)
    have h := h.below HB.out
    have hm := hm.below HB.out
    have HW := Lib.hid hwr
    clear hwr
    by_cases hlt : k < L.length
    · have hlk := HL2.out k hlt
      obtain ⟨b, o, B1, cc, rfl, hb, hc, hri⟩ := h.at_ hlt
      obtain ⟨b2, o2, B2, cc2, rfl, hb2, hc2, hri2⟩ := hm.at_ hlt
      have hq : ∀ m, Calls Try.prog 23 #[.slice B1 (nth L k).length cc, .slice B2 (nth L k).length cc2] (wr.drewN m) fun e w' => e = .returned (.bool true) ∧ ∃ n, w' = wr.drewN n := fun m => by
        have := eqIntS_any B1 B2 cc cc2 (nth L k) (nth L k) (wr.drewN m) (hri.drewN m) (hri2.drewN m) hlk hlk
        rw [same_self] at this
        exact this.mono fun _ _ ⟨he, n, hn⟩ => ⟨he, m + n, by rw [hn]; simp⟩
      have HQ := Lib.hid hq
      clear hq hri hri2 h hm
      go_wp2
      go_quiet ((go_at_call 23; exact HQ.out _))
      have HW2 : Hid (∃ n, wr.drewN nq = w.drewN n) := Lib.hid (by obtain ⟨n, hn⟩ := HW.out; exact ⟨n + nq, by rw [hn]; simp⟩)
      go_wp2
      go_roundw
      case rel => exact ⟨k + 1, by omega, by go_num, HW2.out⟩
      case measure => simp [intOf]; omega
    · go_wp2
      go_ret
      exact ⟨rfl, HB.out⟩
end Go.Proofs.Ytpabfbaoibmnlaa
