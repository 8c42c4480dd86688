/-
  Plain words for memory: a slice that reads as a list of numbers; a slice that a call made itself; what is kept over later steps. No program is named here.
-/
import Derived.WalkKit
import Derived.Below
import Derived.Lib.Hide
import Derived.Deep.Draws
namespace Go.Proofs.Ytjhbmikohcbkkaa
open Go.RowKit
set_option linter.unusedVariables false
set_option maxRecDepth 100000

/-- Place k of a list (the default beyond its end); closed to the walk. -/
def nth {α : Type} [Inhabited α] (l : List α) (k : Nat) : α := l.getD k default

section
variable {α : Type}
/-- The sum of f over a list. -/
def sumBy (f : α → Int) : List α → Int
  | [] => 0
  | x :: t => f x + sumBy f t
theorem sumBy_append (f : α → Int) (l m : List α) : sumBy f (l ++ m) = sumBy f l + sumBy f m := by
  induction l with
  | nil => simp [sumBy]
  | cons x t ih => simp only [List.cons_append, sumBy, ih]; omega
theorem sumBy_nonneg (f : α → Int) (l : List α) (h : ∀ x ∈ l, 0 ≤ f x) : 0 ≤ sumBy f l := by
  induction l with
  | nil => simp [sumBy]
  | cons y t ih =>
    have := h y (by simp)
    have := ih fun x hx => h x (by simp [hx])
    simp only [sumBy]; omega
theorem sumBy_le (f : α → Int) (l : List α) (b : Int) (h : ∀ x ∈ l, f x ≤ b) : sumBy f l ≤ b * l.length := by
  induction l with
  | nil => simp [sumBy]
  | cons y t ih =>
    have h1 := h y (by simp)
    have h2 := ih fun x hx => h x (by simp [hx])
    simp only [sumBy, List.length_cons]
    rw [Int.natCast_add, Int.mul_add]; omega
end

section
variable {α : Type} [Inhabited α]
theorem nth_eq (l : List α) (k : Nat) (h : k < l.length) : nth l k = l[k] := by simp [nth, List.getD, h]
theorem nth_mem (l : List α) (k : Nat) (h : k < l.length) : nth l k ∈ l := by rw [nth_eq l k h]; exact List.getElem_mem h
theorem nth_take (l : List α) (k n : Nat) (h : k < n) : nth (l.take n) k = nth l k := by
  simp [nth, h]
theorem nth_drop (l : List α) (k n : Nat) : nth (l.drop n) k = nth l (n + k) := by
  simp [nth, List.getD]
theorem nth_set (l : List α) (i j : Nat) (x : α) (h : i < l.length) : nth (l.set i x) j = if i = j then x else nth l j := by
  simp only [nth, List.getD, List.getElem?_set]
  split
  · rename_i e; subst e; simp
  · rfl
theorem take_snoc (l : List α) (k : Nat) (h : k < l.length) : l.take (k + 1) = l.take k ++ [nth l k] := by
  rw [List.take_succ_eq_append_getElem h, nth_eq l k h]
theorem ext_nth {l m : List α} (hl : l.length = m.length) (h : ∀ k, k < l.length → nth l k = nth m k) : l = m := by
  apply List.ext_getElem hl
  intro k h1 h2
  have := h k h1
  rwa [nth_eq l k h1, nth_eq m k h2] at this
theorem all_nth {p : α → Bool} {l : List α} (h : ∀ k, k < l.length → p (nth l k) = true) : l.all p = true := by
  rw [List.all_eq_true]
  intro x hx
  obtain ⟨k, hk, rfl⟩ := List.getElem_of_mem hx
  have := h k hk
  rwa [nth_eq l k hk] at this
theorem all_nth_inv {p : α → Bool} {l : List α} (h : l.all p = true) (k : Nat) (hk : k < l.length) : p (nth l k) = true :=
  List.all_eq_true.1 h _ (nth_mem l k hk)
theorem all_no {p : α → Bool} {l : List α} (k : Nat) (hk : k < l.length) (h : p (nth l k) = false) : l.all p = false := by
  rw [List.all_eq_false]
  exact ⟨_, nth_mem l k hk, by simp [h]⟩
theorem any_nth {p : α → Bool} {l : List α} (k : Nat) (hk : k < l.length) (h : p (nth l k) = true) : l.any p = true := by
  rw [List.any_eq_true]
  exact ⟨_, nth_mem l k hk, h⟩
theorem any_no {p : α → Bool} {l : List α} (h : ∀ k, k < l.length → p (nth l k) = false) : l.any p = false := by
  rw [List.any_eq_false]
  intro x hx
  obtain ⟨k, hk, rfl⟩ := List.getElem_of_mem hx
  have := h k hk
  rw [nth_eq l k hk] at this
  simp [this]

theorem sumBy_take (f : α → Int) (l : List α) (k : Nat) (h : k < l.length) : sumBy f (l.take (k + 1)) = sumBy f (l.take k) + f (nth l k) := by
  rw [take_snoc l k h, sumBy_append]; simp [sumBy]
theorem sumBy_set (f : α → Int) (l : List α) (k : Nat) (x : α) (h : k < l.length) : sumBy f (l.set k x) = sumBy f l - f (nth l k) + f x := by
  induction l generalizing k with
  | nil => simp at h
  | cons y t ih =>
    cases k with
    | zero => simp only [List.set_cons_zero, sumBy, nth, List.getD, List.getElem?_cons_zero, Option.getD_some]; omega
    | succ k =>
      have := ih k (by simpa using h)
      simp only [List.set_cons_succ, sumBy, this]
      have e : nth (y :: t) (k + 1) = nth t k := by simp [nth, List.getD]
      rw [e]; omega
end

/-- n lies in a..b -/
def win (n a b : Int) : Bool := decide (a ≤ n) && decide (n ≤ b)
theorem win_t {n a b : Int} (h : win n a b = true) : a ≤ n ∧ n ≤ b := by simpa [win] using h
theorem win_f {n a b : Int} (h : win n a b = false) : n < a ∨ b < n := by
  simp only [win, Bool.and_eq_false_iff, decide_eq_false_iff_not] at h; omega
theorem win_mk {n a b : Int} (h1 : a ≤ n) (h2 : n ≤ b) : win n a b = true := by simp [win, h1, h2]
theorem win_lo {n a b : Int} (h : n < a) : win n a b = false := by simp [win]; omega
theorem win_hi {n a b : Int} (h : b < n) : win n a b = false := by simp [win]; omega

/-- An int as a value. -/
abbrev vi (x : Int) : Value := .int .i64 x

/-- The slice with this address reads as the numbers l. -/
def RdI (w : World) (A : Option Addr) (l : List Int) : Prop :=
  0 < l.length → ∃ b o, A = some ⟨b, o, none⟩ ∧ b < w.heap.size ∧ ∀ k, k < l.length → w.cell? ⟨b, o + k, none⟩ = some (vi (nth l k))

section
variable {w w' : World} {A : Option Addr} {l : List Int} {B : Nat}

theorem RdI.nil_ : RdI w A [] := fun h => absurd h (by simp)
theorem RdI.keep (h : RdI w A l) (hs : w.heap.size ≤ w'.heap.size) (hk : ∀ b o, A = some ⟨b, o, none⟩ → b < w.heap.size → w'.heap[b]? = w.heap[b]?) : RdI w' A l := fun hn => by
  obtain ⟨b, o, rfl, hb, hc⟩ := h hn
  exact ⟨b, o, rfl, Nat.lt_of_lt_of_le hb hs, fun k hk' => (World.cell?_of_block (hk b o rfl hb)).trans (hc k hk')⟩
theorem RdI.below (h : RdI w A l) (hb : Below w.heap.size w w') : RdI w' A l := h.keep hb.size fun _ _ _ h => hb.block _ h
theorem RdI.drewN (h : RdI w A l) (n : Nat) : RdI (w.drewN n) A l := h
theorem RdI.take (h : RdI w A l) (n : Nat) : RdI w A (l.take n) := fun hn => by
  have hl : (l.take n).length ≤ l.length := List.length_take_le' _ _
  obtain ⟨b, o, e, hb, hc⟩ := h (by omega)
  refine ⟨b, o, e, hb, fun k hk => ?_⟩
  rw [hc k (by omega)]
  have : nth (l.take n) k = nth l k := by
    rw [nth_eq _ _ hk, nth_eq _ _ (by omega)]; simp
  rw [this]


theorem below_drewN {a b : World} (h : Below B a b) (n : Nat) : Below B a (b.drewN n) := ⟨h.os, h.tape, h.output, h.size, h.block⟩
theorem drew_ex {w : World} {a b : Nat} : ∃ n, (w.drewN a).drewN b = w.drewN n := ⟨a + b, by simp⟩
/-- one step behind another, each counted from its own start -/
theorem bthen {a b c : World} (h : Below a.heap.size a b) (k : Below b.heap.size b c) : Below a.heap.size a c := h.trans (k.mono h.size)
end

/-- A slice of n ints that lies at the head of a block of its own, from block 'base' on. -/
def OwnI (w : World) (base : Nat) (A : Option Addr) (n c : Nat) (l : List Int) : Prop :=
  w.ownsRow base 3 1 (.slice A n c) n (l.map vi)

section
variable {w w' : World} {A : Option Addr} {l : List Int} {base n c B : Nat}

theorem OwnI.len (h : OwnI w base A n c l) : l.length = n := by have := h.1; simpa using this

theorem OwnI.mono (h : OwnI w base A n c l) {b' : Nat} (hb : b' ≤ base) : OwnI w b' A n c l := by
  refine ⟨h.1, ?_⟩
  rcases h.2 with h2 | ⟨g, cap, cur, e, hg, r⟩
  · exact .inl h2
  · exact .inr ⟨g, cap, cur, e, Nat.le_trans hb hg, r⟩

theorem OwnI.form (h : OwnI w base A n c l) : (A = none ∧ l = []) ∨ ∃ g, A = some ⟨g, 0, none⟩ ∧ base ≤ g ∧ g < w.heap.size := by
  have hl := h.len
  rcases h.2 with ⟨e, h2⟩ | ⟨g, cap, cur, e, hg, hh, _⟩
  · injection e with e1; exact .inl ⟨e1, List.eq_nil_of_length_eq_zero (by omega)⟩
  · injection e with e1; exact .inr ⟨g, e1, hg, (Array.getElem?_eq_some_iff.1 hh).1⟩

theorem OwnI.cap (h : OwnI w base A n c l) : n ≤ c ∧ c ≤ maxLen := by
  rcases h.2 with ⟨e, h2⟩ | ⟨g, cap, cur, e, hg, hh, hc, hm, _⟩
  · injection e with e1 e2 e3; subst e3; exact ⟨by omega, by simp [maxLen]⟩
  · injection e with e1 e2 e3; subst e3; exact ⟨hc, hm⟩

theorem OwnI.rd (h : OwnI w base A n c l) : RdI w A l := fun hn => by
  have hl := h.len
  rcases h.form with ⟨_, e⟩ | ⟨g, rfl, hg, hlt⟩
  · subst e; simp at hn
  · refine ⟨g, 0, rfl, hlt, fun k hk => ?_⟩
    have := World.ownsRow.cells h (g := g) rfl k (vi (nth l k)) (by simp [nth_eq l k hk, hk])
    simpa [Addr.add_lit] using this

theorem OwnI.kept (h : OwnI w base A n c l) (hs : w.heap.size ≤ w'.heap.size) (hk : ∀ g, base ≤ g → g < w.heap.size → A = some ⟨g, 0, none⟩ → w'.heap[g]? = w.heap[g]?) : OwnI w' base A n c l := by
  refine ⟨h.1, ?_⟩
  rcases h.2 with h2 | ⟨g, cap, cur, e, hg, hh, r⟩
  · exact .inl h2
  · refine .inr ⟨g, cap, cur, e, hg, ?_, r⟩
    injection e with e1
    rw [hk g hg (Array.getElem?_eq_some_iff.1 hh).1 e1]; exact hh

theorem OwnI.below (h : OwnI w base A n c l) (hb : Below w.heap.size w w') : OwnI w' base A n c l := h.kept hb.size fun g _ hlt _ => hb.block g hlt
theorem OwnI.drewN (h : OwnI w base A n c l) (k : Nat) : OwnI (w.drewN k) base A n c l := h
/-- it is kept while another block is written -/
theorem OwnI.far (h : OwnI w base A n c l) {row : Option Nat} (hg : w.grownBy w' row) (hne : ∀ g, A = some ⟨g, 0, none⟩ → some g ≠ row) : OwnI w' base A n c l :=
  h.kept hg.size fun g _ hlt e => hg.block g hlt (hne g e)
theorem RdI.far (h : RdI w A l) {row : Option Nat} (hg : w.grownBy w' row) (hne : ∀ b o, A = some ⟨b, o, none⟩ → some b ≠ row) : RdI w' A l :=
  h.keep hg.size fun b o e hlt => hg.block b hlt (hne b o e)
theorem OwnI.put {g : Nat} (h : OwnI w base (some ⟨g, 0, none⟩) n c l) (k : Nat) (x : Int) :
    OwnI (w.setCell ⟨g, k, none⟩ (vi x)) base (some ⟨g, 0, none⟩) n c (l.set k x) ∧ w.grownBy (w.setCell ⟨g, k, none⟩ (vi x)) (some g) := by
  have := World.ownsRow.stored h k (vi x)
  refine ⟨?_, this.2⟩
  unfold OwnI
  rw [List.map_set]
  exact this.1
theorem OwnI.frozen {g : Nat} (h : OwnI w base (some ⟨g, 0, none⟩) n c l) (k : Nat) : w.frozen? ⟨g, k, none⟩ = false := World.ownsRow.frozenAt h k
theorem OwnI.cell {g : Nat} (h : OwnI w base (some ⟨g, 0, none⟩) n c l) (k : Nat) (hk : k < n) : w.cell? ⟨g, k, none⟩ = some (vi (nth l k)) := by
  have hl := h.len
  have := World.ownsRow.cellAt h k (by omega)
  have hk' : k < l.length := by omega
  rw [this, nth_eq l k hk']; simp [hk']
theorem OwnI.lt {g o : Nat} (h : OwnI w base (some ⟨g, o, none⟩) n c l) : base ≤ g ∧ g < w.heap.size := by
  rcases h.form with ⟨e, _⟩ | ⟨g', e, h1, h2⟩
  · cases e
  · injection e with e; injection e with e1; subst e1; exact ⟨h1, h2⟩
theorem OwnI.in_ (h : OwnI w base A n c l) : ∀ g, A = some ⟨g, 0, none⟩ ∨ A.map (·.block) = some g → base ≤ g ∧ g < w.heap.size := by
  intro g hg
  rcases h.form with ⟨rfl, _⟩ | ⟨g', rfl, h1, h2⟩
  · rcases hg with e | e <;> cases e
  · rcases hg with e | e
    · injection e with e; injection e with e; omega
    · simp at e; omega
/-- A shorter piece from its head. -/
theorem OwnI.cut (h : OwnI w base A n c l) (k : Nat) (hk : k ≤ n) : 0 < n → OwnI w base A k c (l.take k) := fun hn => by
  have hl := h.len
  refine ⟨by simp; omega, ?_⟩
  rcases h.2 with ⟨e, h2⟩ | ⟨g, cap, cur, e, hg, hh, hc, hm, hs, ht⟩
  · omega
  · injection e with e1 e2 e3
    subst e1; subst e3
    refine .inr ⟨g, c, cur, rfl, hg, hh, by omega, hm, hs, ?_⟩
    rw [List.map_take, ← ht, List.take_take]
    congr 1; omega
/-- What a make leaves. -/
theorem OwnI.made (w : World) (m : Nat) (hm : m ≤ maxLen) : OwnI (w.alloc (.cells (madeCells #[vi 0] m) 3)) w.heap.size (some ⟨w.heap.size, 0, none⟩) m m (List.replicate m 0) := by
  have := World.ownsRow_lit (e := 3) (size := 1) (base := w.heap.size) w (madeCells #[vi 0] m) m (Nat.le_refl _) hm (by rw [size_madeCells]; omega)
  rw [toList_madeCells_one] at this
  unfold OwnI
  rw [List.map_replicate]
  exact this
/-- An empty literal, []int{}. -/
theorem OwnI.none_made (w : World) : OwnI (w.alloc (.cells #[] 3)) w.heap.size (some ⟨w.heap.size, 0, none⟩) 0 0 [] :=
  World.ownsRow_made (size := 1) w #[] 0 (Nat.le_refl _) (by simp [maxLen]) (by simp)
theorem OwnI.nil_ (w : World) (base : Nat) : OwnI w base none 0 0 [] := World.ownsRow_nil w base _ _
theorem OwnI.alloc (h : OwnI w base A n c l) (o : Obj) : OwnI (w.alloc o) base A n c l := World.ownsRow.alloc h o
end

/-- The slice with this address reads as these bytes, and lies below block number lim. -/
def RdB (w : World) (lim : Nat) (A : Option Addr) (l : List Int) : Prop :=
  (∀ k, 0 ≤ nth l k ∧ nth l k ≤ 255) ∧ (0 < l.length → ∃ b o, A = some ⟨b, o, none⟩ ∧ b < lim ∧ ∀ k, k < l.length → w.cell? ⟨b, o + k, none⟩ = some (.int .u8 (nth l k)))
theorem RdB.keep {w w' : World} {lim : Nat} {A : Option Addr} {l : List Int} (h : RdB w lim A l) (hk : ∀ b, b < lim → w'.heap[b]? = w.heap[b]?) : RdB w' lim A l :=
  ⟨h.1, fun hn => by
    obtain ⟨b, o, rfl, hb, hc⟩ := h.2 hn
    exact ⟨b, o, rfl, hb, fun k hk' => (World.cell?_of_block (hk b hb)).trans (hc k hk')⟩⟩
theorem RdB.take {w : World} {lim : Nat} {A : Option Addr} {l : List Int} (h : RdB w lim A l) (n : Nat) : RdB w lim A (l.take n) :=
  ⟨fun k => by
    rcases Nat.lt_or_ge k n with hk | hk
    · rw [nth_take l k n hk]; exact h.1 k
    · have : nth (l.take n) k = 0 := by
        simp only [nth, List.getD, List.getElem?_take, if_neg (Nat.not_lt.2 hk)]; rfl
      rw [this]; omega, fun hn => by
    have hl : (l.take n).length ≤ l.length := List.length_take_le' _ _
    have hl2 : (l.take n).length ≤ n := List.length_take_le _ _
    obtain ⟨b, o, e, hb, hc⟩ := h.2 (by omega)
    exact ⟨b, o, e, hb, fun k hk => by rw [hc k (by omega), nth_take l k n (by omega)]⟩⟩

/-- A literal of one element, []int{x}. -/
theorem RdI.one (w : World) (x : Int) : RdI (w.alloc (.cells #[vi x] 3)) (some ⟨w.heap.size, 0, none⟩) [x] := fun _ =>
  ⟨w.heap.size, 0, rfl, by simp, fun k hk => by
    obtain rfl : k = 0 := by simpa using hk
    rw [World.cell?_alloc_at _ _ _ _ rfl]; rfl⟩
theorem RdI.alloc {w : World} {A : Option Addr} {l : List Int} (h : RdI w A l) (o : Obj) : RdI (w.alloc o) A l := h.below ((Below.refl _ _).alloc (Nat.le_refl _) _)

/-- A call that hands back a new slice of ints and a value beside it. -/
def NewI2 (w : World) (l : List Int) (v : Value) (e : Ending) (w' : World) : Prop :=
  ∃ A c, e = .returned (.tuple #[.slice A l.length c, v]) ∧ OwnI w' w.heap.size A l.length c l ∧ Below w.heap.size w w'

/-- The first k of l, then noughts. -/
def part (l : List Int) (k : Nat) : List Int := l.take k ++ List.replicate (l.length - k) 0
theorem part_zero (l : List Int) : part l 0 = List.replicate l.length 0 := by simp [part]
theorem part_all (l : List Int) : part l l.length = l := by simp [part]
theorem part_set (l : List Int) (k : Nat) (h : k < l.length) : (part l k).set k (nth l k) = part l (k + 1) := by
  unfold part
  rw [take_snoc l k h, List.set_append_right _ _ (by simp; omega)]
  have e : l.length - k = (l.length - (k + 1)) + 1 := by omega
  rw [e, List.replicate_succ]
  simp [List.length_take, Nat.min_eq_left (Nat.le_of_lt h)]

/-- Blocks of two rows that were made one behind the other differ. -/
theorem apart {A B : Option Addr} {b1 s1 b2 s2 : Nat} (h1 : ∀ g, A = some ⟨g, 0, none⟩ ∨ A.map (·.block) = some g → b1 ≤ g ∧ g < s1)
    (h2 : ∀ g, B = some ⟨g, 0, none⟩ ∨ B.map (·.block) = some g → b2 ≤ g ∧ g < s2) (hs : s1 ≤ b2) : ∀ g, A = some ⟨g, 0, none⟩ → some g ≠ B.map (·.block) := by
  intro g e e2
  have := h1 g (.inl e)
  have := h2 g (.inr e2.symm)
  omega
theorem apart_ {A B : Option Addr} {b1 s1 b2 s2 : Nat} (h1 : ∀ g, A = some ⟨g, 0, none⟩ ∨ A.map (·.block) = some g → b1 ≤ g ∧ g < s1)
    (h2 : ∀ g, B = some ⟨g, 0, none⟩ ∨ B.map (·.block) = some g → b2 ≤ g ∧ g < s2) (hs : s2 ≤ b1) : ∀ g, A = some ⟨g, 0, none⟩ → some g ≠ B.map (·.block) := by
  intro g e e2
  have := h1 g (.inl e)
  have := h2 g (.inr e2.symm)
  omega
theorem blk_from {A : Option Addr} {b1 s1 lim : Nat} (h1 : ∀ g, A = some ⟨g, 0, none⟩ ∨ A.map (·.block) = some g → b1 ≤ g ∧ g < s1) (hl : lim ≤ b1) : ∀ k, A.map (·.block) = some k → lim ≤ k := fun k hk => by
  have := h1 k (.inr hk); omega
theorem of_draws {w w' : World} (h : ∃ n, w' = w.drewN n) : Below w.heap.size w w' := by
  obtain ⟨n, rfl⟩ := h
  exact below_drewN (Below.refl _ _) n

/-- A call that hands back a new slice of ints with the numbers l. -/
def NewI (w : World) (l : List Int) (e : Ending) (w' : World) : Prop :=
  ∃ A c, e = .returned (.slice A l.length c) ∧ OwnI w' w.heap.size A l.length c l ∧ Below w.heap.size w w'

/-- The block of a slice. -/
abbrev blk (A : Option Addr) : Option Nat := A.map (·.block)

end Go.Proofs.Ytjhbmikohcbkkaa
