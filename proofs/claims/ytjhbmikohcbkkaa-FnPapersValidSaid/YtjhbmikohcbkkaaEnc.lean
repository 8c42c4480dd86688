/-
  Plain words for memory: slices whose elements take several cells (structs). No program is named here.
-/
import Derived.Test.YtjhbmikohcbkkaaMem
namespace Go.Proofs.Ytjhbmikohcbkkaa
open Go.RowKit
set_option linter.unusedVariables false
set_option maxRecDepth 100000

theorem grown_tr {a b c : World} {row : Option Nat} (h : a.grownBy b row) (k : b.grownBy c row) : a.grownBy c row :=
  ⟨k.os.trans h.os, k.tape.trans h.tape, k.output.trans h.output, Nat.le_trans h.size k.size, fun i hi hn => (k.block i (Nat.lt_of_lt_of_le hi h.size) hn).trans (h.block i hi hn)⟩

/-- How an element lies in cells. -/
structure Enc (α : Type) where
  f : α → List Value
  s : Nat
  hs : ∀ x, (f x).length = s
  pos : 0 < s
  one : ∀ x, ∀ u ∈ f x, u.oneCell' = true

section
variable {α : Type}
theorem flat_length (e : Enc α) (l : List α) : (l.flatMap e.f).length = l.length * e.s := by
  induction l with
  | nil => simp
  | cons x t ih => simp only [List.flatMap_cons, List.length_append, ih, e.hs, List.length_cons, Nat.add_mul, Nat.one_mul]; omega
def Own (e : Enc α) (E : TypeId) (w : World) (base : Nat) (A : Option Addr) (n c : Nat) (l : List α) : Prop :=
  w.ownsRow base E e.s (.slice A n c) n (l.flatMap e.f)
variable {e : Enc α} {w w' : World} {A : Option Addr} {l : List α} {B : Nat} {E : TypeId} {base n c : Nat}
theorem Own.len (h : Own e E w base A n c l) : l.length = n := by
  have := h.1
  rw [flat_length] at this
  exact Nat.eq_of_mul_eq_mul_right e.pos this
theorem Own.mono (h : Own e E w base A n c l) {b' : Nat} (hb : b' ≤ base) : Own e E w b' A n c l := by
  refine ⟨h.1, ?_⟩
  rcases h.2 with h2 | ⟨g, cap, cur, e1, hg, r⟩
  · exact .inl h2
  · exact .inr ⟨g, cap, cur, e1, Nat.le_trans hb hg, r⟩
theorem Own.form (h : Own e E w base A n c l) : (A = none ∧ l = []) ∨ ∃ g, A = some ⟨g, 0, none⟩ ∧ base ≤ g ∧ g < w.heap.size := by
  have hl := h.len
  rcases h.2 with ⟨e1, h2⟩ | ⟨g, cap, cur, e1, hg, hh, _⟩
  · injection e1 with e1; exact .inl ⟨e1, List.eq_nil_of_length_eq_zero (by omega)⟩
  · injection e1 with e1; exact .inr ⟨g, e1, hg, (Array.getElem?_eq_some_iff.1 hh).1⟩
theorem Own.cap (h : Own e E w base A n c l) : n ≤ c ∧ c ≤ maxLen := by
  rcases h.2 with ⟨e1, h2⟩ | ⟨g, cap, cur, e1, hg, hh, hc, hm, _⟩
  · injection e1 with e1 e2 e3; subst e3; exact ⟨by omega, by simp [maxLen]⟩
  · injection e1 with e1 e2 e3; subst e3; exact ⟨hc, hm⟩
theorem Own.in_ (h : Own e E w base A n c l) : ∀ g, A = some ⟨g, 0, none⟩ ∨ A.map (·.block) = some g → base ≤ g ∧ g < w.heap.size := by
  intro g hg
  rcases h.form with ⟨rfl, _⟩ | ⟨g', rfl, h1, h2⟩
  · rcases hg with e | e <;> cases e
  · rcases hg with e | e
    · injection e with e; injection e with e; omega
    · simp at e; omega
theorem Own.kept (h : Own e E w base A n c l) (hs : w.heap.size ≤ w'.heap.size) (hk : ∀ g, base ≤ g → g < w.heap.size → A = some ⟨g, 0, none⟩ → w'.heap[g]? = w.heap[g]?) : Own e E w' base A n c l := by
  refine ⟨h.1, ?_⟩
  rcases h.2 with h2 | ⟨g, cap, cur, e1, hg, hh, r⟩
  · exact .inl h2
  · refine .inr ⟨g, cap, cur, e1, hg, ?_, r⟩
    injection e1 with e1
    rw [hk g hg (Array.getElem?_eq_some_iff.1 hh).1 e1]; exact hh
theorem Own.below (h : Own e E w base A n c l) (hb : Below w.heap.size w w') : Own e E w' base A n c l := h.kept hb.size fun g _ hlt _ => hb.block g hlt
theorem Own.drewN (h : Own e E w base A n c l) (k : Nat) : Own e E (w.drewN k) base A n c l := h
theorem Own.far (h : Own e E w base A n c l) {row : Option Nat} (hg : w.grownBy w' row) (hne : ∀ g, A = some ⟨g, 0, none⟩ → some g ≠ row) : Own e E w' base A n c l :=
  h.kept hg.size fun g _ hlt e => hg.block g hlt (hne g e)
theorem Own.farG {g : Nat} (h : Own e E w base A n c l) (hg : w.grownBy w' (some g)) (hlt : g < base) : Own e E w' base A n c l :=
  h.far hg fun k e1 e2 => by
    have := h.in_ k (.inl e1)
    injection e2 with e2
    omega
theorem Own.alloc (h : Own e E w base A n c l) (o : Obj) : Own e E (w.alloc o) base A n c l := World.ownsRow.alloc h o
theorem Own.frozen {g : Nat} (h : Own e E w base (some ⟨g, 0, none⟩) n c l) (k : Nat) : w.frozen? ⟨g, k, none⟩ = false := World.ownsRow.frozenAt h k
theorem Own.nil_ (w : World) (base : Nat) : Own e E w base none 0 0 [] := World.ownsRow_nil w base _ _
theorem Own.none_made (w : World) : Own e E (w.alloc (.cells #[] E)) w.heap.size (some ⟨w.heap.size, 0, none⟩) 0 0 [] :=
  World.ownsRow_made w #[] 0 (Nat.le_refl _) (by simp [maxLen]) (by simp)
theorem Own.lit (w : World) (cs : Array Value) (l : List α) (hc : cs.toList = l.flatMap e.f) (hm : l.length ≤ maxLen) :
    Own e E (w.alloc (.cells cs E)) w.heap.size (some ⟨w.heap.size, 0, none⟩) l.length l.length l := by
  have := World.ownsRow_lit (e := E) (size := e.s) (base := w.heap.size) w cs l.length (Nat.le_refl _) hm (by rw [← Array.length_toList, hc, flat_length])
  rw [hc] at this
  exact this
theorem Own.cut (h : Own e E w base A n c l) (k : Nat) (hk : k ≤ n) (hn : 0 < n) : Own e E w base A k c (l.take k) := by
  have hl := h.len
  have hfl : ((l.take k).flatMap e.f).length = k * e.s := by rw [flat_length]; simp; rw [Nat.min_eq_left (by omega)]
  refine ⟨hfl, ?_⟩
  rcases h.2 with ⟨e1, h2⟩ | ⟨g, cap, cur, e1, hg, hh, hc, hm, hs, ht⟩
  · omega
  · injection e1 with e1 e2 e3
    subst e1; subst e3
    refine .inr ⟨g, c, cur, rfl, hg, hh, by omega, hm, hs, ?_⟩
    have h1 : l = l.take k ++ l.drop k := (List.take_append_drop k l).symm
    have h2 : (l.flatMap e.f).take (k * e.s) = (l.take k).flatMap e.f := by
      rw [congrArg (List.flatMap e.f) h1, List.flatMap_append, ← hfl, List.take_left]
    rw [← h2, ← ht, List.take_take]
    congr 1
    exact (Nat.min_eq_left (Nat.mul_le_mul_right _ hk)).symm
end

section
variable {α : Type} [Inhabited α]
theorem flat_get (e : Enc α) (l : List α) (k j : Nat) (hk : k < l.length) (hj : j < e.s) : (l.flatMap e.f)[k * e.s + j]? = (e.f (nth l k))[j]? := by
  induction l generalizing k with
  | nil => simp at hk
  | cons x t ih =>
    cases k with
    | zero =>
      have h0 : nth (x :: t) 0 = x := by simp [nth, List.getD]
      rw [h0, List.flatMap_cons, Nat.zero_mul, Nat.zero_add, List.getElem?_append_left (by rw [e.hs]; exact hj)]
    | succ k =>
      have h0 : nth (x :: t) (k + 1) = nth t k := by simp [nth, List.getD]
      rw [h0, List.flatMap_cons, List.getElem?_append_right (by rw [e.hs, Nat.add_mul]; omega), e.hs]
      have h1 : (k + 1) * e.s + j - e.s = k * e.s + j := by rw [Nat.add_mul, Nat.one_mul]; omega
      rw [h1]
      exact ih k (by simpa using hk)
def Rd (e : Enc α) (w : World) (A : Option Addr) (l : List α) : Prop :=
  0 < l.length → ∃ b o, A = some ⟨b, o, none⟩ ∧ b < w.heap.size ∧ ∀ k, k < l.length → ∀ j u, (e.f (nth l k))[j]? = some u → w.cell? ⟨b, o + (k * e.s + j), none⟩ = some u
variable {e : Enc α} {w w' : World} {A : Option Addr} {l : List α} {B : Nat} {E : TypeId} {base n c : Nat}
theorem Rd.nil_ : Rd e w A [] := fun h => absurd h (by simp)
theorem Rd.keep (h : Rd e w A l) (hs : w.heap.size ≤ w'.heap.size) (hk : ∀ b o, A = some ⟨b, o, none⟩ → b < w.heap.size → w'.heap[b]? = w.heap[b]?) : Rd e w' A l := fun hn => by
  obtain ⟨b, o, rfl, hb, hc⟩ := h hn
  exact ⟨b, o, rfl, Nat.lt_of_lt_of_le hb hs, fun k hk' j u hu => (World.cell?_of_block (hk b o rfl hb)).trans (hc k hk' j u hu)⟩
theorem Rd.below (h : Rd e w A l) (hb : Below w.heap.size w w') : Rd e w' A l := h.keep hb.size fun _ _ _ h => hb.block _ h
theorem Rd.drewN (h : Rd e w A l) (n : Nat) : Rd e (w.drewN n) A l := h
theorem Rd.alloc (h : Rd e w A l) (o : Obj) : Rd e (w.alloc o) A l := h.below ((Below.refl _ _).alloc (Nat.le_refl _) _)
theorem Rd.far (h : Rd e w A l) {row : Option Nat} (hg : w.grownBy w' row) (hne : ∀ b o, A = some ⟨b, o, none⟩ → some b ≠ row) : Rd e w' A l :=
  h.keep hg.size fun b o e hlt => hg.block b hlt (hne b o e)
theorem Rd.take (h : Rd e w A l) (n : Nat) : Rd e w A (l.take n) := fun hn => by
  have hl : (l.take n).length ≤ l.length := List.length_take_le' _ _
  have hl2 : (l.take n).length ≤ n := List.length_take_le _ _
  obtain ⟨b, o, e1, hb, hc⟩ := h (by omega)
  exact ⟨b, o, e1, hb, fun k hk j u hu => hc k (by omega) j u (by rwa [nth_take l k n (by omega)] at hu)⟩
theorem Rd.drop {b o : Nat} (h : Rd e w (some ⟨b, o, none⟩) l) (n : Nat) (hn : n < l.length) : Rd e w (some ⟨b, o + n * e.s, none⟩) (l.drop n) := fun hp => by
  obtain ⟨b', o', e1, hb, hc⟩ := h (by omega)
  injection e1 with e1
  injection e1 with e2 e3
  subst e2 e3
  refine ⟨b, o + n * e.s, rfl, hb, fun k hk j u hu => ?_⟩
  have := hc (n + k) (by simp at hk; omega) j u (by rwa [nth_drop] at hu)
  rw [Nat.add_mul] at this
  rw [← this]
  congr 2
  omega
theorem Own.rd (h : Own e E w base A n c l) : Rd e w A l := fun hn => by
  have hl := h.len
  rcases h.form with ⟨_, e1⟩ | ⟨g, rfl, hg, hlt⟩
  · subst e1; simp at hn
  · refine ⟨g, 0, rfl, hlt, fun k hk j u hu => ?_⟩
    have hj : j < e.s := by rw [← e.hs (nth l k)]; exact (List.getElem?_eq_some_iff.1 hu).1
    have := World.ownsRow.cells h (g := g) rfl (k * e.s + j) u (by rw [flat_get e l k j hk hj]; exact hu)
    simpa [Addr.add_lit] using this
theorem Own.cell {g : Nat} (h : Own e E w base (some ⟨g, 0, none⟩) n c l) (k j : Nat) (hk : k < n) {u : Value} (hu : (e.f (nth l k))[j]? = some u) : w.cell? ⟨g, k * e.s + j, none⟩ = some u := by
  have hl := h.len
  obtain ⟨b, o, e1, _, hc⟩ := h.rd (by omega)
  injection e1 with e1
  injection e1 with e2 e3
  subst e2 e3
  have := hc k (by omega) j u hu
  rwa [Nat.zero_add] at this
theorem Own.put {g : Nat} (h : Own e E w base (some ⟨g, 0, none⟩) n c l) (k j : Nat) (hk : k < n) (hj : j < e.s) (x : α) (u : Value) (hx : e.f x = (e.f (nth l k)).set j u) :
    Own e E (w.setCell ⟨g, k * e.s + j, none⟩ u) base (some ⟨g, 0, none⟩) n c (l.set k x) ∧ w.grownBy (w.setCell ⟨g, k * e.s + j, none⟩ u) (some g) := by
  have hl := h.len
  have := World.ownsRow.stored h (k * e.s + j) u
  refine ⟨?_, this.2⟩
  have hset : (l.flatMap e.f).set (k * e.s + j) u = (l.set k x).flatMap e.f := by
    apply List.ext_getElem?
    intro i
    rw [List.getElem?_set]
    rcases Nat.lt_or_ge i (l.length * e.s) with hi | hi
    · have hq : i / e.s < l.length := by rw [Nat.div_lt_iff_lt_mul e.pos]; exact hi
      have hr : i % e.s < e.s := Nat.mod_lt _ e.pos
      have hi2 : i = i / e.s * e.s + i % e.s := by rw [Nat.mul_comm]; exact (Nat.div_add_mod i e.s).symm
      have h1 : ((l.set k x).flatMap e.f)[i]? = (e.f (nth (l.set k x) (i / e.s)))[i % e.s]? := by
        have := flat_get e (l.set k x) (i / e.s) (i % e.s) (by simpa using hq) hr
        rwa [← hi2] at this
      have h2 : (l.flatMap e.f)[i]? = (e.f (nth l (i / e.s)))[i % e.s]? := by
        have := flat_get e l (i / e.s) (i % e.s) hq hr
        rwa [← hi2] at this
      rw [h1, h2, nth_set _ _ _ _ (by omega), flat_length]
      by_cases he : k * e.s + j = i
      · have hk2 : i / e.s = k := by
          rw [← he, Nat.mul_comm, Nat.mul_add_div e.pos, Nat.div_eq_of_lt hj]; omega
        have hj2 : i % e.s = j := by
          rw [← he, Nat.mul_comm, Nat.mul_add_mod, Nat.mod_eq_of_lt hj]
        rw [if_pos he, if_pos (by omega), if_pos hk2.symm, hx, hj2, List.getElem?_set]
        simp [e.hs, hj]
      · rw [if_neg he]
        by_cases hk2 : k = i / e.s
        · rw [if_pos hk2, hx, List.getElem?_set, ← hk2]
          have : j ≠ i % e.s := fun e2 => he (by rw [e2, hk2]; exact hi2.symm)
          rw [if_neg this]
        · rw [if_neg hk2]
    · rw [if_neg (by
        intro e2
        have : k * e.s + j < l.length * e.s := by
          have : (k + 1) * e.s ≤ l.length * e.s := Nat.mul_le_mul_right _ (by omega)
          rw [Nat.add_mul, Nat.one_mul] at this
          omega
        omega), List.getElem?_eq_none (by rw [flat_length]; exact hi), List.getElem?_eq_none (by rw [flat_length]; simpa using hi)]
  unfold Own
  rw [← hset]
  exact this.1
end

section
variable {α : Type} [Inhabited α] {e : Enc α} {E : TypeId}
theorem made_toList (z : Array Value) (hz : z.toList = e.f default) (n : Nat) : (madeCells z (n * e.s)).toList = (List.replicate n (default : α)).flatMap e.f := by
  have hzs : z.size = e.s := by rw [← Array.length_toList, hz, e.hs]
  apply List.ext_getElem?
  intro i
  rcases Nat.lt_or_ge i (n * e.s) with hi | hi
  · have hq : i / e.s < n := by rw [Nat.div_lt_iff_lt_mul e.pos]; exact hi
    have hr : i % e.s < e.s := Nat.mod_lt _ e.pos
    have hi2 : i = i / e.s * e.s + i % e.s := by rw [Nat.mul_comm]; exact (Nat.div_add_mod i e.s).symm
    have h1 := flat_get e (List.replicate n (default : α)) (i / e.s) (i % e.s) (by simpa using hq) hr
    rw [← hi2, nth_eq _ _ (by simpa using hq)] at h1
    rw [h1]
    simp only [List.getElem_replicate]
    rw [← hz]
    simp [madeCells, hi, hzs, hr]
  · rw [List.getElem?_eq_none (by simpa [madeCells] using hi), List.getElem?_eq_none (by rw [flat_length]; simpa using hi)]
/-- What a make leaves. -/
theorem Own.made (w : World) (z : Array Value) (hz : z.toList = e.f default) (n : Nat) (hn : n ≤ maxLen) :
    Own e E (w.alloc (.cells (madeCells z (n * e.s)) E)) w.heap.size (some ⟨w.heap.size, 0, none⟩) n n (List.replicate n default) := by
  have := Own.lit (e := e) (E := E) w (madeCells z (n * e.s)) (List.replicate n default) (made_toList z hz n) (by simpa using hn)
  simpa using this

/-- The first k of l, then defaults. -/
def partL (l : List α) (k : Nat) : List α := l.take k ++ List.replicate (l.length - k) default
theorem partL_zero (l : List α) : partL l 0 = List.replicate l.length default := by simp [partL]
theorem partL_all (l : List α) : partL l l.length = l := by simp [partL]
theorem partL_set (l : List α) (k : Nat) (h : k < l.length) : (partL l k).set k (nth l k) = partL l (k + 1) := by
  unfold partL
  rw [take_snoc l k h, List.set_append_right _ _ (by simp; omega)]
  have e1 : l.length - k = (l.length - (k + 1)) + 1 := by omega
  rw [e1, List.replicate_succ]
  simp [List.length_take, Nat.min_eq_left (Nat.le_of_lt h)]
end

/-- A pair of ints in two cells. -/
def encP : Enc (Int × Int) := ⟨fun p => [vi p.1, vi p.2], 2, fun _ => rfl, by omega, fun x u hu => by
  simp at hu; rcases hu with rfl | rfl <;> rfl⟩
theorem Rd.at2 {w : World} {b o : Nat} {l : List (Int × Int)} (h : Rd encP w (some ⟨b, o, none⟩) l) (k : Nat) (hk : k < l.length) :
    w.cell? ⟨b, o + k * 2, none⟩ = some (vi (nth l k).1) ∧ w.cell? ⟨b, o + k * 2 + 1, none⟩ = some (vi (nth l k).2) := by
  obtain ⟨b', o', e1, hb, hc⟩ := h (by omega)
  injection e1 with e1
  injection e1 with e2 e3
  subst e2 e3
  exact ⟨by have := hc k hk 0 _ rfl; simpa [encP] using this, by have := hc k hk 1 _ rfl; simpa [encP, Nat.add_assoc] using this⟩
section
variable {w : World} {base n c g : Nat} {E : TypeId} {l : List (Int × Int)}
theorem Own.cell2 (h : Own encP E w base (some ⟨g, 0, none⟩) n c l) (k : Nat) (hk : k < n) :
    w.cell? ⟨g, k * 2, none⟩ = some (vi (nth l k).1) ∧ w.cell? ⟨g, k * 2 + 1, none⟩ = some (vi (nth l k).2) := by
  exact ⟨by have := h.cell k 0 hk rfl; simpa [encP] using this, by have := h.cell k 1 hk rfl; simpa [encP] using this⟩
theorem Own.put_fst (h : Own encP E w base (some ⟨g, 0, none⟩) n c l) (k : Nat) (hk : k < n) (a : Int) :
    Own encP E (w.setCell ⟨g, k * 2, none⟩ (vi a)) base (some ⟨g, 0, none⟩) n c (l.set k (a, (nth l k).2)) ∧ w.grownBy (w.setCell ⟨g, k * 2, none⟩ (vi a)) (some g) := by
  have := h.put k 0 hk (by simp [encP]) (a, (nth l k).2) (vi a) rfl
  simpa [encP] using this
theorem Own.put_snd (h : Own encP E w base (some ⟨g, 0, none⟩) n c l) (k : Nat) (hk : k < n) (b : Int) :
    Own encP E (w.setCell ⟨g, k * 2 + 1, none⟩ (vi b)) base (some ⟨g, 0, none⟩) n c (l.set k ((nth l k).1, b)) ∧ w.grownBy (w.setCell ⟨g, k * 2 + 1, none⟩ (vi b)) (some g) := by
  have := h.put k 1 hk (by simp [encP]) ((nth l k).1, b) (vi b) rfl
  simpa [encP] using this
/-- Both cells of an element are stored. -/
theorem Own.put2 (h : Own encP E w base (some ⟨g, 0, none⟩) n c l) (k : Nat) (hk : k < n) (p : Int × Int) :
    Own encP E ((w.setCell ⟨g, k * 2, none⟩ (vi p.1)).setCell ⟨g, k * 2 + 1, none⟩ (vi p.2)) base (some ⟨g, 0, none⟩) n c (l.set k p) ∧
      w.grownBy ((w.setCell ⟨g, k * 2, none⟩ (vi p.1)).setCell ⟨g, k * 2 + 1, none⟩ (vi p.2)) (some g) := by
  have hl := h.len
  have h1 := h.put_fst k hk p.1
  have h2 := h1.1.put_snd k hk p.2
  rw [nth_set _ _ _ _ (by omega), if_pos rfl, List.set_set] at h2
  exact ⟨h2.1, grown_tr h1.2 h2.2⟩
end
end Go.Proofs.Ytjhbmikohcbkkaa
