/-
  What an argument that came in reads as: a slice of structs that are told by an encoding. No program is named here.
-/
import Derived.Test.YtjhbmikohcbkkaaEnc
import Derived.Test.YtjhbmikohcbkkaaOpen
import Derived.Test.YtjhbmikohcbkkaaOpenP
import Derived.Deep.Slices
namespace Go.Proofs.Ytjhbmikohcbkkaa
open Go.ChangeShapes Go.WideShapes Go.ChangeAt Go.RowKit Go.Deep

section
variable {H : Type} {enc : TypeId × Value → H} {P : Program} {W : World} {base b0 : Nat} {spare : Nat → Bool} {held : Bool} {r : Reach} {t E : TypeId} {v : Value} {d : DataW H} {p : List MemPlace}
variable {α : Type} [Inhabited α]

theorem open_rdE (e : Enc α) (ht : P.underlying t = some (.slice E)) (hC : P.cellsOf E = e.s)
    (hdec : ∀ fuel cs y, DataW.trod enc P W base spare held fuel E cs = some y → ∃ q : α, cs = e.f q)
    (hv : Value.okWide P W r b0 t v) (h : DataW.Trod enc P W base spare held t v d p) :
    ∃ A n c l, v = .slice A n c ∧ l.length = n ∧ Rd e W A l ∧ l.length ≤ 9223372036854775807 := by
  obtain ⟨A, n, c, rfl⟩ := okWide_slice ht hv
  obtain ⟨fuel, hf⟩ := h
  rcases open_slice ht hf with ⟨hcs, _⟩ | ⟨a, len, cap, m, k, D, Pl, hcs, _, hl, hm, hmm, _, hi⟩
  · simp [Value.cells] at hcs
    obtain ⟨rfl, rfl, rfl⟩ := hcs
    exact ⟨none, 0, 0, [], rfl, rfl, Rd.nil_, by simp⟩
  · simp [Value.cells] at hcs
    obtain ⟨rfl, rfl, rfl⟩ := hcs
    have hnm : n ≤ m := by rw [hmm]; split <;> omega
    have hx : ∀ i, ∃ q : α, i < n → ∀ j u, (e.f q)[j]? = some u → W.cell? ((a.add (i * e.s)).add j) = some u := by
      intro i
      by_cases hin : i < n
      · obtain ⟨cs', hc, htr⟩ := hi i (by omega)
        rw [hC] at hc
        obtain ⟨_, hcl, hat⟩ := World.cells?_some hc
        obtain ⟨q, rfl⟩ := hdec _ _ _ htr
        refine ⟨q, fun _ j u hu => ?_⟩
        have hj : j < e.s := by rw [← e.hs q]; exact (List.getElem?_eq_some_iff.1 hu).1
        rw [hat j hj]; exact hu
      · exact ⟨default, fun h => absurd h hin⟩
    obtain ⟨f, hfc⟩ := Classical.skolem.1 hx
    have hlen : ((List.range n).map f).length = n := by simp
    refine ⟨some a, n, c, (List.range n).map f, rfl, hlen, fun hp => ?_, by rw [hlen]; simp [maxLen] at hm; omega⟩
    rw [hlen] at hp
    obtain ⟨b, off, spot⟩ := a
    have hz : ∃ u, (e.f (f 0))[0]? = some u := by
      have : 0 < (e.f (f 0)).length := by rw [e.hs]; exact e.pos
      exact ⟨_, List.getElem?_eq_getElem this⟩
    obtain ⟨u0, hu0⟩ := hz
    have hspot : spot = none := by simpa [Addr.add] using World.cell?_spot (hfc 0 hp 0 u0 hu0)
    subst hspot
    have hcell : ∀ i, i < n → ∀ j u, (e.f (f i))[j]? = some u → W.cell? ⟨b, off + (i * e.s + j), none⟩ = some u := fun i hin j u hu => by
      have := hfc i hin j u hu
      rw [Go.WideShapes.add_plain, Go.WideShapes.add_plain, Nat.add_assoc] at this
      exact this
    refine ⟨b, off, rfl, World.block_lt_of_cell? W _ (hcell 0 hp 0 u0 hu0), fun i hin j u hu => ?_⟩
    rw [hlen] at hin
    have hn : nth ((List.range n).map f) i = f i := by simp [nth, List.getD, hin]
    rw [hn] at hu
    exact hcell i hin j u hu
end

section
variable {H : Type} {enc : TypeId × Value → H} {P : Program} {w : World} {base : Nat} {spare : Nat → Bool} {held : Bool} {t : TypeId}
theorem trod_struct5 {f0 f1 f2 f3 f4 : Field} {fuel : Nat} {cs : List Value} {x : DataW H × List MemPlace} (ht : P.underlying t = some (.struct #[f0, f1, f2, f3, f4])) (h : DataW.trod enc P w base spare held fuel t cs = some x) :
    ∃ y0 y1 y2 y3 y4 n, cs.length = P.cellsOf t ∧ DataW.trod enc P w base spare held n f0.type ((cs.drop f0.offset).take (P.cellsOf f0.type)) = some y0 ∧
      DataW.trod enc P w base spare held n f1.type ((cs.drop f1.offset).take (P.cellsOf f1.type)) = some y1 ∧ DataW.trod enc P w base spare held n f2.type ((cs.drop f2.offset).take (P.cellsOf f2.type)) = some y2 ∧
      DataW.trod enc P w base spare held n f3.type ((cs.drop f3.offset).take (P.cellsOf f3.type)) = some y3 ∧ DataW.trod enc P w base spare held n f4.type ((cs.drop f4.offset).take (P.cellsOf f4.type)) = some y4 := by
  obtain ⟨xs, n, _, rfl, hl, hlen, hf⟩ := DataW.trod_struct ht h
  match xs, hlen with
  | [y0, y1, y2, y3, y4], _ => exact ⟨y0, y1, y2, y3, y4, n, hl, by simpa using hf 0 f0 rfl, by simpa using hf 1 f1 rfl, by simpa using hf 2 f2 rfl, by simpa using hf 3 f3 rfl, by simpa using hf 4 f4 rfl⟩
end
end Go.Proofs.Ytjhbmikohcbkkaa
