/-
  What an argument that came in reads as: a slice of ints, of bytes. No program is named here.
-/
import Derived.Test.YtjhbmikohcbkkaaMem
import Derived.ProofKit
import Derived.OpenShut
import Derived.ShutString
import Derived.ChangeOld
import Derived.Below
namespace Go.Proofs.Ytjhbmikohcbkkaa
open Go.ChangeShapes Go.WideShapes Go.ChangeAt Go.RowKit

section
variable {H : Type} {enc : TypeId × Value → H} {P : Program} {W : World} {base b0 : Nat} {spare : Nat → Bool} {held : Bool} {r : Reach} {t e : TypeId} {v : Value} {d : DataW H} {p : List MemPlace}

theorem open_row {k : IntKind} (ht : P.underlying t = some (.slice e)) (he : P.underlying e = some (.int k)) (hc : P.cellsOf e = 1) (hv : Value.okWide P W r b0 t v)
    (h : DataW.Trod enc P W base spare held t v d p) : ∃ A n c l, v = .slice A n c ∧ l.length = n ∧ n ≤ c ∧
      (0 < l.length → ∃ b o, A = some ⟨b, o, none⟩ ∧ b < W.heap.size ∧ ∀ i, i < l.length → W.cell? ⟨b, o + i, none⟩ = some (.int k (nth l i))) ∧ ∀ x ∈ l, (Lit.int k x).wf = true := by
  obtain ⟨A, n, c, rfl⟩ := okWide_slice ht hv
  obtain ⟨fuel, hf⟩ := h
  rcases open_ints ht he hc hf with ⟨hcs, _⟩ | ⟨x, len, cap, zs, hcs, _, hl, hm, hz, _, hcell, hwz⟩
  · simp [Value.cells] at hcs
    obtain ⟨rfl, rfl, rfl⟩ := hcs
    exact ⟨none, 0, 0, [], rfl, rfl, Nat.le_refl _, fun h => absurd h (by simp), fun x hx => by cases hx⟩
  · simp [Value.cells] at hcs
    obtain ⟨rfl, rfl, rfl⟩ := hcs
    have hlz : n ≤ zs.length := by rw [hz]; split <;> omega
    refine ⟨_, _, _, zs.take n, rfl, by simp; omega, hl, fun hp => ?_, fun y hy => hwz y (List.mem_of_mem_take hy)⟩
    have hlen : (zs.take n).length = n := by simp; omega
    rw [hlen] at hp
    obtain ⟨b, o, rfl, hcc⟩ := ints_at hcell (by omega)
    refine ⟨b, o, rfl, World.block_lt_of_cell? W _ (hcc 0 (by omega)), fun i hi => ?_⟩
    rw [hlen] at hi
    rw [hcc i (by omega), nth_take zs i n hi]
    rfl

theorem open_rdI (ht : P.underlying t = some (.slice e)) (he : P.underlying e = some (.int .i64)) (hc : P.cellsOf e = 1) (hv : Value.okWide P W r b0 t v)
    (h : DataW.Trod enc P W base spare held t v d p) : ∃ A n c l, v = .slice A n c ∧ l.length = n ∧ RdI W A l := by
  obtain ⟨A, n, c, l, h1, h2, _, h3, _⟩ := open_row ht he hc hv h
  exact ⟨A, n, c, l, h1, h2, h3⟩

theorem open_rdB (ht : P.underlying t = some (.slice e)) (he : P.underlying e = some (.int .u8)) (hc : P.cellsOf e = 1) (hv : Value.okWide P W r b0 t v)
    (h : DataW.Trod enc P W base spare held t v d p) : ∃ A n c l, v = .slice A n c ∧ l.length = n ∧ RdB W W.heap.size A l ∧ l.length ≤ c := by
  obtain ⟨A, n, c, l, h1, h2, h5, h3, h4⟩ := open_row ht he hc hv h
  refine ⟨A, n, c, l, h1, h2, ⟨fun k => ?_, h3⟩, by omega⟩
  rcases Nat.lt_or_ge k l.length with hk | hk
  · have := h4 _ (nth_mem l k hk)
    exact bounds_u8 this
  · have : nth l k = 0 := by simp [nth, List.getD, hk]
    rw [this]; omega
end
end Go.Proofs.Ytjhbmikohcbkkaa
