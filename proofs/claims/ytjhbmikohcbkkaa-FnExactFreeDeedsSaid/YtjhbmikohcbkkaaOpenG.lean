/-
  What an argument that came in reads as: papers. No program is named here.
-/
import Derived.Test.YtjhbmikohcbkkaaOpenP
import Derived.Test.YtjhbmikohcbkkaaMem
namespace Go.Proofs.Ytjhbmikohcbkkaa
open Go.ChangeShapes Go.WideShapes Go.ChangeAt Go.RowKit Go.Deep

section
variable {H : Type} {enc : TypeId × Value → H} {P : Program} {W : World} {base b0 : Nat} {spare : Nat → Bool} {held : Bool} {r : Reach} {t e : TypeId} {v : Value} {d : DataW H} {p : List MemPlace}
/-- A slice of pairs, by its cell alone. -/
theorem open_pairs_cell {f0 f1 : Field} (ht : P.underlying t = some (.slice e)) (he : P.underlying e = some (.struct #[f0, f1])) (hC : P.cellsOf e = 2)
    (h0 : P.underlying f0.type = some (.int .i64)) (h1 : P.underlying f1.type = some (.int .i64)) (hf0 : f0.offset = 0 ∧ P.cellsOf f0.type = 1) (hf1 : f1.offset = 1 ∧ P.cellsOf f1.type = 1)
    {fuel : Nat} {u : Value} {y : DataW H × List MemPlace} (h : DataW.trod enc P W base spare held fuel t [u] = some y) :
    ∃ A n c l, u = .slice A n c ∧ l.length = n ∧ Rd encP W A l ∧ l.length ≤ 9223372036854775807 := by
  rcases open_slice ht h with ⟨hcs, _⟩ | ⟨a, len, cap, m, k, D, Pl, hcs, _, hl, hm, hmm, _, hi⟩
  · simp at hcs
    subst hcs
    exact ⟨none, 0, 0, [], rfl, rfl, Rd.nil_, by simp⟩
  · simp at hcs
    subst hcs
    have hnm : len ≤ m := by rw [hmm]; split <;> omega
    have hx : ∀ i, ∃ q : Int × Int, i < len → W.cell? (a.add (i * 2)) = some (vi q.1) ∧ W.cell? ((a.add (i * 2)).add 1) = some (vi q.2) := by
      intro i
      by_cases hin : i < len
      · obtain ⟨cs', hc, htr⟩ := hi i (by omega)
        rw [hC] at hc
        obtain ⟨_, hcl, hat⟩ := World.cells?_some hc
        obtain ⟨y0, y1, g, _, _, hy0, hy1⟩ := trod_struct2 he htr
        rw [hf0.1, hf0.2] at hy0
        rw [hf1.1, hf1.2] at hy1
        match cs', hcl with
        | [u0, u1], _ =>
          obtain ⟨z0, e0, _, _⟩ := DataW.trod_int h0 hy0
          obtain ⟨z1, e1, _, _⟩ := DataW.trod_int h1 hy1
          simp at e0 e1
          subst e0 e1
          have c0 := hat 0 (by omega)
          have c1 := hat 1 (by omega)
          refine ⟨(z0, z1), fun _ => ⟨?_, ?_⟩⟩
          · rw [show a.add (i * 2) = (a.add (i * 2)).add 0 by simp [Addr.add]]; exact c0
          · exact c1
      · exact ⟨(0, 0), fun h => absurd h hin⟩
    obtain ⟨f, hfc⟩ := Classical.skolem.1 hx
    have hlen : ((List.range len).map f).length = len := by simp
    refine ⟨some a, len, cap, (List.range len).map f, rfl, hlen, fun hp => ?_, by rw [hlen]; simp [maxLen] at hm; omega⟩
    rw [hlen] at hp
    obtain ⟨b, off, spot⟩ := a
    have hspot : spot = none := by simpa [Addr.add] using World.cell?_spot (hfc 0 hp).1
    subst hspot
    have hcell : ∀ i, i < len → W.cell? ⟨b, off + i * 2, none⟩ = some (vi (f i).1) ∧ W.cell? ⟨b, off + (i * 2 + 1), none⟩ = some (vi (f i).2) := fun i hin => by
      have := hfc i hin
      rw [Go.WideShapes.add_plain, Go.WideShapes.add_plain, Nat.add_assoc] at this
      exact this
    refine ⟨b, off, rfl, World.block_lt_of_cell? W _ (hcell 0 hp).1, fun i hin j u hu => ?_⟩
    rw [hlen] at hin
    have hn : nth ((List.range len).map f) i = f i := by simp [nth, List.getD, hin]
    rw [hn] at hu
    match j, hu with
    | 0, hu => simp [encP] at hu; subst hu; exact (hcell i hin).1
    | 1, hu => simp [encP] at hu; subst hu; exact (hcell i hin).2
    | j + 2, hu => simp [encP] at hu

/-- A slice of ints, by its cell alone. -/
theorem open_ints_cell (ht : P.underlying t = some (.slice e)) (he : P.underlying e = some (.int .i64)) (hc : P.cellsOf e = 1)
    {fuel : Nat} {u : Value} {y : DataW H × List MemPlace} (h : DataW.trod enc P W base spare held fuel t [u] = some y) :
    ∃ A n c l, u = .slice A n c ∧ l.length = n ∧ RdI W A l ∧ l.length ≤ 9223372036854775807 := by
  rcases open_ints ht he hc h with ⟨hcs, _⟩ | ⟨x, len, cap, zs, hcs, _, hl, hm, hz, _, hcell, hwz⟩
  · simp at hcs
    subst hcs
    exact ⟨none, 0, 0, [], rfl, rfl, RdI.nil_, by simp⟩
  · simp at hcs
    subst hcs
    have hlz : len ≤ zs.length := by rw [hz]; split <;> omega
    refine ⟨_, _, _, zs.take len, rfl, by simp; omega, fun hp => ?_, by simp [maxLen] at hm ⊢; omega⟩
    have hlen : (zs.take len).length = len := by simp; omega
    rw [hlen] at hp
    obtain ⟨b, o, rfl, hcc⟩ := ints_at hcell (by omega)
    refine ⟨b, o, rfl, World.block_lt_of_cell? W _ (hcc 0 (by omega)), fun i hi => ?_⟩
    rw [hlen] at hi
    rw [hcc i (by omega), nth_take zs i len hi]
    rfl

/-- A struct of a slice of pairs and a slice of ints. -/
theorem open_papers {e1 e2 : TypeId} {f0 f1 g0 g1 : Field} (ht : P.underlying t = some (.struct #[g0, g1])) (hC : P.cellsOf t = 2) (hg0 : g0.offset = 0 ∧ P.cellsOf g0.type = 1) (hg1 : g1.offset = 1 ∧ P.cellsOf g1.type = 1)
    (u0 : P.underlying g0.type = some (.slice e1)) (u1 : P.underlying g1.type = some (.slice e2))
    (he : P.underlying e1 = some (.struct #[f0, f1])) (hC1 : P.cellsOf e1 = 2)
    (h0 : P.underlying f0.type = some (.int .i64)) (h1 : P.underlying f1.type = some (.int .i64)) (hf0 : f0.offset = 0 ∧ P.cellsOf f0.type = 1) (hf1 : f1.offset = 1 ∧ P.cellsOf f1.type = 1)
    (he2 : P.underlying e2 = some (.int .i64)) (hC2 : P.cellsOf e2 = 1)
    (hv : Value.okWide P W r b0 t v) (h : DataW.Trod enc P W base spare held t v d p) :
    ∃ A c hl B d' ll, v = .agg #[.slice A (List.length hl) c, .slice B (List.length ll) d'] ∧ Rd encP W A hl ∧ RdI W B ll ∧ hl.length ≤ 9223372036854775807 ∧ ll.length ≤ 9223372036854775807 := by
  obtain ⟨cs, rfl, hcs⟩ := okWide_struct ht hv
  obtain ⟨fuel, hf⟩ := h
  obtain ⟨y0, y1, g, _, _, hy0, hy1⟩ := trod_struct2 ht hf
  rw [hC] at hcs
  obtain ⟨l⟩ := cs
  match l, hcs with
  | [a, b], _ =>
    rw [hg0.1, hg0.2] at hy0
    rw [hg1.1, hg1.2] at hy1
    obtain ⟨A, n, c, hl, rfl, rfl, rd, hn⟩ := open_pairs_cell u0 he hC1 h0 h1 hf0 hf1 (u := a) (by simpa [Value.cells] using hy0)
    obtain ⟨B, m, d', ll, rfl, rfl, ri, hm⟩ := open_ints_cell u1 he2 hC2 (u := b) (by simpa [Value.cells] using hy1)
    exact ⟨A, c, hl, B, d', ll, rfl, rd, ri, hn, hm⟩
end
end Go.Proofs.Ytjhbmikohcbkkaa
