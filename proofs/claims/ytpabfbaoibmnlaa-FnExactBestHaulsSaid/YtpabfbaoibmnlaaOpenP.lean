/-
  What an argument that came in reads as: a slice of structs of two ints. No program is named here.
-/
import Derived.Test.YtpabfbaoibmnlaaEnc
import Derived.Test.YtpabfbaoibmnlaaOpen
import Derived.Deep.Slices
namespace Go.Proofs.Ytpabfbaoibmnlaa
open Go.ChangeShapes Go.WideShapes Go.ChangeAt Go.RowKit Go.Deep

section
variable {H : Type} {enc : TypeId × Value → H} {P : Program} {W : World} {base b0 : Nat} {spare : Nat → Bool} {held : Bool} {r : Reach} {t e : TypeId} {v : Value} {d : DataW H} {p : List MemPlace}

theorem open_rdP {f0 f1 : Field} (ht : P.underlying t = some (.slice e)) (he : P.underlying e = some (.struct #[f0, f1])) (hC : P.cellsOf e = 2)
    (h0 : P.underlying f0.type = some (.int .i64)) (h1 : P.underlying f1.type = some (.int .i64)) (hf0 : f0.offset = 0 ∧ P.cellsOf f0.type = 1) (hf1 : f1.offset = 1 ∧ P.cellsOf f1.type = 1)
    (hv : Value.okWide P W r b0 t v) (h : DataW.Trod enc P W base spare held t v d p) :
    ∃ A n c l, v = .slice A n c ∧ l.length = n ∧ Rd encP W A l ∧ l.length ≤ 9223372036854775807 := by
  obtain ⟨A, n, c, rfl⟩ := okWide_slice ht hv
  obtain ⟨fuel, hf⟩ := h
  rcases open_slice ht hf with ⟨hcs, _⟩ | ⟨a, len, cap, m, k, D, Pl, hcs, _, hl, hm, hmm, _, hi⟩
  · simp [Value.cells] at hcs
    obtain ⟨rfl, rfl, rfl⟩ := hcs
    exact ⟨none, 0, 0, [], rfl, rfl, Rd.nil_, by simp⟩
  · simp [Value.cells] at hcs
    obtain ⟨rfl, rfl, rfl⟩ := hcs
    have hnm : n ≤ m := by rw [hmm]; split <;> omega
    have hx : ∀ i, ∃ q : Int × Int, i < n → W.cell? (a.add (i * 2)) = some (vi q.1) ∧ W.cell? ((a.add (i * 2)).add 1) = some (vi q.2) := by
      intro i
      by_cases hin : i < n
      · obtain ⟨cs', hc, htr⟩ := hi i (by omega)
        rw [hC] at hc
        obtain ⟨_, hcl, hat⟩ := World.cells?_some hc
        obtain ⟨y0, y1, g, _, _, hy0, hy1⟩ := trod_struct2 he htr
        rw [hf0.1, hf0.2] at hy0
        rw [hf1.1, hf1.2] at hy1
        match cs', hcl with
        | [u0, u1], _ =>
          obtain ⟨z0, e0, _, _⟩ := DataW.trod_int h0 hy0
          obtain ⟨z1, e1, _, _⟩ := DataW.trod_int h1 hy1
          simp at e0 e1
          subst e0 e1
          have c0 := hat 0 (by omega)
          have c1 := hat 1 (by omega)
          refine ⟨(z0, z1), fun _ => ⟨?_, ?_⟩⟩
          · rw [show a.add (i * 2) = (a.add (i * 2)).add 0 by simp [Addr.add]]; exact c0
          · exact c1
      · exact ⟨(0, 0), fun h => absurd h hin⟩
    obtain ⟨f, hfc⟩ := Classical.skolem.1 hx
    have hlen : ((List.range n).map f).length = n := by simp
    refine ⟨some a, n, c, (List.range n).map f, rfl, hlen, fun hp => ?_, by rw [hlen]; simp [maxLen] at hm; omega⟩
    rw [hlen] at hp
    obtain ⟨b, off, spot⟩ := a
    have hspot : spot = none := by simpa [Addr.add] using World.cell?_spot (hfc 0 hp).1
    subst hspot
    have hcell : ∀ i, i < n → W.cell? ⟨b, off + i * 2, none⟩ = some (vi (f i).1) ∧ W.cell? ⟨b, off + (i * 2 + 1), none⟩ = some (vi (f i).2) := fun i hin => by
      have := hfc i hin
      rw [Go.WideShapes.add_plain, Go.WideShapes.add_plain, Nat.add_assoc] at this
      exact this
    refine ⟨b, off, rfl, World.block_lt_of_cell? W _ (hcell 0 hp).1, fun i hin j u hu => ?_⟩
    rw [hlen] at hin
    have hn : nth ((List.range n).map f) i = f i := by simp [nth, List.getD, hin]
    rw [hn] at hu
    match j, hu with
    | 0, hu => simp [encP] at hu; subst hu; exact (hcell i hin).1
    | 1, hu => simp [encP] at hu; subst hu; exact (hcell i hin).2
    | j + 2, hu => simp [encP] at hu
end
end Go.Proofs.Ytpabfbaoibmnlaa
