/-
  What an argument that came in reads as: a slice of differences. No program is named here.
-/
import Derived.Test.YtjhbmikohcbkkaaOpenB
import Derived.Test.YtjhbmikohcbkkaaDiff
namespace Go.Proofs.Ytjhbmikohcbkkaa
open Go.ChangeShapes Go.WideShapes Go.ChangeAt Go.RowKit Go.Deep

section
variable {H : Type} {enc : TypeId × Value → H} {P : Program} {W : World} {base b0 : Nat} {spare : Nat → Bool} {held : Bool} {r : Reach} {t E : TypeId} {v : Value} {d : DataW H} {p : List MemPlace}
theorem dec_diff {g0 g1 : Field} (hE : P.underlying E = some (.struct #[g0, g1])) (hCE : P.cellsOf E = 6) (hg0 : P.underlying g0.type = some (.int .i64)) (ho0 : g0.offset = 0 ∧ P.cellsOf g0.type = 1)
    {f0 f1 f2 f3 f4 : Field} (he : P.underlying g1.type = some (.struct #[f0, f1, f2, f3, f4])) (hC : g1.offset = 1 ∧ P.cellsOf g1.type = 5)
    (h0 : P.underlying f0.type = some (.int .i64)) (h1 : P.underlying f1.type = some (.int .i64)) (h2 : P.underlying f2.type = some (.int .i64)) (h3 : P.underlying f3.type = some (.int .i64)) (h4 : P.underlying f4.type = some .bool)
    (hf0 : f0.offset = 0 ∧ P.cellsOf f0.type = 1) (hf1 : f1.offset = 1 ∧ P.cellsOf f1.type = 1) (hf2 : f2.offset = 2 ∧ P.cellsOf f2.type = 1) (hf3 : f3.offset = 3 ∧ P.cellsOf f3.type = 1) (hf4 : f4.offset = 4 ∧ P.cellsOf f4.type = 1) :
    ∀ fuel cs y, DataW.trod enc P W base spare held fuel E cs = some y → ∃ q : Int × Bx, cs = encD.f q := by
  intro fuel cs y h
  obtain ⟨y0, y1, n, _, hl, k0, k1⟩ := trod_struct2 hE h
  rw [hCE] at hl
  rw [ho0.1, ho0.2] at k0
  rw [hC.1, hC.2] at k1
  obtain ⟨q, hq⟩ := dec_box he hC.2 h0 h1 h2 h3 h4 hf0 hf1 hf2 hf3 hf4 _ _ _ k1
  match cs, hl with
  | [u0, u1, u2, u3, u4, u5], _ =>
    obtain ⟨z0, e0, _, _⟩ := DataW.trod_int hg0 k0
    simp at e0 hq
    subst e0
    refine ⟨(z0, q), ?_⟩
    simp only [encB, List.cons.injEq] at hq
    obtain ⟨rfl, rfl, rfl, rfl, rfl, _⟩ := hq
    rfl
end
end Go.Proofs.Ytjhbmikohcbkkaa
