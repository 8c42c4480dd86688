/-
  What an argument that came in reads as: a slice of boxes. No program is named here.
-/
import Derived.Test.YtjhbmikohcbkkaaOpenE
import Derived.Test.YtjhbmikohcbkkaaBox
namespace Go.Proofs.Ytjhbmikohcbkkaa
open Go.ChangeShapes Go.WideShapes Go.ChangeAt Go.RowKit Go.Deep

section
variable {H : Type} {enc : TypeId × Value → H} {P : Program} {W : World} {base b0 : Nat} {spare : Nat → Bool} {held : Bool} {r : Reach} {t E : TypeId} {v : Value} {d : DataW H} {p : List MemPlace}
theorem dec_box {f0 f1 f2 f3 f4 : Field} (he : P.underlying E = some (.struct #[f0, f1, f2, f3, f4])) (hC : P.cellsOf E = 5)
    (h0 : P.underlying f0.type = some (.int .i64)) (h1 : P.underlying f1.type = some (.int .i64)) (h2 : P.underlying f2.type = some (.int .i64)) (h3 : P.underlying f3.type = some (.int .i64)) (h4 : P.underlying f4.type = some .bool)
    (hf0 : f0.offset = 0 ∧ P.cellsOf f0.type = 1) (hf1 : f1.offset = 1 ∧ P.cellsOf f1.type = 1) (hf2 : f2.offset = 2 ∧ P.cellsOf f2.type = 1) (hf3 : f3.offset = 3 ∧ P.cellsOf f3.type = 1) (hf4 : f4.offset = 4 ∧ P.cellsOf f4.type = 1) :
    ∀ fuel cs y, DataW.trod enc P W base spare held fuel E cs = some y → ∃ q : Bx, cs = encB.f q := by
  intro fuel cs y h
  obtain ⟨y0, y1, y2, y3, y4, n, hl, g0, g1, g2, g3, g4⟩ := trod_struct5 he h
  rw [hC] at hl
  rw [hf0.1, hf0.2] at g0
  rw [hf1.1, hf1.2] at g1
  rw [hf2.1, hf2.2] at g2
  rw [hf3.1, hf3.2] at g3
  rw [hf4.1, hf4.2] at g4
  match cs, hl with
  | [u0, u1, u2, u3, u4], _ =>
    obtain ⟨z0, e0, _, _⟩ := DataW.trod_int h0 g0
    obtain ⟨z1, e1, _, _⟩ := DataW.trod_int h1 g1
    obtain ⟨z2, e2, _, _⟩ := DataW.trod_int h2 g2
    obtain ⟨z3, e3, _, _⟩ := DataW.trod_int h3 g3
    obtain ⟨z4, e4, _⟩ := DataW.trod_bool h4 g4
    simp at e0 e1 e2 e3 e4
    subst e0 e1 e2 e3 e4
    exact ⟨⟨z0, z1, z2, z3, z4⟩, rfl⟩
end
end Go.Proofs.Ytjhbmikohcbkkaa
