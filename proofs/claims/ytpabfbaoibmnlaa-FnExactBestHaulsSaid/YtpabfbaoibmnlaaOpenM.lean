/-
  What an argument that came in reads as: a slice of slices of ints. No program is named here.
-/
import Derived.Test.YtpabfbaoibmnlaaMat
import Derived.Test.YtpabfbaoibmnlaaOpen
import Derived.Test.YtpabfbaoibmnlaaOpenP
import Derived.Deep.Matrix
namespace Go.Proofs.Ytpabfbaoibmnlaa
open Go.ChangeShapes Go.WideShapes Go.ChangeAt Go.RowKit Go.Deep

section
variable {H : Type} {enc : TypeId × Value → H} {P : Program} {W : World} {base b0 : Nat} {held : Bool} {r : Reach} {t e q : TypeId} {v : Value} {d : DataW H} {p : List MemPlace}
theorem nth_map_range {α : Type} [Inhabited α] (f : Nat → α) (n i : Nat) (h : i < n) : nth ((List.range n).map f) i = f i := by simp [nth, List.getD, h]
theorem open_rdM (ht : P.underlying t = some (.slice e)) (he : P.underlying e = some (.slice q)) (hq : P.underlying q = some (.int .i64)) (ce : P.cellsOf e = 1) (cq : P.cellsOf q = 1)
    (hv : Value.okWide P W r b0 t v) (h : DataW.Trod enc P W base (fun _ => true) held t v d p) :
    ∃ A n c L, v = .slice A n c ∧ L.length = n ∧ RdM W A L ∧ L.length ≤ 9223372036854775807 ∧ ∀ k, k < L.length → (nth L k).length ≤ 9223372036854775807 := by
  obtain ⟨A, n, c, rfl⟩ := okWide_slice ht hv
  obtain ⟨fuel, hf⟩ := h
  rcases open_int_rows ht he hq ce cq hf with ⟨hcs, _⟩ | ⟨a, len, cap, A', Ln, C, Z, hcs, _, hl, hm, _, hrow⟩
  · simp [Value.cells] at hcs
    obtain ⟨rfl, rfl, rfl⟩ := hcs
    exact ⟨none, 0, 0, [], rfl, rfl, RdM.nil_, by simp, fun k hk => by simp at hk⟩
  · simp [Value.cells] at hcs
    obtain ⟨rfl, rfl, rfl⟩ := hcs
    have hlen : ((List.range n).map fun r => (Z r).take (Ln r)).length = n := by simp
    have hrl : ∀ k, k < n → ((Z k).take (Ln k)).length = Ln k := fun k hk => by
      obtain ⟨_, h1, _, h3, _⟩ := hrow k (by omega)
      rw [List.length_take]; omega
    refine ⟨some a, n, c, (List.range n).map fun r => (Z r).take (Ln r), rfl, hlen, ?_, ?_, ?_⟩
    · refine ⟨(List.range n).map fun r => (A' r, Ln r, C r), by simp, fun hp => ?_, fun k hk => ?_⟩
      · simp only [List.length_map, List.length_range] at hp
        obtain ⟨b, off, spot⟩ := a
        have hspot : spot = none := by simpa [Addr.add] using World.cell?_spot (hrow 0 (by omega)).1
        subst hspot
        have hcell : ∀ i, i < n → W.cell? ⟨b, off + i, none⟩ = some (.slice (A' i) (Ln i) (C i)) := fun i hi => by
          have := (hrow i (by omega)).1
          rwa [Go.WideShapes.add_plain] at this
        refine ⟨b, off, rfl, World.block_lt_of_cell? W _ (hcell 0 hp), fun k hk j u hu => ?_⟩
        simp only [List.length_map, List.length_range] at hk
        rw [nth_map_range _ _ _ hk] at hu
        match j, hu with
        | 0, hu =>
          simp only [encR, List.getElem?_cons_zero, Option.some.injEq] at hu
          subst hu
          simpa [encR] using hcell k hk
        | j + 1, hu => simp [encR] at hu
      · rw [hlen] at hk
        rw [nth_map_range _ _ _ hk, nth_map_range _ _ _ hk]
        refine ⟨(hrl k hk).symm, fun hp => ?_⟩
        rw [hrl k hk] at hp
        obtain ⟨_, h1, h2, h3, _, h5, h6⟩ := hrow k (by omega)
        cases hA : A' k with
        | none => have := h5 hA; omega
        | some a' =>
          have hc := (h6 a' hA).2
          obtain ⟨b, o, rfl, hcc⟩ := ints_at (fun i hi => hc i (by omega)) (by omega)
          refine ⟨b, o, rfl, World.block_lt_of_cell? W _ (hcc 0 (by omega)), fun i hi => ?_⟩
          rw [hrl k hk] at hi
          rw [hcc i (by omega), nth_take _ _ _ hi]
          rfl
    · rw [hlen]; simp [maxLen] at hm; omega
    · intro k hk
      rw [hlen] at hk
      rw [nth_map_range _ _ _ hk, hrl k hk]
      obtain ⟨_, h1, h2, _⟩ := hrow k (by omega)
      simp [maxLen] at h2; omega
end
end Go.Proofs.Ytpabfbaoibmnlaa
