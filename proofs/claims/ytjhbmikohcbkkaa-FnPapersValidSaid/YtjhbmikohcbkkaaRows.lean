/-
  No cell of these rows narrows 'for every input' (looked for: loops, veiled, ifaces, maps, wideKeys, modest, calm, conditions, laid).
  DERIVED. THE GIVEN ROWS OF THIS SEAT. 6 by the template 'for every input the law returns true; each argument reads behind the call as it read before'; 0 by the template 'total and deterministic' (their statements: YtjhbmikohcbkkaaTotals.lean).
  GIVEN WITH THE SEED: the statements are not yours to turn. If you find one false, say at which input.
  Laid BY PROGRAM, IN A SANDBOX (cutbox-rows.mjs): the forced cells as the released guide's own fill.sh prints them over the translation d0cd4944cb881245… (all of the seat's roots in one cut). By AI agents, Wed Nov 11 2026. No macro, syntax, notation, axiom, sorry.
-/
import Derived.Test.YtjhbmikohcbkkaaChecked
import GoSem.Claim
import GoSem.ClaimJoined
import GoSem.ClaimMapViews
import Derived.JoinedTies
import Derived.KernelRfl
namespace Go.Proofs.Ytjhbmikohcbkkaa
/- THE CELL 'sum', in the pinned program and in every row, IS THE sha256 OF THE DUMP (.gsa) THAT YtjhbmikohcbkkaaProg.lean LOADS. Nothing in Lean hashes anything: it is a label: what it is worth is what the hold of that sum in a sandbox is worth. -/
noncomputable def Try.pinned : Pinned := { name := "ytjhbmikohcbkkaa", sum := "d0cd4944cb881245b590ee59552faab259ede9b09c3c8070b784a20d7ef2efac", checked := Try.checked }
namespace Rows
def none {H : Type} : Left H := { results := [], args := [] }

/-- 'laws.FnExactDiffMany': WHATEVER THE INPUT: true; the input reads as it did. -/
def fnExactDiffManySpec : ChangeSpec := { name := "fnExactDiffMany", fn := fun _ => fun
  | [d1, d2] => { results := [.lit (.bool true)], args := [d1, d2] }
  | _ => none }
def fnExactDiffManyRow : OpenClaim := { program := "ytjhbmikohcbkkaa", sum := "d0cd4944cb881245b590ee59552faab259ede9b09c3c8070b784a20d7ef2efac", func := "loop.example/containerport/laws.FnExactDiffMany", spec := "fnExactDiffMany", apart := false }
def FnExactDiffManySaid : Prop := fnExactDiffManyRow.holds Try.pinned (OpenSpec.ofChange fnExactDiffManySpec)

/-- ITS FALSE NEIGHBOUR: 'it returns false'. Refute it at one input. -/
def fnExactDiffManyWrong : ChangeSpec := { name := "fnExactDiffMany", fn := fun _ => fun
  | [d1, d2] => { results := [.lit (.bool false)], args := [d1, d2] }
  | _ => none }
def FnExactDiffManyWrongFalsely : Prop := fnExactDiffManyRow.holds Try.pinned (OpenSpec.ofChange fnExactDiffManyWrong)

/-- 'laws.FnExactMarksOf': WHATEVER THE INPUT: true; the input reads as it did. -/
def fnExactMarksOfSpec : ChangeSpec := { name := "fnExactMarksOf", fn := fun _ => fun
  | [d1, d2] => { results := [.lit (.bool true)], args := [d1, d2] }
  | _ => none }
def fnExactMarksOfRow : OpenClaim := { program := "ytjhbmikohcbkkaa", sum := "d0cd4944cb881245b590ee59552faab259ede9b09c3c8070b784a20d7ef2efac", func := "loop.example/containerport/laws.FnExactMarksOf", spec := "fnExactMarksOf", apart := false }
def FnExactMarksOfSaid : Prop := fnExactMarksOfRow.holds Try.pinned (OpenSpec.ofChange fnExactMarksOfSpec)

/-- ITS FALSE NEIGHBOUR: 'it returns false'. Refute it at one input. -/
def fnExactMarksOfWrong : ChangeSpec := { name := "fnExactMarksOf", fn := fun _ => fun
  | [d1, d2] => { results := [.lit (.bool false)], args := [d1, d2] }
  | _ => none }
def FnExactMarksOfWrongFalsely : Prop := fnExactMarksOfRow.holds Try.pinned (OpenSpec.ofChange fnExactMarksOfWrong)

/-- 'laws.FnExactPapersValid': WHATEVER THE INPUT: true; the input reads as it did. -/
def fnExactPapersValidSpec : ChangeSpec := { name := "fnExactPapersValid", fn := fun _ => fun
  | [d] => { results := [.lit (.bool true)], args := [d] }
  | _ => none }
def fnExactPapersValidRow : OpenClaim := { program := "ytjhbmikohcbkkaa", sum := "d0cd4944cb881245b590ee59552faab259ede9b09c3c8070b784a20d7ef2efac", func := "loop.example/containerport/laws.FnExactPapersValid", spec := "fnExactPapersValid", apart := false }
def FnExactPapersValidSaid : Prop := fnExactPapersValidRow.holds Try.pinned (OpenSpec.ofChange fnExactPapersValidSpec)

/-- ITS FALSE NEIGHBOUR: 'it returns false'. Refute it at one input. -/
def fnExactPapersValidWrong : ChangeSpec := { name := "fnExactPapersValid", fn := fun _ => fun
  | [d] => { results := [.lit (.bool false)], args := [d] }
  | _ => none }
def FnExactPapersValidWrongFalsely : Prop := fnExactPapersValidRow.holds Try.pinned (OpenSpec.ofChange fnExactPapersValidWrong)

/-- 'laws.FnDiffMany': WHATEVER THE INPUT: true; the input reads as it did. -/
def fnDiffManySpec : ChangeSpec := { name := "fnDiffMany", fn := fun _ => fun
  | [d] => { results := [.lit (.bool true)], args := [d] }
  | _ => none }
def fnDiffManyRow : OpenClaim := { program := "ytjhbmikohcbkkaa", sum := "d0cd4944cb881245b590ee59552faab259ede9b09c3c8070b784a20d7ef2efac", func := "loop.example/containerport/laws.FnDiffMany", spec := "fnDiffMany", inPlace := ["internal/bytealg.IndexByteString"], apart := false }
def FnDiffManySaid : Prop := fnDiffManyRow.holds Try.pinned (OpenSpec.ofChange fnDiffManySpec)

/-- ITS FALSE NEIGHBOUR: 'it returns false'. Refute it at one input. -/
def fnDiffManyWrong : ChangeSpec := { name := "fnDiffMany", fn := fun _ => fun
  | [d] => { results := [.lit (.bool false)], args := [d] }
  | _ => none }
def FnDiffManyWrongFalsely : Prop := fnDiffManyRow.holds Try.pinned (OpenSpec.ofChange fnDiffManyWrong)

/-- 'laws.FnPapersValid': WHATEVER THE INPUT: true; the input reads as it did. -/
def fnPapersValidSpec : ChangeSpec := { name := "fnPapersValid", fn := fun _ => fun
  | [d] => { results := [.lit (.bool true)], args := [d] }
  | _ => none }
def fnPapersValidRow : OpenClaim := { program := "ytjhbmikohcbkkaa", sum := "d0cd4944cb881245b590ee59552faab259ede9b09c3c8070b784a20d7ef2efac", func := "loop.example/containerport/laws.FnPapersValid", spec := "fnPapersValid", inPlace := ["internal/bytealg.IndexByteString"], apart := false }
def FnPapersValidSaid : Prop := fnPapersValidRow.holds Try.pinned (OpenSpec.ofChange fnPapersValidSpec)

/-- ITS FALSE NEIGHBOUR: 'it returns false'. Refute it at one input. -/
def fnPapersValidWrong : ChangeSpec := { name := "fnPapersValid", fn := fun _ => fun
  | [d] => { results := [.lit (.bool false)], args := [d] }
  | _ => none }
def FnPapersValidWrongFalsely : Prop := fnPapersValidRow.holds Try.pinned (OpenSpec.ofChange fnPapersValidWrong)

/-- 'laws.FnExactFreeDeeds': WHATEVER THE INPUT: true; the input reads as it did. -/
def fnExactFreeDeedsSpec : ChangeSpec := { name := "fnExactFreeDeeds", fn := fun _ => fun
  | [d1, d2] => { results := [.lit (.bool true)], args := [d1, d2] }
  | _ => none }
def fnExactFreeDeedsRow : OpenClaim := { program := "ytjhbmikohcbkkaa", sum := "d0cd4944cb881245b590ee59552faab259ede9b09c3c8070b784a20d7ef2efac", func := "loop.example/containerport/laws.FnExactFreeDeeds", spec := "fnExactFreeDeeds", apart := false }
def FnExactFreeDeedsSaid : Prop := fnExactFreeDeedsRow.holds Try.pinned (OpenSpec.ofChange fnExactFreeDeedsSpec)

/-- ITS FALSE NEIGHBOUR: 'it returns false'. Refute it at one input. -/
def fnExactFreeDeedsWrong : ChangeSpec := { name := "fnExactFreeDeeds", fn := fun _ => fun
  | [d1, d2] => { results := [.lit (.bool false)], args := [d1, d2] }
  | _ => none }
def FnExactFreeDeedsWrongFalsely : Prop := fnExactFreeDeedsRow.holds Try.pinned (OpenSpec.ofChange fnExactFreeDeedsWrong)

/- THE SECOND FORM. 'bulk': how many values and letters a reading holds, each counted each time it is reached (what is shared counts as often as it is met; a slice's spare places count too). A statement '..UptoSaid' is the law's where the arguments, and the package variables that the reading takes, are together of bulk at most 1048576: NARROWER than '..Said'. Prove '..Said' where nothing that the law and all that it calls make is longer than what came in: it says more and counts as full. Else prove '..UptoSaid'. A law counts once. -/
mutual
def uptoBulk {H : Type} : DataW H → Nat
  | .lit (.string bytes) => bytes.length + 1
  | .lit _ => 1
  | .nil => 1
  | .ptr d => uptoBulk d + 1
  | .slice elems spare => uptoBulkAll elems + uptoBulkAll spare + 1
  | .agg parts => uptoBulkAll parts + 1
  | .iface _ d => uptoBulk d + 1
  | .map entries => uptoBulkEntries entries + 1
  | .held _ => 1
def uptoBulkAll {H : Type} : List (DataW H) → Nat
  | [] => 0
  | d :: r => uptoBulk d + uptoBulkAll r
def uptoBulkEntries {H : Type} : List (Lit × DataW H) → Nat
  | [] => 0
  | x :: r => uptoBulkEntry x + uptoBulkEntries r
def uptoBulkEntry {H : Type} : Lit × DataW H → Nat
  | (.string bytes, d) => bytes.length + uptoBulk d + 1
  | (_, d) => uptoBulk d + 1
 end
def uptoSmall : (H : Type) → List (DataW H) → Bool := fun _ ds => decide (uptoBulkAll ds ≤ 1048576)
def OpenSpec.upto (s : _root_.Go.ChangeSpec) : _root_.Go.OpenSpec := { _root_.Go.OpenSpec.ofChange s with cond := some uptoSmall }

/-- 'laws.FnExactDiffMany', WHERE WHAT IT READS IS OF BULK AT MOST 1048576: true; the input reads as it did. -/
def fnExactDiffManyUptoRow : OpenClaim := { program := "ytjhbmikohcbkkaa", sum := "d0cd4944cb881245b590ee59552faab259ede9b09c3c8070b784a20d7ef2efac", func := "loop.example/containerport/laws.FnExactDiffMany", spec := "fnExactDiffMany", apart := false, narrowed := true }
def FnExactDiffManyUptoSaid : Prop := fnExactDiffManyUptoRow.holds Try.pinned (OpenSpec.upto fnExactDiffManySpec)

/-- 'laws.FnExactMarksOf', WHERE WHAT IT READS IS OF BULK AT MOST 1048576: true; the input reads as it did. -/
def fnExactMarksOfUptoRow : OpenClaim := { program := "ytjhbmikohcbkkaa", sum := "d0cd4944cb881245b590ee59552faab259ede9b09c3c8070b784a20d7ef2efac", func := "loop.example/containerport/laws.FnExactMarksOf", spec := "fnExactMarksOf", apart := false, narrowed := true }
def FnExactMarksOfUptoSaid : Prop := fnExactMarksOfUptoRow.holds Try.pinned (OpenSpec.upto fnExactMarksOfSpec)

/-- 'laws.FnExactPapersValid', WHERE WHAT IT READS IS OF BULK AT MOST 1048576: true; the input reads as it did. -/
def fnExactPapersValidUptoRow : OpenClaim := { program := "ytjhbmikohcbkkaa", sum := "d0cd4944cb881245b590ee59552faab259ede9b09c3c8070b784a20d7ef2efac", func := "loop.example/containerport/laws.FnExactPapersValid", spec := "fnExactPapersValid", apart := false, narrowed := true }
def FnExactPapersValidUptoSaid : Prop := fnExactPapersValidUptoRow.holds Try.pinned (OpenSpec.upto fnExactPapersValidSpec)

/-- 'laws.FnDiffMany', WHERE WHAT IT READS IS OF BULK AT MOST 1048576: true; the input reads as it did. -/
def fnDiffManyUptoRow : OpenClaim := { program := "ytjhbmikohcbkkaa", sum := "d0cd4944cb881245b590ee59552faab259ede9b09c3c8070b784a20d7ef2efac", func := "loop.example/containerport/laws.FnDiffMany", spec := "fnDiffMany", inPlace := ["internal/bytealg.IndexByteString"], apart := false, narrowed := true }
def FnDiffManyUptoSaid : Prop := fnDiffManyUptoRow.holds Try.pinned (OpenSpec.upto fnDiffManySpec)

/-- 'laws.FnPapersValid', WHERE WHAT IT READS IS OF BULK AT MOST 1048576: true; the input reads as it did. -/
def fnPapersValidUptoRow : OpenClaim := { program := "ytjhbmikohcbkkaa", sum := "d0cd4944cb881245b590ee59552faab259ede9b09c3c8070b784a20d7ef2efac", func := "loop.example/containerport/laws.FnPapersValid", spec := "fnPapersValid", inPlace := ["internal/bytealg.IndexByteString"], apart := false, narrowed := true }
def FnPapersValidUptoSaid : Prop := fnPapersValidUptoRow.holds Try.pinned (OpenSpec.upto fnPapersValidSpec)

/-- 'laws.FnExactFreeDeeds', WHERE WHAT IT READS IS OF BULK AT MOST 1048576: true; the input reads as it did. -/
def fnExactFreeDeedsUptoRow : OpenClaim := { program := "ytjhbmikohcbkkaa", sum := "d0cd4944cb881245b590ee59552faab259ede9b09c3c8070b784a20d7ef2efac", func := "loop.example/containerport/laws.FnExactFreeDeeds", spec := "fnExactFreeDeeds", apart := false, narrowed := true }
def FnExactFreeDeedsUptoSaid : Prop := fnExactFreeDeedsUptoRow.holds Try.pinned (OpenSpec.upto fnExactFreeDeedsSpec)

end Rows
end Go.Proofs.Ytjhbmikohcbkkaa
