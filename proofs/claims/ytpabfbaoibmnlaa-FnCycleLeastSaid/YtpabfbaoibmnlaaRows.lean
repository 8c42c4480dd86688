/-
  No cell of these rows narrows 'for every input' (looked for: loops, veiled, ifaces, maps, wideKeys, modest, calm, conditions, laid).
  DERIVED. THE GIVEN ROWS OF THIS SEAT. 10 by the template 'for every input the law returns true; each argument reads behind the call as it read before'; 0 by the template 'total and deterministic' (their statements: YtpabfbaoibmnlaaTotals.lean).
  GIVEN WITH THE SEED: the statements are not yours to turn. If you find one false, say at which input.
  Laid BY PROGRAM, IN A SANDBOX (cutbox-rows.mjs): the forced cells as the released guide's own fill.sh prints them over the translation a56e64d206ee314a… (all of the seat's roots in one cut). By AI agents, Wed Nov 11 2026. No macro, syntax, notation, axiom, sorry.
-/
import Derived.Test.YtpabfbaoibmnlaaChecked
import GoSem.Claim
import GoSem.ClaimJoined
import GoSem.ClaimMapViews
import Derived.JoinedTies
import Derived.KernelRfl
namespace Go.Proofs.Ytpabfbaoibmnlaa
/- THE CELL 'sum', in the pinned program and in every row, IS THE sha256 OF THE DUMP (.gsa) THAT YtpabfbaoibmnlaaProg.lean LOADS. Nothing in Lean hashes anything: it is a label: what it is worth is what the hold of that sum in a sandbox is worth. -/
noncomputable def Try.pinned : Pinned := { name := "ytpabfbaoibmnlaa", sum := "a56e64d206ee314ac7318a8685f14703e5a558149a6d2c9e2c0fabdf34e13275", checked := Try.checked }
namespace Rows
def none {H : Type} : Left H := { results := [], args := [] }

/-- 'laws.FnExactCostsValid': WHATEVER THE INPUT: true; the input reads as it did. -/
def fnExactCostsValidSpec : ChangeSpec := { name := "fnExactCostsValid", fn := fun _ => fun
  | [d] => { results := [.lit (.bool true)], args := [d] }
  | _ => none }
def fnExactCostsValidRow : OpenClaim := { program := "ytpabfbaoibmnlaa", sum := "a56e64d206ee314ac7318a8685f14703e5a558149a6d2c9e2c0fabdf34e13275", func := "loop.example/containerport/laws.FnExactCostsValid", spec := "fnExactCostsValid", apart := false }
def FnExactCostsValidSaid : Prop := fnExactCostsValidRow.holds Try.pinned (OpenSpec.ofChange fnExactCostsValidSpec)

/-- ITS FALSE NEIGHBOUR: 'it returns false'. Refute it at one input. -/
def fnExactCostsValidWrong : ChangeSpec := { name := "fnExactCostsValid", fn := fun _ => fun
  | [d] => { results := [.lit (.bool false)], args := [d] }
  | _ => none }
def FnExactCostsValidWrongFalsely : Prop := fnExactCostsValidRow.holds Try.pinned (OpenSpec.ofChange fnExactCostsValidWrong)

/-- 'laws.FnCostsValid': WHATEVER THE INPUT: true; the input reads as it did. -/
def fnCostsValidSpec : ChangeSpec := { name := "fnCostsValid", fn := fun _ => fun
  | [d] => { results := [.lit (.bool true)], args := [d] }
  | _ => none }
def fnCostsValidRow : OpenClaim := { program := "ytpabfbaoibmnlaa", sum := "a56e64d206ee314ac7318a8685f14703e5a558149a6d2c9e2c0fabdf34e13275", func := "loop.example/containerport/laws.FnCostsValid", spec := "fnCostsValid", inPlace := ["internal/bytealg.IndexByteString"], apart := false }
def FnCostsValidSaid : Prop := fnCostsValidRow.holds Try.pinned (OpenSpec.ofChange fnCostsValidSpec)

/-- ITS FALSE NEIGHBOUR: 'it returns false'. Refute it at one input. -/
def fnCostsValidWrong : ChangeSpec := { name := "fnCostsValid", fn := fun _ => fun
  | [d] => { results := [.lit (.bool false)], args := [d] }
  | _ => none }
def FnCostsValidWrongFalsely : Prop := fnCostsValidRow.holds Try.pinned (OpenSpec.ofChange fnCostsValidWrong)

/-- 'laws.FnExactHaulCost': WHATEVER THE INPUT: true; the input reads as it did. -/
def fnExactHaulCostSpec : ChangeSpec := { name := "fnExactHaulCost", fn := fun _ => fun
  | [d1, d2] => { results := [.lit (.bool true)], args := [d1, d2] }
  | _ => none }
def fnExactHaulCostRow : OpenClaim := { program := "ytpabfbaoibmnlaa", sum := "a56e64d206ee314ac7318a8685f14703e5a558149a6d2c9e2c0fabdf34e13275", func := "loop.example/containerport/laws.FnExactHaulCost", spec := "fnExactHaulCost", apart := false }
def FnExactHaulCostSaid : Prop := fnExactHaulCostRow.holds Try.pinned (OpenSpec.ofChange fnExactHaulCostSpec)

/-- ITS FALSE NEIGHBOUR: 'it returns false'. Refute it at one input. -/
def fnExactHaulCostWrong : ChangeSpec := { name := "fnExactHaulCost", fn := fun _ => fun
  | [d1, d2] => { results := [.lit (.bool false)], args := [d1, d2] }
  | _ => none }
def FnExactHaulCostWrongFalsely : Prop := fnExactHaulCostRow.holds Try.pinned (OpenSpec.ofChange fnExactHaulCostWrong)

/-- 'laws.FnExactLeastHauls': WHATEVER THE INPUT: true; the input reads as it did. -/
def fnExactLeastHaulsSpec : ChangeSpec := { name := "fnExactLeastHauls", fn := fun _ => fun
  | [d] => { results := [.lit (.bool true)], args := [d] }
  | _ => none }
def fnExactLeastHaulsRow : OpenClaim := { program := "ytpabfbaoibmnlaa", sum := "a56e64d206ee314ac7318a8685f14703e5a558149a6d2c9e2c0fabdf34e13275", func := "loop.example/containerport/laws.FnExactLeastHauls", spec := "fnExactLeastHauls", unfollowed := true, recurses := true, apart := false }
def FnExactLeastHaulsSaid : Prop := fnExactLeastHaulsRow.holds Try.pinned (OpenSpec.ofChange fnExactLeastHaulsSpec)

/-- ITS FALSE NEIGHBOUR: 'it returns false'. Refute it at one input. -/
def fnExactLeastHaulsWrong : ChangeSpec := { name := "fnExactLeastHauls", fn := fun _ => fun
  | [d] => { results := [.lit (.bool false)], args := [d] }
  | _ => none }
def FnExactLeastHaulsWrongFalsely : Prop := fnExactLeastHaulsRow.holds Try.pinned (OpenSpec.ofChange fnExactLeastHaulsWrong)

/-- 'laws.FnExactBestHauls': WHATEVER THE INPUT: true; the input reads as it did. -/
def fnExactBestHaulsSpec : ChangeSpec := { name := "fnExactBestHauls", fn := fun _ => fun
  | [d] => { results := [.lit (.bool true)], args := [d] }
  | _ => none }
def fnExactBestHaulsRow : OpenClaim := { program := "ytpabfbaoibmnlaa", sum := "a56e64d206ee314ac7318a8685f14703e5a558149a6d2c9e2c0fabdf34e13275", func := "loop.example/containerport/laws.FnExactBestHauls", spec := "fnExactBestHauls", unfollowed := true, recurses := true, apart := false }
def FnExactBestHaulsSaid : Prop := fnExactBestHaulsRow.holds Try.pinned (OpenSpec.ofChange fnExactBestHaulsSpec)

/-- ITS FALSE NEIGHBOUR: 'it returns false'. Refute it at one input. -/
def fnExactBestHaulsWrong : ChangeSpec := { name := "fnExactBestHauls", fn := fun _ => fun
  | [d] => { results := [.lit (.bool false)], args := [d] }
  | _ => none }
def FnExactBestHaulsWrongFalsely : Prop := fnExactBestHaulsRow.holds Try.pinned (OpenSpec.ofChange fnExactBestHaulsWrong)

/-- 'laws.FnHaulCost': WHATEVER THE INPUT: true; the input reads as it did. -/
def fnHaulCostSpec : ChangeSpec := { name := "fnHaulCost", fn := fun _ => fun
  | [d] => { results := [.lit (.bool true)], args := [d] }
  | _ => none }
def fnHaulCostRow : OpenClaim := { program := "ytpabfbaoibmnlaa", sum := "a56e64d206ee314ac7318a8685f14703e5a558149a6d2c9e2c0fabdf34e13275", func := "loop.example/containerport/laws.FnHaulCost", spec := "fnHaulCost", inPlace := ["internal/bytealg.IndexByteString"], unfollowed := true, recurses := true, apart := false }
def FnHaulCostSaid : Prop := fnHaulCostRow.holds Try.pinned (OpenSpec.ofChange fnHaulCostSpec)

/-- ITS FALSE NEIGHBOUR: 'it returns false'. Refute it at one input. -/
def fnHaulCostWrong : ChangeSpec := { name := "fnHaulCost", fn := fun _ => fun
  | [d] => { results := [.lit (.bool false)], args := [d] }
  | _ => none }
def FnHaulCostWrongFalsely : Prop := fnHaulCostRow.holds Try.pinned (OpenSpec.ofChange fnHaulCostWrong)

/-- 'laws.FnBestHauls': WHATEVER THE INPUT: true; the input reads as it did. -/
def fnBestHaulsSpec : ChangeSpec := { name := "fnBestHauls", fn := fun _ => fun
  | [d] => { results := [.lit (.bool true)], args := [d] }
  | _ => none }
def fnBestHaulsRow : OpenClaim := { program := "ytpabfbaoibmnlaa", sum := "a56e64d206ee314ac7318a8685f14703e5a558149a6d2c9e2c0fabdf34e13275", func := "loop.example/containerport/laws.FnBestHauls", spec := "fnBestHauls", inPlace := ["internal/bytealg.IndexByteString"], unfollowed := true, recurses := true, apart := false }
def FnBestHaulsSaid : Prop := fnBestHaulsRow.holds Try.pinned (OpenSpec.ofChange fnBestHaulsSpec)

/-- ITS FALSE NEIGHBOUR: 'it returns false'. Refute it at one input. -/
def fnBestHaulsWrong : ChangeSpec := { name := "fnBestHauls", fn := fun _ => fun
  | [d] => { results := [.lit (.bool false)], args := [d] }
  | _ => none }
def FnBestHaulsWrongFalsely : Prop := fnBestHaulsRow.holds Try.pinned (OpenSpec.ofChange fnBestHaulsWrong)

/-- 'laws.FnLeastHauls': WHATEVER THE INPUT: true; the input reads as it did. -/
def fnLeastHaulsSpec : ChangeSpec := { name := "fnLeastHauls", fn := fun _ => fun
  | [d] => { results := [.lit (.bool true)], args := [d] }
  | _ => none }
def fnLeastHaulsRow : OpenClaim := { program := "ytpabfbaoibmnlaa", sum := "a56e64d206ee314ac7318a8685f14703e5a558149a6d2c9e2c0fabdf34e13275", func := "loop.example/containerport/laws.FnLeastHauls", spec := "fnLeastHauls", inPlace := ["internal/bytealg.IndexByteString"], unfollowed := true, recurses := true, apart := false }
def FnLeastHaulsSaid : Prop := fnLeastHaulsRow.holds Try.pinned (OpenSpec.ofChange fnLeastHaulsSpec)

/-- ITS FALSE NEIGHBOUR: 'it returns false'. Refute it at one input. -/
def fnLeastHaulsWrong : ChangeSpec := { name := "fnLeastHauls", fn := fun _ => fun
  | [d] => { results := [.lit (.bool false)], args := [d] }
  | _ => none }
def FnLeastHaulsWrongFalsely : Prop := fnLeastHaulsRow.holds Try.pinned (OpenSpec.ofChange fnLeastHaulsWrong)

/-- 'laws.FnCycleEnd': WHATEVER THE INPUT: true; the input reads as it did. -/
def fnCycleEndSpec : ChangeSpec := { name := "fnCycleEnd", fn := fun _ => fun
  | [d] => { results := [.lit (.bool true)], args := [d] }
  | _ => none }
def fnCycleEndRow : OpenClaim := { program := "ytpabfbaoibmnlaa", sum := "a56e64d206ee314ac7318a8685f14703e5a558149a6d2c9e2c0fabdf34e13275", func := "loop.example/containerport/laws.FnCycleEnd", spec := "fnCycleEnd", inPlace := ["internal/bytealg.IndexByteString"], unfollowed := true, recurses := true, apart := false }
def FnCycleEndSaid : Prop := fnCycleEndRow.holds Try.pinned (OpenSpec.ofChange fnCycleEndSpec)

/-- ITS FALSE NEIGHBOUR: 'it returns false'. Refute it at one input. -/
def fnCycleEndWrong : ChangeSpec := { name := "fnCycleEnd", fn := fun _ => fun
  | [d] => { results := [.lit (.bool false)], args := [d] }
  | _ => none }
def FnCycleEndWrongFalsely : Prop := fnCycleEndRow.holds Try.pinned (OpenSpec.ofChange fnCycleEndWrong)

/-- 'laws.FnCycleLeast': WHATEVER THE INPUT: true; the input reads as it did. -/
def fnCycleLeastSpec : ChangeSpec := { name := "fnCycleLeast", fn := fun _ => fun
  | [d] => { results := [.lit (.bool true)], args := [d] }
  | _ => none }
def fnCycleLeastRow : OpenClaim := { program := "ytpabfbaoibmnlaa", sum := "a56e64d206ee314ac7318a8685f14703e5a558149a6d2c9e2c0fabdf34e13275", func := "loop.example/containerport/laws.FnCycleLeast", spec := "fnCycleLeast", inPlace := ["internal/bytealg.IndexByteString"], unfollowed := true, recurses := true, apart := false }
def FnCycleLeastSaid : Prop := fnCycleLeastRow.holds Try.pinned (OpenSpec.ofChange fnCycleLeastSpec)

/-- ITS FALSE NEIGHBOUR: 'it returns false'. Refute it at one input. -/
def fnCycleLeastWrong : ChangeSpec := { name := "fnCycleLeast", fn := fun _ => fun
  | [d] => { results := [.lit (.bool false)], args := [d] }
  | _ => none }
def FnCycleLeastWrongFalsely : Prop := fnCycleLeastRow.holds Try.pinned (OpenSpec.ofChange fnCycleLeastWrong)

/- THE SECOND FORM. 'bulk': how many values and letters a reading holds, each counted each time it is reached (what is shared counts as often as it is met; a slice's spare places count too). A statement '..UptoSaid' is the law's where the arguments, and the package variables that the reading takes, are together of bulk at most 1048576: NARROWER than '..Said'. Prove '..Said' where nothing that the law and all that it calls make is longer than what came in: it says more and counts as full. Else prove '..UptoSaid'. A law counts once. -/
mutual
def uptoBulk {H : Type} : DataW H → Nat
  | .lit (.string bytes) => bytes.length + 1
  | .lit _ => 1
  | .nil => 1
  | .ptr d => uptoBulk d + 1
  | .slice elems spare => uptoBulkAll elems + uptoBulkAll spare + 1
  | .agg parts => uptoBulkAll parts + 1
  | .iface _ d => uptoBulk d + 1
  | .map entries => uptoBulkEntries entries + 1
  | .held _ => 1
def uptoBulkAll {H : Type} : List (DataW H) → Nat
  | [] => 0
  | d :: r => uptoBulk d + uptoBulkAll r
def uptoBulkEntries {H : Type} : List (Lit × DataW H) → Nat
  | [] => 0
  | x :: r => uptoBulkEntry x + uptoBulkEntries r
def uptoBulkEntry {H : Type} : Lit × DataW H → Nat
  | (.string bytes, d) => bytes.length + uptoBulk d + 1
  | (_, d) => uptoBulk d + 1
 end
def uptoSmall : (H : Type) → List (DataW H) → Bool := fun _ ds => decide (uptoBulkAll ds ≤ 1048576)
def OpenSpec.upto (s : _root_.Go.ChangeSpec) : _root_.Go.OpenSpec := { _root_.Go.OpenSpec.ofChange s with cond := some uptoSmall }

/-- 'laws.FnExactCostsValid', WHERE WHAT IT READS IS OF BULK AT MOST 1048576: true; the input reads as it did. -/
def fnExactCostsValidUptoRow : OpenClaim := { program := "ytpabfbaoibmnlaa", sum := "a56e64d206ee314ac7318a8685f14703e5a558149a6d2c9e2c0fabdf34e13275", func := "loop.example/containerport/laws.FnExactCostsValid", spec := "fnExactCostsValid", apart := false, narrowed := true }
def FnExactCostsValidUptoSaid : Prop := fnExactCostsValidUptoRow.holds Try.pinned (OpenSpec.upto fnExactCostsValidSpec)

/-- 'laws.FnCostsValid', WHERE WHAT IT READS IS OF BULK AT MOST 1048576: true; the input reads as it did. -/
def fnCostsValidUptoRow : OpenClaim := { program := "ytpabfbaoibmnlaa", sum := "a56e64d206ee314ac7318a8685f14703e5a558149a6d2c9e2c0fabdf34e13275", func := "loop.example/containerport/laws.FnCostsValid", spec := "fnCostsValid", inPlace := ["internal/bytealg.IndexByteString"], apart := false, narrowed := true }
def FnCostsValidUptoSaid : Prop := fnCostsValidUptoRow.holds Try.pinned (OpenSpec.upto fnCostsValidSpec)

/-- 'laws.FnExactHaulCost', WHERE WHAT IT READS IS OF BULK AT MOST 1048576: true; the input reads as it did. -/
def fnExactHaulCostUptoRow : OpenClaim := { program := "ytpabfbaoibmnlaa", sum := "a56e64d206ee314ac7318a8685f14703e5a558149a6d2c9e2c0fabdf34e13275", func := "loop.example/containerport/laws.FnExactHaulCost", spec := "fnExactHaulCost", apart := false, narrowed := true }
def FnExactHaulCostUptoSaid : Prop := fnExactHaulCostUptoRow.holds Try.pinned (OpenSpec.upto fnExactHaulCostSpec)

/-- 'laws.FnExactLeastHauls', WHERE WHAT IT READS IS OF BULK AT MOST 1048576: true; the input reads as it did. -/
def fnExactLeastHaulsUptoRow : OpenClaim := { program := "ytpabfbaoibmnlaa", sum := "a56e64d206ee314ac7318a8685f14703e5a558149a6d2c9e2c0fabdf34e13275", func := "loop.example/containerport/laws.FnExactLeastHauls", spec := "fnExactLeastHauls", unfollowed := true, recurses := true, apart := false, narrowed := true }
def FnExactLeastHaulsUptoSaid : Prop := fnExactLeastHaulsUptoRow.holds Try.pinned (OpenSpec.upto fnExactLeastHaulsSpec)

/-- 'laws.FnExactBestHauls', WHERE WHAT IT READS IS OF BULK AT MOST 1048576: true; the input reads as it did. -/
def fnExactBestHaulsUptoRow : OpenClaim := { program := "ytpabfbaoibmnlaa", sum := "a56e64d206ee314ac7318a8685f14703e5a558149a6d2c9e2c0fabdf34e13275", func := "loop.example/containerport/laws.FnExactBestHauls", spec := "fnExactBestHauls", unfollowed := true, recurses := true, apart := false, narrowed := true }
def FnExactBestHaulsUptoSaid : Prop := fnExactBestHaulsUptoRow.holds Try.pinned (OpenSpec.upto fnExactBestHaulsSpec)

/-- 'laws.FnHaulCost', WHERE WHAT IT READS IS OF BULK AT MOST 1048576: true; the input reads as it did. -/
def fnHaulCostUptoRow : OpenClaim := { program := "ytpabfbaoibmnlaa", sum := "a56e64d206ee314ac7318a8685f14703e5a558149a6d2c9e2c0fabdf34e13275", func := "loop.example/containerport/laws.FnHaulCost", spec := "fnHaulCost", inPlace := ["internal/bytealg.IndexByteString"], unfollowed := true, recurses := true, apart := false, narrowed := true }
def FnHaulCostUptoSaid : Prop := fnHaulCostUptoRow.holds Try.pinned (OpenSpec.upto fnHaulCostSpec)

/-- 'laws.FnBestHauls', WHERE WHAT IT READS IS OF BULK AT MOST 1048576: true; the input reads as it did. -/
def fnBestHaulsUptoRow : OpenClaim := { program := "ytpabfbaoibmnlaa", sum := "a56e64d206ee314ac7318a8685f14703e5a558149a6d2c9e2c0fabdf34e13275", func := "loop.example/containerport/laws.FnBestHauls", spec := "fnBestHauls", inPlace := ["internal/bytealg.IndexByteString"], unfollowed := true, recurses := true, apart := false, narrowed := true }
def FnBestHaulsUptoSaid : Prop := fnBestHaulsUptoRow.holds Try.pinned (OpenSpec.upto fnBestHaulsSpec)

/-- 'laws.FnLeastHauls', WHERE WHAT IT READS IS OF BULK AT MOST 1048576: true; the input reads as it did. -/
def fnLeastHaulsUptoRow : OpenClaim := { program := "ytpabfbaoibmnlaa", sum := "a56e64d206ee314ac7318a8685f14703e5a558149a6d2c9e2c0fabdf34e13275", func := "loop.example/containerport/laws.FnLeastHauls", spec := "fnLeastHauls", inPlace := ["internal/bytealg.IndexByteString"], unfollowed := true, recurses := true, apart := false, narrowed := true }
def FnLeastHaulsUptoSaid : Prop := fnLeastHaulsUptoRow.holds Try.pinned (OpenSpec.upto fnLeastHaulsSpec)

/-- 'laws.FnCycleEnd', WHERE WHAT IT READS IS OF BULK AT MOST 1048576: true; the input reads as it did. -/
def fnCycleEndUptoRow : OpenClaim := { program := "ytpabfbaoibmnlaa", sum := "a56e64d206ee314ac7318a8685f14703e5a558149a6d2c9e2c0fabdf34e13275", func := "loop.example/containerport/laws.FnCycleEnd", spec := "fnCycleEnd", inPlace := ["internal/bytealg.IndexByteString"], unfollowed := true, recurses := true, apart := false, narrowed := true }
def FnCycleEndUptoSaid : Prop := fnCycleEndUptoRow.holds Try.pinned (OpenSpec.upto fnCycleEndSpec)

/-- 'laws.FnCycleLeast', WHERE WHAT IT READS IS OF BULK AT MOST 1048576: true; the input reads as it did. -/
def fnCycleLeastUptoRow : OpenClaim := { program := "ytpabfbaoibmnlaa", sum := "a56e64d206ee314ac7318a8685f14703e5a558149a6d2c9e2c0fabdf34e13275", func := "loop.example/containerport/laws.FnCycleLeast", spec := "fnCycleLeast", inPlace := ["internal/bytealg.IndexByteString"], unfollowed := true, recurses := true, apart := false, narrowed := true }
def FnCycleLeastUptoSaid : Prop := fnCycleLeastUptoRow.holds Try.pinned (OpenSpec.upto fnCycleLeastSpec)

end Rows
end Go.Proofs.Ytpabfbaoibmnlaa
