/-
  No cell of these rows narrows 'for every input' (looked for: loops, veiled, ifaces, maps, wideKeys, modest, calm, conditions, laid).
  DERIVED. THE GIVEN ROWS OF THIS SEAT. 12 by the template 'for every input the law returns true; each argument reads behind the call as it read before'; 0 by the template 'total and deterministic' (their statements: YtkgfcgdihnhflaaTotals.lean).
  GIVEN WITH THE SEED: the statements are not yours to turn. If you find one false, say at which input.
  Laid BY PROGRAM, IN A SANDBOX (cutbox-rows.mjs): the forced cells as the released guide's own fill.sh prints them over the translation 12b1ca8c70327229… (all of the seat's roots in one cut). By AI agents, Wed Nov 11 2026. No macro, syntax, notation, axiom, sorry.
-/
import Derived.Test.YtkgfcgdihnhflaaChecked
import GoSem.Claim
import GoSem.ClaimJoined
import GoSem.ClaimMapViews
import Derived.JoinedTies
import Derived.KernelRfl
namespace Go.Proofs.Ytkgfcgdihnhflaa
/- THE CELL 'sum', in the pinned program and in every row, IS THE sha256 OF THE DUMP (.gsa) THAT YtkgfcgdihnhflaaProg.lean LOADS. Nothing in Lean hashes anything: it is a label: what it is worth is what the hold of that sum in a sandbox is worth. -/
noncomputable def Try.pinned : Pinned := { name := "ytkgfcgdihnhflaa", sum := "12b1ca8c70327229eb6915edeb0e994c73a3b81c5033f7e2e508b3268d811954", checked := Try.checked }
namespace Rows
def none {H : Type} : Left H := { results := [], args := [] }

/-- 'laws.FnExactRingValid': WHATEVER THE INPUT: true; the input reads as it did. -/
def fnExactRingValidSpec : ChangeSpec := { name := "fnExactRingValid", fn := fun _ => fun
  | [d] => { results := [.lit (.bool true)], args := [d] }
  | _ => none }
def fnExactRingValidRow : OpenClaim := { program := "ytkgfcgdihnhflaa", sum := "12b1ca8c70327229eb6915edeb0e994c73a3b81c5033f7e2e508b3268d811954", func := "loop.example/containerport/laws.FnExactRingValid", spec := "fnExactRingValid", apart := false }
def FnExactRingValidSaid : Prop := fnExactRingValidRow.holds Try.pinned (OpenSpec.ofChange fnExactRingValidSpec)

/-- ITS FALSE NEIGHBOUR: 'it returns false'. Refute it at one input. -/
def fnExactRingValidWrong : ChangeSpec := { name := "fnExactRingValid", fn := fun _ => fun
  | [d] => { results := [.lit (.bool false)], args := [d] }
  | _ => none }
def FnExactRingValidWrongFalsely : Prop := fnExactRingValidRow.holds Try.pinned (OpenSpec.ofChange fnExactRingValidWrong)

/-- 'laws.FnExactRingLeft': WHATEVER THE INPUT: true; the input reads as it did. -/
def fnExactRingLeftSpec : ChangeSpec := { name := "fnExactRingLeft", fn := fun _ => fun
  | [d] => { results := [.lit (.bool true)], args := [d] }
  | _ => none }
def fnExactRingLeftRow : OpenClaim := { program := "ytkgfcgdihnhflaa", sum := "12b1ca8c70327229eb6915edeb0e994c73a3b81c5033f7e2e508b3268d811954", func := "loop.example/containerport/laws.FnExactRingLeft", spec := "fnExactRingLeft", apart := false }
def FnExactRingLeftSaid : Prop := fnExactRingLeftRow.holds Try.pinned (OpenSpec.ofChange fnExactRingLeftSpec)

/-- ITS FALSE NEIGHBOUR: 'it returns false'. Refute it at one input. -/
def fnExactRingLeftWrong : ChangeSpec := { name := "fnExactRingLeft", fn := fun _ => fun
  | [d] => { results := [.lit (.bool false)], args := [d] }
  | _ => none }
def FnExactRingLeftWrongFalsely : Prop := fnExactRingLeftRow.holds Try.pinned (OpenSpec.ofChange fnExactRingLeftWrong)

/-- 'laws.FnExactRingStep': WHATEVER THE INPUT: true; the input reads as it did. -/
def fnExactRingStepSpec : ChangeSpec := { name := "fnExactRingStep", fn := fun _ => fun
  | [d1, d2] => { results := [.lit (.bool true)], args := [d1, d2] }
  | _ => none }
def fnExactRingStepRow : OpenClaim := { program := "ytkgfcgdihnhflaa", sum := "12b1ca8c70327229eb6915edeb0e994c73a3b81c5033f7e2e508b3268d811954", func := "loop.example/containerport/laws.FnExactRingStep", spec := "fnExactRingStep", apart := false }
def FnExactRingStepSaid : Prop := fnExactRingStepRow.holds Try.pinned (OpenSpec.ofChange fnExactRingStepSpec)

/-- ITS FALSE NEIGHBOUR: 'it returns false'. Refute it at one input. -/
def fnExactRingStepWrong : ChangeSpec := { name := "fnExactRingStep", fn := fun _ => fun
  | [d1, d2] => { results := [.lit (.bool false)], args := [d1, d2] }
  | _ => none }
def FnExactRingStepWrongFalsely : Prop := fnExactRingStepRow.holds Try.pinned (OpenSpec.ofChange fnExactRingStepWrong)

/-- 'laws.FnRingValid': WHATEVER THE INPUT: true; the input reads as it did. -/
def fnRingValidSpec : ChangeSpec := { name := "fnRingValid", fn := fun _ => fun
  | [d] => { results := [.lit (.bool true)], args := [d] }
  | _ => none }
def fnRingValidRow : OpenClaim := { program := "ytkgfcgdihnhflaa", sum := "12b1ca8c70327229eb6915edeb0e994c73a3b81c5033f7e2e508b3268d811954", func := "loop.example/containerport/laws.FnRingValid", spec := "fnRingValid", inPlace := ["internal/bytealg.IndexByteString"], apart := false }
def FnRingValidSaid : Prop := fnRingValidRow.holds Try.pinned (OpenSpec.ofChange fnRingValidSpec)

/-- ITS FALSE NEIGHBOUR: 'it returns false'. Refute it at one input. -/
def fnRingValidWrong : ChangeSpec := { name := "fnRingValid", fn := fun _ => fun
  | [d] => { results := [.lit (.bool false)], args := [d] }
  | _ => none }
def FnRingValidWrongFalsely : Prop := fnRingValidRow.holds Try.pinned (OpenSpec.ofChange fnRingValidWrong)

/-- 'laws.FnExactRingRun': WHATEVER THE INPUT: true; the input reads as it did. -/
def fnExactRingRunSpec : ChangeSpec := { name := "fnExactRingRun", fn := fun _ => fun
  | [d1, d2] => { results := [.lit (.bool true)], args := [d1, d2] }
  | _ => none }
def fnExactRingRunRow : OpenClaim := { program := "ytkgfcgdihnhflaa", sum := "12b1ca8c70327229eb6915edeb0e994c73a3b81c5033f7e2e508b3268d811954", func := "loop.example/containerport/laws.FnExactRingRun", spec := "fnExactRingRun", apart := false }
def FnExactRingRunSaid : Prop := fnExactRingRunRow.holds Try.pinned (OpenSpec.ofChange fnExactRingRunSpec)

/-- ITS FALSE NEIGHBOUR: 'it returns false'. Refute it at one input. -/
def fnExactRingRunWrong : ChangeSpec := { name := "fnExactRingRun", fn := fun _ => fun
  | [d1, d2] => { results := [.lit (.bool false)], args := [d1, d2] }
  | _ => none }
def FnExactRingRunWrongFalsely : Prop := fnExactRingRunRow.holds Try.pinned (OpenSpec.ofChange fnExactRingRunWrong)

/-- 'laws.FnExactRingStuck': WHATEVER THE INPUT: true; the input reads as it did. -/
def fnExactRingStuckSpec : ChangeSpec := { name := "fnExactRingStuck", fn := fun _ => fun
  | [d] => { results := [.lit (.bool true)], args := [d] }
  | _ => none }
def fnExactRingStuckRow : OpenClaim := { program := "ytkgfcgdihnhflaa", sum := "12b1ca8c70327229eb6915edeb0e994c73a3b81c5033f7e2e508b3268d811954", func := "loop.example/containerport/laws.FnExactRingStuck", spec := "fnExactRingStuck", apart := false }
def FnExactRingStuckSaid : Prop := fnExactRingStuckRow.holds Try.pinned (OpenSpec.ofChange fnExactRingStuckSpec)

/-- ITS FALSE NEIGHBOUR: 'it returns false'. Refute it at one input. -/
def fnExactRingStuckWrong : ChangeSpec := { name := "fnExactRingStuck", fn := fun _ => fun
  | [d] => { results := [.lit (.bool false)], args := [d] }
  | _ => none }
def FnExactRingStuckWrongFalsely : Prop := fnExactRingStuckRow.holds Try.pinned (OpenSpec.ofChange fnExactRingStuckWrong)

/-- 'laws.FnRingLeft': WHATEVER THE INPUT: true; the input reads as it did. -/
def fnRingLeftSpec : ChangeSpec := { name := "fnRingLeft", fn := fun _ => fun
  | [d] => { results := [.lit (.bool true)], args := [d] }
  | _ => none }
def fnRingLeftRow : OpenClaim := { program := "ytkgfcgdihnhflaa", sum := "12b1ca8c70327229eb6915edeb0e994c73a3b81c5033f7e2e508b3268d811954", func := "loop.example/containerport/laws.FnRingLeft", spec := "fnRingLeft", inPlace := ["internal/bytealg.IndexByteString"], apart := false }
def FnRingLeftSaid : Prop := fnRingLeftRow.holds Try.pinned (OpenSpec.ofChange fnRingLeftSpec)

/-- ITS FALSE NEIGHBOUR: 'it returns false'. Refute it at one input. -/
def fnRingLeftWrong : ChangeSpec := { name := "fnRingLeft", fn := fun _ => fun
  | [d] => { results := [.lit (.bool false)], args := [d] }
  | _ => none }
def FnRingLeftWrongFalsely : Prop := fnRingLeftRow.holds Try.pinned (OpenSpec.ofChange fnRingLeftWrong)

/-- 'laws.FnExactRingEmpty': WHATEVER THE INPUT: true; the input reads as it did. -/
def fnExactRingEmptySpec : ChangeSpec := { name := "fnExactRingEmpty", fn := fun _ => fun
  | [d] => { results := [.lit (.bool true)], args := [d] }
  | _ => none }
def fnExactRingEmptyRow : OpenClaim := { program := "ytkgfcgdihnhflaa", sum := "12b1ca8c70327229eb6915edeb0e994c73a3b81c5033f7e2e508b3268d811954", func := "loop.example/containerport/laws.FnExactRingEmpty", spec := "fnExactRingEmpty", apart := false }
def FnExactRingEmptySaid : Prop := fnExactRingEmptyRow.holds Try.pinned (OpenSpec.ofChange fnExactRingEmptySpec)

/-- ITS FALSE NEIGHBOUR: 'it returns false'. Refute it at one input. -/
def fnExactRingEmptyWrong : ChangeSpec := { name := "fnExactRingEmpty", fn := fun _ => fun
  | [d] => { results := [.lit (.bool false)], args := [d] }
  | _ => none }
def FnExactRingEmptyWrongFalsely : Prop := fnExactRingEmptyRow.holds Try.pinned (OpenSpec.ofChange fnExactRingEmptyWrong)

/-- 'laws.FnRingStep': WHATEVER THE INPUT: true; the input reads as it did. -/
def fnRingStepSpec : ChangeSpec := { name := "fnRingStep", fn := fun _ => fun
  | [d] => { results := [.lit (.bool true)], args := [d] }
  | _ => none }
def fnRingStepRow : OpenClaim := { program := "ytkgfcgdihnhflaa", sum := "12b1ca8c70327229eb6915edeb0e994c73a3b81c5033f7e2e508b3268d811954", func := "loop.example/containerport/laws.FnRingStep", spec := "fnRingStep", inPlace := ["internal/bytealg.IndexByteString"], apart := false }
def FnRingStepSaid : Prop := fnRingStepRow.holds Try.pinned (OpenSpec.ofChange fnRingStepSpec)

/-- ITS FALSE NEIGHBOUR: 'it returns false'. Refute it at one input. -/
def fnRingStepWrong : ChangeSpec := { name := "fnRingStep", fn := fun _ => fun
  | [d] => { results := [.lit (.bool false)], args := [d] }
  | _ => none }
def FnRingStepWrongFalsely : Prop := fnRingStepRow.holds Try.pinned (OpenSpec.ofChange fnRingStepWrong)

/-- 'laws.FnRingStuck': WHATEVER THE INPUT: true; the input reads as it did. -/
def fnRingStuckSpec : ChangeSpec := { name := "fnRingStuck", fn := fun _ => fun
  | [d] => { results := [.lit (.bool true)], args := [d] }
  | _ => none }
def fnRingStuckRow : OpenClaim := { program := "ytkgfcgdihnhflaa", sum := "12b1ca8c70327229eb6915edeb0e994c73a3b81c5033f7e2e508b3268d811954", func := "loop.example/containerport/laws.FnRingStuck", spec := "fnRingStuck", inPlace := ["internal/bytealg.IndexByteString"], apart := false }
def FnRingStuckSaid : Prop := fnRingStuckRow.holds Try.pinned (OpenSpec.ofChange fnRingStuckSpec)

/-- ITS FALSE NEIGHBOUR: 'it returns false'. Refute it at one input. -/
def fnRingStuckWrong : ChangeSpec := { name := "fnRingStuck", fn := fun _ => fun
  | [d] => { results := [.lit (.bool false)], args := [d] }
  | _ => none }
def FnRingStuckWrongFalsely : Prop := fnRingStuckRow.holds Try.pinned (OpenSpec.ofChange fnRingStuckWrong)

/-- 'laws.FnRingRun': WHATEVER THE INPUT: true; the input reads as it did. -/
def fnRingRunSpec : ChangeSpec := { name := "fnRingRun", fn := fun _ => fun
  | [d] => { results := [.lit (.bool true)], args := [d] }
  | _ => none }
def fnRingRunRow : OpenClaim := { program := "ytkgfcgdihnhflaa", sum := "12b1ca8c70327229eb6915edeb0e994c73a3b81c5033f7e2e508b3268d811954", func := "loop.example/containerport/laws.FnRingRun", spec := "fnRingRun", inPlace := ["internal/bytealg.IndexByteString"], apart := false }
def FnRingRunSaid : Prop := fnRingRunRow.holds Try.pinned (OpenSpec.ofChange fnRingRunSpec)

/-- ITS FALSE NEIGHBOUR: 'it returns false'. Refute it at one input. -/
def fnRingRunWrong : ChangeSpec := { name := "fnRingRun", fn := fun _ => fun
  | [d] => { results := [.lit (.bool false)], args := [d] }
  | _ => none }
def FnRingRunWrongFalsely : Prop := fnRingRunRow.holds Try.pinned (OpenSpec.ofChange fnRingRunWrong)

/-- 'laws.FnRingEmpty': WHATEVER THE INPUT: true; the input reads as it did. -/
def fnRingEmptySpec : ChangeSpec := { name := "fnRingEmpty", fn := fun _ => fun
  | [d] => { results := [.lit (.bool true)], args := [d] }
  | _ => none }
def fnRingEmptyRow : OpenClaim := { program := "ytkgfcgdihnhflaa", sum := "12b1ca8c70327229eb6915edeb0e994c73a3b81c5033f7e2e508b3268d811954", func := "loop.example/containerport/laws.FnRingEmpty", spec := "fnRingEmpty", inPlace := ["internal/bytealg.IndexByteString"], apart := false }
def FnRingEmptySaid : Prop := fnRingEmptyRow.holds Try.pinned (OpenSpec.ofChange fnRingEmptySpec)

/-- ITS FALSE NEIGHBOUR: 'it returns false'. Refute it at one input. -/
def fnRingEmptyWrong : ChangeSpec := { name := "fnRingEmpty", fn := fun _ => fun
  | [d] => { results := [.lit (.bool false)], args := [d] }
  | _ => none }
def FnRingEmptyWrongFalsely : Prop := fnRingEmptyRow.holds Try.pinned (OpenSpec.ofChange fnRingEmptyWrong)

/- THE SECOND FORM. 'bulk': how many values and letters a reading holds, each counted each time it is reached (what is shared counts as often as it is met; a slice's spare places count too). A statement '..UptoSaid' is the law's where the arguments, and the package variables that the reading takes, are together of bulk at most 1048576: NARROWER than '..Said'. Prove '..Said' where nothing that the law and all that it calls make is longer than what came in: it says more and counts as full. Else prove '..UptoSaid'. A law counts once. -/
mutual
def uptoBulk {H : Type} : DataW H → Nat
  | .lit (.string bytes) => bytes.length + 1
  | .lit _ => 1
  | .nil => 1
  | .ptr d => uptoBulk d + 1
  | .slice elems spare => uptoBulkAll elems + uptoBulkAll spare + 1
  | .agg parts => uptoBulkAll parts + 1
  | .iface _ d => uptoBulk d + 1
  | .map entries => uptoBulkEntries entries + 1
  | .held _ => 1
def uptoBulkAll {H : Type} : List (DataW H) → Nat
  | [] => 0
  | d :: r => uptoBulk d + uptoBulkAll r
def uptoBulkEntries {H : Type} : List (Lit × DataW H) → Nat
  | [] => 0
  | x :: r => uptoBulkEntry x + uptoBulkEntries r
def uptoBulkEntry {H : Type} : Lit × DataW H → Nat
  | (.string bytes, d) => bytes.length + uptoBulk d + 1
  | (_, d) => uptoBulk d + 1
 end
def uptoSmall : (H : Type) → List (DataW H) → Bool := fun _ ds => decide (uptoBulkAll ds ≤ 1048576)
def OpenSpec.upto (s : _root_.Go.ChangeSpec) : _root_.Go.OpenSpec := { _root_.Go.OpenSpec.ofChange s with cond := some uptoSmall }

/-- 'laws.FnExactRingValid', WHERE WHAT IT READS IS OF BULK AT MOST 1048576: true; the input reads as it did. -/
def fnExactRingValidUptoRow : OpenClaim := { program := "ytkgfcgdihnhflaa", sum := "12b1ca8c70327229eb6915edeb0e994c73a3b81c5033f7e2e508b3268d811954", func := "loop.example/containerport/laws.FnExactRingValid", spec := "fnExactRingValid", apart := false, narrowed := true }
def FnExactRingValidUptoSaid : Prop := fnExactRingValidUptoRow.holds Try.pinned (OpenSpec.upto fnExactRingValidSpec)

/-- 'laws.FnExactRingLeft', WHERE WHAT IT READS IS OF BULK AT MOST 1048576: true; the input reads as it did. -/
def fnExactRingLeftUptoRow : OpenClaim := { program := "ytkgfcgdihnhflaa", sum := "12b1ca8c70327229eb6915edeb0e994c73a3b81c5033f7e2e508b3268d811954", func := "loop.example/containerport/laws.FnExactRingLeft", spec := "fnExactRingLeft", apart := false, narrowed := true }
def FnExactRingLeftUptoSaid : Prop := fnExactRingLeftUptoRow.holds Try.pinned (OpenSpec.upto fnExactRingLeftSpec)

/-- 'laws.FnExactRingStep', WHERE WHAT IT READS IS OF BULK AT MOST 1048576: true; the input reads as it did. -/
def fnExactRingStepUptoRow : OpenClaim := { program := "ytkgfcgdihnhflaa", sum := "12b1ca8c70327229eb6915edeb0e994c73a3b81c5033f7e2e508b3268d811954", func := "loop.example/containerport/laws.FnExactRingStep", spec := "fnExactRingStep", apart := false, narrowed := true }
def FnExactRingStepUptoSaid : Prop := fnExactRingStepUptoRow.holds Try.pinned (OpenSpec.upto fnExactRingStepSpec)

/-- 'laws.FnRingValid', WHERE WHAT IT READS IS OF BULK AT MOST 1048576: true; the input reads as it did. -/
def fnRingValidUptoRow : OpenClaim := { program := "ytkgfcgdihnhflaa", sum := "12b1ca8c70327229eb6915edeb0e994c73a3b81c5033f7e2e508b3268d811954", func := "loop.example/containerport/laws.FnRingValid", spec := "fnRingValid", inPlace := ["internal/bytealg.IndexByteString"], apart := false, narrowed := true }
def FnRingValidUptoSaid : Prop := fnRingValidUptoRow.holds Try.pinned (OpenSpec.upto fnRingValidSpec)

/-- 'laws.FnExactRingRun', WHERE WHAT IT READS IS OF BULK AT MOST 1048576: true; the input reads as it did. -/
def fnExactRingRunUptoRow : OpenClaim := { program := "ytkgfcgdihnhflaa", sum := "12b1ca8c70327229eb6915edeb0e994c73a3b81c5033f7e2e508b3268d811954", func := "loop.example/containerport/laws.FnExactRingRun", spec := "fnExactRingRun", apart := false, narrowed := true }
def FnExactRingRunUptoSaid : Prop := fnExactRingRunUptoRow.holds Try.pinned (OpenSpec.upto fnExactRingRunSpec)

/-- 'laws.FnExactRingStuck', WHERE WHAT IT READS IS OF BULK AT MOST 1048576: true; the input reads as it did. -/
def fnExactRingStuckUptoRow : OpenClaim := { program := "ytkgfcgdihnhflaa", sum := "12b1ca8c70327229eb6915edeb0e994c73a3b81c5033f7e2e508b3268d811954", func := "loop.example/containerport/laws.FnExactRingStuck", spec := "fnExactRingStuck", apart := false, narrowed := true }
def FnExactRingStuckUptoSaid : Prop := fnExactRingStuckUptoRow.holds Try.pinned (OpenSpec.upto fnExactRingStuckSpec)

/-- 'laws.FnRingLeft', WHERE WHAT IT READS IS OF BULK AT MOST 1048576: true; the input reads as it did. -/
def fnRingLeftUptoRow : OpenClaim := { program := "ytkgfcgdihnhflaa", sum := "12b1ca8c70327229eb6915edeb0e994c73a3b81c5033f7e2e508b3268d811954", func := "loop.example/containerport/laws.FnRingLeft", spec := "fnRingLeft", inPlace := ["internal/bytealg.IndexByteString"], apart := false, narrowed := true }
def FnRingLeftUptoSaid : Prop := fnRingLeftUptoRow.holds Try.pinned (OpenSpec.upto fnRingLeftSpec)

/-- 'laws.FnExactRingEmpty', WHERE WHAT IT READS IS OF BULK AT MOST 1048576: true; the input reads as it did. -/
def fnExactRingEmptyUptoRow : OpenClaim := { program := "ytkgfcgdihnhflaa", sum := "12b1ca8c70327229eb6915edeb0e994c73a3b81c5033f7e2e508b3268d811954", func := "loop.example/containerport/laws.FnExactRingEmpty", spec := "fnExactRingEmpty", apart := false, narrowed := true }
def FnExactRingEmptyUptoSaid : Prop := fnExactRingEmptyUptoRow.holds Try.pinned (OpenSpec.upto fnExactRingEmptySpec)

/-- 'laws.FnRingStep', WHERE WHAT IT READS IS OF BULK AT MOST 1048576: true; the input reads as it did. -/
def fnRingStepUptoRow : OpenClaim := { program := "ytkgfcgdihnhflaa", sum := "12b1ca8c70327229eb6915edeb0e994c73a3b81c5033f7e2e508b3268d811954", func := "loop.example/containerport/laws.FnRingStep", spec := "fnRingStep", inPlace := ["internal/bytealg.IndexByteString"], apart := false, narrowed := true }
def FnRingStepUptoSaid : Prop := fnRingStepUptoRow.holds Try.pinned (OpenSpec.upto fnRingStepSpec)

/-- 'laws.FnRingStuck', WHERE WHAT IT READS IS OF BULK AT MOST 1048576: true; the input reads as it did. -/
def fnRingStuckUptoRow : OpenClaim := { program := "ytkgfcgdihnhflaa", sum := "12b1ca8c70327229eb6915edeb0e994c73a3b81c5033f7e2e508b3268d811954", func := "loop.example/containerport/laws.FnRingStuck", spec := "fnRingStuck", inPlace := ["internal/bytealg.IndexByteString"], apart := false, narrowed := true }
def FnRingStuckUptoSaid : Prop := fnRingStuckUptoRow.holds Try.pinned (OpenSpec.upto fnRingStuckSpec)

/-- 'laws.FnRingRun', WHERE WHAT IT READS IS OF BULK AT MOST 1048576: true; the input reads as it did. -/
def fnRingRunUptoRow : OpenClaim := { program := "ytkgfcgdihnhflaa", sum := "12b1ca8c70327229eb6915edeb0e994c73a3b81c5033f7e2e508b3268d811954", func := "loop.example/containerport/laws.FnRingRun", spec := "fnRingRun", inPlace := ["internal/bytealg.IndexByteString"], apart := false, narrowed := true }
def FnRingRunUptoSaid : Prop := fnRingRunUptoRow.holds Try.pinned (OpenSpec.upto fnRingRunSpec)

/-- 'laws.FnRingEmpty', WHERE WHAT IT READS IS OF BULK AT MOST 1048576: true; the input reads as it did. -/
def fnRingEmptyUptoRow : OpenClaim := { program := "ytkgfcgdihnhflaa", sum := "12b1ca8c70327229eb6915edeb0e994c73a3b81c5033f7e2e508b3268d811954", func := "loop.example/containerport/laws.FnRingEmpty", spec := "fnRingEmpty", inPlace := ["internal/bytealg.IndexByteString"], apart := false, narrowed := true }
def FnRingEmptyUptoSaid : Prop := fnRingEmptyUptoRow.holds Try.pinned (OpenSpec.upto fnRingEmptySpec)

end Rows
end Go.Proofs.Ytkgfcgdihnhflaa
