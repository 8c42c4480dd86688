/-
  No cell of these rows narrows 'for every input' (looked for: loops, veiled, ifaces, maps, wideKeys, modest, calm, conditions, laid).
  DERIVED. THE GIVEN ROWS OF THIS SEAT. 10 by the template 'for every input the law returns true; each argument reads behind the call as it read before'; 0 by the template 'total and deterministic' (their statements: YtdhpjajhkeanjaaTotals.lean).
  GIVEN WITH THE SEED: the statements are not yours to turn. If you find one false, say at which input.
  Laid BY PROGRAM, IN A SANDBOX (cutbox-rows.mjs): the forced cells as the released guide's own fill.sh prints them over the translation ed0bd7c5f94d1782… (all of the seat's roots in one cut). By AI agents, Wed Nov 11 2026. No macro, syntax, notation, axiom, sorry.
-/
import Derived.Test.YtdhpjajhkeanjaaChecked
import GoSem.Claim
import GoSem.ClaimJoined
import GoSem.ClaimMapViews
import Derived.JoinedTies
import Derived.KernelRfl
namespace Go.Proofs.Ytdhpjajhkeanjaa
/- THE CELL 'sum', in the pinned program and in every row, IS THE sha256 OF THE DUMP (.gsa) THAT YtdhpjajhkeanjaaProg.lean LOADS. Nothing in Lean hashes anything: it is a label: what it is worth is what the hold of that sum in a sandbox is worth. -/
noncomputable def Try.pinned : Pinned := { name := "ytdhpjajhkeanjaa", sum := "ed0bd7c5f94d178231457471113f53eb5365b3e87d50fda396a3b0141c7e3859", checked := Try.checked }
namespace Rows
def none {H : Type} : Left H := { results := [], args := [] }

/-- 'laws.FnExactWagonsValid': WHATEVER THE INPUT: true; the input reads as it did. -/
def fnExactWagonsValidSpec : ChangeSpec := { name := "fnExactWagonsValid", fn := fun _ => fun
  | [d] => { results := [.lit (.bool true)], args := [d] }
  | _ => none }
def fnExactWagonsValidRow : OpenClaim := { program := "ytdhpjajhkeanjaa", sum := "ed0bd7c5f94d178231457471113f53eb5365b3e87d50fda396a3b0141c7e3859", func := "loop.example/containerport/laws.FnExactWagonsValid", spec := "fnExactWagonsValid", apart := false }
def FnExactWagonsValidSaid : Prop := fnExactWagonsValidRow.holds Try.pinned (OpenSpec.ofChange fnExactWagonsValidSpec)

/-- ITS FALSE NEIGHBOUR: 'it returns false'. Refute it at one input. -/
def fnExactWagonsValidWrong : ChangeSpec := { name := "fnExactWagonsValid", fn := fun _ => fun
  | [d] => { results := [.lit (.bool false)], args := [d] }
  | _ => none }
def FnExactWagonsValidWrongFalsely : Prop := fnExactWagonsValidRow.holds Try.pinned (OpenSpec.ofChange fnExactWagonsValidWrong)

/-- 'laws.FnWagonsValid': WHATEVER THE INPUT: true; the input reads as it did. -/
def fnWagonsValidSpec : ChangeSpec := { name := "fnWagonsValid", fn := fun _ => fun
  | [d] => { results := [.lit (.bool true)], args := [d] }
  | _ => none }
def fnWagonsValidRow : OpenClaim := { program := "ytdhpjajhkeanjaa", sum := "ed0bd7c5f94d178231457471113f53eb5365b3e87d50fda396a3b0141c7e3859", func := "loop.example/containerport/laws.FnWagonsValid", spec := "fnWagonsValid", inPlace := ["internal/bytealg.IndexByteString"], apart := false }
def FnWagonsValidSaid : Prop := fnWagonsValidRow.holds Try.pinned (OpenSpec.ofChange fnWagonsValidSpec)

/-- ITS FALSE NEIGHBOUR: 'it returns false'. Refute it at one input. -/
def fnWagonsValidWrong : ChangeSpec := { name := "fnWagonsValid", fn := fun _ => fun
  | [d] => { results := [.lit (.bool false)], args := [d] }
  | _ => none }
def FnWagonsValidWrongFalsely : Prop := fnWagonsValidRow.holds Try.pinned (OpenSpec.ofChange fnWagonsValidWrong)

/-- 'laws.FnExactOnWagon': WHATEVER THE INPUT: true; the input reads as it did. -/
def fnExactOnWagonSpec : ChangeSpec := { name := "fnExactOnWagon", fn := fun _ => fun
  | [d1, d2, d3] => { results := [.lit (.bool true)], args := [d1, d2, d3] }
  | _ => none }
def fnExactOnWagonRow : OpenClaim := { program := "ytdhpjajhkeanjaa", sum := "ed0bd7c5f94d178231457471113f53eb5365b3e87d50fda396a3b0141c7e3859", func := "loop.example/containerport/laws.FnExactOnWagon", spec := "fnExactOnWagon", unfollowed := true, recurses := true, apart := false }
def FnExactOnWagonSaid : Prop := fnExactOnWagonRow.holds Try.pinned (OpenSpec.ofChange fnExactOnWagonSpec)

/-- ITS FALSE NEIGHBOUR: 'it returns false'. Refute it at one input. -/
def fnExactOnWagonWrong : ChangeSpec := { name := "fnExactOnWagon", fn := fun _ => fun
  | [d1, d2, d3] => { results := [.lit (.bool false)], args := [d1, d2, d3] }
  | _ => none }
def FnExactOnWagonWrongFalsely : Prop := fnExactOnWagonRow.holds Try.pinned (OpenSpec.ofChange fnExactOnWagonWrong)

/-- 'laws.FnExactTrainValid': WHATEVER THE INPUT: true; the input reads as it did. -/
def fnExactTrainValidSpec : ChangeSpec := { name := "fnExactTrainValid", fn := fun _ => fun
  | [d1, d2, d3] => { results := [.lit (.bool true)], args := [d1, d2, d3] }
  | _ => none }
def fnExactTrainValidRow : OpenClaim := { program := "ytdhpjajhkeanjaa", sum := "ed0bd7c5f94d178231457471113f53eb5365b3e87d50fda396a3b0141c7e3859", func := "loop.example/containerport/laws.FnExactTrainValid", spec := "fnExactTrainValid", unfollowed := true, recurses := true, apart := false }
def FnExactTrainValidSaid : Prop := fnExactTrainValidRow.holds Try.pinned (OpenSpec.ofChange fnExactTrainValidSpec)

/-- ITS FALSE NEIGHBOUR: 'it returns false'. Refute it at one input. -/
def fnExactTrainValidWrong : ChangeSpec := { name := "fnExactTrainValid", fn := fun _ => fun
  | [d1, d2, d3] => { results := [.lit (.bool false)], args := [d1, d2, d3] }
  | _ => none }
def FnExactTrainValidWrongFalsely : Prop := fnExactTrainValidRow.holds Try.pinned (OpenSpec.ofChange fnExactTrainValidWrong)

/-- 'laws.FnOnWagon': WHATEVER THE INPUT: true; the input reads as it did. -/
def fnOnWagonSpec : ChangeSpec := { name := "fnOnWagon", fn := fun _ => fun
  | [d] => { results := [.lit (.bool true)], args := [d] }
  | _ => none }
def fnOnWagonRow : OpenClaim := { program := "ytdhpjajhkeanjaa", sum := "ed0bd7c5f94d178231457471113f53eb5365b3e87d50fda396a3b0141c7e3859", func := "loop.example/containerport/laws.FnOnWagon", spec := "fnOnWagon", inPlace := ["internal/bytealg.IndexByteString"], unfollowed := true, recurses := true, apart := false }
def FnOnWagonSaid : Prop := fnOnWagonRow.holds Try.pinned (OpenSpec.ofChange fnOnWagonSpec)

/-- ITS FALSE NEIGHBOUR: 'it returns false'. Refute it at one input. -/
def fnOnWagonWrong : ChangeSpec := { name := "fnOnWagon", fn := fun _ => fun
  | [d] => { results := [.lit (.bool false)], args := [d] }
  | _ => none }
def FnOnWagonWrongFalsely : Prop := fnOnWagonRow.holds Try.pinned (OpenSpec.ofChange fnOnWagonWrong)

/-- 'laws.FnExactTrainFill': WHATEVER THE INPUT: true; the input reads as it did. -/
def fnExactTrainFillSpec : ChangeSpec := { name := "fnExactTrainFill", fn := fun _ => fun
  | [d1, d2] => { results := [.lit (.bool true)], args := [d1, d2] }
  | _ => none }
def fnExactTrainFillRow : OpenClaim := { program := "ytdhpjajhkeanjaa", sum := "ed0bd7c5f94d178231457471113f53eb5365b3e87d50fda396a3b0141c7e3859", func := "loop.example/containerport/laws.FnExactTrainFill", spec := "fnExactTrainFill", unfollowed := true, recurses := true, apart := false }
def FnExactTrainFillSaid : Prop := fnExactTrainFillRow.holds Try.pinned (OpenSpec.ofChange fnExactTrainFillSpec)

/-- ITS FALSE NEIGHBOUR: 'it returns false'. Refute it at one input. -/
def fnExactTrainFillWrong : ChangeSpec := { name := "fnExactTrainFill", fn := fun _ => fun
  | [d1, d2] => { results := [.lit (.bool false)], args := [d1, d2] }
  | _ => none }
def FnExactTrainFillWrongFalsely : Prop := fnExactTrainFillRow.holds Try.pinned (OpenSpec.ofChange fnExactTrainFillWrong)

/-- 'laws.FnTrainValid': WHATEVER THE INPUT: true; the input reads as it did. -/
def fnTrainValidSpec : ChangeSpec := { name := "fnTrainValid", fn := fun _ => fun
  | [d] => { results := [.lit (.bool true)], args := [d] }
  | _ => none }
def fnTrainValidRow : OpenClaim := { program := "ytdhpjajhkeanjaa", sum := "ed0bd7c5f94d178231457471113f53eb5365b3e87d50fda396a3b0141c7e3859", func := "loop.example/containerport/laws.FnTrainValid", spec := "fnTrainValid", inPlace := ["internal/bytealg.IndexByteString"], unfollowed := true, recurses := true, apart := false }
def FnTrainValidSaid : Prop := fnTrainValidRow.holds Try.pinned (OpenSpec.ofChange fnTrainValidSpec)

/-- ITS FALSE NEIGHBOUR: 'it returns false'. Refute it at one input. -/
def fnTrainValidWrong : ChangeSpec := { name := "fnTrainValid", fn := fun _ => fun
  | [d] => { results := [.lit (.bool false)], args := [d] }
  | _ => none }
def FnTrainValidWrongFalsely : Prop := fnTrainValidRow.holds Try.pinned (OpenSpec.ofChange fnTrainValidWrong)

/-- 'laws.FnExactTrainLeft': WHATEVER THE INPUT: true; the input reads as it did. -/
def fnExactTrainLeftSpec : ChangeSpec := { name := "fnExactTrainLeft", fn := fun _ => fun
  | [d1, d2, d3] => { results := [.lit (.bool true)], args := [d1, d2, d3] }
  | _ => none }
def fnExactTrainLeftRow : OpenClaim := { program := "ytdhpjajhkeanjaa", sum := "ed0bd7c5f94d178231457471113f53eb5365b3e87d50fda396a3b0141c7e3859", func := "loop.example/containerport/laws.FnExactTrainLeft", spec := "fnExactTrainLeft", unfollowed := true, recurses := true, apart := false }
def FnExactTrainLeftSaid : Prop := fnExactTrainLeftRow.holds Try.pinned (OpenSpec.ofChange fnExactTrainLeftSpec)

/-- ITS FALSE NEIGHBOUR: 'it returns false'. Refute it at one input. -/
def fnExactTrainLeftWrong : ChangeSpec := { name := "fnExactTrainLeft", fn := fun _ => fun
  | [d1, d2, d3] => { results := [.lit (.bool false)], args := [d1, d2, d3] }
  | _ => none }
def FnExactTrainLeftWrongFalsely : Prop := fnExactTrainLeftRow.holds Try.pinned (OpenSpec.ofChange fnExactTrainLeftWrong)

/-- 'laws.FnTrainFill': WHATEVER THE INPUT: true; the input reads as it did. -/
def fnTrainFillSpec : ChangeSpec := { name := "fnTrainFill", fn := fun _ => fun
  | [d] => { results := [.lit (.bool true)], args := [d] }
  | _ => none }
def fnTrainFillRow : OpenClaim := { program := "ytdhpjajhkeanjaa", sum := "ed0bd7c5f94d178231457471113f53eb5365b3e87d50fda396a3b0141c7e3859", func := "loop.example/containerport/laws.FnTrainFill", spec := "fnTrainFill", inPlace := ["internal/bytealg.IndexByteString"], unfollowed := true, recurses := true, apart := false }
def FnTrainFillSaid : Prop := fnTrainFillRow.holds Try.pinned (OpenSpec.ofChange fnTrainFillSpec)

/-- ITS FALSE NEIGHBOUR: 'it returns false'. Refute it at one input. -/
def fnTrainFillWrong : ChangeSpec := { name := "fnTrainFill", fn := fun _ => fun
  | [d] => { results := [.lit (.bool false)], args := [d] }
  | _ => none }
def FnTrainFillWrongFalsely : Prop := fnTrainFillRow.holds Try.pinned (OpenSpec.ofChange fnTrainFillWrong)

/-- 'laws.FnTrainLeft': WHATEVER THE INPUT: true; the input reads as it did. -/
def fnTrainLeftSpec : ChangeSpec := { name := "fnTrainLeft", fn := fun _ => fun
  | [d] => { results := [.lit (.bool true)], args := [d] }
  | _ => none }
def fnTrainLeftRow : OpenClaim := { program := "ytdhpjajhkeanjaa", sum := "ed0bd7c5f94d178231457471113f53eb5365b3e87d50fda396a3b0141c7e3859", func := "loop.example/containerport/laws.FnTrainLeft", spec := "fnTrainLeft", inPlace := ["internal/bytealg.IndexByteString"], unfollowed := true, recurses := true, apart := false }
def FnTrainLeftSaid : Prop := fnTrainLeftRow.holds Try.pinned (OpenSpec.ofChange fnTrainLeftSpec)

/-- ITS FALSE NEIGHBOUR: 'it returns false'. Refute it at one input. -/
def fnTrainLeftWrong : ChangeSpec := { name := "fnTrainLeft", fn := fun _ => fun
  | [d] => { results := [.lit (.bool false)], args := [d] }
  | _ => none }
def FnTrainLeftWrongFalsely : Prop := fnTrainLeftRow.holds Try.pinned (OpenSpec.ofChange fnTrainLeftWrong)

/- THE SECOND FORM. 'bulk': how many values and letters a reading holds, each counted each time it is reached (what is shared counts as often as it is met; a slice's spare places count too). A statement '..UptoSaid' is the law's where the arguments, and the package variables that the reading takes, are together of bulk at most 1048576: NARROWER than '..Said'. Prove '..Said' where nothing that the law and all that it calls make is longer than what came in: it says more and counts as full. Else prove '..UptoSaid'. A law counts once. -/
mutual
def uptoBulk {H : Type} : DataW H → Nat
  | .lit (.string bytes) => bytes.length + 1
  | .lit _ => 1
  | .nil => 1
  | .ptr d => uptoBulk d + 1
  | .slice elems spare => uptoBulkAll elems + uptoBulkAll spare + 1
  | .agg parts => uptoBulkAll parts + 1
  | .iface _ d => uptoBulk d + 1
  | .map entries => uptoBulkEntries entries + 1
  | .held _ => 1
def uptoBulkAll {H : Type} : List (DataW H) → Nat
  | [] => 0
  | d :: r => uptoBulk d + uptoBulkAll r
def uptoBulkEntries {H : Type} : List (Lit × DataW H) → Nat
  | [] => 0
  | x :: r => uptoBulkEntry x + uptoBulkEntries r
def uptoBulkEntry {H : Type} : Lit × DataW H → Nat
  | (.string bytes, d) => bytes.length + uptoBulk d + 1
  | (_, d) => uptoBulk d + 1
 end
def uptoSmall : (H : Type) → List (DataW H) → Bool := fun _ ds => decide (uptoBulkAll ds ≤ 1048576)
def OpenSpec.upto (s : _root_.Go.ChangeSpec) : _root_.Go.OpenSpec := { _root_.Go.OpenSpec.ofChange s with cond := some uptoSmall }

/-- 'laws.FnExactWagonsValid', WHERE WHAT IT READS IS OF BULK AT MOST 1048576: true; the input reads as it did. -/
def fnExactWagonsValidUptoRow : OpenClaim := { program := "ytdhpjajhkeanjaa", sum := "ed0bd7c5f94d178231457471113f53eb5365b3e87d50fda396a3b0141c7e3859", func := "loop.example/containerport/laws.FnExactWagonsValid", spec := "fnExactWagonsValid", apart := false, narrowed := true }
def FnExactWagonsValidUptoSaid : Prop := fnExactWagonsValidUptoRow.holds Try.pinned (OpenSpec.upto fnExactWagonsValidSpec)

/-- 'laws.FnWagonsValid', WHERE WHAT IT READS IS OF BULK AT MOST 1048576: true; the input reads as it did. -/
def fnWagonsValidUptoRow : OpenClaim := { program := "ytdhpjajhkeanjaa", sum := "ed0bd7c5f94d178231457471113f53eb5365b3e87d50fda396a3b0141c7e3859", func := "loop.example/containerport/laws.FnWagonsValid", spec := "fnWagonsValid", inPlace := ["internal/bytealg.IndexByteString"], apart := false, narrowed := true }
def FnWagonsValidUptoSaid : Prop := fnWagonsValidUptoRow.holds Try.pinned (OpenSpec.upto fnWagonsValidSpec)

/-- 'laws.FnExactOnWagon', WHERE WHAT IT READS IS OF BULK AT MOST 1048576: true; the input reads as it did. -/
def fnExactOnWagonUptoRow : OpenClaim := { program := "ytdhpjajhkeanjaa", sum := "ed0bd7c5f94d178231457471113f53eb5365b3e87d50fda396a3b0141c7e3859", func := "loop.example/containerport/laws.FnExactOnWagon", spec := "fnExactOnWagon", unfollowed := true, recurses := true, apart := false, narrowed := true }
def FnExactOnWagonUptoSaid : Prop := fnExactOnWagonUptoRow.holds Try.pinned (OpenSpec.upto fnExactOnWagonSpec)

/-- 'laws.FnExactTrainValid', WHERE WHAT IT READS IS OF BULK AT MOST 1048576: true; the input reads as it did. -/
def fnExactTrainValidUptoRow : OpenClaim := { program := "ytdhpjajhkeanjaa", sum := "ed0bd7c5f94d178231457471113f53eb5365b3e87d50fda396a3b0141c7e3859", func := "loop.example/containerport/laws.FnExactTrainValid", spec := "fnExactTrainValid", unfollowed := true, recurses := true, apart := false, narrowed := true }
def FnExactTrainValidUptoSaid : Prop := fnExactTrainValidUptoRow.holds Try.pinned (OpenSpec.upto fnExactTrainValidSpec)

/-- 'laws.FnOnWagon', WHERE WHAT IT READS IS OF BULK AT MOST 1048576: true; the input reads as it did. -/
def fnOnWagonUptoRow : OpenClaim := { program := "ytdhpjajhkeanjaa", sum := "ed0bd7c5f94d178231457471113f53eb5365b3e87d50fda396a3b0141c7e3859", func := "loop.example/containerport/laws.FnOnWagon", spec := "fnOnWagon", inPlace := ["internal/bytealg.IndexByteString"], unfollowed := true, recurses := true, apart := false, narrowed := true }
def FnOnWagonUptoSaid : Prop := fnOnWagonUptoRow.holds Try.pinned (OpenSpec.upto fnOnWagonSpec)

/-- 'laws.FnExactTrainFill', WHERE WHAT IT READS IS OF BULK AT MOST 1048576: true; the input reads as it did. -/
def fnExactTrainFillUptoRow : OpenClaim := { program := "ytdhpjajhkeanjaa", sum := "ed0bd7c5f94d178231457471113f53eb5365b3e87d50fda396a3b0141c7e3859", func := "loop.example/containerport/laws.FnExactTrainFill", spec := "fnExactTrainFill", unfollowed := true, recurses := true, apart := false, narrowed := true }
def FnExactTrainFillUptoSaid : Prop := fnExactTrainFillUptoRow.holds Try.pinned (OpenSpec.upto fnExactTrainFillSpec)

/-- 'laws.FnTrainValid', WHERE WHAT IT READS IS OF BULK AT MOST 1048576: true; the input reads as it did. -/
def fnTrainValidUptoRow : OpenClaim := { program := "ytdhpjajhkeanjaa", sum := "ed0bd7c5f94d178231457471113f53eb5365b3e87d50fda396a3b0141c7e3859", func := "loop.example/containerport/laws.FnTrainValid", spec := "fnTrainValid", inPlace := ["internal/bytealg.IndexByteString"], unfollowed := true, recurses := true, apart := false, narrowed := true }
def FnTrainValidUptoSaid : Prop := fnTrainValidUptoRow.holds Try.pinned (OpenSpec.upto fnTrainValidSpec)

/-- 'laws.FnExactTrainLeft', WHERE WHAT IT READS IS OF BULK AT MOST 1048576: true; the input reads as it did. -/
def fnExactTrainLeftUptoRow : OpenClaim := { program := "ytdhpjajhkeanjaa", sum := "ed0bd7c5f94d178231457471113f53eb5365b3e87d50fda396a3b0141c7e3859", func := "loop.example/containerport/laws.FnExactTrainLeft", spec := "fnExactTrainLeft", unfollowed := true, recurses := true, apart := false, narrowed := true }
def FnExactTrainLeftUptoSaid : Prop := fnExactTrainLeftUptoRow.holds Try.pinned (OpenSpec.upto fnExactTrainLeftSpec)

/-- 'laws.FnTrainFill', WHERE WHAT IT READS IS OF BULK AT MOST 1048576: true; the input reads as it did. -/
def fnTrainFillUptoRow : OpenClaim := { program := "ytdhpjajhkeanjaa", sum := "ed0bd7c5f94d178231457471113f53eb5365b3e87d50fda396a3b0141c7e3859", func := "loop.example/containerport/laws.FnTrainFill", spec := "fnTrainFill", inPlace := ["internal/bytealg.IndexByteString"], unfollowed := true, recurses := true, apart := false, narrowed := true }
def FnTrainFillUptoSaid : Prop := fnTrainFillUptoRow.holds Try.pinned (OpenSpec.upto fnTrainFillSpec)

/-- 'laws.FnTrainLeft', WHERE WHAT IT READS IS OF BULK AT MOST 1048576: true; the input reads as it did. -/
def fnTrainLeftUptoRow : OpenClaim := { program := "ytdhpjajhkeanjaa", sum := "ed0bd7c5f94d178231457471113f53eb5365b3e87d50fda396a3b0141c7e3859", func := "loop.example/containerport/laws.FnTrainLeft", spec := "fnTrainLeft", inPlace := ["internal/bytealg.IndexByteString"], unfollowed := true, recurses := true, apart := false, narrowed := true }
def FnTrainLeftUptoSaid : Prop := fnTrainLeftUptoRow.holds Try.pinned (OpenSpec.upto fnTrainLeftSpec)

end Rows
end Go.Proofs.Ytdhpjajhkeanjaa
