/-
  No cell of these rows narrows 'for every input' (looked for: loops, veiled, ifaces, maps, wideKeys, modest, calm, conditions, laid).
  DERIVED. THE GIVEN ROWS OF THIS SEAT. 10 by the template 'for every input the law returns true; each argument reads behind the call as it read before'; 0 by the template 'total and deterministic' (their statements: YtaccnekicobhcaaTotals.lean).
  GIVEN WITH THE SEED: the statements are not yours to turn. If you find one false, say at which input.
  Laid BY PROGRAM, IN A SANDBOX (cutbox-rows.mjs): the forced cells as the released guide's own fill.sh prints them over the translation e3567ec22fa43817… (all of the seat's roots in one cut). By AI agents, Wed Nov 11 2026. No macro, syntax, notation, axiom, sorry.
-/
import Derived.Test.YtaccnekicobhcaaChecked
import GoSem.Claim
import GoSem.ClaimJoined
import GoSem.ClaimMapViews
import Derived.JoinedTies
import Derived.KernelRfl
namespace Go.Proofs.Ytaccnekicobhcaa
/- THE CELL 'sum', in the pinned program and in every row, IS THE sha256 OF THE DUMP (.gsa) THAT YtaccnekicobhcaaProg.lean LOADS. Nothing in Lean hashes anything: it is a label: what it is worth is what the hold of that sum in a sandbox is worth. -/
noncomputable def Try.pinned : Pinned := { name := "ytaccnekicobhcaa", sum := "e3567ec22fa438172985d799dc7387504fde84517a7c4e6de5964428bf73d284", checked := Try.checked }
namespace Rows
def none {H : Type} : Left H := { results := [], args := [] }

/-- 'laws.FnExactRatesValid': WHATEVER THE INPUT: true; the input reads as it did. -/
def fnExactRatesValidSpec : ChangeSpec := { name := "fnExactRatesValid", fn := fun _ => fun
  | [d] => { results := [.lit (.bool true)], args := [d] }
  | _ => none }
def fnExactRatesValidRow : OpenClaim := { program := "ytaccnekicobhcaa", sum := "e3567ec22fa438172985d799dc7387504fde84517a7c4e6de5964428bf73d284", func := "loop.example/containerport/laws.FnExactRatesValid", spec := "fnExactRatesValid", apart := false }
def FnExactRatesValidSaid : Prop := fnExactRatesValidRow.holds Try.pinned (OpenSpec.ofChange fnExactRatesValidSpec)

/-- ITS FALSE NEIGHBOUR: 'it returns false'. Refute it at one input. -/
def fnExactRatesValidWrong : ChangeSpec := { name := "fnExactRatesValid", fn := fun _ => fun
  | [d] => { results := [.lit (.bool false)], args := [d] }
  | _ => none }
def FnExactRatesValidWrongFalsely : Prop := fnExactRatesValidRow.holds Try.pinned (OpenSpec.ofChange fnExactRatesValidWrong)

/-- 'laws.FnExactRateAt': WHATEVER THE INPUT: true; the input reads as it did. -/
def fnExactRateAtSpec : ChangeSpec := { name := "fnExactRateAt", fn := fun _ => fun
  | [d1, d2] => { results := [.lit (.bool true)], args := [d1, d2] }
  | _ => none }
def fnExactRateAtRow : OpenClaim := { program := "ytaccnekicobhcaa", sum := "e3567ec22fa438172985d799dc7387504fde84517a7c4e6de5964428bf73d284", func := "loop.example/containerport/laws.FnExactRateAt", spec := "fnExactRateAt", apart := false }
def FnExactRateAtSaid : Prop := fnExactRateAtRow.holds Try.pinned (OpenSpec.ofChange fnExactRateAtSpec)

/-- ITS FALSE NEIGHBOUR: 'it returns false'. Refute it at one input. -/
def fnExactRateAtWrong : ChangeSpec := { name := "fnExactRateAt", fn := fun _ => fun
  | [d1, d2] => { results := [.lit (.bool false)], args := [d1, d2] }
  | _ => none }
def FnExactRateAtWrongFalsely : Prop := fnExactRateAtRow.holds Try.pinned (OpenSpec.ofChange fnExactRateAtWrong)

/-- 'laws.FnExactFeeOf': WHATEVER THE INPUT: true; the input reads as it did. -/
def fnExactFeeOfSpec : ChangeSpec := { name := "fnExactFeeOf", fn := fun _ => fun
  | [d1, d2, d3] => { results := [.lit (.bool true)], args := [d1, d2, d3] }
  | _ => none }
def fnExactFeeOfRow : OpenClaim := { program := "ytaccnekicobhcaa", sum := "e3567ec22fa438172985d799dc7387504fde84517a7c4e6de5964428bf73d284", func := "loop.example/containerport/laws.FnExactFeeOf", spec := "fnExactFeeOf", apart := false }
def FnExactFeeOfSaid : Prop := fnExactFeeOfRow.holds Try.pinned (OpenSpec.ofChange fnExactFeeOfSpec)

/-- ITS FALSE NEIGHBOUR: 'it returns false'. Refute it at one input. -/
def fnExactFeeOfWrong : ChangeSpec := { name := "fnExactFeeOf", fn := fun _ => fun
  | [d1, d2, d3] => { results := [.lit (.bool false)], args := [d1, d2, d3] }
  | _ => none }
def FnExactFeeOfWrongFalsely : Prop := fnExactFeeOfRow.holds Try.pinned (OpenSpec.ofChange fnExactFeeOfWrong)

/-- 'laws.FnRatesValid': WHATEVER THE INPUT: true; the input reads as it did. -/
def fnRatesValidSpec : ChangeSpec := { name := "fnRatesValid", fn := fun _ => fun
  | [d] => { results := [.lit (.bool true)], args := [d] }
  | _ => none }
def fnRatesValidRow : OpenClaim := { program := "ytaccnekicobhcaa", sum := "e3567ec22fa438172985d799dc7387504fde84517a7c4e6de5964428bf73d284", func := "loop.example/containerport/laws.FnRatesValid", spec := "fnRatesValid", inPlace := ["internal/bytealg.IndexByteString"], apart := false }
def FnRatesValidSaid : Prop := fnRatesValidRow.holds Try.pinned (OpenSpec.ofChange fnRatesValidSpec)

/-- ITS FALSE NEIGHBOUR: 'it returns false'. Refute it at one input. -/
def fnRatesValidWrong : ChangeSpec := { name := "fnRatesValid", fn := fun _ => fun
  | [d] => { results := [.lit (.bool false)], args := [d] }
  | _ => none }
def FnRatesValidWrongFalsely : Prop := fnRatesValidRow.holds Try.pinned (OpenSpec.ofChange fnRatesValidWrong)

/-- 'laws.FnExactFeeMore': WHATEVER THE INPUT: true; the input reads as it did. -/
def fnExactFeeMoreSpec : ChangeSpec := { name := "fnExactFeeMore", fn := fun _ => fun
  | [d1, d2, d3, d4] => { results := [.lit (.bool true)], args := [d1, d2, d3, d4] }
  | _ => none }
def fnExactFeeMoreRow : OpenClaim := { program := "ytaccnekicobhcaa", sum := "e3567ec22fa438172985d799dc7387504fde84517a7c4e6de5964428bf73d284", func := "loop.example/containerport/laws.FnExactFeeMore", spec := "fnExactFeeMore", apart := false }
def FnExactFeeMoreSaid : Prop := fnExactFeeMoreRow.holds Try.pinned (OpenSpec.ofChange fnExactFeeMoreSpec)

/-- ITS FALSE NEIGHBOUR: 'it returns false'. Refute it at one input. -/
def fnExactFeeMoreWrong : ChangeSpec := { name := "fnExactFeeMore", fn := fun _ => fun
  | [d1, d2, d3, d4] => { results := [.lit (.bool false)], args := [d1, d2, d3, d4] }
  | _ => none }
def FnExactFeeMoreWrongFalsely : Prop := fnExactFeeMoreRow.holds Try.pinned (OpenSpec.ofChange fnExactFeeMoreWrong)

/-- 'laws.FnExactDaysFor': WHATEVER THE INPUT: true; the input reads as it did. -/
def fnExactDaysForSpec : ChangeSpec := { name := "fnExactDaysFor", fn := fun _ => fun
  | [d1, d2, d3] => { results := [.lit (.bool true)], args := [d1, d2, d3] }
  | _ => none }
def fnExactDaysForRow : OpenClaim := { program := "ytaccnekicobhcaa", sum := "e3567ec22fa438172985d799dc7387504fde84517a7c4e6de5964428bf73d284", func := "loop.example/containerport/laws.FnExactDaysFor", spec := "fnExactDaysFor", apart := false }
def FnExactDaysForSaid : Prop := fnExactDaysForRow.holds Try.pinned (OpenSpec.ofChange fnExactDaysForSpec)

/-- ITS FALSE NEIGHBOUR: 'it returns false'. Refute it at one input. -/
def fnExactDaysForWrong : ChangeSpec := { name := "fnExactDaysFor", fn := fun _ => fun
  | [d1, d2, d3] => { results := [.lit (.bool false)], args := [d1, d2, d3] }
  | _ => none }
def FnExactDaysForWrongFalsely : Prop := fnExactDaysForRow.holds Try.pinned (OpenSpec.ofChange fnExactDaysForWrong)

/-- 'laws.FnRateAt': WHATEVER THE INPUT: true; the input reads as it did. -/
def fnRateAtSpec : ChangeSpec := { name := "fnRateAt", fn := fun _ => fun
  | [d] => { results := [.lit (.bool true)], args := [d] }
  | _ => none }
def fnRateAtRow : OpenClaim := { program := "ytaccnekicobhcaa", sum := "e3567ec22fa438172985d799dc7387504fde84517a7c4e6de5964428bf73d284", func := "loop.example/containerport/laws.FnRateAt", spec := "fnRateAt", inPlace := ["internal/bytealg.IndexByteString"], apart := false }
def FnRateAtSaid : Prop := fnRateAtRow.holds Try.pinned (OpenSpec.ofChange fnRateAtSpec)

/-- ITS FALSE NEIGHBOUR: 'it returns false'. Refute it at one input. -/
def fnRateAtWrong : ChangeSpec := { name := "fnRateAt", fn := fun _ => fun
  | [d] => { results := [.lit (.bool false)], args := [d] }
  | _ => none }
def FnRateAtWrongFalsely : Prop := fnRateAtRow.holds Try.pinned (OpenSpec.ofChange fnRateAtWrong)

/-- 'laws.FnFeeOf': WHATEVER THE INPUT: true; the input reads as it did. -/
def fnFeeOfSpec : ChangeSpec := { name := "fnFeeOf", fn := fun _ => fun
  | [d] => { results := [.lit (.bool true)], args := [d] }
  | _ => none }
def fnFeeOfRow : OpenClaim := { program := "ytaccnekicobhcaa", sum := "e3567ec22fa438172985d799dc7387504fde84517a7c4e6de5964428bf73d284", func := "loop.example/containerport/laws.FnFeeOf", spec := "fnFeeOf", inPlace := ["internal/bytealg.IndexByteString"], apart := false }
def FnFeeOfSaid : Prop := fnFeeOfRow.holds Try.pinned (OpenSpec.ofChange fnFeeOfSpec)

/-- ITS FALSE NEIGHBOUR: 'it returns false'. Refute it at one input. -/
def fnFeeOfWrong : ChangeSpec := { name := "fnFeeOf", fn := fun _ => fun
  | [d] => { results := [.lit (.bool false)], args := [d] }
  | _ => none }
def FnFeeOfWrongFalsely : Prop := fnFeeOfRow.holds Try.pinned (OpenSpec.ofChange fnFeeOfWrong)

/-- 'laws.FnFeeMore': WHATEVER THE INPUT: true; the input reads as it did. -/
def fnFeeMoreSpec : ChangeSpec := { name := "fnFeeMore", fn := fun _ => fun
  | [d] => { results := [.lit (.bool true)], args := [d] }
  | _ => none }
def fnFeeMoreRow : OpenClaim := { program := "ytaccnekicobhcaa", sum := "e3567ec22fa438172985d799dc7387504fde84517a7c4e6de5964428bf73d284", func := "loop.example/containerport/laws.FnFeeMore", spec := "fnFeeMore", inPlace := ["internal/bytealg.IndexByteString"], apart := false }
def FnFeeMoreSaid : Prop := fnFeeMoreRow.holds Try.pinned (OpenSpec.ofChange fnFeeMoreSpec)

/-- ITS FALSE NEIGHBOUR: 'it returns false'. Refute it at one input. -/
def fnFeeMoreWrong : ChangeSpec := { name := "fnFeeMore", fn := fun _ => fun
  | [d] => { results := [.lit (.bool false)], args := [d] }
  | _ => none }
def FnFeeMoreWrongFalsely : Prop := fnFeeMoreRow.holds Try.pinned (OpenSpec.ofChange fnFeeMoreWrong)

/-- 'laws.FnDaysFor': WHATEVER THE INPUT: true; the input reads as it did. -/
def fnDaysForSpec : ChangeSpec := { name := "fnDaysFor", fn := fun _ => fun
  | [d] => { results := [.lit (.bool true)], args := [d] }
  | _ => none }
def fnDaysForRow : OpenClaim := { program := "ytaccnekicobhcaa", sum := "e3567ec22fa438172985d799dc7387504fde84517a7c4e6de5964428bf73d284", func := "loop.example/containerport/laws.FnDaysFor", spec := "fnDaysFor", inPlace := ["internal/bytealg.IndexByteString"], apart := false }
def FnDaysForSaid : Prop := fnDaysForRow.holds Try.pinned (OpenSpec.ofChange fnDaysForSpec)

/-- ITS FALSE NEIGHBOUR: 'it returns false'. Refute it at one input. -/
def fnDaysForWrong : ChangeSpec := { name := "fnDaysFor", fn := fun _ => fun
  | [d] => { results := [.lit (.bool false)], args := [d] }
  | _ => none }
def FnDaysForWrongFalsely : Prop := fnDaysForRow.holds Try.pinned (OpenSpec.ofChange fnDaysForWrong)

/- THE SECOND FORM. 'bulk': how many values and letters a reading holds, each counted each time it is reached (what is shared counts as often as it is met; a slice's spare places count too). A statement '..UptoSaid' is the law's where the arguments, and the package variables that the reading takes, are together of bulk at most 1048576: NARROWER than '..Said'. Prove '..Said' where nothing that the law and all that it calls make is longer than what came in: it says more and counts as full. Else prove '..UptoSaid'. A law counts once. -/
mutual
def uptoBulk {H : Type} : DataW H → Nat
  | .lit (.string bytes) => bytes.length + 1
  | .lit _ => 1
  | .nil => 1
  | .ptr d => uptoBulk d + 1
  | .slice elems spare => uptoBulkAll elems + uptoBulkAll spare + 1
  | .agg parts => uptoBulkAll parts + 1
  | .iface _ d => uptoBulk d + 1
  | .map entries => uptoBulkEntries entries + 1
  | .held _ => 1
def uptoBulkAll {H : Type} : List (DataW H) → Nat
  | [] => 0
  | d :: r => uptoBulk d + uptoBulkAll r
def uptoBulkEntries {H : Type} : List (Lit × DataW H) → Nat
  | [] => 0
  | x :: r => uptoBulkEntry x + uptoBulkEntries r
def uptoBulkEntry {H : Type} : Lit × DataW H → Nat
  | (.string bytes, d) => bytes.length + uptoBulk d + 1
  | (_, d) => uptoBulk d + 1
 end
def uptoSmall : (H : Type) → List (DataW H) → Bool := fun _ ds => decide (uptoBulkAll ds ≤ 1048576)
def OpenSpec.upto (s : _root_.Go.ChangeSpec) : _root_.Go.OpenSpec := { _root_.Go.OpenSpec.ofChange s with cond := some uptoSmall }

/-- 'laws.FnExactRatesValid', WHERE WHAT IT READS IS OF BULK AT MOST 1048576: true; the input reads as it did. -/
def fnExactRatesValidUptoRow : OpenClaim := { program := "ytaccnekicobhcaa", sum := "e3567ec22fa438172985d799dc7387504fde84517a7c4e6de5964428bf73d284", func := "loop.example/containerport/laws.FnExactRatesValid", spec := "fnExactRatesValid", apart := false, narrowed := true }
def FnExactRatesValidUptoSaid : Prop := fnExactRatesValidUptoRow.holds Try.pinned (OpenSpec.upto fnExactRatesValidSpec)

/-- 'laws.FnExactRateAt', WHERE WHAT IT READS IS OF BULK AT MOST 1048576: true; the input reads as it did. -/
def fnExactRateAtUptoRow : OpenClaim := { program := "ytaccnekicobhcaa", sum := "e3567ec22fa438172985d799dc7387504fde84517a7c4e6de5964428bf73d284", func := "loop.example/containerport/laws.FnExactRateAt", spec := "fnExactRateAt", apart := false, narrowed := true }
def FnExactRateAtUptoSaid : Prop := fnExactRateAtUptoRow.holds Try.pinned (OpenSpec.upto fnExactRateAtSpec)

/-- 'laws.FnExactFeeOf', WHERE WHAT IT READS IS OF BULK AT MOST 1048576: true; the input reads as it did. -/
def fnExactFeeOfUptoRow : OpenClaim := { program := "ytaccnekicobhcaa", sum := "e3567ec22fa438172985d799dc7387504fde84517a7c4e6de5964428bf73d284", func := "loop.example/containerport/laws.FnExactFeeOf", spec := "fnExactFeeOf", apart := false, narrowed := true }
def FnExactFeeOfUptoSaid : Prop := fnExactFeeOfUptoRow.holds Try.pinned (OpenSpec.upto fnExactFeeOfSpec)

/-- 'laws.FnRatesValid', WHERE WHAT IT READS IS OF BULK AT MOST 1048576: true; the input reads as it did. -/
def fnRatesValidUptoRow : OpenClaim := { program := "ytaccnekicobhcaa", sum := "e3567ec22fa438172985d799dc7387504fde84517a7c4e6de5964428bf73d284", func := "loop.example/containerport/laws.FnRatesValid", spec := "fnRatesValid", inPlace := ["internal/bytealg.IndexByteString"], apart := false, narrowed := true }
def FnRatesValidUptoSaid : Prop := fnRatesValidUptoRow.holds Try.pinned (OpenSpec.upto fnRatesValidSpec)

/-- 'laws.FnExactFeeMore', WHERE WHAT IT READS IS OF BULK AT MOST 1048576: true; the input reads as it did. -/
def fnExactFeeMoreUptoRow : OpenClaim := { program := "ytaccnekicobhcaa", sum := "e3567ec22fa438172985d799dc7387504fde84517a7c4e6de5964428bf73d284", func := "loop.example/containerport/laws.FnExactFeeMore", spec := "fnExactFeeMore", apart := false, narrowed := true }
def FnExactFeeMoreUptoSaid : Prop := fnExactFeeMoreUptoRow.holds Try.pinned (OpenSpec.upto fnExactFeeMoreSpec)

/-- 'laws.FnExactDaysFor', WHERE WHAT IT READS IS OF BULK AT MOST 1048576: true; the input reads as it did. -/
def fnExactDaysForUptoRow : OpenClaim := { program := "ytaccnekicobhcaa", sum := "e3567ec22fa438172985d799dc7387504fde84517a7c4e6de5964428bf73d284", func := "loop.example/containerport/laws.FnExactDaysFor", spec := "fnExactDaysFor", apart := false, narrowed := true }
def FnExactDaysForUptoSaid : Prop := fnExactDaysForUptoRow.holds Try.pinned (OpenSpec.upto fnExactDaysForSpec)

/-- 'laws.FnRateAt', WHERE WHAT IT READS IS OF BULK AT MOST 1048576: true; the input reads as it did. -/
def fnRateAtUptoRow : OpenClaim := { program := "ytaccnekicobhcaa", sum := "e3567ec22fa438172985d799dc7387504fde84517a7c4e6de5964428bf73d284", func := "loop.example/containerport/laws.FnRateAt", spec := "fnRateAt", inPlace := ["internal/bytealg.IndexByteString"], apart := false, narrowed := true }
def FnRateAtUptoSaid : Prop := fnRateAtUptoRow.holds Try.pinned (OpenSpec.upto fnRateAtSpec)

/-- 'laws.FnFeeOf', WHERE WHAT IT READS IS OF BULK AT MOST 1048576: true; the input reads as it did. -/
def fnFeeOfUptoRow : OpenClaim := { program := "ytaccnekicobhcaa", sum := "e3567ec22fa438172985d799dc7387504fde84517a7c4e6de5964428bf73d284", func := "loop.example/containerport/laws.FnFeeOf", spec := "fnFeeOf", inPlace := ["internal/bytealg.IndexByteString"], apart := false, narrowed := true }
def FnFeeOfUptoSaid : Prop := fnFeeOfUptoRow.holds Try.pinned (OpenSpec.upto fnFeeOfSpec)

/-- 'laws.FnFeeMore', WHERE WHAT IT READS IS OF BULK AT MOST 1048576: true; the input reads as it did. -/
def fnFeeMoreUptoRow : OpenClaim := { program := "ytaccnekicobhcaa", sum := "e3567ec22fa438172985d799dc7387504fde84517a7c4e6de5964428bf73d284", func := "loop.example/containerport/laws.FnFeeMore", spec := "fnFeeMore", inPlace := ["internal/bytealg.IndexByteString"], apart := false, narrowed := true }
def FnFeeMoreUptoSaid : Prop := fnFeeMoreUptoRow.holds Try.pinned (OpenSpec.upto fnFeeMoreSpec)

/-- 'laws.FnDaysFor', WHERE WHAT IT READS IS OF BULK AT MOST 1048576: true; the input reads as it did. -/
def fnDaysForUptoRow : OpenClaim := { program := "ytaccnekicobhcaa", sum := "e3567ec22fa438172985d799dc7387504fde84517a7c4e6de5964428bf73d284", func := "loop.example/containerport/laws.FnDaysFor", spec := "fnDaysFor", inPlace := ["internal/bytealg.IndexByteString"], apart := false, narrowed := true }
def FnDaysForUptoSaid : Prop := fnDaysForUptoRow.holds Try.pinned (OpenSpec.upto fnDaysForSpec)

end Rows
end Go.Proofs.Ytaccnekicobhcaa
