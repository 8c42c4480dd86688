/-
  No cell of these rows narrows 'for every input' (looked for: loops, veiled, ifaces, maps, wideKeys, modest, calm, conditions, laid).
  DERIVED. THE GIVEN ROWS OF THIS SEAT. 10 by the template 'for every input the law returns true; each argument reads behind the call as it read before'; 0 by the template 'total and deterministic' (their statements: YtnniogdnlcokmaaTotals.lean).
  GIVEN WITH THE SEED: the statements are not yours to turn. If you find one false, say at which input.
  Laid BY PROGRAM, IN A SANDBOX (cutbox-rows.mjs): the forced cells as the released guide's own fill.sh prints them over the translation 84ed2d39fec69874… (all of the seat's roots in one cut). By AI agents, Wed Nov 11 2026. No macro, syntax, notation, axiom, sorry.
-/
import Derived.Test.YtnniogdnlcokmaaChecked
import GoSem.Claim
import GoSem.ClaimJoined
import GoSem.ClaimMapViews
import Derived.JoinedTies
import Derived.KernelRfl
namespace Go.Proofs.Ytnniogdnlcokmaa
/- THE CELL 'sum', in the pinned program and in every row, IS THE sha256 OF THE DUMP (.gsa) THAT YtnniogdnlcokmaaProg.lean LOADS. Nothing in Lean hashes anything: it is a label: what it is worth is what the hold of that sum in a sandbox is worth. -/
noncomputable def Try.pinned : Pinned := { name := "ytnniogdnlcokmaa", sum := "84ed2d39fec698744ab54c13d56155d9207e9a1a89ff2268d2fab2ea13d2674e", checked := Try.checked }
namespace Rows
def none {H : Type} : Left H := { results := [], args := [] }

/-- 'laws.FnExactBookingsValid': WHATEVER THE INPUT: true; the input reads as it did. -/
def fnExactBookingsValidSpec : ChangeSpec := { name := "fnExactBookingsValid", fn := fun _ => fun
  | [d1, d2] => { results := [.lit (.bool true)], args := [d1, d2] }
  | _ => none }
def fnExactBookingsValidRow : OpenClaim := { program := "ytnniogdnlcokmaa", sum := "84ed2d39fec698744ab54c13d56155d9207e9a1a89ff2268d2fab2ea13d2674e", func := "loop.example/containerport/laws.FnExactBookingsValid", spec := "fnExactBookingsValid", apart := false }
def FnExactBookingsValidSaid : Prop := fnExactBookingsValidRow.holds Try.pinned (OpenSpec.ofChange fnExactBookingsValidSpec)

/-- ITS FALSE NEIGHBOUR: 'it returns false'. Refute it at one input. -/
def fnExactBookingsValidWrong : ChangeSpec := { name := "fnExactBookingsValid", fn := fun _ => fun
  | [d1, d2] => { results := [.lit (.bool false)], args := [d1, d2] }
  | _ => none }
def FnExactBookingsValidWrongFalsely : Prop := fnExactBookingsValidRow.holds Try.pinned (OpenSpec.ofChange fnExactBookingsValidWrong)

/-- 'laws.FnBook': WHATEVER THE INPUT: true; the input reads as it did. -/
def fnBookSpec : ChangeSpec := { name := "fnBook", fn := fun _ => fun
  | [d] => { results := [.lit (.bool true)], args := [d] }
  | _ => none }
def fnBookRow : OpenClaim := { program := "ytnniogdnlcokmaa", sum := "84ed2d39fec698744ab54c13d56155d9207e9a1a89ff2268d2fab2ea13d2674e", func := "loop.example/containerport/laws.FnBook", spec := "fnBook", inPlace := ["slices.overlaps[loop.example/containerport/impl.Booking]", "internal/bytealg.IndexByteString"], unfollowed := true, recurses := true, apart := false }
def FnBookSaid : Prop := fnBookRow.holds Try.pinned (OpenSpec.ofChange fnBookSpec)

/-- ITS FALSE NEIGHBOUR: 'it returns false'. Refute it at one input. -/
def fnBookWrong : ChangeSpec := { name := "fnBook", fn := fun _ => fun
  | [d] => { results := [.lit (.bool false)], args := [d] }
  | _ => none }
def FnBookWrongFalsely : Prop := fnBookRow.holds Try.pinned (OpenSpec.ofChange fnBookWrong)

/-- 'laws.FnBookNext': WHATEVER THE INPUT: true; the input reads as it did. -/
def fnBookNextSpec : ChangeSpec := { name := "fnBookNext", fn := fun _ => fun
  | [d] => { results := [.lit (.bool true)], args := [d] }
  | _ => none }
def fnBookNextRow : OpenClaim := { program := "ytnniogdnlcokmaa", sum := "84ed2d39fec698744ab54c13d56155d9207e9a1a89ff2268d2fab2ea13d2674e", func := "loop.example/containerport/laws.FnBookNext", spec := "fnBookNext", inPlace := ["slices.overlaps[loop.example/containerport/impl.Booking]", "internal/bytealg.IndexByteString"], unfollowed := true, recurses := true, apart := false }
def FnBookNextSaid : Prop := fnBookNextRow.holds Try.pinned (OpenSpec.ofChange fnBookNextSpec)

/-- ITS FALSE NEIGHBOUR: 'it returns false'. Refute it at one input. -/
def fnBookNextWrong : ChangeSpec := { name := "fnBookNext", fn := fun _ => fun
  | [d] => { results := [.lit (.bool false)], args := [d] }
  | _ => none }
def FnBookNextWrongFalsely : Prop := fnBookNextRow.holds Try.pinned (OpenSpec.ofChange fnBookNextWrong)

/-- 'laws.FnCancel': WHATEVER THE INPUT: true; the input reads as it did. -/
def fnCancelSpec : ChangeSpec := { name := "fnCancel", fn := fun _ => fun
  | [d] => { results := [.lit (.bool true)], args := [d] }
  | _ => none }
def fnCancelRow : OpenClaim := { program := "ytnniogdnlcokmaa", sum := "84ed2d39fec698744ab54c13d56155d9207e9a1a89ff2268d2fab2ea13d2674e", func := "loop.example/containerport/laws.FnCancel", spec := "fnCancel", inPlace := ["internal/bytealg.IndexByteString", "slices.overlaps[loop.example/containerport/impl.Booking]"], unfollowed := true, recurses := true, apart := false }
def FnCancelSaid : Prop := fnCancelRow.holds Try.pinned (OpenSpec.ofChange fnCancelSpec)

/-- ITS FALSE NEIGHBOUR: 'it returns false'. Refute it at one input. -/
def fnCancelWrong : ChangeSpec := { name := "fnCancel", fn := fun _ => fun
  | [d] => { results := [.lit (.bool false)], args := [d] }
  | _ => none }
def FnCancelWrongFalsely : Prop := fnCancelRow.holds Try.pinned (OpenSpec.ofChange fnCancelWrong)

/-- 'laws.FnExactBookedHour': WHATEVER THE INPUT: true; the input reads as it did. -/
def fnExactBookedHourSpec : ChangeSpec := { name := "fnExactBookedHour", fn := fun _ => fun
  | [d1, d2, d3] => { results := [.lit (.bool true)], args := [d1, d2, d3] }
  | _ => none }
def fnExactBookedHourRow : OpenClaim := { program := "ytnniogdnlcokmaa", sum := "84ed2d39fec698744ab54c13d56155d9207e9a1a89ff2268d2fab2ea13d2674e", func := "loop.example/containerport/laws.FnExactBookedHour", spec := "fnExactBookedHour", unfollowed := true, recurses := true, apart := false }
def FnExactBookedHourSaid : Prop := fnExactBookedHourRow.holds Try.pinned (OpenSpec.ofChange fnExactBookedHourSpec)

/-- ITS FALSE NEIGHBOUR: 'it returns false'. Refute it at one input. -/
def fnExactBookedHourWrong : ChangeSpec := { name := "fnExactBookedHour", fn := fun _ => fun
  | [d1, d2, d3] => { results := [.lit (.bool false)], args := [d1, d2, d3] }
  | _ => none }
def FnExactBookedHourWrongFalsely : Prop := fnExactBookedHourRow.holds Try.pinned (OpenSpec.ofChange fnExactBookedHourWrong)

/-- 'laws.FnBookingsValid': WHATEVER THE INPUT: true; the input reads as it did. -/
def fnBookingsValidSpec : ChangeSpec := { name := "fnBookingsValid", fn := fun _ => fun
  | [d] => { results := [.lit (.bool true)], args := [d] }
  | _ => none }
def fnBookingsValidRow : OpenClaim := { program := "ytnniogdnlcokmaa", sum := "84ed2d39fec698744ab54c13d56155d9207e9a1a89ff2268d2fab2ea13d2674e", func := "loop.example/containerport/laws.FnBookingsValid", spec := "fnBookingsValid", inPlace := ["internal/bytealg.IndexByteString"], apart := false }
def FnBookingsValidSaid : Prop := fnBookingsValidRow.holds Try.pinned (OpenSpec.ofChange fnBookingsValidSpec)

/-- ITS FALSE NEIGHBOUR: 'it returns false'. Refute it at one input. -/
def fnBookingsValidWrong : ChangeSpec := { name := "fnBookingsValid", fn := fun _ => fun
  | [d] => { results := [.lit (.bool false)], args := [d] }
  | _ => none }
def FnBookingsValidWrongFalsely : Prop := fnBookingsValidRow.holds Try.pinned (OpenSpec.ofChange fnBookingsValidWrong)

/-- 'laws.FnExactCancel': WHATEVER THE INPUT: true; the input reads as it did. -/
def fnExactCancelSpec : ChangeSpec := { name := "fnExactCancel", fn := fun _ => fun
  | [d1, d2, d3] => { results := [.lit (.bool true)], args := [d1, d2, d3] }
  | _ => none }
def fnExactCancelRow : OpenClaim := { program := "ytnniogdnlcokmaa", sum := "84ed2d39fec698744ab54c13d56155d9207e9a1a89ff2268d2fab2ea13d2674e", func := "loop.example/containerport/laws.FnExactCancel", spec := "fnExactCancel", unfollowed := true, recurses := true, apart := false }
def FnExactCancelSaid : Prop := fnExactCancelRow.holds Try.pinned (OpenSpec.ofChange fnExactCancelSpec)

/-- ITS FALSE NEIGHBOUR: 'it returns false'. Refute it at one input. -/
def fnExactCancelWrong : ChangeSpec := { name := "fnExactCancel", fn := fun _ => fun
  | [d1, d2, d3] => { results := [.lit (.bool false)], args := [d1, d2, d3] }
  | _ => none }
def FnExactCancelWrongFalsely : Prop := fnExactCancelRow.holds Try.pinned (OpenSpec.ofChange fnExactCancelWrong)

/-- 'laws.FnBookedHour': WHATEVER THE INPUT: true; the input reads as it did. -/
def fnBookedHourSpec : ChangeSpec := { name := "fnBookedHour", fn := fun _ => fun
  | [d] => { results := [.lit (.bool true)], args := [d] }
  | _ => none }
def fnBookedHourRow : OpenClaim := { program := "ytnniogdnlcokmaa", sum := "84ed2d39fec698744ab54c13d56155d9207e9a1a89ff2268d2fab2ea13d2674e", func := "loop.example/containerport/laws.FnBookedHour", spec := "fnBookedHour", inPlace := ["internal/bytealg.IndexByteString"], unfollowed := true, recurses := true, apart := false }
def FnBookedHourSaid : Prop := fnBookedHourRow.holds Try.pinned (OpenSpec.ofChange fnBookedHourSpec)

/-- ITS FALSE NEIGHBOUR: 'it returns false'. Refute it at one input. -/
def fnBookedHourWrong : ChangeSpec := { name := "fnBookedHour", fn := fun _ => fun
  | [d] => { results := [.lit (.bool false)], args := [d] }
  | _ => none }
def FnBookedHourWrongFalsely : Prop := fnBookedHourRow.holds Try.pinned (OpenSpec.ofChange fnBookedHourWrong)

/-- 'laws.FnExactBookNext': WHATEVER THE INPUT: true; the input reads as it did. -/
def fnExactBookNextSpec : ChangeSpec := { name := "fnExactBookNext", fn := fun _ => fun
  | [d1, d2, d3, d4] => { results := [.lit (.bool true)], args := [d1, d2, d3, d4] }
  | _ => none }
def fnExactBookNextRow : OpenClaim := { program := "ytnniogdnlcokmaa", sum := "84ed2d39fec698744ab54c13d56155d9207e9a1a89ff2268d2fab2ea13d2674e", func := "loop.example/containerport/laws.FnExactBookNext", spec := "fnExactBookNext", inPlace := ["slices.overlaps[loop.example/containerport/impl.Booking]"], unfollowed := true, recurses := true, apart := false }
def FnExactBookNextSaid : Prop := fnExactBookNextRow.holds Try.pinned (OpenSpec.ofChange fnExactBookNextSpec)

/-- ITS FALSE NEIGHBOUR: 'it returns false'. Refute it at one input. -/
def fnExactBookNextWrong : ChangeSpec := { name := "fnExactBookNext", fn := fun _ => fun
  | [d1, d2, d3, d4] => { results := [.lit (.bool false)], args := [d1, d2, d3, d4] }
  | _ => none }
def FnExactBookNextWrongFalsely : Prop := fnExactBookNextRow.holds Try.pinned (OpenSpec.ofChange fnExactBookNextWrong)

/-- 'laws.FnExactBook': WHATEVER THE INPUT: true; the input reads as it did. -/
def fnExactBookSpec : ChangeSpec := { name := "fnExactBook", fn := fun _ => fun
  | [d1, d2, d3, d4] => { results := [.lit (.bool true)], args := [d1, d2, d3, d4] }
  | _ => none }
def fnExactBookRow : OpenClaim := { program := "ytnniogdnlcokmaa", sum := "84ed2d39fec698744ab54c13d56155d9207e9a1a89ff2268d2fab2ea13d2674e", func := "loop.example/containerport/laws.FnExactBook", spec := "fnExactBook", inPlace := ["slices.overlaps[loop.example/containerport/impl.Booking]"], unfollowed := true, recurses := true, apart := false }
def FnExactBookSaid : Prop := fnExactBookRow.holds Try.pinned (OpenSpec.ofChange fnExactBookSpec)

/-- ITS FALSE NEIGHBOUR: 'it returns false'. Refute it at one input. -/
def fnExactBookWrong : ChangeSpec := { name := "fnExactBook", fn := fun _ => fun
  | [d1, d2, d3, d4] => { results := [.lit (.bool false)], args := [d1, d2, d3, d4] }
  | _ => none }
def FnExactBookWrongFalsely : Prop := fnExactBookRow.holds Try.pinned (OpenSpec.ofChange fnExactBookWrong)

/- THE SECOND FORM. 'bulk': how many values and letters a reading holds, each counted each time it is reached (what is shared counts as often as it is met; a slice's spare places count too). A statement '..UptoSaid' is the law's where the arguments, and the package variables that the reading takes, are together of bulk at most 1048576: NARROWER than '..Said'. Prove '..Said' where nothing that the law and all that it calls make is longer than what came in: it says more and counts as full. Else prove '..UptoSaid'. A law counts once. -/
mutual
def uptoBulk {H : Type} : DataW H → Nat
  | .lit (.string bytes) => bytes.length + 1
  | .lit _ => 1
  | .nil => 1
  | .ptr d => uptoBulk d + 1
  | .slice elems spare => uptoBulkAll elems + uptoBulkAll spare + 1
  | .agg parts => uptoBulkAll parts + 1
  | .iface _ d => uptoBulk d + 1
  | .map entries => uptoBulkEntries entries + 1
  | .held _ => 1
def uptoBulkAll {H : Type} : List (DataW H) → Nat
  | [] => 0
  | d :: r => uptoBulk d + uptoBulkAll r
def uptoBulkEntries {H : Type} : List (Lit × DataW H) → Nat
  | [] => 0
  | x :: r => uptoBulkEntry x + uptoBulkEntries r
def uptoBulkEntry {H : Type} : Lit × DataW H → Nat
  | (.string bytes, d) => bytes.length + uptoBulk d + 1
  | (_, d) => uptoBulk d + 1
 end
def uptoSmall : (H : Type) → List (DataW H) → Bool := fun _ ds => decide (uptoBulkAll ds ≤ 1048576)
def OpenSpec.upto (s : _root_.Go.ChangeSpec) : _root_.Go.OpenSpec := { _root_.Go.OpenSpec.ofChange s with cond := some uptoSmall }

/-- 'laws.FnExactBookingsValid', WHERE WHAT IT READS IS OF BULK AT MOST 1048576: true; the input reads as it did. -/
def fnExactBookingsValidUptoRow : OpenClaim := { program := "ytnniogdnlcokmaa", sum := "84ed2d39fec698744ab54c13d56155d9207e9a1a89ff2268d2fab2ea13d2674e", func := "loop.example/containerport/laws.FnExactBookingsValid", spec := "fnExactBookingsValid", apart := false, narrowed := true }
def FnExactBookingsValidUptoSaid : Prop := fnExactBookingsValidUptoRow.holds Try.pinned (OpenSpec.upto fnExactBookingsValidSpec)

/-- 'laws.FnBook', WHERE WHAT IT READS IS OF BULK AT MOST 1048576: true; the input reads as it did. -/
def fnBookUptoRow : OpenClaim := { program := "ytnniogdnlcokmaa", sum := "84ed2d39fec698744ab54c13d56155d9207e9a1a89ff2268d2fab2ea13d2674e", func := "loop.example/containerport/laws.FnBook", spec := "fnBook", inPlace := ["slices.overlaps[loop.example/containerport/impl.Booking]", "internal/bytealg.IndexByteString"], unfollowed := true, recurses := true, apart := false, narrowed := true }
def FnBookUptoSaid : Prop := fnBookUptoRow.holds Try.pinned (OpenSpec.upto fnBookSpec)

/-- 'laws.FnBookNext', WHERE WHAT IT READS IS OF BULK AT MOST 1048576: true; the input reads as it did. -/
def fnBookNextUptoRow : OpenClaim := { program := "ytnniogdnlcokmaa", sum := "84ed2d39fec698744ab54c13d56155d9207e9a1a89ff2268d2fab2ea13d2674e", func := "loop.example/containerport/laws.FnBookNext", spec := "fnBookNext", inPlace := ["slices.overlaps[loop.example/containerport/impl.Booking]", "internal/bytealg.IndexByteString"], unfollowed := true, recurses := true, apart := false, narrowed := true }
def FnBookNextUptoSaid : Prop := fnBookNextUptoRow.holds Try.pinned (OpenSpec.upto fnBookNextSpec)

/-- 'laws.FnCancel', WHERE WHAT IT READS IS OF BULK AT MOST 1048576: true; the input reads as it did. -/
def fnCancelUptoRow : OpenClaim := { program := "ytnniogdnlcokmaa", sum := "84ed2d39fec698744ab54c13d56155d9207e9a1a89ff2268d2fab2ea13d2674e", func := "loop.example/containerport/laws.FnCancel", spec := "fnCancel", inPlace := ["internal/bytealg.IndexByteString", "slices.overlaps[loop.example/containerport/impl.Booking]"], unfollowed := true, recurses := true, apart := false, narrowed := true }
def FnCancelUptoSaid : Prop := fnCancelUptoRow.holds Try.pinned (OpenSpec.upto fnCancelSpec)

/-- 'laws.FnExactBookedHour', WHERE WHAT IT READS IS OF BULK AT MOST 1048576: true; the input reads as it did. -/
def fnExactBookedHourUptoRow : OpenClaim := { program := "ytnniogdnlcokmaa", sum := "84ed2d39fec698744ab54c13d56155d9207e9a1a89ff2268d2fab2ea13d2674e", func := "loop.example/containerport/laws.FnExactBookedHour", spec := "fnExactBookedHour", unfollowed := true, recurses := true, apart := false, narrowed := true }
def FnExactBookedHourUptoSaid : Prop := fnExactBookedHourUptoRow.holds Try.pinned (OpenSpec.upto fnExactBookedHourSpec)

/-- 'laws.FnBookingsValid', WHERE WHAT IT READS IS OF BULK AT MOST 1048576: true; the input reads as it did. -/
def fnBookingsValidUptoRow : OpenClaim := { program := "ytnniogdnlcokmaa", sum := "84ed2d39fec698744ab54c13d56155d9207e9a1a89ff2268d2fab2ea13d2674e", func := "loop.example/containerport/laws.FnBookingsValid", spec := "fnBookingsValid", inPlace := ["internal/bytealg.IndexByteString"], apart := false, narrowed := true }
def FnBookingsValidUptoSaid : Prop := fnBookingsValidUptoRow.holds Try.pinned (OpenSpec.upto fnBookingsValidSpec)

/-- 'laws.FnExactCancel', WHERE WHAT IT READS IS OF BULK AT MOST 1048576: true; the input reads as it did. -/
def fnExactCancelUptoRow : OpenClaim := { program := "ytnniogdnlcokmaa", sum := "84ed2d39fec698744ab54c13d56155d9207e9a1a89ff2268d2fab2ea13d2674e", func := "loop.example/containerport/laws.FnExactCancel", spec := "fnExactCancel", unfollowed := true, recurses := true, apart := false, narrowed := true }
def FnExactCancelUptoSaid : Prop := fnExactCancelUptoRow.holds Try.pinned (OpenSpec.upto fnExactCancelSpec)

/-- 'laws.FnBookedHour', WHERE WHAT IT READS IS OF BULK AT MOST 1048576: true; the input reads as it did. -/
def fnBookedHourUptoRow : OpenClaim := { program := "ytnniogdnlcokmaa", sum := "84ed2d39fec698744ab54c13d56155d9207e9a1a89ff2268d2fab2ea13d2674e", func := "loop.example/containerport/laws.FnBookedHour", spec := "fnBookedHour", inPlace := ["internal/bytealg.IndexByteString"], unfollowed := true, recurses := true, apart := false, narrowed := true }
def FnBookedHourUptoSaid : Prop := fnBookedHourUptoRow.holds Try.pinned (OpenSpec.upto fnBookedHourSpec)

/-- 'laws.FnExactBookNext', WHERE WHAT IT READS IS OF BULK AT MOST 1048576: true; the input reads as it did. -/
def fnExactBookNextUptoRow : OpenClaim := { program := "ytnniogdnlcokmaa", sum := "84ed2d39fec698744ab54c13d56155d9207e9a1a89ff2268d2fab2ea13d2674e", func := "loop.example/containerport/laws.FnExactBookNext", spec := "fnExactBookNext", inPlace := ["slices.overlaps[loop.example/containerport/impl.Booking]"], unfollowed := true, recurses := true, apart := false, narrowed := true }
def FnExactBookNextUptoSaid : Prop := fnExactBookNextUptoRow.holds Try.pinned (OpenSpec.upto fnExactBookNextSpec)

/-- 'laws.FnExactBook', WHERE WHAT IT READS IS OF BULK AT MOST 1048576: true; the input reads as it did. -/
def fnExactBookUptoRow : OpenClaim := { program := "ytnniogdnlcokmaa", sum := "84ed2d39fec698744ab54c13d56155d9207e9a1a89ff2268d2fab2ea13d2674e", func := "loop.example/containerport/laws.FnExactBook", spec := "fnExactBook", inPlace := ["slices.overlaps[loop.example/containerport/impl.Booking]"], unfollowed := true, recurses := true, apart := false, narrowed := true }
def FnExactBookUptoSaid : Prop := fnExactBookUptoRow.holds Try.pinned (OpenSpec.upto fnExactBookSpec)

end Rows
end Go.Proofs.Ytnniogdnlcokmaa
