/-
  No cell of these rows narrows 'for every input' (looked for: loops, veiled, ifaces, maps, wideKeys, modest, calm, conditions, laid).
  DERIVED. THE GIVEN ROWS OF THIS SEAT. 8 by the template 'for every input the law returns true; each argument reads behind the call as it read before'; 0 by the template 'total and deterministic' (their statements: YtihphgiopjiohaaTotals.lean).
  GIVEN WITH THE SEED: the statements are not yours to turn. If you find one false, say at which input.
  Laid BY PROGRAM, IN A SANDBOX (cutbox-rows.mjs): the forced cells as the released guide's own fill.sh prints them over the translation d736e5a975b23c1c… (all of the seat's roots in one cut). By AI agents, Wed Nov 11 2026. No macro, syntax, notation, axiom, sorry.
-/
import Derived.Test.YtihphgiopjiohaaChecked
import GoSem.Claim
import GoSem.ClaimJoined
import GoSem.ClaimMapViews
import Derived.JoinedTies
import Derived.KernelRfl
namespace Go.Proofs.Ytihphgiopjiohaa
/- THE CELL 'sum', in the pinned program and in every row, IS THE sha256 OF THE DUMP (.gsa) THAT YtihphgiopjiohaaProg.lean LOADS. Nothing in Lean hashes anything: it is a label: what it is worth is what the hold of that sum in a sandbox is worth. -/
noncomputable def Try.pinned : Pinned := { name := "ytihphgiopjiohaa", sum := "d736e5a975b23c1cb4d3df78f2b58b56196498a6736f1cfc082f6487be029a28", checked := Try.checked }
namespace Rows
def none {H : Type} : Left H := { results := [], args := [] }

/-- 'laws.FnExactValidPatterns': WHATEVER THE INPUT: true; the input reads as it did. -/
def fnExactValidPatternsSpec : ChangeSpec := { name := "fnExactValidPatterns", fn := fun _ => fun
  | [d] => { results := [.lit (.bool true)], args := [d] }
  | _ => none }
def fnExactValidPatternsRow : OpenClaim := { program := "ytihphgiopjiohaa", sum := "d736e5a975b23c1cb4d3df78f2b58b56196498a6736f1cfc082f6487be029a28", func := "loop.example/g01033/laws.FnExactValidPatterns", spec := "fnExactValidPatterns", unfollowed := true, recurses := true, apart := false }
def FnExactValidPatternsSaid : Prop := fnExactValidPatternsRow.holds Try.pinned (OpenSpec.ofChange fnExactValidPatternsSpec)

/-- ITS FALSE NEIGHBOUR: 'it returns false'. Refute it at one input. -/
def fnExactValidPatternsWrong : ChangeSpec := { name := "fnExactValidPatterns", fn := fun _ => fun
  | [d] => { results := [.lit (.bool false)], args := [d] }
  | _ => none }
def FnExactValidPatternsWrongFalsely : Prop := fnExactValidPatternsRow.holds Try.pinned (OpenSpec.ofChange fnExactValidPatternsWrong)

/-- 'laws.FnExactIsParse': WHATEVER THE INPUT: true; the input reads as it did. -/
def fnExactIsParseSpec : ChangeSpec := { name := "fnExactIsParse", fn := fun _ => fun
  | [d1, d2, d3] => { results := [.lit (.bool true)], args := [d1, d2, d3] }
  | _ => none }
def fnExactIsParseRow : OpenClaim := { program := "ytihphgiopjiohaa", sum := "d736e5a975b23c1cb4d3df78f2b58b56196498a6736f1cfc082f6487be029a28", func := "loop.example/g01033/laws.FnExactIsParse", spec := "fnExactIsParse", unfollowed := true, recurses := true, apart := false }
def FnExactIsParseSaid : Prop := fnExactIsParseRow.holds Try.pinned (OpenSpec.ofChange fnExactIsParseSpec)

/-- ITS FALSE NEIGHBOUR: 'it returns false'. Refute it at one input. -/
def fnExactIsParseWrong : ChangeSpec := { name := "fnExactIsParse", fn := fun _ => fun
  | [d1, d2, d3] => { results := [.lit (.bool false)], args := [d1, d2, d3] }
  | _ => none }
def FnExactIsParseWrongFalsely : Prop := fnExactIsParseRow.holds Try.pinned (OpenSpec.ofChange fnExactIsParseWrong)

/-- 'laws.FnExactCountParses': WHATEVER THE INPUT: true; the input reads as it did. -/
def fnExactCountParsesSpec : ChangeSpec := { name := "fnExactCountParses", fn := fun _ => fun
  | [d1, d2] => { results := [.lit (.bool true)], args := [d1, d2] }
  | _ => none }
def fnExactCountParsesRow : OpenClaim := { program := "ytihphgiopjiohaa", sum := "d736e5a975b23c1cb4d3df78f2b58b56196498a6736f1cfc082f6487be029a28", func := "loop.example/g01033/laws.FnExactCountParses", spec := "fnExactCountParses", unfollowed := true, recurses := true, apart := false }
def FnExactCountParsesSaid : Prop := fnExactCountParsesRow.holds Try.pinned (OpenSpec.ofChange fnExactCountParsesSpec)

/-- ITS FALSE NEIGHBOUR: 'it returns false'. Refute it at one input. -/
def fnExactCountParsesWrong : ChangeSpec := { name := "fnExactCountParses", fn := fun _ => fun
  | [d1, d2] => { results := [.lit (.bool false)], args := [d1, d2] }
  | _ => none }
def FnExactCountParsesWrongFalsely : Prop := fnExactCountParsesRow.holds Try.pinned (OpenSpec.ofChange fnExactCountParsesWrong)

/-- 'laws.FnExactPatternsAt': WHATEVER THE INPUT: true; the input reads as it did. -/
def fnExactPatternsAtSpec : ChangeSpec := { name := "fnExactPatternsAt", fn := fun _ => fun
  | [d1, d2, d3] => { results := [.lit (.bool true)], args := [d1, d2, d3] }
  | _ => none }
def fnExactPatternsAtRow : OpenClaim := { program := "ytihphgiopjiohaa", sum := "d736e5a975b23c1cb4d3df78f2b58b56196498a6736f1cfc082f6487be029a28", func := "loop.example/g01033/laws.FnExactPatternsAt", spec := "fnExactPatternsAt", unfollowed := true, recurses := true, apart := false }
def FnExactPatternsAtSaid : Prop := fnExactPatternsAtRow.holds Try.pinned (OpenSpec.ofChange fnExactPatternsAtSpec)

/-- ITS FALSE NEIGHBOUR: 'it returns false'. Refute it at one input. -/
def fnExactPatternsAtWrong : ChangeSpec := { name := "fnExactPatternsAt", fn := fun _ => fun
  | [d1, d2, d3] => { results := [.lit (.bool false)], args := [d1, d2, d3] }
  | _ => none }
def FnExactPatternsAtWrongFalsely : Prop := fnExactPatternsAtRow.holds Try.pinned (OpenSpec.ofChange fnExactPatternsAtWrong)

/-- 'laws.FnExactParseCost': WHATEVER THE INPUT: true; the input reads as it did. -/
def fnExactParseCostSpec : ChangeSpec := { name := "fnExactParseCost", fn := fun _ => fun
  | [d1, d2, d3] => { results := [.lit (.bool true)], args := [d1, d2, d3] }
  | _ => none }
def fnExactParseCostRow : OpenClaim := { program := "ytihphgiopjiohaa", sum := "d736e5a975b23c1cb4d3df78f2b58b56196498a6736f1cfc082f6487be029a28", func := "loop.example/g01033/laws.FnExactParseCost", spec := "fnExactParseCost", unfollowed := true, recurses := true, apart := false }
def FnExactParseCostSaid : Prop := fnExactParseCostRow.holds Try.pinned (OpenSpec.ofChange fnExactParseCostSpec)

/-- ITS FALSE NEIGHBOUR: 'it returns false'. Refute it at one input. -/
def fnExactParseCostWrong : ChangeSpec := { name := "fnExactParseCost", fn := fun _ => fun
  | [d1, d2, d3] => { results := [.lit (.bool false)], args := [d1, d2, d3] }
  | _ => none }
def FnExactParseCostWrongFalsely : Prop := fnExactParseCostRow.holds Try.pinned (OpenSpec.ofChange fnExactParseCostWrong)

/-- 'laws.FnExactLongestKnown': WHATEVER THE INPUT: true; the input reads as it did. -/
def fnExactLongestKnownSpec : ChangeSpec := { name := "fnExactLongestKnown", fn := fun _ => fun
  | [d1, d2, d3] => { results := [.lit (.bool true)], args := [d1, d2, d3] }
  | _ => none }
def fnExactLongestKnownRow : OpenClaim := { program := "ytihphgiopjiohaa", sum := "d736e5a975b23c1cb4d3df78f2b58b56196498a6736f1cfc082f6487be029a28", func := "loop.example/g01033/laws.FnExactLongestKnown", spec := "fnExactLongestKnown", unfollowed := true, recurses := true, apart := false }
def FnExactLongestKnownSaid : Prop := fnExactLongestKnownRow.holds Try.pinned (OpenSpec.ofChange fnExactLongestKnownSpec)

/-- ITS FALSE NEIGHBOUR: 'it returns false'. Refute it at one input. -/
def fnExactLongestKnownWrong : ChangeSpec := { name := "fnExactLongestKnown", fn := fun _ => fun
  | [d1, d2, d3] => { results := [.lit (.bool false)], args := [d1, d2, d3] }
  | _ => none }
def FnExactLongestKnownWrongFalsely : Prop := fnExactLongestKnownRow.holds Try.pinned (OpenSpec.ofChange fnExactLongestKnownWrong)

/-- 'laws.FnExactParseMelody': WHATEVER THE INPUT: true; the input reads as it did. -/
def fnExactParseMelodySpec : ChangeSpec := { name := "fnExactParseMelody", fn := fun _ => fun
  | [d1, d2, d3] => { results := [.lit (.bool true)], args := [d1, d2, d3] }
  | _ => none }
def fnExactParseMelodyRow : OpenClaim := { program := "ytihphgiopjiohaa", sum := "d736e5a975b23c1cb4d3df78f2b58b56196498a6736f1cfc082f6487be029a28", func := "loop.example/g01033/laws.FnExactParseMelody", spec := "fnExactParseMelody", unfollowed := true, recurses := true, apart := false }
def FnExactParseMelodySaid : Prop := fnExactParseMelodyRow.holds Try.pinned (OpenSpec.ofChange fnExactParseMelodySpec)

/-- ITS FALSE NEIGHBOUR: 'it returns false'. Refute it at one input. -/
def fnExactParseMelodyWrong : ChangeSpec := { name := "fnExactParseMelody", fn := fun _ => fun
  | [d1, d2, d3] => { results := [.lit (.bool false)], args := [d1, d2, d3] }
  | _ => none }
def FnExactParseMelodyWrongFalsely : Prop := fnExactParseMelodyRow.holds Try.pinned (OpenSpec.ofChange fnExactParseMelodyWrong)

/-- 'laws.FnExactAloneOf': WHATEVER THE INPUT: true; the input reads as it did. -/
def fnExactAloneOfSpec : ChangeSpec := { name := "fnExactAloneOf", fn := fun _ => fun
  | [d1, d2, d3] => { results := [.lit (.bool true)], args := [d1, d2, d3] }
  | _ => none }
def fnExactAloneOfRow : OpenClaim := { program := "ytihphgiopjiohaa", sum := "d736e5a975b23c1cb4d3df78f2b58b56196498a6736f1cfc082f6487be029a28", func := "loop.example/g01033/laws.FnExactAloneOf", spec := "fnExactAloneOf", unfollowed := true, recurses := true, apart := false }
def FnExactAloneOfSaid : Prop := fnExactAloneOfRow.holds Try.pinned (OpenSpec.ofChange fnExactAloneOfSpec)

/-- ITS FALSE NEIGHBOUR: 'it returns false'. Refute it at one input. -/
def fnExactAloneOfWrong : ChangeSpec := { name := "fnExactAloneOf", fn := fun _ => fun
  | [d1, d2, d3] => { results := [.lit (.bool false)], args := [d1, d2, d3] }
  | _ => none }
def FnExactAloneOfWrongFalsely : Prop := fnExactAloneOfRow.holds Try.pinned (OpenSpec.ofChange fnExactAloneOfWrong)

/- THE SECOND FORM. 'bulk': how many values and letters a reading holds, each counted each time it is reached (what is shared counts as often as it is met; a slice's spare places count too). A statement '..UptoSaid' is the law's where the arguments, and the package variables that the reading takes, are together of bulk at most 1048576: NARROWER than '..Said'. Prove '..Said' where nothing that the law and all that it calls make is longer than what came in: it says more and counts as full. Else prove '..UptoSaid'. A law counts once. -/
mutual
def uptoBulk {H : Type} : DataW H → Nat
  | .lit (.string bytes) => bytes.length + 1
  | .lit _ => 1
  | .nil => 1
  | .ptr d => uptoBulk d + 1
  | .slice elems spare => uptoBulkAll elems + uptoBulkAll spare + 1
  | .agg parts => uptoBulkAll parts + 1
  | .iface _ d => uptoBulk d + 1
  | .map entries => uptoBulkEntries entries + 1
  | .held _ => 1
def uptoBulkAll {H : Type} : List (DataW H) → Nat
  | [] => 0
  | d :: r => uptoBulk d + uptoBulkAll r
def uptoBulkEntries {H : Type} : List (Lit × DataW H) → Nat
  | [] => 0
  | x :: r => uptoBulkEntry x + uptoBulkEntries r
def uptoBulkEntry {H : Type} : Lit × DataW H → Nat
  | (.string bytes, d) => bytes.length + uptoBulk d + 1
  | (_, d) => uptoBulk d + 1
 end
def uptoSmall : (H : Type) → List (DataW H) → Bool := fun _ ds => decide (uptoBulkAll ds ≤ 1048576)
def OpenSpec.upto (s : _root_.Go.ChangeSpec) : _root_.Go.OpenSpec := { _root_.Go.OpenSpec.ofChange s with cond := some uptoSmall }

/-- 'laws.FnExactValidPatterns', WHERE WHAT IT READS IS OF BULK AT MOST 1048576: true; the input reads as it did. -/
def fnExactValidPatternsUptoRow : OpenClaim := { program := "ytihphgiopjiohaa", sum := "d736e5a975b23c1cb4d3df78f2b58b56196498a6736f1cfc082f6487be029a28", func := "loop.example/g01033/laws.FnExactValidPatterns", spec := "fnExactValidPatterns", unfollowed := true, recurses := true, apart := false, narrowed := true }
def FnExactValidPatternsUptoSaid : Prop := fnExactValidPatternsUptoRow.holds Try.pinned (OpenSpec.upto fnExactValidPatternsSpec)

/-- 'laws.FnExactIsParse', WHERE WHAT IT READS IS OF BULK AT MOST 1048576: true; the input reads as it did. -/
def fnExactIsParseUptoRow : OpenClaim := { program := "ytihphgiopjiohaa", sum := "d736e5a975b23c1cb4d3df78f2b58b56196498a6736f1cfc082f6487be029a28", func := "loop.example/g01033/laws.FnExactIsParse", spec := "fnExactIsParse", unfollowed := true, recurses := true, apart := false, narrowed := true }
def FnExactIsParseUptoSaid : Prop := fnExactIsParseUptoRow.holds Try.pinned (OpenSpec.upto fnExactIsParseSpec)

/-- 'laws.FnExactCountParses', WHERE WHAT IT READS IS OF BULK AT MOST 1048576: true; the input reads as it did. -/
def fnExactCountParsesUptoRow : OpenClaim := { program := "ytihphgiopjiohaa", sum := "d736e5a975b23c1cb4d3df78f2b58b56196498a6736f1cfc082f6487be029a28", func := "loop.example/g01033/laws.FnExactCountParses", spec := "fnExactCountParses", unfollowed := true, recurses := true, apart := false, narrowed := true }
def FnExactCountParsesUptoSaid : Prop := fnExactCountParsesUptoRow.holds Try.pinned (OpenSpec.upto fnExactCountParsesSpec)

/-- 'laws.FnExactPatternsAt', WHERE WHAT IT READS IS OF BULK AT MOST 1048576: true; the input reads as it did. -/
def fnExactPatternsAtUptoRow : OpenClaim := { program := "ytihphgiopjiohaa", sum := "d736e5a975b23c1cb4d3df78f2b58b56196498a6736f1cfc082f6487be029a28", func := "loop.example/g01033/laws.FnExactPatternsAt", spec := "fnExactPatternsAt", unfollowed := true, recurses := true, apart := false, narrowed := true }
def FnExactPatternsAtUptoSaid : Prop := fnExactPatternsAtUptoRow.holds Try.pinned (OpenSpec.upto fnExactPatternsAtSpec)

/-- 'laws.FnExactParseCost', WHERE WHAT IT READS IS OF BULK AT MOST 1048576: true; the input reads as it did. -/
def fnExactParseCostUptoRow : OpenClaim := { program := "ytihphgiopjiohaa", sum := "d736e5a975b23c1cb4d3df78f2b58b56196498a6736f1cfc082f6487be029a28", func := "loop.example/g01033/laws.FnExactParseCost", spec := "fnExactParseCost", unfollowed := true, recurses := true, apart := false, narrowed := true }
def FnExactParseCostUptoSaid : Prop := fnExactParseCostUptoRow.holds Try.pinned (OpenSpec.upto fnExactParseCostSpec)

/-- 'laws.FnExactLongestKnown', WHERE WHAT IT READS IS OF BULK AT MOST 1048576: true; the input reads as it did. -/
def fnExactLongestKnownUptoRow : OpenClaim := { program := "ytihphgiopjiohaa", sum := "d736e5a975b23c1cb4d3df78f2b58b56196498a6736f1cfc082f6487be029a28", func := "loop.example/g01033/laws.FnExactLongestKnown", spec := "fnExactLongestKnown", unfollowed := true, recurses := true, apart := false, narrowed := true }
def FnExactLongestKnownUptoSaid : Prop := fnExactLongestKnownUptoRow.holds Try.pinned (OpenSpec.upto fnExactLongestKnownSpec)

/-- 'laws.FnExactParseMelody', WHERE WHAT IT READS IS OF BULK AT MOST 1048576: true; the input reads as it did. -/
def fnExactParseMelodyUptoRow : OpenClaim := { program := "ytihphgiopjiohaa", sum := "d736e5a975b23c1cb4d3df78f2b58b56196498a6736f1cfc082f6487be029a28", func := "loop.example/g01033/laws.FnExactParseMelody", spec := "fnExactParseMelody", unfollowed := true, recurses := true, apart := false, narrowed := true }
def FnExactParseMelodyUptoSaid : Prop := fnExactParseMelodyUptoRow.holds Try.pinned (OpenSpec.upto fnExactParseMelodySpec)

/-- 'laws.FnExactAloneOf', WHERE WHAT IT READS IS OF BULK AT MOST 1048576: true; the input reads as it did. -/
def fnExactAloneOfUptoRow : OpenClaim := { program := "ytihphgiopjiohaa", sum := "d736e5a975b23c1cb4d3df78f2b58b56196498a6736f1cfc082f6487be029a28", func := "loop.example/g01033/laws.FnExactAloneOf", spec := "fnExactAloneOf", unfollowed := true, recurses := true, apart := false, narrowed := true }
def FnExactAloneOfUptoSaid : Prop := fnExactAloneOfUptoRow.holds Try.pinned (OpenSpec.upto fnExactAloneOfSpec)

end Rows
end Go.Proofs.Ytihphgiopjiohaa
