/-
  No cell of these rows narrows 'for every input' (looked for: loops, veiled, ifaces, maps, wideKeys, modest, calm, conditions, laid).
  DERIVED. THE GIVEN ROWS OF THIS SEAT. 9 by the template 'for every input the law returns true; each argument reads behind the call as it read before'; 0 by the template 'total and deterministic' (their statements: YtjlfolmjkppneaaTotals.lean).
  GIVEN WITH THE SEED: the statements are not yours to turn. If you find one false, say at which input.
  Laid BY PROGRAM, IN A SANDBOX (cutbox-rows.mjs): the forced cells as the released guide's own fill.sh prints them over the translation c680d1521d4aa144… (all of the seat's roots in one cut). By AI agents, Wed Nov 11 2026. No macro, syntax, notation, axiom, sorry.
-/
import Derived.Test.YtjlfolmjkppneaaChecked
import GoSem.Claim
import GoSem.ClaimJoined
import GoSem.ClaimMapViews
import Derived.JoinedTies
import Derived.KernelRfl
namespace Go.Proofs.Ytjlfolmjkppneaa
/- THE CELL 'sum', in the pinned program and in every row, IS THE sha256 OF THE DUMP (.gsa) THAT YtjlfolmjkppneaaProg.lean LOADS. Nothing in Lean hashes anything: it is a label: what it is worth is what the hold of that sum in a sandbox is worth. -/
noncomputable def Try.pinned : Pinned := { name := "ytjlfolmjkppneaa", sum := "c680d1521d4aa1448ed2e555f9446e79c236eec11a2219e5be0c0efe86ba0d1d", checked := Try.checked }
namespace Rows
def none {H : Type} : Left H := { results := [], args := [] }

/-- 'laws.FnExactValidTurns': WHATEVER THE INPUT: true; the input reads as it did. -/
def fnExactValidTurnsSpec : ChangeSpec := { name := "fnExactValidTurns", fn := fun _ => fun
  | [d] => { results := [.lit (.bool true)], args := [d] }
  | _ => none }
def fnExactValidTurnsRow : OpenClaim := { program := "ytjlfolmjkppneaa", sum := "c680d1521d4aa1448ed2e555f9446e79c236eec11a2219e5be0c0efe86ba0d1d", func := "loop.example/g01033/laws.FnExactValidTurns", spec := "fnExactValidTurns", apart := false }
def FnExactValidTurnsSaid : Prop := fnExactValidTurnsRow.holds Try.pinned (OpenSpec.ofChange fnExactValidTurnsSpec)

/-- ITS FALSE NEIGHBOUR: 'it returns false'. Refute it at one input. -/
def fnExactValidTurnsWrong : ChangeSpec := { name := "fnExactValidTurns", fn := fun _ => fun
  | [d] => { results := [.lit (.bool false)], args := [d] }
  | _ => none }
def FnExactValidTurnsWrongFalsely : Prop := fnExactValidTurnsRow.holds Try.pinned (OpenSpec.ofChange fnExactValidTurnsWrong)

/-- 'laws.FnExactShareTurns': WHATEVER THE INPUT: true; the input reads as it did. -/
def fnExactShareTurnsSpec : ChangeSpec := { name := "fnExactShareTurns", fn := fun _ => fun
  | [d1, d2, d3, d4, d5] => { results := [.lit (.bool true)], args := [d1, d2, d3, d4, d5] }
  | _ => none }
def fnExactShareTurnsRow : OpenClaim := { program := "ytjlfolmjkppneaa", sum := "c680d1521d4aa1448ed2e555f9446e79c236eec11a2219e5be0c0efe86ba0d1d", func := "loop.example/g01033/laws.FnExactShareTurns", spec := "fnExactShareTurns", apart := false }
def FnExactShareTurnsSaid : Prop := fnExactShareTurnsRow.holds Try.pinned (OpenSpec.ofChange fnExactShareTurnsSpec)

/-- ITS FALSE NEIGHBOUR: 'it returns false'. Refute it at one input. -/
def fnExactShareTurnsWrong : ChangeSpec := { name := "fnExactShareTurns", fn := fun _ => fun
  | [d1, d2, d3, d4, d5] => { results := [.lit (.bool false)], args := [d1, d2, d3, d4, d5] }
  | _ => none }
def FnExactShareTurnsWrongFalsely : Prop := fnExactShareTurnsRow.holds Try.pinned (OpenSpec.ofChange fnExactShareTurnsWrong)

/-- 'laws.FnExactClashesOf': WHATEVER THE INPUT: true; the input reads as it did. -/
def fnExactClashesOfSpec : ChangeSpec := { name := "fnExactClashesOf", fn := fun _ => fun
  | [d] => { results := [.lit (.bool true)], args := [d] }
  | _ => none }
def fnExactClashesOfRow : OpenClaim := { program := "ytjlfolmjkppneaa", sum := "c680d1521d4aa1448ed2e555f9446e79c236eec11a2219e5be0c0efe86ba0d1d", func := "loop.example/g01033/laws.FnExactClashesOf", spec := "fnExactClashesOf", apart := false }
def FnExactClashesOfSaid : Prop := fnExactClashesOfRow.holds Try.pinned (OpenSpec.ofChange fnExactClashesOfSpec)

/-- ITS FALSE NEIGHBOUR: 'it returns false'. Refute it at one input. -/
def fnExactClashesOfWrong : ChangeSpec := { name := "fnExactClashesOf", fn := fun _ => fun
  | [d] => { results := [.lit (.bool false)], args := [d] }
  | _ => none }
def FnExactClashesOfWrongFalsely : Prop := fnExactClashesOfRow.holds Try.pinned (OpenSpec.ofChange fnExactClashesOfWrong)

/-- 'laws.FnExactSilencesOf': WHATEVER THE INPUT: true; the input reads as it did. -/
def fnExactSilencesOfSpec : ChangeSpec := { name := "fnExactSilencesOf", fn := fun _ => fun
  | [d] => { results := [.lit (.bool true)], args := [d] }
  | _ => none }
def fnExactSilencesOfRow : OpenClaim := { program := "ytjlfolmjkppneaa", sum := "c680d1521d4aa1448ed2e555f9446e79c236eec11a2219e5be0c0efe86ba0d1d", func := "loop.example/g01033/laws.FnExactSilencesOf", spec := "fnExactSilencesOf", apart := false }
def FnExactSilencesOfSaid : Prop := fnExactSilencesOfRow.holds Try.pinned (OpenSpec.ofChange fnExactSilencesOfSpec)

/-- ITS FALSE NEIGHBOUR: 'it returns false'. Refute it at one input. -/
def fnExactSilencesOfWrong : ChangeSpec := { name := "fnExactSilencesOf", fn := fun _ => fun
  | [d] => { results := [.lit (.bool false)], args := [d] }
  | _ => none }
def FnExactSilencesOfWrongFalsely : Prop := fnExactSilencesOfRow.holds Try.pinned (OpenSpec.ofChange fnExactSilencesOfWrong)

/-- 'laws.FnExactFullestTime': WHATEVER THE INPUT: true; the input reads as it did. -/
def fnExactFullestTimeSpec : ChangeSpec := { name := "fnExactFullestTime", fn := fun _ => fun
  | [d] => { results := [.lit (.bool true)], args := [d] }
  | _ => none }
def fnExactFullestTimeRow : OpenClaim := { program := "ytjlfolmjkppneaa", sum := "c680d1521d4aa1448ed2e555f9446e79c236eec11a2219e5be0c0efe86ba0d1d", func := "loop.example/g01033/laws.FnExactFullestTime", spec := "fnExactFullestTime", recurses := true, apart := false }
def FnExactFullestTimeSaid : Prop := fnExactFullestTimeRow.holds Try.pinned (OpenSpec.ofChange fnExactFullestTimeSpec)

/-- ITS FALSE NEIGHBOUR: 'it returns false'. Refute it at one input. -/
def fnExactFullestTimeWrong : ChangeSpec := { name := "fnExactFullestTime", fn := fun _ => fun
  | [d] => { results := [.lit (.bool false)], args := [d] }
  | _ => none }
def FnExactFullestTimeWrongFalsely : Prop := fnExactFullestTimeRow.holds Try.pinned (OpenSpec.ofChange fnExactFullestTimeWrong)

/-- 'laws.FnExactPlayersAt': WHATEVER THE INPUT: true; the input reads as it did. -/
def fnExactPlayersAtSpec : ChangeSpec := { name := "fnExactPlayersAt", fn := fun _ => fun
  | [d1, d2] => { results := [.lit (.bool true)], args := [d1, d2] }
  | _ => none }
def fnExactPlayersAtRow : OpenClaim := { program := "ytjlfolmjkppneaa", sum := "c680d1521d4aa1448ed2e555f9446e79c236eec11a2219e5be0c0efe86ba0d1d", func := "loop.example/g01033/laws.FnExactPlayersAt", spec := "fnExactPlayersAt", recurses := true, apart := false }
def FnExactPlayersAtSaid : Prop := fnExactPlayersAtRow.holds Try.pinned (OpenSpec.ofChange fnExactPlayersAtSpec)

/-- ITS FALSE NEIGHBOUR: 'it returns false'. Refute it at one input. -/
def fnExactPlayersAtWrong : ChangeSpec := { name := "fnExactPlayersAt", fn := fun _ => fun
  | [d1, d2] => { results := [.lit (.bool false)], args := [d1, d2] }
  | _ => none }
def FnExactPlayersAtWrongFalsely : Prop := fnExactPlayersAtRow.holds Try.pinned (OpenSpec.ofChange fnExactPlayersAtWrong)

/-- 'laws.FnExactSoloTime': WHATEVER THE INPUT: true; the input reads as it did. -/
def fnExactSoloTimeSpec : ChangeSpec := { name := "fnExactSoloTime", fn := fun _ => fun
  | [d1, d2] => { results := [.lit (.bool true)], args := [d1, d2] }
  | _ => none }
def fnExactSoloTimeRow : OpenClaim := { program := "ytjlfolmjkppneaa", sum := "c680d1521d4aa1448ed2e555f9446e79c236eec11a2219e5be0c0efe86ba0d1d", func := "loop.example/g01033/laws.FnExactSoloTime", spec := "fnExactSoloTime", unfollowed := true, recurses := true, apart := false }
def FnExactSoloTimeSaid : Prop := fnExactSoloTimeRow.holds Try.pinned (OpenSpec.ofChange fnExactSoloTimeSpec)

/-- ITS FALSE NEIGHBOUR: 'it returns false'. Refute it at one input. -/
def fnExactSoloTimeWrong : ChangeSpec := { name := "fnExactSoloTime", fn := fun _ => fun
  | [d1, d2] => { results := [.lit (.bool false)], args := [d1, d2] }
  | _ => none }
def FnExactSoloTimeWrongFalsely : Prop := fnExactSoloTimeRow.holds Try.pinned (OpenSpec.ofChange fnExactSoloTimeWrong)

/-- 'laws.FnExactMissedAnswers': WHATEVER THE INPUT: true; the input reads as it did. -/
def fnExactMissedAnswersSpec : ChangeSpec := { name := "fnExactMissedAnswers", fn := fun _ => fun
  | [d1, d2] => { results := [.lit (.bool true)], args := [d1, d2] }
  | _ => none }
def fnExactMissedAnswersRow : OpenClaim := { program := "ytjlfolmjkppneaa", sum := "c680d1521d4aa1448ed2e555f9446e79c236eec11a2219e5be0c0efe86ba0d1d", func := "loop.example/g01033/laws.FnExactMissedAnswers", spec := "fnExactMissedAnswers", unfollowed := true, recurses := true, apart := false }
def FnExactMissedAnswersSaid : Prop := fnExactMissedAnswersRow.holds Try.pinned (OpenSpec.ofChange fnExactMissedAnswersSpec)

/-- ITS FALSE NEIGHBOUR: 'it returns false'. Refute it at one input. -/
def fnExactMissedAnswersWrong : ChangeSpec := { name := "fnExactMissedAnswers", fn := fun _ => fun
  | [d1, d2] => { results := [.lit (.bool false)], args := [d1, d2] }
  | _ => none }
def FnExactMissedAnswersWrongFalsely : Prop := fnExactMissedAnswersRow.holds Try.pinned (OpenSpec.ofChange fnExactMissedAnswersWrong)

/-- 'laws.FnExactAddAnswers': WHATEVER THE INPUT: true; the input reads as it did. -/
def fnExactAddAnswersSpec : ChangeSpec := { name := "fnExactAddAnswers", fn := fun _ => fun
  | [d1, d2, d3] => { results := [.lit (.bool true)], args := [d1, d2, d3] }
  | _ => none }
def fnExactAddAnswersRow : OpenClaim := { program := "ytjlfolmjkppneaa", sum := "c680d1521d4aa1448ed2e555f9446e79c236eec11a2219e5be0c0efe86ba0d1d", func := "loop.example/g01033/laws.FnExactAddAnswers", spec := "fnExactAddAnswers", inPlace := ["slices.overlaps[loop.example/g01033/impl.Turn]"], unfollowed := true, recurses := true, apart := false }
def FnExactAddAnswersSaid : Prop := fnExactAddAnswersRow.holds Try.pinned (OpenSpec.ofChange fnExactAddAnswersSpec)

/-- ITS FALSE NEIGHBOUR: 'it returns false'. Refute it at one input. -/
def fnExactAddAnswersWrong : ChangeSpec := { name := "fnExactAddAnswers", fn := fun _ => fun
  | [d1, d2, d3] => { results := [.lit (.bool false)], args := [d1, d2, d3] }
  | _ => none }
def FnExactAddAnswersWrongFalsely : Prop := fnExactAddAnswersRow.holds Try.pinned (OpenSpec.ofChange fnExactAddAnswersWrong)

/- THE SECOND FORM. 'bulk': how many values and letters a reading holds, each counted each time it is reached (what is shared counts as often as it is met; a slice's spare places count too). A statement '..UptoSaid' is the law's where the arguments, and the package variables that the reading takes, are together of bulk at most 1048576: NARROWER than '..Said'. Prove '..Said' where nothing that the law and all that it calls make is longer than what came in: it says more and counts as full. Else prove '..UptoSaid'. A law counts once. -/
mutual
def uptoBulk {H : Type} : DataW H → Nat
  | .lit (.string bytes) => bytes.length + 1
  | .lit _ => 1
  | .nil => 1
  | .ptr d => uptoBulk d + 1
  | .slice elems spare => uptoBulkAll elems + uptoBulkAll spare + 1
  | .agg parts => uptoBulkAll parts + 1
  | .iface _ d => uptoBulk d + 1
  | .map entries => uptoBulkEntries entries + 1
  | .held _ => 1
def uptoBulkAll {H : Type} : List (DataW H) → Nat
  | [] => 0
  | d :: r => uptoBulk d + uptoBulkAll r
def uptoBulkEntries {H : Type} : List (Lit × DataW H) → Nat
  | [] => 0
  | x :: r => uptoBulkEntry x + uptoBulkEntries r
def uptoBulkEntry {H : Type} : Lit × DataW H → Nat
  | (.string bytes, d) => bytes.length + uptoBulk d + 1
  | (_, d) => uptoBulk d + 1
 end
def uptoSmall : (H : Type) → List (DataW H) → Bool := fun _ ds => decide (uptoBulkAll ds ≤ 1048576)
def OpenSpec.upto (s : _root_.Go.ChangeSpec) : _root_.Go.OpenSpec := { _root_.Go.OpenSpec.ofChange s with cond := some uptoSmall }

/-- 'laws.FnExactValidTurns', WHERE WHAT IT READS IS OF BULK AT MOST 1048576: true; the input reads as it did. -/
def fnExactValidTurnsUptoRow : OpenClaim := { program := "ytjlfolmjkppneaa", sum := "c680d1521d4aa1448ed2e555f9446e79c236eec11a2219e5be0c0efe86ba0d1d", func := "loop.example/g01033/laws.FnExactValidTurns", spec := "fnExactValidTurns", apart := false, narrowed := true }
def FnExactValidTurnsUptoSaid : Prop := fnExactValidTurnsUptoRow.holds Try.pinned (OpenSpec.upto fnExactValidTurnsSpec)

/-- 'laws.FnExactShareTurns', WHERE WHAT IT READS IS OF BULK AT MOST 1048576: true; the input reads as it did. -/
def fnExactShareTurnsUptoRow : OpenClaim := { program := "ytjlfolmjkppneaa", sum := "c680d1521d4aa1448ed2e555f9446e79c236eec11a2219e5be0c0efe86ba0d1d", func := "loop.example/g01033/laws.FnExactShareTurns", spec := "fnExactShareTurns", apart := false, narrowed := true }
def FnExactShareTurnsUptoSaid : Prop := fnExactShareTurnsUptoRow.holds Try.pinned (OpenSpec.upto fnExactShareTurnsSpec)

/-- 'laws.FnExactClashesOf', WHERE WHAT IT READS IS OF BULK AT MOST 1048576: true; the input reads as it did. -/
def fnExactClashesOfUptoRow : OpenClaim := { program := "ytjlfolmjkppneaa", sum := "c680d1521d4aa1448ed2e555f9446e79c236eec11a2219e5be0c0efe86ba0d1d", func := "loop.example/g01033/laws.FnExactClashesOf", spec := "fnExactClashesOf", apart := false, narrowed := true }
def FnExactClashesOfUptoSaid : Prop := fnExactClashesOfUptoRow.holds Try.pinned (OpenSpec.upto fnExactClashesOfSpec)

/-- 'laws.FnExactSilencesOf', WHERE WHAT IT READS IS OF BULK AT MOST 1048576: true; the input reads as it did. -/
def fnExactSilencesOfUptoRow : OpenClaim := { program := "ytjlfolmjkppneaa", sum := "c680d1521d4aa1448ed2e555f9446e79c236eec11a2219e5be0c0efe86ba0d1d", func := "loop.example/g01033/laws.FnExactSilencesOf", spec := "fnExactSilencesOf", apart := false, narrowed := true }
def FnExactSilencesOfUptoSaid : Prop := fnExactSilencesOfUptoRow.holds Try.pinned (OpenSpec.upto fnExactSilencesOfSpec)

/-- 'laws.FnExactFullestTime', WHERE WHAT IT READS IS OF BULK AT MOST 1048576: true; the input reads as it did. -/
def fnExactFullestTimeUptoRow : OpenClaim := { program := "ytjlfolmjkppneaa", sum := "c680d1521d4aa1448ed2e555f9446e79c236eec11a2219e5be0c0efe86ba0d1d", func := "loop.example/g01033/laws.FnExactFullestTime", spec := "fnExactFullestTime", recurses := true, apart := false, narrowed := true }
def FnExactFullestTimeUptoSaid : Prop := fnExactFullestTimeUptoRow.holds Try.pinned (OpenSpec.upto fnExactFullestTimeSpec)

/-- 'laws.FnExactPlayersAt', WHERE WHAT IT READS IS OF BULK AT MOST 1048576: true; the input reads as it did. -/
def fnExactPlayersAtUptoRow : OpenClaim := { program := "ytjlfolmjkppneaa", sum := "c680d1521d4aa1448ed2e555f9446e79c236eec11a2219e5be0c0efe86ba0d1d", func := "loop.example/g01033/laws.FnExactPlayersAt", spec := "fnExactPlayersAt", recurses := true, apart := false, narrowed := true }
def FnExactPlayersAtUptoSaid : Prop := fnExactPlayersAtUptoRow.holds Try.pinned (OpenSpec.upto fnExactPlayersAtSpec)

/-- 'laws.FnExactSoloTime', WHERE WHAT IT READS IS OF BULK AT MOST 1048576: true; the input reads as it did. -/
def fnExactSoloTimeUptoRow : OpenClaim := { program := "ytjlfolmjkppneaa", sum := "c680d1521d4aa1448ed2e555f9446e79c236eec11a2219e5be0c0efe86ba0d1d", func := "loop.example/g01033/laws.FnExactSoloTime", spec := "fnExactSoloTime", unfollowed := true, recurses := true, apart := false, narrowed := true }
def FnExactSoloTimeUptoSaid : Prop := fnExactSoloTimeUptoRow.holds Try.pinned (OpenSpec.upto fnExactSoloTimeSpec)

/-- 'laws.FnExactMissedAnswers', WHERE WHAT IT READS IS OF BULK AT MOST 1048576: true; the input reads as it did. -/
def fnExactMissedAnswersUptoRow : OpenClaim := { program := "ytjlfolmjkppneaa", sum := "c680d1521d4aa1448ed2e555f9446e79c236eec11a2219e5be0c0efe86ba0d1d", func := "loop.example/g01033/laws.FnExactMissedAnswers", spec := "fnExactMissedAnswers", unfollowed := true, recurses := true, apart := false, narrowed := true }
def FnExactMissedAnswersUptoSaid : Prop := fnExactMissedAnswersUptoRow.holds Try.pinned (OpenSpec.upto fnExactMissedAnswersSpec)

/-- 'laws.FnExactAddAnswers', WHERE WHAT IT READS IS OF BULK AT MOST 1048576: true; the input reads as it did. -/
def fnExactAddAnswersUptoRow : OpenClaim := { program := "ytjlfolmjkppneaa", sum := "c680d1521d4aa1448ed2e555f9446e79c236eec11a2219e5be0c0efe86ba0d1d", func := "loop.example/g01033/laws.FnExactAddAnswers", spec := "fnExactAddAnswers", inPlace := ["slices.overlaps[loop.example/g01033/impl.Turn]"], unfollowed := true, recurses := true, apart := false, narrowed := true }
def FnExactAddAnswersUptoSaid : Prop := fnExactAddAnswersUptoRow.holds Try.pinned (OpenSpec.upto fnExactAddAnswersSpec)

end Rows
end Go.Proofs.Ytjlfolmjkppneaa
