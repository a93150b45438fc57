/-
  No cell of these rows narrows 'for every input' (looked for: loops, veiled, ifaces, maps, wideKeys, modest, calm, conditions, laid).
  DERIVED. THE GIVEN ROWS OF THIS SEAT. 8 by the template 'for every input the law returns true; each argument reads behind the call as it read before'; 0 by the template 'total and deterministic' (their statements: YtleajljmjohcaaaTotals.lean).
  GIVEN WITH THE SEED: the statements are not yours to turn. If you find one false, say at which input.
  Laid BY PROGRAM, IN A SANDBOX (cutbox-rows.mjs): the forced cells as the released guide's own fill.sh prints them over the translation b961ecac7822a713… (all of the seat's roots in one cut). By AI agents, Wed Nov 11 2026. No macro, syntax, notation, axiom, sorry.
-/
import Derived.Test.YtleajljmjohcaaaChecked
import GoSem.Claim
import GoSem.ClaimJoined
import GoSem.ClaimMapViews
import Derived.JoinedTies
import Derived.KernelRfl
namespace Go.Proofs.Ytleajljmjohcaaa
/- THE CELL 'sum', in the pinned program and in every row, IS THE sha256 OF THE DUMP (.gsa) THAT YtleajljmjohcaaaProg.lean LOADS. Nothing in Lean hashes anything: it is a label: what it is worth is what the hold of that sum in a sandbox is worth. -/
noncomputable def Try.pinned : Pinned := { name := "ytleajljmjohcaaa", sum := "b961ecac7822a713a315236963cfe960d1faf8a15e8a5f90782b22ccf87bb176", checked := Try.checked }
namespace Rows
def none {H : Type} : Left H := { results := [], args := [] }

/-- 'laws.FnExactValidLessons': WHATEVER THE INPUT: true; the input reads as it did. -/
def fnExactValidLessonsSpec : ChangeSpec := { name := "fnExactValidLessons", fn := fun _ => fun
  | [d] => { results := [.lit (.bool true)], args := [d] }
  | _ => none }
def fnExactValidLessonsRow : OpenClaim := { program := "ytleajljmjohcaaa", sum := "b961ecac7822a713a315236963cfe960d1faf8a15e8a5f90782b22ccf87bb176", func := "loop.example/g01033/laws.FnExactValidLessons", spec := "fnExactValidLessons", recurses := true, apart := false }
def FnExactValidLessonsSaid : Prop := fnExactValidLessonsRow.holds Try.pinned (OpenSpec.ofChange fnExactValidLessonsSpec)

/-- ITS FALSE NEIGHBOUR: 'it returns false'. Refute it at one input. -/
def fnExactValidLessonsWrong : ChangeSpec := { name := "fnExactValidLessons", fn := fun _ => fun
  | [d] => { results := [.lit (.bool false)], args := [d] }
  | _ => none }
def FnExactValidLessonsWrongFalsely : Prop := fnExactValidLessonsRow.holds Try.pinned (OpenSpec.ofChange fnExactValidLessonsWrong)

/-- 'laws.FnExactPractisedMinutes': WHATEVER THE INPUT: true; the input reads as it did. -/
def fnExactPractisedMinutesSpec : ChangeSpec := { name := "fnExactPractisedMinutes", fn := fun _ => fun
  | [d1, d2, d3, d4] => { results := [.lit (.bool true)], args := [d1, d2, d3, d4] }
  | _ => none }
def fnExactPractisedMinutesRow : OpenClaim := { program := "ytleajljmjohcaaa", sum := "b961ecac7822a713a315236963cfe960d1faf8a15e8a5f90782b22ccf87bb176", func := "loop.example/g01033/laws.FnExactPractisedMinutes", spec := "fnExactPractisedMinutes", recurses := true, apart := false }
def FnExactPractisedMinutesSaid : Prop := fnExactPractisedMinutesRow.holds Try.pinned (OpenSpec.ofChange fnExactPractisedMinutesSpec)

/-- ITS FALSE NEIGHBOUR: 'it returns false'. Refute it at one input. -/
def fnExactPractisedMinutesWrong : ChangeSpec := { name := "fnExactPractisedMinutes", fn := fun _ => fun
  | [d1, d2, d3, d4] => { results := [.lit (.bool false)], args := [d1, d2, d3, d4] }
  | _ => none }
def FnExactPractisedMinutesWrongFalsely : Prop := fnExactPractisedMinutesRow.holds Try.pinned (OpenSpec.ofChange fnExactPractisedMinutesWrong)

/-- 'laws.FnExactPupilsOf': WHATEVER THE INPUT: true; the input reads as it did. -/
def fnExactPupilsOfSpec : ChangeSpec := { name := "fnExactPupilsOf", fn := fun _ => fun
  | [d] => { results := [.lit (.bool true)], args := [d] }
  | _ => none }
def fnExactPupilsOfRow : OpenClaim := { program := "ytleajljmjohcaaa", sum := "b961ecac7822a713a315236963cfe960d1faf8a15e8a5f90782b22ccf87bb176", func := "loop.example/g01033/laws.FnExactPupilsOf", spec := "fnExactPupilsOf", recurses := true, apart := false }
def FnExactPupilsOfSaid : Prop := fnExactPupilsOfRow.holds Try.pinned (OpenSpec.ofChange fnExactPupilsOfSpec)

/-- ITS FALSE NEIGHBOUR: 'it returns false'. Refute it at one input. -/
def fnExactPupilsOfWrong : ChangeSpec := { name := "fnExactPupilsOf", fn := fun _ => fun
  | [d] => { results := [.lit (.bool false)], args := [d] }
  | _ => none }
def FnExactPupilsOfWrongFalsely : Prop := fnExactPupilsOfRow.holds Try.pinned (OpenSpec.ofChange fnExactPupilsOfWrong)

/-- 'laws.FnExactBestMark': WHATEVER THE INPUT: true; the input reads as it did. -/
def fnExactBestMarkSpec : ChangeSpec := { name := "fnExactBestMark", fn := fun _ => fun
  | [d1, d2, d3] => { results := [.lit (.bool true)], args := [d1, d2, d3] }
  | _ => none }
def fnExactBestMarkRow : OpenClaim := { program := "ytleajljmjohcaaa", sum := "b961ecac7822a713a315236963cfe960d1faf8a15e8a5f90782b22ccf87bb176", func := "loop.example/g01033/laws.FnExactBestMark", spec := "fnExactBestMark", recurses := true, apart := false }
def FnExactBestMarkSaid : Prop := fnExactBestMarkRow.holds Try.pinned (OpenSpec.ofChange fnExactBestMarkSpec)

/-- ITS FALSE NEIGHBOUR: 'it returns false'. Refute it at one input. -/
def fnExactBestMarkWrong : ChangeSpec := { name := "fnExactBestMark", fn := fun _ => fun
  | [d1, d2, d3] => { results := [.lit (.bool false)], args := [d1, d2, d3] }
  | _ => none }
def FnExactBestMarkWrongFalsely : Prop := fnExactBestMarkRow.holds Try.pinned (OpenSpec.ofChange fnExactBestMarkWrong)

/-- 'laws.FnExactMeanMark': WHATEVER THE INPUT: true; the input reads as it did. -/
def fnExactMeanMarkSpec : ChangeSpec := { name := "fnExactMeanMark", fn := fun _ => fun
  | [d1, d2] => { results := [.lit (.bool true)], args := [d1, d2] }
  | _ => none }
def fnExactMeanMarkRow : OpenClaim := { program := "ytleajljmjohcaaa", sum := "b961ecac7822a713a315236963cfe960d1faf8a15e8a5f90782b22ccf87bb176", func := "loop.example/g01033/laws.FnExactMeanMark", spec := "fnExactMeanMark", recurses := true, apart := false }
def FnExactMeanMarkSaid : Prop := fnExactMeanMarkRow.holds Try.pinned (OpenSpec.ofChange fnExactMeanMarkSpec)

/-- ITS FALSE NEIGHBOUR: 'it returns false'. Refute it at one input. -/
def fnExactMeanMarkWrong : ChangeSpec := { name := "fnExactMeanMark", fn := fun _ => fun
  | [d1, d2] => { results := [.lit (.bool false)], args := [d1, d2] }
  | _ => none }
def FnExactMeanMarkWrongFalsely : Prop := fnExactMeanMarkRow.holds Try.pinned (OpenSpec.ofChange fnExactMeanMarkWrong)

/-- 'laws.FnExactLongestStreak': WHATEVER THE INPUT: true; the input reads as it did. -/
def fnExactLongestStreakSpec : ChangeSpec := { name := "fnExactLongestStreak", fn := fun _ => fun
  | [d1, d2] => { results := [.lit (.bool true)], args := [d1, d2] }
  | _ => none }
def fnExactLongestStreakRow : OpenClaim := { program := "ytleajljmjohcaaa", sum := "b961ecac7822a713a315236963cfe960d1faf8a15e8a5f90782b22ccf87bb176", func := "loop.example/g01033/laws.FnExactLongestStreak", spec := "fnExactLongestStreak", recurses := true, apart := false }
def FnExactLongestStreakSaid : Prop := fnExactLongestStreakRow.holds Try.pinned (OpenSpec.ofChange fnExactLongestStreakSpec)

/-- ITS FALSE NEIGHBOUR: 'it returns false'. Refute it at one input. -/
def fnExactLongestStreakWrong : ChangeSpec := { name := "fnExactLongestStreak", fn := fun _ => fun
  | [d1, d2] => { results := [.lit (.bool false)], args := [d1, d2] }
  | _ => none }
def FnExactLongestStreakWrongFalsely : Prop := fnExactLongestStreakRow.holds Try.pinned (OpenSpec.ofChange fnExactLongestStreakWrong)

/-- 'laws.FnExactTopicsOf': WHATEVER THE INPUT: true; the input reads as it did. -/
def fnExactTopicsOfSpec : ChangeSpec := { name := "fnExactTopicsOf", fn := fun _ => fun
  | [d1, d2] => { results := [.lit (.bool true)], args := [d1, d2] }
  | _ => none }
def fnExactTopicsOfRow : OpenClaim := { program := "ytleajljmjohcaaa", sum := "b961ecac7822a713a315236963cfe960d1faf8a15e8a5f90782b22ccf87bb176", func := "loop.example/g01033/laws.FnExactTopicsOf", spec := "fnExactTopicsOf", recurses := true, apart := false }
def FnExactTopicsOfSaid : Prop := fnExactTopicsOfRow.holds Try.pinned (OpenSpec.ofChange fnExactTopicsOfSpec)

/-- ITS FALSE NEIGHBOUR: 'it returns false'. Refute it at one input. -/
def fnExactTopicsOfWrong : ChangeSpec := { name := "fnExactTopicsOf", fn := fun _ => fun
  | [d1, d2] => { results := [.lit (.bool false)], args := [d1, d2] }
  | _ => none }
def FnExactTopicsOfWrongFalsely : Prop := fnExactTopicsOfRow.holds Try.pinned (OpenSpec.ofChange fnExactTopicsOfWrong)

/-- 'laws.FnExactForgottenTopics': WHATEVER THE INPUT: true; the input reads as it did. -/
def fnExactForgottenTopicsSpec : ChangeSpec := { name := "fnExactForgottenTopics", fn := fun _ => fun
  | [d1, d2, d3, d4] => { results := [.lit (.bool true)], args := [d1, d2, d3, d4] }
  | _ => none }
def fnExactForgottenTopicsRow : OpenClaim := { program := "ytleajljmjohcaaa", sum := "b961ecac7822a713a315236963cfe960d1faf8a15e8a5f90782b22ccf87bb176", func := "loop.example/g01033/laws.FnExactForgottenTopics", spec := "fnExactForgottenTopics", unfollowed := true, recurses := true, apart := false }
def FnExactForgottenTopicsSaid : Prop := fnExactForgottenTopicsRow.holds Try.pinned (OpenSpec.ofChange fnExactForgottenTopicsSpec)

/-- ITS FALSE NEIGHBOUR: 'it returns false'. Refute it at one input. -/
def fnExactForgottenTopicsWrong : ChangeSpec := { name := "fnExactForgottenTopics", fn := fun _ => fun
  | [d1, d2, d3, d4] => { results := [.lit (.bool false)], args := [d1, d2, d3, d4] }
  | _ => none }
def FnExactForgottenTopicsWrongFalsely : Prop := fnExactForgottenTopicsRow.holds Try.pinned (OpenSpec.ofChange fnExactForgottenTopicsWrong)

/- THE SECOND FORM. 'bulk': how many values and letters a reading holds, each counted each time it is reached (what is shared counts as often as it is met; a slice's spare places count too). A statement '..UptoSaid' is the law's where the arguments, and the package variables that the reading takes, are together of bulk at most 1048576: NARROWER than '..Said'. Prove '..Said' where nothing that the law and all that it calls make is longer than what came in: it says more and counts as full. Else prove '..UptoSaid'. A law counts once. -/
mutual
def uptoBulk {H : Type} : DataW H → Nat
  | .lit (.string bytes) => bytes.length + 1
  | .lit _ => 1
  | .nil => 1
  | .ptr d => uptoBulk d + 1
  | .slice elems spare => uptoBulkAll elems + uptoBulkAll spare + 1
  | .agg parts => uptoBulkAll parts + 1
  | .iface _ d => uptoBulk d + 1
  | .map entries => uptoBulkEntries entries + 1
  | .held _ => 1
def uptoBulkAll {H : Type} : List (DataW H) → Nat
  | [] => 0
  | d :: r => uptoBulk d + uptoBulkAll r
def uptoBulkEntries {H : Type} : List (Lit × DataW H) → Nat
  | [] => 0
  | x :: r => uptoBulkEntry x + uptoBulkEntries r
def uptoBulkEntry {H : Type} : Lit × DataW H → Nat
  | (.string bytes, d) => bytes.length + uptoBulk d + 1
  | (_, d) => uptoBulk d + 1
 end
def uptoSmall : (H : Type) → List (DataW H) → Bool := fun _ ds => decide (uptoBulkAll ds ≤ 1048576)
def OpenSpec.upto (s : _root_.Go.ChangeSpec) : _root_.Go.OpenSpec := { _root_.Go.OpenSpec.ofChange s with cond := some uptoSmall }

/-- 'laws.FnExactValidLessons', WHERE WHAT IT READS IS OF BULK AT MOST 1048576: true; the input reads as it did. -/
def fnExactValidLessonsUptoRow : OpenClaim := { program := "ytleajljmjohcaaa", sum := "b961ecac7822a713a315236963cfe960d1faf8a15e8a5f90782b22ccf87bb176", func := "loop.example/g01033/laws.FnExactValidLessons", spec := "fnExactValidLessons", recurses := true, apart := false, narrowed := true }
def FnExactValidLessonsUptoSaid : Prop := fnExactValidLessonsUptoRow.holds Try.pinned (OpenSpec.upto fnExactValidLessonsSpec)

/-- 'laws.FnExactPractisedMinutes', WHERE WHAT IT READS IS OF BULK AT MOST 1048576: true; the input reads as it did. -/
def fnExactPractisedMinutesUptoRow : OpenClaim := { program := "ytleajljmjohcaaa", sum := "b961ecac7822a713a315236963cfe960d1faf8a15e8a5f90782b22ccf87bb176", func := "loop.example/g01033/laws.FnExactPractisedMinutes", spec := "fnExactPractisedMinutes", recurses := true, apart := false, narrowed := true }
def FnExactPractisedMinutesUptoSaid : Prop := fnExactPractisedMinutesUptoRow.holds Try.pinned (OpenSpec.upto fnExactPractisedMinutesSpec)

/-- 'laws.FnExactPupilsOf', WHERE WHAT IT READS IS OF BULK AT MOST 1048576: true; the input reads as it did. -/
def fnExactPupilsOfUptoRow : OpenClaim := { program := "ytleajljmjohcaaa", sum := "b961ecac7822a713a315236963cfe960d1faf8a15e8a5f90782b22ccf87bb176", func := "loop.example/g01033/laws.FnExactPupilsOf", spec := "fnExactPupilsOf", recurses := true, apart := false, narrowed := true }
def FnExactPupilsOfUptoSaid : Prop := fnExactPupilsOfUptoRow.holds Try.pinned (OpenSpec.upto fnExactPupilsOfSpec)

/-- 'laws.FnExactBestMark', WHERE WHAT IT READS IS OF BULK AT MOST 1048576: true; the input reads as it did. -/
def fnExactBestMarkUptoRow : OpenClaim := { program := "ytleajljmjohcaaa", sum := "b961ecac7822a713a315236963cfe960d1faf8a15e8a5f90782b22ccf87bb176", func := "loop.example/g01033/laws.FnExactBestMark", spec := "fnExactBestMark", recurses := true, apart := false, narrowed := true }
def FnExactBestMarkUptoSaid : Prop := fnExactBestMarkUptoRow.holds Try.pinned (OpenSpec.upto fnExactBestMarkSpec)

/-- 'laws.FnExactMeanMark', WHERE WHAT IT READS IS OF BULK AT MOST 1048576: true; the input reads as it did. -/
def fnExactMeanMarkUptoRow : OpenClaim := { program := "ytleajljmjohcaaa", sum := "b961ecac7822a713a315236963cfe960d1faf8a15e8a5f90782b22ccf87bb176", func := "loop.example/g01033/laws.FnExactMeanMark", spec := "fnExactMeanMark", recurses := true, apart := false, narrowed := true }
def FnExactMeanMarkUptoSaid : Prop := fnExactMeanMarkUptoRow.holds Try.pinned (OpenSpec.upto fnExactMeanMarkSpec)

/-- 'laws.FnExactLongestStreak', WHERE WHAT IT READS IS OF BULK AT MOST 1048576: true; the input reads as it did. -/
def fnExactLongestStreakUptoRow : OpenClaim := { program := "ytleajljmjohcaaa", sum := "b961ecac7822a713a315236963cfe960d1faf8a15e8a5f90782b22ccf87bb176", func := "loop.example/g01033/laws.FnExactLongestStreak", spec := "fnExactLongestStreak", recurses := true, apart := false, narrowed := true }
def FnExactLongestStreakUptoSaid : Prop := fnExactLongestStreakUptoRow.holds Try.pinned (OpenSpec.upto fnExactLongestStreakSpec)

/-- 'laws.FnExactTopicsOf', WHERE WHAT IT READS IS OF BULK AT MOST 1048576: true; the input reads as it did. -/
def fnExactTopicsOfUptoRow : OpenClaim := { program := "ytleajljmjohcaaa", sum := "b961ecac7822a713a315236963cfe960d1faf8a15e8a5f90782b22ccf87bb176", func := "loop.example/g01033/laws.FnExactTopicsOf", spec := "fnExactTopicsOf", recurses := true, apart := false, narrowed := true }
def FnExactTopicsOfUptoSaid : Prop := fnExactTopicsOfUptoRow.holds Try.pinned (OpenSpec.upto fnExactTopicsOfSpec)

/-- 'laws.FnExactForgottenTopics', WHERE WHAT IT READS IS OF BULK AT MOST 1048576: true; the input reads as it did. -/
def fnExactForgottenTopicsUptoRow : OpenClaim := { program := "ytleajljmjohcaaa", sum := "b961ecac7822a713a315236963cfe960d1faf8a15e8a5f90782b22ccf87bb176", func := "loop.example/g01033/laws.FnExactForgottenTopics", spec := "fnExactForgottenTopics", unfollowed := true, recurses := true, apart := false, narrowed := true }
def FnExactForgottenTopicsUptoSaid : Prop := fnExactForgottenTopicsUptoRow.holds Try.pinned (OpenSpec.upto fnExactForgottenTopicsSpec)

end Rows
end Go.Proofs.Ytleajljmjohcaaa
