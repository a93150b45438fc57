/-
  No cell of these rows narrows 'for every input' (looked for: loops, veiled, ifaces, maps, wideKeys, modest, calm, conditions, laid).
  DERIVED. THE GIVEN ROWS OF THIS SEAT. 3 by the template 'for every input the law returns true; each argument reads behind the call as it read before'; 0 by the template 'total and deterministic' (their statements: YtkihbelhpnhceaaTotals.lean).
  GIVEN WITH THE SEED: the statements are not yours to turn. If you find one false, say at which input.
  Laid BY PROGRAM, IN A SANDBOX (cutbox-rows.mjs): the forced cells as the released guide's own fill.sh prints them over the translation 438322169b9d865d… (all of the seat's roots in one cut). By AI agents, Wed Nov 11 2026. No macro, syntax, notation, axiom, sorry.
-/
import Derived.Test.YtkihbelhpnhceaaChecked
import GoSem.Claim
import GoSem.ClaimJoined
import GoSem.ClaimMapViews
import Derived.JoinedTies
import Derived.KernelRfl
namespace Go.Proofs.Ytkihbelhpnhceaa
/- THE CELL 'sum', in the pinned program and in every row, IS THE sha256 OF THE DUMP (.gsa) THAT YtkihbelhpnhceaaProg.lean LOADS. Nothing in Lean hashes anything: it is a label: what it is worth is what the hold of that sum in a sandbox is worth. -/
noncomputable def Try.pinned : Pinned := { name := "ytkihbelhpnhceaa", sum := "438322169b9d865da4a1ec4ef97dfa7bd3e9eef9ba06259f49bd9ebb2c087737", checked := Try.checked }
namespace Rows
def none {H : Type} : Left H := { results := [], args := [] }

/-- 'laws.FnExactScriptName': WHATEVER THE INPUT: true; the input reads as it did. -/
def fnExactScriptNameSpec : ChangeSpec := { name := "fnExactScriptName", fn := fun _ => fun
  | [d] => { results := [.lit (.bool true)], args := [d] }
  | _ => none }
def fnExactScriptNameRow : OpenClaim := { program := "ytkihbelhpnhceaa", sum := "438322169b9d865da4a1ec4ef97dfa7bd3e9eef9ba06259f49bd9ebb2c087737", func := "loop.example/g01033/laws.FnExactScriptName", spec := "fnExactScriptName", apart := false }
def FnExactScriptNameSaid : Prop := fnExactScriptNameRow.holds Try.pinned (OpenSpec.ofChange fnExactScriptNameSpec)

/-- ITS FALSE NEIGHBOUR: 'it returns false'. Refute it at one input. -/
def fnExactScriptNameWrong : ChangeSpec := { name := "fnExactScriptName", fn := fun _ => fun
  | [d] => { results := [.lit (.bool false)], args := [d] }
  | _ => none }
def FnExactScriptNameWrongFalsely : Prop := fnExactScriptNameRow.holds Try.pinned (OpenSpec.ofChange fnExactScriptNameWrong)

/-- 'laws.FnExactScriptNamed': WHATEVER THE INPUT: true; the input reads as it did. -/
def fnExactScriptNamedSpec : ChangeSpec := { name := "fnExactScriptNamed", fn := fun _ => fun
  | [d] => { results := [.lit (.bool true)], args := [d] }
  | _ => none }
def fnExactScriptNamedRow : OpenClaim := { program := "ytkihbelhpnhceaa", sum := "438322169b9d865da4a1ec4ef97dfa7bd3e9eef9ba06259f49bd9ebb2c087737", func := "loop.example/g01033/laws.FnExactScriptNamed", spec := "fnExactScriptNamed", unfollowed := true, recurses := true, apart := false }
def FnExactScriptNamedSaid : Prop := fnExactScriptNamedRow.holds Try.pinned (OpenSpec.ofChange fnExactScriptNamedSpec)

/-- ITS FALSE NEIGHBOUR: 'it returns false'. Refute it at one input. -/
def fnExactScriptNamedWrong : ChangeSpec := { name := "fnExactScriptNamed", fn := fun _ => fun
  | [d] => { results := [.lit (.bool false)], args := [d] }
  | _ => none }
def FnExactScriptNamedWrongFalsely : Prop := fnExactScriptNamedRow.holds Try.pinned (OpenSpec.ofChange fnExactScriptNamedWrong)

/-- 'laws.FnExactForgottenTopics': WHATEVER THE INPUT: true; the input reads as it did. -/
def fnExactForgottenTopicsSpec : ChangeSpec := { name := "fnExactForgottenTopics", fn := fun _ => fun
  | [d1, d2, d3, d4] => { results := [.lit (.bool true)], args := [d1, d2, d3, d4] }
  | _ => none }
def fnExactForgottenTopicsRow : OpenClaim := { program := "ytkihbelhpnhceaa", sum := "438322169b9d865da4a1ec4ef97dfa7bd3e9eef9ba06259f49bd9ebb2c087737", func := "loop.example/g01033/laws.FnExactForgottenTopics", spec := "fnExactForgottenTopics", unfollowed := true, recurses := true, apart := false }
def FnExactForgottenTopicsSaid : Prop := fnExactForgottenTopicsRow.holds Try.pinned (OpenSpec.ofChange fnExactForgottenTopicsSpec)

/-- ITS FALSE NEIGHBOUR: 'it returns false'. Refute it at one input. -/
def fnExactForgottenTopicsWrong : ChangeSpec := { name := "fnExactForgottenTopics", fn := fun _ => fun
  | [d1, d2, d3, d4] => { results := [.lit (.bool false)], args := [d1, d2, d3, d4] }
  | _ => none }
def FnExactForgottenTopicsWrongFalsely : Prop := fnExactForgottenTopicsRow.holds Try.pinned (OpenSpec.ofChange fnExactForgottenTopicsWrong)

/- THE SECOND FORM. 'bulk': how many values and letters a reading holds, each counted each time it is reached (what is shared counts as often as it is met; a slice's spare places count too). A statement '..UptoSaid' is the law's where the arguments, and the package variables that the reading takes, are together of bulk at most 1048576: NARROWER than '..Said'. Prove '..Said' where nothing that the law and all that it calls make is longer than what came in: it says more and counts as full. Else prove '..UptoSaid'. A law counts once. -/
mutual
def uptoBulk {H : Type} : DataW H → Nat
  | .lit (.string bytes) => bytes.length + 1
  | .lit _ => 1
  | .nil => 1
  | .ptr d => uptoBulk d + 1
  | .slice elems spare => uptoBulkAll elems + uptoBulkAll spare + 1
  | .agg parts => uptoBulkAll parts + 1
  | .iface _ d => uptoBulk d + 1
  | .map entries => uptoBulkEntries entries + 1
  | .held _ => 1
def uptoBulkAll {H : Type} : List (DataW H) → Nat
  | [] => 0
  | d :: r => uptoBulk d + uptoBulkAll r
def uptoBulkEntries {H : Type} : List (Lit × DataW H) → Nat
  | [] => 0
  | x :: r => uptoBulkEntry x + uptoBulkEntries r
def uptoBulkEntry {H : Type} : Lit × DataW H → Nat
  | (.string bytes, d) => bytes.length + uptoBulk d + 1
  | (_, d) => uptoBulk d + 1
 end
def uptoSmall : (H : Type) → List (DataW H) → Bool := fun _ ds => decide (uptoBulkAll ds ≤ 1048576)
def OpenSpec.upto (s : _root_.Go.ChangeSpec) : _root_.Go.OpenSpec := { _root_.Go.OpenSpec.ofChange s with cond := some uptoSmall }

/-- 'laws.FnExactScriptName', WHERE WHAT IT READS IS OF BULK AT MOST 1048576: true; the input reads as it did. -/
def fnExactScriptNameUptoRow : OpenClaim := { program := "ytkihbelhpnhceaa", sum := "438322169b9d865da4a1ec4ef97dfa7bd3e9eef9ba06259f49bd9ebb2c087737", func := "loop.example/g01033/laws.FnExactScriptName", spec := "fnExactScriptName", apart := false, narrowed := true }
def FnExactScriptNameUptoSaid : Prop := fnExactScriptNameUptoRow.holds Try.pinned (OpenSpec.upto fnExactScriptNameSpec)

/-- 'laws.FnExactScriptNamed', WHERE WHAT IT READS IS OF BULK AT MOST 1048576: true; the input reads as it did. -/
def fnExactScriptNamedUptoRow : OpenClaim := { program := "ytkihbelhpnhceaa", sum := "438322169b9d865da4a1ec4ef97dfa7bd3e9eef9ba06259f49bd9ebb2c087737", func := "loop.example/g01033/laws.FnExactScriptNamed", spec := "fnExactScriptNamed", unfollowed := true, recurses := true, apart := false, narrowed := true }
def FnExactScriptNamedUptoSaid : Prop := fnExactScriptNamedUptoRow.holds Try.pinned (OpenSpec.upto fnExactScriptNamedSpec)

/-- 'laws.FnExactForgottenTopics', WHERE WHAT IT READS IS OF BULK AT MOST 1048576: true; the input reads as it did. -/
def fnExactForgottenTopicsUptoRow : OpenClaim := { program := "ytkihbelhpnhceaa", sum := "438322169b9d865da4a1ec4ef97dfa7bd3e9eef9ba06259f49bd9ebb2c087737", func := "loop.example/g01033/laws.FnExactForgottenTopics", spec := "fnExactForgottenTopics", unfollowed := true, recurses := true, apart := false, narrowed := true }
def FnExactForgottenTopicsUptoSaid : Prop := fnExactForgottenTopicsUptoRow.holds Try.pinned (OpenSpec.upto fnExactForgottenTopicsSpec)

end Rows
end Go.Proofs.Ytkihbelhpnhceaa
