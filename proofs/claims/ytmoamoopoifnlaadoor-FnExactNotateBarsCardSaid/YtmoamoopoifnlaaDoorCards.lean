/-
  DERIVED. GIVEN WITH THE SEED: THE CARDS: each row of YtmoamoopoifnlaaDoorRows.lean that lists a variable, with what it lists TIED to the program's text (the seventh form; the later family's looks); each row that meets fmt, with fmt's text TOLD by the authors' own Lean function (tested against real Go, not proved from fmt's source: count such statements apart). THE CARD IS WHAT COUNTS. Prove the row's statement (the work); the ties are given (YtmoamoopoifnlaaDoorTie.lean); close each card by the builder's one call (the guide's Derived/Test/ToyasCard.lean, 'card_holds'). Laid BY PROGRAM, IN A SANDBOX (cutbox-door.mjs). By AI agents, Wed Nov 11 2026. No macro, syntax, notation, axiom, sorry.
-/
import Derived.Test.YtmoamoopoifnlaaDoorRows
import GoSem.ClaimSeven
namespace Go.Proofs.YtmoamoopoifnlaaDoor
namespace Rows

/-- THE TIED CARD OF 'laws.FnExactNotateBars'. -/
def fnExactNotateBarsCard : Claim7 := { stood := { row := fnExactNotateBarsRow, standIns := [], harness := (true, "ff5fc85974bfc770747afbecbce3d99749206f5a8961f3c9120d88850ad18e40"), looks := false }, kinds := [], alts := [], laidByText := true, laidKinds := [.data, .data, .data], laidTests := true, laidLooks := .later }
def FnExactNotateBarsCardSaid : Prop := Claim7.holds Tryd.pinned (.plain (OpenSpec.ofChange fnExactNotateBarsSpec)) fnExactNotateBarsCard

/-- THE SECOND FORM's CARD OF 'laws.FnExactNotateBars'. -/
def fnExactNotateBarsUptoCard : Claim7 := { stood := { row := fnExactNotateBarsUptoRow, standIns := [], harness := (true, "ff5fc85974bfc770747afbecbce3d99749206f5a8961f3c9120d88850ad18e40"), looks := false }, kinds := [], alts := [], laidByText := true, laidKinds := [.data, .data, .data], laidTests := true, laidLooks := .later }
def FnExactNotateBarsUptoCardSaid : Prop := Claim7.holds Tryd.pinned (.plain (OpenSpec.upto fnExactNotateBarsSpec)) fnExactNotateBarsUptoCard
end Rows
end Go.Proofs.YtmoamoopoifnlaaDoor
