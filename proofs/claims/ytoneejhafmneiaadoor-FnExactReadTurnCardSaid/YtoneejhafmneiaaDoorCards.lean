/-
  DERIVED. GIVEN WITH THE SEED: THE CARDS: each row of YtoneejhafmneiaaDoorRows.lean that lists a variable, with what it lists TIED to the program's text (the seventh form; the later family's looks); each row that meets fmt, with fmt's text TOLD by the authors' own Lean function (tested against real Go, not proved from fmt's source: count such statements apart). THE CARD IS WHAT COUNTS. Prove the row's statement (the work); the ties are given (YtoneejhafmneiaaDoorTie.lean); close each card by the builder's one call (the guide's Derived/Test/ToyasCard.lean, 'card_holds'). Laid BY PROGRAM, IN A SANDBOX (cutbox-door.mjs). By AI agents, Wed Nov 11 2026. No macro, syntax, notation, axiom, sorry.
-/
import Derived.Test.YtoneejhafmneiaaDoorRows
import GoSem.ClaimSeven
namespace Go.Proofs.YtoneejhafmneiaaDoor
namespace Rows

/-- THE TIED CARD OF 'laws.FnExactTurnText'. -/
def fnExactTurnTextCard : Claim7 := { stood := { row := fnExactTurnTextRow, standIns := [], harness := (true, "8caf80f59a705646df6ce85bdae571ccde1bf38e4715bdfe5bcbd63e46c5f8d9"), looks := true }, kinds := [], alts := [], laidByText := true, laidKinds := [.data, .data, .data], laidTests := true, laidLooks := .later }
def FnExactTurnTextCardSaid : Prop := Claim7.holds Tryd.pinned (.plain (OpenSpec.ofChange fnExactTurnTextSpec)) fnExactTurnTextCard

/-- THE TIED CARD OF 'laws.FnExactLessonText'. -/
def fnExactLessonTextCard : Claim7 := { stood := { row := fnExactLessonTextRow, standIns := [], harness := (true, "8caf80f59a705646df6ce85bdae571ccde1bf38e4715bdfe5bcbd63e46c5f8d9"), looks := true }, kinds := [], alts := [], laidByText := true, laidKinds := [.data, .data, .data], laidTests := true, laidLooks := .later }
def FnExactLessonTextCardSaid : Prop := Claim7.holds Tryd.pinned (.plain (OpenSpec.ofChange fnExactLessonTextSpec)) fnExactLessonTextCard

/-- THE TIED CARD OF 'laws.FnExactVersionText'. -/
def fnExactVersionTextCard : Claim7 := { stood := { row := fnExactVersionTextRow, standIns := [], harness := (true, "8caf80f59a705646df6ce85bdae571ccde1bf38e4715bdfe5bcbd63e46c5f8d9"), looks := true }, kinds := [], alts := [], laidByText := true, laidKinds := [.data, .data, .data], laidTests := true, laidLooks := .later }
def FnExactVersionTextCardSaid : Prop := Claim7.holds Tryd.pinned (.plain (OpenSpec.ofChange fnExactVersionTextSpec)) fnExactVersionTextCard

/-- THE TIED CARD OF 'laws.FnExactPatternText'. -/
def fnExactPatternTextCard : Claim7 := { stood := { row := fnExactPatternTextRow, standIns := [], harness := (true, "8caf80f59a705646df6ce85bdae571ccde1bf38e4715bdfe5bcbd63e46c5f8d9"), looks := true }, kinds := [], alts := [], laidByText := true, laidKinds := [.data, .data, .data], laidTests := true, laidLooks := .later }
def FnExactPatternTextCardSaid : Prop := Claim7.holds Tryd.pinned (.plain (OpenSpec.ofChange fnExactPatternTextSpec)) fnExactPatternTextCard

/-- THE TIED CARD OF 'laws.FnExactUndoVersion'. -/
def fnExactUndoVersionCard : Claim7 := { stood := { row := fnExactUndoVersionRow, standIns := [], harness := (true, "8caf80f59a705646df6ce85bdae571ccde1bf38e4715bdfe5bcbd63e46c5f8d9"), looks := true }, kinds := [], alts := [], laidByText := true, laidKinds := [.data, .data, .data], laidTests := true, laidLooks := .later }
def FnExactUndoVersionCardSaid : Prop := Claim7.holds Tryd.pinned (.plain (OpenSpec.ofChange fnExactUndoVersionSpec)) fnExactUndoVersionCard

/-- THE TIED CARD OF 'laws.FnExactReadTurn'. -/
def fnExactReadTurnCard : Claim7 := { stood := { row := fnExactReadTurnRow, standIns := [], harness := (true, "8caf80f59a705646df6ce85bdae571ccde1bf38e4715bdfe5bcbd63e46c5f8d9"), looks := true }, kinds := [], alts := [], laidByText := true, laidKinds := [.data, .data, .data, .sentinel, .sentinel], laidTests := true, laidLooks := .later }
def FnExactReadTurnCardSaid : Prop := Claim7.holds Tryd.pinned (.plain (OpenSpec.ofChange fnExactReadTurnSpec)) fnExactReadTurnCard

/-- THE SECOND FORM's CARD OF 'laws.FnExactTurnText'. -/
def fnExactTurnTextUptoCard : Claim7 := { stood := { row := fnExactTurnTextUptoRow, standIns := [], harness := (true, "8caf80f59a705646df6ce85bdae571ccde1bf38e4715bdfe5bcbd63e46c5f8d9"), looks := true }, kinds := [], alts := [], laidByText := true, laidKinds := [.data, .data, .data], laidTests := true, laidLooks := .later }
def FnExactTurnTextUptoCardSaid : Prop := Claim7.holds Tryd.pinned (.plain (OpenSpec.upto fnExactTurnTextSpec)) fnExactTurnTextUptoCard

/-- THE SECOND FORM's CARD OF 'laws.FnExactLessonText'. -/
def fnExactLessonTextUptoCard : Claim7 := { stood := { row := fnExactLessonTextUptoRow, standIns := [], harness := (true, "8caf80f59a705646df6ce85bdae571ccde1bf38e4715bdfe5bcbd63e46c5f8d9"), looks := true }, kinds := [], alts := [], laidByText := true, laidKinds := [.data, .data, .data], laidTests := true, laidLooks := .later }
def FnExactLessonTextUptoCardSaid : Prop := Claim7.holds Tryd.pinned (.plain (OpenSpec.upto fnExactLessonTextSpec)) fnExactLessonTextUptoCard

/-- THE SECOND FORM's CARD OF 'laws.FnExactVersionText'. -/
def fnExactVersionTextUptoCard : Claim7 := { stood := { row := fnExactVersionTextUptoRow, standIns := [], harness := (true, "8caf80f59a705646df6ce85bdae571ccde1bf38e4715bdfe5bcbd63e46c5f8d9"), looks := true }, kinds := [], alts := [], laidByText := true, laidKinds := [.data, .data, .data], laidTests := true, laidLooks := .later }
def FnExactVersionTextUptoCardSaid : Prop := Claim7.holds Tryd.pinned (.plain (OpenSpec.upto fnExactVersionTextSpec)) fnExactVersionTextUptoCard

/-- THE SECOND FORM's CARD OF 'laws.FnExactPatternText'. -/
def fnExactPatternTextUptoCard : Claim7 := { stood := { row := fnExactPatternTextUptoRow, standIns := [], harness := (true, "8caf80f59a705646df6ce85bdae571ccde1bf38e4715bdfe5bcbd63e46c5f8d9"), looks := true }, kinds := [], alts := [], laidByText := true, laidKinds := [.data, .data, .data], laidTests := true, laidLooks := .later }
def FnExactPatternTextUptoCardSaid : Prop := Claim7.holds Tryd.pinned (.plain (OpenSpec.upto fnExactPatternTextSpec)) fnExactPatternTextUptoCard

/-- THE SECOND FORM's CARD OF 'laws.FnExactUndoVersion'. -/
def fnExactUndoVersionUptoCard : Claim7 := { stood := { row := fnExactUndoVersionUptoRow, standIns := [], harness := (true, "8caf80f59a705646df6ce85bdae571ccde1bf38e4715bdfe5bcbd63e46c5f8d9"), looks := true }, kinds := [], alts := [], laidByText := true, laidKinds := [.data, .data, .data], laidTests := true, laidLooks := .later }
def FnExactUndoVersionUptoCardSaid : Prop := Claim7.holds Tryd.pinned (.plain (OpenSpec.upto fnExactUndoVersionSpec)) fnExactUndoVersionUptoCard

/-- THE SECOND FORM's CARD OF 'laws.FnExactReadTurn'. -/
def fnExactReadTurnUptoCard : Claim7 := { stood := { row := fnExactReadTurnUptoRow, standIns := [], harness := (true, "8caf80f59a705646df6ce85bdae571ccde1bf38e4715bdfe5bcbd63e46c5f8d9"), looks := true }, kinds := [], alts := [], laidByText := true, laidKinds := [.data, .data, .data, .sentinel, .sentinel], laidTests := true, laidLooks := .later }
def FnExactReadTurnUptoCardSaid : Prop := Claim7.holds Tryd.pinned (.plain (OpenSpec.upto fnExactReadTurnSpec)) fnExactReadTurnUptoCard
end Rows
end Go.Proofs.YtoneejhafmneiaaDoor
