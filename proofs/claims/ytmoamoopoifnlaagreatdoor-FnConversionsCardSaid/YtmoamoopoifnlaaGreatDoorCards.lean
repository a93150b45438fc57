/-
  DERIVED. GIVEN WITH THE SEED: THE CARDS: each row of YtmoamoopoifnlaaGreatDoorRows.lean that lists a variable, with what it lists TIED to the program's text (the seventh form; the later family's looks); each row that meets fmt, with fmt's text TOLD by the authors' own Lean function (tested against real Go, not proved from fmt's source: count such statements apart). THE CARD IS WHAT COUNTS. Prove the row's statement (the work); the ties are given (YtmoamoopoifnlaaGreatDoorTie.lean); close each card by the builder's one call (the guide's Derived/Test/ToyasCard.lean, 'card_holds'). Laid BY PROGRAM, IN A SANDBOX (cutbox-door.mjs). By AI agents, Wed Nov 11 2026. No macro, syntax, notation, axiom, sorry.
-/
import Derived.Test.YtmoamoopoifnlaaGreatDoorRows
import GoSem.ClaimSeven
namespace Go.Proofs.YtmoamoopoifnlaaGreatDoor
namespace Rows

/-- THE TIED CARD OF 'laws.FnExactRetuneText'. -/
def fnExactRetuneTextCard : Claim7 := { stood := { row := fnExactRetuneTextRow, standIns := [], harness := (true, "41d00e5d38cf30e18ad8edac43233a4685ed891e9dab37eb140ef197386cd1d2"), looks := true }, kinds := [], alts := [], laidByText := true, laidKinds := [.data, .data, .data, .data, .sentinel, .sentinel, .pinned], laidTests := true, laidLooks := .later }
def FnExactRetuneTextCardSaid : Prop := Claim7.holds Tryz.pinned (.plain (OpenSpec.ofChange fnExactRetuneTextSpec)) fnExactRetuneTextCard

/-- THE TIED CARD OF 'laws.FnConversions'. -/
def fnConversionsCard : Claim7 := { stood := { row := fnConversionsRow, standIns := [], harness := (true, "41d00e5d38cf30e18ad8edac43233a4685ed891e9dab37eb140ef197386cd1d2"), looks := true }, kinds := [], alts := [], laidByText := true, laidKinds := [.data, .data, .data, .data, .sentinel, .sentinel, .pinned], laidTests := true, laidLooks := .later }
def FnConversionsCardSaid : Prop := Claim7.holds Tryz.pinned (.plain (OpenSpec.ofChange fnConversionsSpec)) fnConversionsCard

/-- THE TIED CARD OF 'laws.FnExactBarSums'. -/
def fnExactBarSumsCard : Claim7 := { stood := { row := fnExactBarSumsRow, standIns := [], harness := (true, "41d00e5d38cf30e18ad8edac43233a4685ed891e9dab37eb140ef197386cd1d2"), looks := true }, kinds := [], alts := [], laidByText := true, laidKinds := [.data, .data, .data, .data, .sentinel, .sentinel, .pinned], laidTests := true, laidLooks := .later }
def FnExactBarSumsCardSaid : Prop := Claim7.holds Tryz.pinned (.plain (OpenSpec.ofChange fnExactBarSumsSpec)) fnExactBarSumsCard

/-- THE TIED CARD OF 'laws.FnExactWrongBar'. -/
def fnExactWrongBarCard : Claim7 := { stood := { row := fnExactWrongBarRow, standIns := [], harness := (true, "41d00e5d38cf30e18ad8edac43233a4685ed891e9dab37eb140ef197386cd1d2"), looks := true }, kinds := [], alts := [], laidByText := true, laidKinds := [.data, .data, .data, .data, .sentinel, .sentinel, .pinned], laidTests := true, laidLooks := .later }
def FnExactWrongBarCardSaid : Prop := Claim7.holds Tryz.pinned (.plain (OpenSpec.ofChange fnExactWrongBarSpec)) fnExactWrongBarCard

/-- THE TIED CARD OF 'laws.FnExactReadBars'. -/
def fnExactReadBarsCard : Claim7 := { stood := { row := fnExactReadBarsRow, standIns := [], harness := (true, "41d00e5d38cf30e18ad8edac43233a4685ed891e9dab37eb140ef197386cd1d2"), looks := true }, kinds := [], alts := [], laidByText := true, laidKinds := [.data, .data, .data, .data, .sentinel, .sentinel, .pinned], laidTests := true, laidLooks := .later }
def FnExactReadBarsCardSaid : Prop := Claim7.holds Tryz.pinned (.plain (OpenSpec.ofChange fnExactReadBarsSpec)) fnExactReadBarsCard

/-- THE TIED CARD OF 'laws.FnNotation'. -/
def fnNotationCard : Claim7 := { stood := { row := fnNotationRow, standIns := [], harness := (true, "41d00e5d38cf30e18ad8edac43233a4685ed891e9dab37eb140ef197386cd1d2"), looks := true }, kinds := [], alts := [], laidByText := true, laidKinds := [.data, .data, .data, .data, .sentinel, .sentinel, .pinned], laidTests := true, laidLooks := .later }
def FnNotationCardSaid : Prop := Claim7.holds Tryz.pinned (.plain (OpenSpec.ofChange fnNotationSpec)) fnNotationCard

/-- THE SECOND FORM's CARD OF 'laws.FnExactRetuneText'. -/
def fnExactRetuneTextUptoCard : Claim7 := { stood := { row := fnExactRetuneTextUptoRow, standIns := [], harness := (true, "41d00e5d38cf30e18ad8edac43233a4685ed891e9dab37eb140ef197386cd1d2"), looks := true }, kinds := [], alts := [], laidByText := true, laidKinds := [.data, .data, .data, .data, .sentinel, .sentinel, .pinned], laidTests := true, laidLooks := .later }
def FnExactRetuneTextUptoCardSaid : Prop := Claim7.holds Tryz.pinned (.plain (OpenSpec.upto fnExactRetuneTextSpec)) fnExactRetuneTextUptoCard

/-- THE SECOND FORM's CARD OF 'laws.FnConversions'. -/
def fnConversionsUptoCard : Claim7 := { stood := { row := fnConversionsUptoRow, standIns := [], harness := (true, "41d00e5d38cf30e18ad8edac43233a4685ed891e9dab37eb140ef197386cd1d2"), looks := true }, kinds := [], alts := [], laidByText := true, laidKinds := [.data, .data, .data, .data, .sentinel, .sentinel, .pinned], laidTests := true, laidLooks := .later }
def FnConversionsUptoCardSaid : Prop := Claim7.holds Tryz.pinned (.plain (OpenSpec.upto fnConversionsSpec)) fnConversionsUptoCard

/-- THE SECOND FORM's CARD OF 'laws.FnExactBarSums'. -/
def fnExactBarSumsUptoCard : Claim7 := { stood := { row := fnExactBarSumsUptoRow, standIns := [], harness := (true, "41d00e5d38cf30e18ad8edac43233a4685ed891e9dab37eb140ef197386cd1d2"), looks := true }, kinds := [], alts := [], laidByText := true, laidKinds := [.data, .data, .data, .data, .sentinel, .sentinel, .pinned], laidTests := true, laidLooks := .later }
def FnExactBarSumsUptoCardSaid : Prop := Claim7.holds Tryz.pinned (.plain (OpenSpec.upto fnExactBarSumsSpec)) fnExactBarSumsUptoCard

/-- THE SECOND FORM's CARD OF 'laws.FnExactWrongBar'. -/
def fnExactWrongBarUptoCard : Claim7 := { stood := { row := fnExactWrongBarUptoRow, standIns := [], harness := (true, "41d00e5d38cf30e18ad8edac43233a4685ed891e9dab37eb140ef197386cd1d2"), looks := true }, kinds := [], alts := [], laidByText := true, laidKinds := [.data, .data, .data, .data, .sentinel, .sentinel, .pinned], laidTests := true, laidLooks := .later }
def FnExactWrongBarUptoCardSaid : Prop := Claim7.holds Tryz.pinned (.plain (OpenSpec.upto fnExactWrongBarSpec)) fnExactWrongBarUptoCard

/-- THE SECOND FORM's CARD OF 'laws.FnExactReadBars'. -/
def fnExactReadBarsUptoCard : Claim7 := { stood := { row := fnExactReadBarsUptoRow, standIns := [], harness := (true, "41d00e5d38cf30e18ad8edac43233a4685ed891e9dab37eb140ef197386cd1d2"), looks := true }, kinds := [], alts := [], laidByText := true, laidKinds := [.data, .data, .data, .data, .sentinel, .sentinel, .pinned], laidTests := true, laidLooks := .later }
def FnExactReadBarsUptoCardSaid : Prop := Claim7.holds Tryz.pinned (.plain (OpenSpec.upto fnExactReadBarsSpec)) fnExactReadBarsUptoCard

/-- THE SECOND FORM's CARD OF 'laws.FnNotation'. -/
def fnNotationUptoCard : Claim7 := { stood := { row := fnNotationUptoRow, standIns := [], harness := (true, "41d00e5d38cf30e18ad8edac43233a4685ed891e9dab37eb140ef197386cd1d2"), looks := true }, kinds := [], alts := [], laidByText := true, laidKinds := [.data, .data, .data, .data, .sentinel, .sentinel, .pinned], laidTests := true, laidLooks := .later }
def FnNotationUptoCardSaid : Prop := Claim7.holds Tryz.pinned (.plain (OpenSpec.upto fnNotationSpec)) fnNotationUptoCard
end Rows
end Go.Proofs.YtmoamoopoifnlaaGreatDoor
