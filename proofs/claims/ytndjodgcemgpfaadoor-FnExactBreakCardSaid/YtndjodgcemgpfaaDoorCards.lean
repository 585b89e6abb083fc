/-
  DERIVED. GIVEN WITH THE SEED: THE CARDS: each row of YtndjodgcemgpfaaDoorRows.lean that lists a variable, with what it lists TIED to the program's text (the seventh form; the later family's looks); each row that meets fmt, with fmt's text TOLD by the authors' own Lean function (tested against real Go, not proved from fmt's source: count such statements apart). THE CARD IS WHAT COUNTS. Prove the row's statement (the work); the ties are given (YtndjodgcemgpfaaDoorTie.lean); close each card by the builder's one call (the guide's Derived/Test/ToyasCard.lean, 'card_holds'). Laid BY PROGRAM, IN A SANDBOX (cutbox-door.mjs). By AI agents, Wed Nov 11 2026. No macro, syntax, notation, axiom, sorry.
-/
import Derived.Test.YtndjodgcemgpfaaDoorRows
import GoSem.ClaimSeven
namespace Go.Proofs.YtndjodgcemgpfaaDoor
namespace Rows

/-- THE TIED CARD OF 'laws.FnExactFragments'. -/
def fnExactFragmentsCard : Claim7 := { stood := { row := fnExactFragmentsRow, standIns := [], harness := (true, "6832dc0010e2b65ff7a02f334be0b831e6d9ff6b2fcbdd65f37e123621c34393"), looks := false }, kinds := [], alts := [], laidByText := true, laidKinds := [.data, .pinned], laidTests := true, laidLooks := .later }
def FnExactFragmentsCardSaid : Prop := Claim7.holds Tryd.pinned (.plain (OpenSpec.ofChange fnExactFragmentsSpec)) fnExactFragmentsCard

/-- THE TIED CARD OF 'laws.FnExactBreak'. -/
def fnExactBreakCard : Claim7 := { stood := { row := fnExactBreakRow, standIns := [], harness := (true, "6832dc0010e2b65ff7a02f334be0b831e6d9ff6b2fcbdd65f37e123621c34393"), looks := false }, kinds := [], alts := [], laidByText := true, laidKinds := [.data, .pinned], laidTests := true, laidLooks := .later }
def FnExactBreakCardSaid : Prop := Claim7.holds Tryd.pinned (.plain (OpenSpec.ofChange fnExactBreakSpec)) fnExactBreakCard

/-- THE TIED CARD OF 'laws.FnText'. -/
def fnTextCard : Claim7 := { stood := { row := fnTextRow, standIns := [], harness := (true, "6832dc0010e2b65ff7a02f334be0b831e6d9ff6b2fcbdd65f37e123621c34393"), looks := false }, kinds := [], alts := [], laidByText := true, laidKinds := [.data, .pinned], laidTests := true, laidLooks := .later }
def FnTextCardSaid : Prop := Claim7.holds Tryd.pinned (.plain (OpenSpec.ofChange fnTextSpec)) fnTextCard

/-- THE TIED CARD OF 'laws.FnExactSchemaOK'. -/
def fnExactSchemaOKCard : Claim7 := { stood := { row := fnExactSchemaOKRow, standIns := [], harness := (true, "6832dc0010e2b65ff7a02f334be0b831e6d9ff6b2fcbdd65f37e123621c34393"), looks := false }, kinds := [], alts := [], laidByText := true, laidKinds := [.data, .pinned], laidTests := true, laidLooks := .later }
def FnExactSchemaOKCardSaid : Prop := Claim7.holds Tryd.pinned (.plain (OpenSpec.ofChange fnExactSchemaOKSpec)) fnExactSchemaOKCard

/-- THE TIED CARD OF 'laws.FnExactSuggest'. -/
def fnExactSuggestCard : Claim7 := { stood := { row := fnExactSuggestRow, standIns := [], harness := (true, "6832dc0010e2b65ff7a02f334be0b831e6d9ff6b2fcbdd65f37e123621c34393"), looks := false }, kinds := [], alts := [], laidByText := true, laidKinds := [.data, .pinned], laidTests := true, laidLooks := .later }
def FnExactSuggestCardSaid : Prop := Claim7.holds Tryd.pinned (.plain (OpenSpec.ofChange fnExactSuggestSpec)) fnExactSuggestCard

/-- THE TIED CARD OF 'laws.FnSuggest'. -/
def fnSuggestCard : Claim7 := { stood := { row := fnSuggestRow, standIns := [], harness := (true, "6832dc0010e2b65ff7a02f334be0b831e6d9ff6b2fcbdd65f37e123621c34393"), looks := false }, kinds := [], alts := [], laidByText := true, laidKinds := [.data, .pinned], laidTests := true, laidLooks := .later }
def FnSuggestCardSaid : Prop := Claim7.holds Tryd.pinned (.plain (OpenSpec.ofChange fnSuggestSpec)) fnSuggestCard

/-- THE SECOND FORM's CARD OF 'laws.FnExactFragments'. -/
def fnExactFragmentsUptoCard : Claim7 := { stood := { row := fnExactFragmentsUptoRow, standIns := [], harness := (true, "6832dc0010e2b65ff7a02f334be0b831e6d9ff6b2fcbdd65f37e123621c34393"), looks := false }, kinds := [], alts := [], laidByText := true, laidKinds := [.data, .pinned], laidTests := true, laidLooks := .later }
def FnExactFragmentsUptoCardSaid : Prop := Claim7.holds Tryd.pinned (.plain (OpenSpec.upto fnExactFragmentsSpec)) fnExactFragmentsUptoCard

/-- THE SECOND FORM's CARD OF 'laws.FnExactBreak'. -/
def fnExactBreakUptoCard : Claim7 := { stood := { row := fnExactBreakUptoRow, standIns := [], harness := (true, "6832dc0010e2b65ff7a02f334be0b831e6d9ff6b2fcbdd65f37e123621c34393"), looks := false }, kinds := [], alts := [], laidByText := true, laidKinds := [.data, .pinned], laidTests := true, laidLooks := .later }
def FnExactBreakUptoCardSaid : Prop := Claim7.holds Tryd.pinned (.plain (OpenSpec.upto fnExactBreakSpec)) fnExactBreakUptoCard

/-- THE SECOND FORM's CARD OF 'laws.FnText'. -/
def fnTextUptoCard : Claim7 := { stood := { row := fnTextUptoRow, standIns := [], harness := (true, "6832dc0010e2b65ff7a02f334be0b831e6d9ff6b2fcbdd65f37e123621c34393"), looks := false }, kinds := [], alts := [], laidByText := true, laidKinds := [.data, .pinned], laidTests := true, laidLooks := .later }
def FnTextUptoCardSaid : Prop := Claim7.holds Tryd.pinned (.plain (OpenSpec.upto fnTextSpec)) fnTextUptoCard

/-- THE SECOND FORM's CARD OF 'laws.FnExactSchemaOK'. -/
def fnExactSchemaOKUptoCard : Claim7 := { stood := { row := fnExactSchemaOKUptoRow, standIns := [], harness := (true, "6832dc0010e2b65ff7a02f334be0b831e6d9ff6b2fcbdd65f37e123621c34393"), looks := false }, kinds := [], alts := [], laidByText := true, laidKinds := [.data, .pinned], laidTests := true, laidLooks := .later }
def FnExactSchemaOKUptoCardSaid : Prop := Claim7.holds Tryd.pinned (.plain (OpenSpec.upto fnExactSchemaOKSpec)) fnExactSchemaOKUptoCard

/-- THE SECOND FORM's CARD OF 'laws.FnExactSuggest'. -/
def fnExactSuggestUptoCard : Claim7 := { stood := { row := fnExactSuggestUptoRow, standIns := [], harness := (true, "6832dc0010e2b65ff7a02f334be0b831e6d9ff6b2fcbdd65f37e123621c34393"), looks := false }, kinds := [], alts := [], laidByText := true, laidKinds := [.data, .pinned], laidTests := true, laidLooks := .later }
def FnExactSuggestUptoCardSaid : Prop := Claim7.holds Tryd.pinned (.plain (OpenSpec.upto fnExactSuggestSpec)) fnExactSuggestUptoCard

/-- THE SECOND FORM's CARD OF 'laws.FnSuggest'. -/
def fnSuggestUptoCard : Claim7 := { stood := { row := fnSuggestUptoRow, standIns := [], harness := (true, "6832dc0010e2b65ff7a02f334be0b831e6d9ff6b2fcbdd65f37e123621c34393"), looks := false }, kinds := [], alts := [], laidByText := true, laidKinds := [.data, .pinned], laidTests := true, laidLooks := .later }
def FnSuggestUptoCardSaid : Prop := Claim7.holds Tryd.pinned (.plain (OpenSpec.upto fnSuggestSpec)) fnSuggestUptoCard
end Rows
end Go.Proofs.YtndjodgcemgpfaaDoor
