/-
  DERIVED. GIVEN WITH THE SEED: THE CARDS: each row of YtkmeiandnebaeaaDoorRows.lean that lists a variable, with what it lists TIED to the program's text (the seventh form; the later family's looks); each row that meets fmt, with fmt's text TOLD by the authors' own Lean function (tested against real Go, not proved from fmt's source: count such statements apart). THE CARD IS WHAT COUNTS. Prove the row's statement (the work); the ties are given (YtkmeiandnebaeaaDoorTie.lean); close each card by the builder's one call (the guide's Derived/Test/ToyasCard.lean, 'card_holds'). Laid BY PROGRAM, IN A SANDBOX (cutbox-door.mjs). By AI agents, Wed Nov 11 2026. No macro, syntax, notation, axiom, sorry.
-/
import Derived.Test.YtkmeiandnebaeaaDoorRows
import GoSem.ClaimSeven
namespace Go.Proofs.YtkmeiandnebaeaaDoor
namespace Rows

/-- THE TIED CARD OF 'brindlewoodlaw5.RecurListsArePrefixes'. -/
def recurListsArePrefixesCard : Claim7 := { stood := { row := recurListsArePrefixesRow, standIns := [], harness := (true, "e4f264f245aa721756d91898aef6c0f232726154ef72226bebd6f05ba08afff2"), looks := false }, kinds := [], alts := [], laidByText := true, laidKinds := [.data, .data, .data, .listed, .data], laidTests := true, laidLooks := .later }
def RecurListsArePrefixesCardSaid : Prop := Claim7.holds Tryd.pinned (.plain (OpenSpec.ofChange recurListsArePrefixesSpec)) recurListsArePrefixesCard

/-- THE TIED CARD OF 'brindlewoodlaw5.RecurBoundsCut'. -/
def recurBoundsCutCard : Claim7 := { stood := { row := recurBoundsCutRow, standIns := [], harness := (true, "e4f264f245aa721756d91898aef6c0f232726154ef72226bebd6f05ba08afff2"), looks := false }, kinds := [], alts := [], laidByText := true, laidKinds := [.data, .data, .data, .listed, .data], laidTests := true, laidLooks := .later }
def RecurBoundsCutCardSaid : Prop := Claim7.holds Tryd.pinned (.plain (OpenSpec.ofChange recurBoundsCutSpec)) recurBoundsCutCard

/-- THE TIED CARD OF 'brindlewoodlaw5.RecurStepsSelect'. -/
def recurStepsSelectCard : Claim7 := { stood := { row := recurStepsSelectRow, standIns := [], harness := (true, "e4f264f245aa721756d91898aef6c0f232726154ef72226bebd6f05ba08afff2"), looks := false }, kinds := [], alts := [], laidByText := true, laidKinds := [.data, .data, .data, .listed, .data], laidTests := true, laidLooks := .later }
def RecurStepsSelectCardSaid : Prop := Claim7.holds Tryd.pinned (.plain (OpenSpec.ofChange recurStepsSelectSpec)) recurStepsSelectCard

/-- THE TIED CARD OF 'brindlewoodlaw5.RecurRestrictionsNarrow'. -/
def recurRestrictionsNarrowCard : Claim7 := { stood := { row := recurRestrictionsNarrowRow, standIns := [], harness := (true, "e4f264f245aa721756d91898aef6c0f232726154ef72226bebd6f05ba08afff2"), looks := false }, kinds := [], alts := [], laidByText := true, laidKinds := [.data, .data, .data, .listed, .data], laidTests := true, laidLooks := .later }
def RecurRestrictionsNarrowCardSaid : Prop := Claim7.holds Tryd.pinned (.plain (OpenSpec.ofChange recurRestrictionsNarrowSpec)) recurRestrictionsNarrowCard

/-- THE SECOND FORM's CARD OF 'brindlewoodlaw5.RecurListsArePrefixes'. -/
def recurListsArePrefixesUptoCard : Claim7 := { stood := { row := recurListsArePrefixesUptoRow, standIns := [], harness := (true, "e4f264f245aa721756d91898aef6c0f232726154ef72226bebd6f05ba08afff2"), looks := false }, kinds := [], alts := [], laidByText := true, laidKinds := [.data, .data, .data, .listed, .data], laidTests := true, laidLooks := .later }
def RecurListsArePrefixesUptoCardSaid : Prop := Claim7.holds Tryd.pinned (.plain (OpenSpec.upto recurListsArePrefixesSpec)) recurListsArePrefixesUptoCard

/-- THE SECOND FORM's CARD OF 'brindlewoodlaw5.RecurBoundsCut'. -/
def recurBoundsCutUptoCard : Claim7 := { stood := { row := recurBoundsCutUptoRow, standIns := [], harness := (true, "e4f264f245aa721756d91898aef6c0f232726154ef72226bebd6f05ba08afff2"), looks := false }, kinds := [], alts := [], laidByText := true, laidKinds := [.data, .data, .data, .listed, .data], laidTests := true, laidLooks := .later }
def RecurBoundsCutUptoCardSaid : Prop := Claim7.holds Tryd.pinned (.plain (OpenSpec.upto recurBoundsCutSpec)) recurBoundsCutUptoCard

/-- THE SECOND FORM's CARD OF 'brindlewoodlaw5.RecurStepsSelect'. -/
def recurStepsSelectUptoCard : Claim7 := { stood := { row := recurStepsSelectUptoRow, standIns := [], harness := (true, "e4f264f245aa721756d91898aef6c0f232726154ef72226bebd6f05ba08afff2"), looks := false }, kinds := [], alts := [], laidByText := true, laidKinds := [.data, .data, .data, .listed, .data], laidTests := true, laidLooks := .later }
def RecurStepsSelectUptoCardSaid : Prop := Claim7.holds Tryd.pinned (.plain (OpenSpec.upto recurStepsSelectSpec)) recurStepsSelectUptoCard

/-- THE SECOND FORM's CARD OF 'brindlewoodlaw5.RecurRestrictionsNarrow'. -/
def recurRestrictionsNarrowUptoCard : Claim7 := { stood := { row := recurRestrictionsNarrowUptoRow, standIns := [], harness := (true, "e4f264f245aa721756d91898aef6c0f232726154ef72226bebd6f05ba08afff2"), looks := false }, kinds := [], alts := [], laidByText := true, laidKinds := [.data, .data, .data, .listed, .data], laidTests := true, laidLooks := .later }
def RecurRestrictionsNarrowUptoCardSaid : Prop := Claim7.holds Tryd.pinned (.plain (OpenSpec.upto recurRestrictionsNarrowSpec)) recurRestrictionsNarrowUptoCard
end Rows
end Go.Proofs.YtkmeiandnebaeaaDoor
