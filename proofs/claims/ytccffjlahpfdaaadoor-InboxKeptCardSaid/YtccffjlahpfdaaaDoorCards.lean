/-
  DERIVED. GIVEN WITH THE SEED: THE CARDS: each row of YtccffjlahpfdaaaDoorRows.lean that lists a variable, with what it lists TIED to the program's text (the seventh form; the later family's looks); each row that meets fmt, with fmt's text TOLD by the authors' own Lean function (tested against real Go, not proved from fmt's source: count such statements apart). THE CARD IS WHAT COUNTS. Prove the row's statement (the work); the ties are given (YtccffjlahpfdaaaDoorTie.lean); close each card by the builder's one call (the guide's Derived/Test/ToyasCard.lean, 'card_holds'). Laid BY PROGRAM, IN A SANDBOX (cutbox-door.mjs). By AI agents, Wed Nov 11 2026. No macro, syntax, notation, axiom, sorry.
-/
import Derived.Test.YtccffjlahpfdaaaDoorRows
import GoSem.ClaimSeven
namespace Go.Proofs.YtccffjlahpfdaaaDoor
namespace Rows

/-- THE TIED CARD OF 'ropewalklaw19.InboxKept'. -/
def inboxKeptCard : Claim7 := { stood := { row := inboxKeptRow, standIns := [], harness := (true, "42baf7983b802b38cca7b3cf9ccea2d8fdff56437e8796d0789e4398d95faf7d"), looks := false }, kinds := [], alts := [], laidByText := true, laidKinds := [.data], laidTests := true, laidLooks := .later }
def InboxKeptCardSaid : Prop := Claim7.holds Tryd.pinned (.plain (OpenSpec.ofChange inboxKeptSpec)) inboxKeptCard

/-- THE TIED CARD OF 'ropewalklaw19.InboxSecond'. -/
def inboxSecondCard : Claim7 := { stood := { row := inboxSecondRow, standIns := [], harness := (true, "42baf7983b802b38cca7b3cf9ccea2d8fdff56437e8796d0789e4398d95faf7d"), looks := false }, kinds := [], alts := [], laidByText := true, laidKinds := [.data], laidTests := true, laidLooks := .later }
def InboxSecondCardSaid : Prop := Claim7.holds Tryd.pinned (.plain (OpenSpec.ofChange inboxSecondSpec)) inboxSecondCard

/-- THE TIED CARD OF 'ropewalklaw19.InboxTrue'. -/
def inboxTrueCard : Claim7 := { stood := { row := inboxTrueRow, standIns := [], harness := (true, "42baf7983b802b38cca7b3cf9ccea2d8fdff56437e8796d0789e4398d95faf7d"), looks := false }, kinds := [], alts := [], laidByText := true, laidKinds := [.data], laidTests := true, laidLooks := .later }
def InboxTrueCardSaid : Prop := Claim7.holds Tryd.pinned (.plain (OpenSpec.ofChange inboxTrueSpec)) inboxTrueCard

/-- THE TIED CARD OF 'ropewalklaw19.InboxRuns'. -/
def inboxRunsCard : Claim7 := { stood := { row := inboxRunsRow, standIns := [], harness := (true, "42baf7983b802b38cca7b3cf9ccea2d8fdff56437e8796d0789e4398d95faf7d"), looks := false }, kinds := [], alts := [], laidByText := true, laidKinds := [.data], laidTests := true, laidLooks := .later }
def InboxRunsCardSaid : Prop := Claim7.holds Tryd.pinned (.plain (OpenSpec.ofChange inboxRunsSpec)) inboxRunsCard

/-- THE TIED CARD OF 'ropewalklaw19.InboxNobody'. -/
def inboxNobodyCard : Claim7 := { stood := { row := inboxNobodyRow, standIns := [], harness := (true, "42baf7983b802b38cca7b3cf9ccea2d8fdff56437e8796d0789e4398d95faf7d"), looks := false }, kinds := [], alts := [], laidByText := true, laidKinds := [.data], laidTests := true, laidLooks := .later }
def InboxNobodyCardSaid : Prop := Claim7.holds Tryd.pinned (.plain (OpenSpec.ofChange inboxNobodySpec)) inboxNobodyCard

/-- THE SECOND FORM's CARD OF 'ropewalklaw19.InboxKept'. -/
def inboxKeptUptoCard : Claim7 := { stood := { row := inboxKeptUptoRow, standIns := [], harness := (true, "42baf7983b802b38cca7b3cf9ccea2d8fdff56437e8796d0789e4398d95faf7d"), looks := false }, kinds := [], alts := [], laidByText := true, laidKinds := [.data], laidTests := true, laidLooks := .later }
def InboxKeptUptoCardSaid : Prop := Claim7.holds Tryd.pinned (.plain (OpenSpec.upto inboxKeptSpec)) inboxKeptUptoCard

/-- THE SECOND FORM's CARD OF 'ropewalklaw19.InboxSecond'. -/
def inboxSecondUptoCard : Claim7 := { stood := { row := inboxSecondUptoRow, standIns := [], harness := (true, "42baf7983b802b38cca7b3cf9ccea2d8fdff56437e8796d0789e4398d95faf7d"), looks := false }, kinds := [], alts := [], laidByText := true, laidKinds := [.data], laidTests := true, laidLooks := .later }
def InboxSecondUptoCardSaid : Prop := Claim7.holds Tryd.pinned (.plain (OpenSpec.upto inboxSecondSpec)) inboxSecondUptoCard

/-- THE SECOND FORM's CARD OF 'ropewalklaw19.InboxTrue'. -/
def inboxTrueUptoCard : Claim7 := { stood := { row := inboxTrueUptoRow, standIns := [], harness := (true, "42baf7983b802b38cca7b3cf9ccea2d8fdff56437e8796d0789e4398d95faf7d"), looks := false }, kinds := [], alts := [], laidByText := true, laidKinds := [.data], laidTests := true, laidLooks := .later }
def InboxTrueUptoCardSaid : Prop := Claim7.holds Tryd.pinned (.plain (OpenSpec.upto inboxTrueSpec)) inboxTrueUptoCard

/-- THE SECOND FORM's CARD OF 'ropewalklaw19.InboxRuns'. -/
def inboxRunsUptoCard : Claim7 := { stood := { row := inboxRunsUptoRow, standIns := [], harness := (true, "42baf7983b802b38cca7b3cf9ccea2d8fdff56437e8796d0789e4398d95faf7d"), looks := false }, kinds := [], alts := [], laidByText := true, laidKinds := [.data], laidTests := true, laidLooks := .later }
def InboxRunsUptoCardSaid : Prop := Claim7.holds Tryd.pinned (.plain (OpenSpec.upto inboxRunsSpec)) inboxRunsUptoCard

/-- THE SECOND FORM's CARD OF 'ropewalklaw19.InboxNobody'. -/
def inboxNobodyUptoCard : Claim7 := { stood := { row := inboxNobodyUptoRow, standIns := [], harness := (true, "42baf7983b802b38cca7b3cf9ccea2d8fdff56437e8796d0789e4398d95faf7d"), looks := false }, kinds := [], alts := [], laidByText := true, laidKinds := [.data], laidTests := true, laidLooks := .later }
def InboxNobodyUptoCardSaid : Prop := Claim7.holds Tryd.pinned (.plain (OpenSpec.upto inboxNobodySpec)) inboxNobodyUptoCard
end Rows
end Go.Proofs.YtccffjlahpfdaaaDoor
