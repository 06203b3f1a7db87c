/-
  DERIVED. GIVEN WITH THE SEED: THE CARDS: each row of YtjcigidbnpmeaaaDoorRows.lean that lists a variable, with what it lists TIED to the program's text (the seventh form; the later family's looks); each row that meets fmt, with fmt's text TOLD by the authors' own Lean function (tested against real Go, not proved from fmt's source: count such statements apart). THE CARD IS WHAT COUNTS. Prove the row's statement (the work); the ties are given (YtjcigidbnpmeaaaDoorTie.lean); close each card by the builder's one call (the guide's Derived/Test/ToyasCard.lean, 'card_holds'). Laid BY PROGRAM, IN A SANDBOX (cutbox-door.mjs). By AI agents, Wed Nov 11 2026. No macro, syntax, notation, axiom, sorry.
-/
import Derived.Test.YtjcigidbnpmeaaaDoorRows
import GoSem.ClaimSeven
namespace Go.Proofs.YtjcigidbnpmeaaaDoor
namespace Rows

/-- THE TIED CARD OF 'ropewalklaw03.SpansOrder'. -/
def spansOrderCard : Claim7 := { stood := { row := spansOrderRow, standIns := [], harness := (true, "757805c767b06dd9faffa757f59b9d3b094de337d2b72198853864d89bba897e"), looks := false }, kinds := [], alts := [], laidByText := true, laidKinds := [.data], laidTests := true, laidLooks := .later }
def SpansOrderCardSaid : Prop := Claim7.holds Tryd.pinned (.plain (OpenSpec.ofChange spansOrderSpec)) spansOrderCard

/-- THE TIED CARD OF 'ropewalklaw03.SpansBack'. -/
def spansBackCard : Claim7 := { stood := { row := spansBackRow, standIns := [], harness := (true, "757805c767b06dd9faffa757f59b9d3b094de337d2b72198853864d89bba897e"), looks := false }, kinds := [], alts := [], laidByText := true, laidKinds := [.data], laidTests := true, laidLooks := .later }
def SpansBackCardSaid : Prop := Claim7.holds Tryd.pinned (.plain (OpenSpec.ofChange spansBackSpec)) spansBackCard

/-- THE TIED CARD OF 'ropewalklaw03.SpansFrom'. -/
def spansFromCard : Claim7 := { stood := { row := spansFromRow, standIns := [], harness := (true, "757805c767b06dd9faffa757f59b9d3b094de337d2b72198853864d89bba897e"), looks := false }, kinds := [], alts := [], laidByText := true, laidKinds := [.data], laidTests := true, laidLooks := .later }
def SpansFromCardSaid : Prop := Claim7.holds Tryd.pinned (.plain (OpenSpec.ofChange spansFromSpec)) spansFromCard

/-- THE TIED CARD OF 'ropewalklaw03.SpansAll'. -/
def spansAllCard : Claim7 := { stood := { row := spansAllRow, standIns := [], harness := (true, "757805c767b06dd9faffa757f59b9d3b094de337d2b72198853864d89bba897e"), looks := false }, kinds := [], alts := [], laidByText := true, laidKinds := [.data], laidTests := true, laidLooks := .later }
def SpansAllCardSaid : Prop := Claim7.holds Tryd.pinned (.plain (OpenSpec.ofChange spansAllSpec)) spansAllCard

/-- THE TIED CARD OF 'ropewalklaw03.SpansRuns'. -/
def spansRunsCard : Claim7 := { stood := { row := spansRunsRow, standIns := [], harness := (true, "757805c767b06dd9faffa757f59b9d3b094de337d2b72198853864d89bba897e"), looks := false }, kinds := [], alts := [], laidByText := true, laidKinds := [.data], laidTests := true, laidLooks := .later }
def SpansRunsCardSaid : Prop := Claim7.holds Tryd.pinned (.plain (OpenSpec.ofChange spansRunsSpec)) spansRunsCard

/-- THE TIED CARD OF 'ropewalklaw03.SpansNobody'. -/
def spansNobodyCard : Claim7 := { stood := { row := spansNobodyRow, standIns := [], harness := (true, "757805c767b06dd9faffa757f59b9d3b094de337d2b72198853864d89bba897e"), looks := false }, kinds := [], alts := [], laidByText := true, laidKinds := [.data], laidTests := true, laidLooks := .later }
def SpansNobodyCardSaid : Prop := Claim7.holds Tryd.pinned (.plain (OpenSpec.ofChange spansNobodySpec)) spansNobodyCard

/-- THE SECOND FORM's CARD OF 'ropewalklaw03.SpansOrder'. -/
def spansOrderUptoCard : Claim7 := { stood := { row := spansOrderUptoRow, standIns := [], harness := (true, "757805c767b06dd9faffa757f59b9d3b094de337d2b72198853864d89bba897e"), looks := false }, kinds := [], alts := [], laidByText := true, laidKinds := [.data], laidTests := true, laidLooks := .later }
def SpansOrderUptoCardSaid : Prop := Claim7.holds Tryd.pinned (.plain (OpenSpec.upto spansOrderSpec)) spansOrderUptoCard

/-- THE SECOND FORM's CARD OF 'ropewalklaw03.SpansBack'. -/
def spansBackUptoCard : Claim7 := { stood := { row := spansBackUptoRow, standIns := [], harness := (true, "757805c767b06dd9faffa757f59b9d3b094de337d2b72198853864d89bba897e"), looks := false }, kinds := [], alts := [], laidByText := true, laidKinds := [.data], laidTests := true, laidLooks := .later }
def SpansBackUptoCardSaid : Prop := Claim7.holds Tryd.pinned (.plain (OpenSpec.upto spansBackSpec)) spansBackUptoCard

/-- THE SECOND FORM's CARD OF 'ropewalklaw03.SpansFrom'. -/
def spansFromUptoCard : Claim7 := { stood := { row := spansFromUptoRow, standIns := [], harness := (true, "757805c767b06dd9faffa757f59b9d3b094de337d2b72198853864d89bba897e"), looks := false }, kinds := [], alts := [], laidByText := true, laidKinds := [.data], laidTests := true, laidLooks := .later }
def SpansFromUptoCardSaid : Prop := Claim7.holds Tryd.pinned (.plain (OpenSpec.upto spansFromSpec)) spansFromUptoCard

/-- THE SECOND FORM's CARD OF 'ropewalklaw03.SpansAll'. -/
def spansAllUptoCard : Claim7 := { stood := { row := spansAllUptoRow, standIns := [], harness := (true, "757805c767b06dd9faffa757f59b9d3b094de337d2b72198853864d89bba897e"), looks := false }, kinds := [], alts := [], laidByText := true, laidKinds := [.data], laidTests := true, laidLooks := .later }
def SpansAllUptoCardSaid : Prop := Claim7.holds Tryd.pinned (.plain (OpenSpec.upto spansAllSpec)) spansAllUptoCard

/-- THE SECOND FORM's CARD OF 'ropewalklaw03.SpansRuns'. -/
def spansRunsUptoCard : Claim7 := { stood := { row := spansRunsUptoRow, standIns := [], harness := (true, "757805c767b06dd9faffa757f59b9d3b094de337d2b72198853864d89bba897e"), looks := false }, kinds := [], alts := [], laidByText := true, laidKinds := [.data], laidTests := true, laidLooks := .later }
def SpansRunsUptoCardSaid : Prop := Claim7.holds Tryd.pinned (.plain (OpenSpec.upto spansRunsSpec)) spansRunsUptoCard

/-- THE SECOND FORM's CARD OF 'ropewalklaw03.SpansNobody'. -/
def spansNobodyUptoCard : Claim7 := { stood := { row := spansNobodyUptoRow, standIns := [], harness := (true, "757805c767b06dd9faffa757f59b9d3b094de337d2b72198853864d89bba897e"), looks := false }, kinds := [], alts := [], laidByText := true, laidKinds := [.data], laidTests := true, laidLooks := .later }
def SpansNobodyUptoCardSaid : Prop := Claim7.holds Tryd.pinned (.plain (OpenSpec.upto spansNobodySpec)) spansNobodyUptoCard
end Rows
end Go.Proofs.YtjcigidbnpmeaaaDoor
