/-
  NARROWER THAN 'FOR EVERY INPUT', by the rows' own cells (each row's printed sentence says how): InboxKept: laid · InboxSecond: laid · InboxTrue: laid · InboxRuns: laid · InboxNobody: laid.
  DERIVED. THE GIVEN ROWS OF THIS SEAT. 5 by the template 'for every input the law returns true; each argument reads behind the call as it read before'; 0 by the template 'total and deterministic' (their statements: YtccffjlahpfdaaaDoorTotals.lean).
  GIVEN WITH THE SEED: the statements are not yours to turn. If you find one false, say at which input.
  Laid BY PROGRAM, IN A SANDBOX (cutbox-rows.mjs): the forced cells as the released guide's own fill.sh prints them over the translation 9fbb9f7d7749547e… (all of the seat's roots in one cut). By AI agents, Wed Nov 11 2026. No macro, syntax, notation, axiom, sorry.
-/
import Derived.Test.YtccffjlahpfdaaaDoorChecked
import GoSem.Claim
import GoSem.ClaimJoined
import GoSem.ClaimMapViews
import Derived.JoinedTies
import Derived.KernelRfl
namespace Go.Proofs.YtccffjlahpfdaaaDoor
/- THE CELL 'sum', in the pinned program and in every row, IS THE sha256 OF THE DUMP (.gsa) THAT YtccffjlahpfdaaaDoorProg.lean LOADS. Nothing in Lean hashes anything: it is a label: what it is worth is what the hold of that sum in a sandbox is worth. -/
noncomputable def Tryd.pinned : Pinned := { name := "ytccffjlahpfdaaadoor", sum := "9fbb9f7d7749547ea14690301c2b26b92ccc2d3f0cec91a4762d906503680d49", checked := Tryd.checked }
namespace Rows
def none {H : Type} : Left H := { results := [], args := [] }

/- WHAT THE LISTED PACKAGE-LEVEL VARIABLES READ AS WHEN THE CALL BEGINS. Each datum BY PROGRAM (the guide's laid-datum.mjs) off the statement by which the dump's own 'gosem.cut.vars' lays the variable. In a bare row this is a premise. The card (YtccffjlahpfdaaaDoorCards.lean) ties it to the program's text. -/
def laid_math_bits_deBruijn64tab {H : Type} : DataW H := .agg [.lit (.int .u8 0), .lit (.int .u8 1), .lit (.int .u8 56), .lit (.int .u8 2), .lit (.int .u8 57), .lit (.int .u8 49), .lit (.int .u8 28), .lit (.int .u8 3), .lit (.int .u8 61), .lit (.int .u8 58), .lit (.int .u8 42), .lit (.int .u8 50), .lit (.int .u8 38), .lit (.int .u8 29), .lit (.int .u8 17), .lit (.int .u8 4), .lit (.int .u8 62), .lit (.int .u8 47), .lit (.int .u8 59), .lit (.int .u8 36), .lit (.int .u8 45), .lit (.int .u8 43), .lit (.int .u8 51), .lit (.int .u8 22), .lit (.int .u8 53), .lit (.int .u8 39), .lit (.int .u8 33), .lit (.int .u8 30), .lit (.int .u8 24), .lit (.int .u8 18), .lit (.int .u8 12), .lit (.int .u8 5), .lit (.int .u8 63), .lit (.int .u8 55), .lit (.int .u8 48), .lit (.int .u8 27), .lit (.int .u8 60), .lit (.int .u8 41), .lit (.int .u8 37), .lit (.int .u8 16), .lit (.int .u8 46), .lit (.int .u8 35), .lit (.int .u8 44), .lit (.int .u8 21), .lit (.int .u8 52), .lit (.int .u8 32), .lit (.int .u8 23), .lit (.int .u8 11), .lit (.int .u8 54), .lit (.int .u8 26), .lit (.int .u8 40), .lit (.int .u8 15), .lit (.int .u8 34), .lit (.int .u8 20), .lit (.int .u8 31), .lit (.int .u8 10), .lit (.int .u8 25), .lit (.int .u8 14), .lit (.int .u8 19), .lit (.int .u8 9), .lit (.int .u8 13), .lit (.int .u8 8), .lit (.int .u8 7), .lit (.int .u8 6)]

/-- 'ropewalklaw19.InboxKept': WHATEVER THE INPUT: true; the input reads as it did. -/
def inboxKeptSpec : ChangeSpec := { name := "inboxKept", fn := fun _ => fun
  | [d1, d2, d3, d4] => { results := [.lit (.bool true)], args := [d1, d2, d3, d4] }
  | _ => none }
def inboxKeptRow : OpenClaim := { program := "ytccffjlahpfdaaadoor", sum := "9fbb9f7d7749547ea14690301c2b26b92ccc2d3f0cec91a4762d906503680d49", func := "ropewalk/ropewalklaw19.InboxKept", spec := "inboxKept", unfollowed := true, recurses := true, named := ["math/bits.deBruijn64tab"], apart := false, laid := [("math/bits.deBruijn64tab", laid_math_bits_deBruijn64tab)] }
def InboxKeptSaid : Prop := inboxKeptRow.holds Tryd.pinned (OpenSpec.ofChange inboxKeptSpec)

/-- ITS FALSE NEIGHBOUR: 'it returns false'. Refute it at one input. -/
def inboxKeptWrong : ChangeSpec := { name := "inboxKept", fn := fun _ => fun
  | [d1, d2, d3, d4] => { results := [.lit (.bool false)], args := [d1, d2, d3, d4] }
  | _ => none }
def InboxKeptWrongFalsely : Prop := inboxKeptRow.holds Tryd.pinned (OpenSpec.ofChange inboxKeptWrong)

/-- 'ropewalklaw19.InboxSecond': WHATEVER THE INPUT: true; the input reads as it did. -/
def inboxSecondSpec : ChangeSpec := { name := "inboxSecond", fn := fun _ => fun
  | [d1, d2, d3, d4, d5] => { results := [.lit (.bool true)], args := [d1, d2, d3, d4, d5] }
  | _ => none }
def inboxSecondRow : OpenClaim := { program := "ytccffjlahpfdaaadoor", sum := "9fbb9f7d7749547ea14690301c2b26b92ccc2d3f0cec91a4762d906503680d49", func := "ropewalk/ropewalklaw19.InboxSecond", spec := "inboxSecond", unfollowed := true, recurses := true, named := ["math/bits.deBruijn64tab"], apart := false, laid := [("math/bits.deBruijn64tab", laid_math_bits_deBruijn64tab)] }
def InboxSecondSaid : Prop := inboxSecondRow.holds Tryd.pinned (OpenSpec.ofChange inboxSecondSpec)

/-- ITS FALSE NEIGHBOUR: 'it returns false'. Refute it at one input. -/
def inboxSecondWrong : ChangeSpec := { name := "inboxSecond", fn := fun _ => fun
  | [d1, d2, d3, d4, d5] => { results := [.lit (.bool false)], args := [d1, d2, d3, d4, d5] }
  | _ => none }
def InboxSecondWrongFalsely : Prop := inboxSecondRow.holds Tryd.pinned (OpenSpec.ofChange inboxSecondWrong)

/-- 'ropewalklaw19.InboxTrue': WHATEVER THE INPUT: true; the input reads as it did. -/
def inboxTrueSpec : ChangeSpec := { name := "inboxTrue", fn := fun _ => fun
  | [d1, d2, d3, d4] => { results := [.lit (.bool true)], args := [d1, d2, d3, d4] }
  | _ => none }
def inboxTrueRow : OpenClaim := { program := "ytccffjlahpfdaaadoor", sum := "9fbb9f7d7749547ea14690301c2b26b92ccc2d3f0cec91a4762d906503680d49", func := "ropewalk/ropewalklaw19.InboxTrue", spec := "inboxTrue", unfollowed := true, recurses := true, named := ["math/bits.deBruijn64tab"], apart := false, laid := [("math/bits.deBruijn64tab", laid_math_bits_deBruijn64tab)] }
def InboxTrueSaid : Prop := inboxTrueRow.holds Tryd.pinned (OpenSpec.ofChange inboxTrueSpec)

/-- ITS FALSE NEIGHBOUR: 'it returns false'. Refute it at one input. -/
def inboxTrueWrong : ChangeSpec := { name := "inboxTrue", fn := fun _ => fun
  | [d1, d2, d3, d4] => { results := [.lit (.bool false)], args := [d1, d2, d3, d4] }
  | _ => none }
def InboxTrueWrongFalsely : Prop := inboxTrueRow.holds Tryd.pinned (OpenSpec.ofChange inboxTrueWrong)

/-- 'ropewalklaw19.InboxRuns': WHATEVER THE INPUT: true; the input reads as it did. -/
def inboxRunsSpec : ChangeSpec := { name := "inboxRuns", fn := fun _ => fun
  | [d1, d2, d3, d4] => { results := [.lit (.bool true)], args := [d1, d2, d3, d4] }
  | _ => none }
def inboxRunsRow : OpenClaim := { program := "ytccffjlahpfdaaadoor", sum := "9fbb9f7d7749547ea14690301c2b26b92ccc2d3f0cec91a4762d906503680d49", func := "ropewalk/ropewalklaw19.InboxRuns", spec := "inboxRuns", unfollowed := true, recurses := true, named := ["math/bits.deBruijn64tab"], apart := false, laid := [("math/bits.deBruijn64tab", laid_math_bits_deBruijn64tab)] }
def InboxRunsSaid : Prop := inboxRunsRow.holds Tryd.pinned (OpenSpec.ofChange inboxRunsSpec)

/-- ITS FALSE NEIGHBOUR: 'it returns false'. Refute it at one input. -/
def inboxRunsWrong : ChangeSpec := { name := "inboxRuns", fn := fun _ => fun
  | [d1, d2, d3, d4] => { results := [.lit (.bool false)], args := [d1, d2, d3, d4] }
  | _ => none }
def InboxRunsWrongFalsely : Prop := inboxRunsRow.holds Tryd.pinned (OpenSpec.ofChange inboxRunsWrong)

/-- 'ropewalklaw19.InboxNobody': WHATEVER THE INPUT: true; the input reads as it did. -/
def inboxNobodySpec : ChangeSpec := { name := "inboxNobody", fn := fun _ => fun
  | [d1, d2] => { results := [.lit (.bool true)], args := [d1, d2] }
  | _ => none }
def inboxNobodyRow : OpenClaim := { program := "ytccffjlahpfdaaadoor", sum := "9fbb9f7d7749547ea14690301c2b26b92ccc2d3f0cec91a4762d906503680d49", func := "ropewalk/ropewalklaw19.InboxNobody", spec := "inboxNobody", unfollowed := true, recurses := true, named := ["math/bits.deBruijn64tab"], apart := false, laid := [("math/bits.deBruijn64tab", laid_math_bits_deBruijn64tab)] }
def InboxNobodySaid : Prop := inboxNobodyRow.holds Tryd.pinned (OpenSpec.ofChange inboxNobodySpec)

/-- ITS FALSE NEIGHBOUR: 'it returns false'. Refute it at one input. -/
def inboxNobodyWrong : ChangeSpec := { name := "inboxNobody", fn := fun _ => fun
  | [d1, d2] => { results := [.lit (.bool false)], args := [d1, d2] }
  | _ => none }
def InboxNobodyWrongFalsely : Prop := inboxNobodyRow.holds Tryd.pinned (OpenSpec.ofChange inboxNobodyWrong)

/- THE SECOND FORM. 'bulk': how many values and letters a reading holds, each counted each time it is reached (what is shared counts as often as it is met; a slice's spare places count too). A statement '..UptoSaid' is the law's where the arguments, and the package variables that the reading takes, are together of bulk at most 1048576: NARROWER than '..Said'. Prove '..Said' where nothing that the law and all that it calls make is longer than what came in: it says more and counts as full. Else prove '..UptoSaid'. A law counts once. -/
mutual
def uptoBulk {H : Type} : DataW H → Nat
  | .lit (.string bytes) => bytes.length + 1
  | .lit _ => 1
  | .nil => 1
  | .ptr d => uptoBulk d + 1
  | .slice elems spare => uptoBulkAll elems + uptoBulkAll spare + 1
  | .agg parts => uptoBulkAll parts + 1
  | .iface _ d => uptoBulk d + 1
  | .map entries => uptoBulkEntries entries + 1
  | .held _ => 1
def uptoBulkAll {H : Type} : List (DataW H) → Nat
  | [] => 0
  | d :: r => uptoBulk d + uptoBulkAll r
def uptoBulkEntries {H : Type} : List (Lit × DataW H) → Nat
  | [] => 0
  | x :: r => uptoBulkEntry x + uptoBulkEntries r
def uptoBulkEntry {H : Type} : Lit × DataW H → Nat
  | (.string bytes, d) => bytes.length + uptoBulk d + 1
  | (_, d) => uptoBulk d + 1
 end
def uptoSmall : (H : Type) → List (DataW H) → Bool := fun _ ds => decide (uptoBulkAll ds ≤ 1048576)
def OpenSpec.upto (s : _root_.Go.ChangeSpec) : _root_.Go.OpenSpec := { _root_.Go.OpenSpec.ofChange s with cond := some uptoSmall }

/-- 'ropewalklaw19.InboxKept', WHERE WHAT IT READS IS OF BULK AT MOST 1048576: true; the input reads as it did. -/
def inboxKeptUptoRow : OpenClaim := { program := "ytccffjlahpfdaaadoor", sum := "9fbb9f7d7749547ea14690301c2b26b92ccc2d3f0cec91a4762d906503680d49", func := "ropewalk/ropewalklaw19.InboxKept", spec := "inboxKept", unfollowed := true, recurses := true, named := ["math/bits.deBruijn64tab"], apart := false, laid := [("math/bits.deBruijn64tab", laid_math_bits_deBruijn64tab)], narrowed := true }
def InboxKeptUptoSaid : Prop := inboxKeptUptoRow.holds Tryd.pinned (OpenSpec.upto inboxKeptSpec)

/-- 'ropewalklaw19.InboxSecond', WHERE WHAT IT READS IS OF BULK AT MOST 1048576: true; the input reads as it did. -/
def inboxSecondUptoRow : OpenClaim := { program := "ytccffjlahpfdaaadoor", sum := "9fbb9f7d7749547ea14690301c2b26b92ccc2d3f0cec91a4762d906503680d49", func := "ropewalk/ropewalklaw19.InboxSecond", spec := "inboxSecond", unfollowed := true, recurses := true, named := ["math/bits.deBruijn64tab"], apart := false, laid := [("math/bits.deBruijn64tab", laid_math_bits_deBruijn64tab)], narrowed := true }
def InboxSecondUptoSaid : Prop := inboxSecondUptoRow.holds Tryd.pinned (OpenSpec.upto inboxSecondSpec)

/-- 'ropewalklaw19.InboxTrue', WHERE WHAT IT READS IS OF BULK AT MOST 1048576: true; the input reads as it did. -/
def inboxTrueUptoRow : OpenClaim := { program := "ytccffjlahpfdaaadoor", sum := "9fbb9f7d7749547ea14690301c2b26b92ccc2d3f0cec91a4762d906503680d49", func := "ropewalk/ropewalklaw19.InboxTrue", spec := "inboxTrue", unfollowed := true, recurses := true, named := ["math/bits.deBruijn64tab"], apart := false, laid := [("math/bits.deBruijn64tab", laid_math_bits_deBruijn64tab)], narrowed := true }
def InboxTrueUptoSaid : Prop := inboxTrueUptoRow.holds Tryd.pinned (OpenSpec.upto inboxTrueSpec)

/-- 'ropewalklaw19.InboxRuns', WHERE WHAT IT READS IS OF BULK AT MOST 1048576: true; the input reads as it did. -/
def inboxRunsUptoRow : OpenClaim := { program := "ytccffjlahpfdaaadoor", sum := "9fbb9f7d7749547ea14690301c2b26b92ccc2d3f0cec91a4762d906503680d49", func := "ropewalk/ropewalklaw19.InboxRuns", spec := "inboxRuns", unfollowed := true, recurses := true, named := ["math/bits.deBruijn64tab"], apart := false, laid := [("math/bits.deBruijn64tab", laid_math_bits_deBruijn64tab)], narrowed := true }
def InboxRunsUptoSaid : Prop := inboxRunsUptoRow.holds Tryd.pinned (OpenSpec.upto inboxRunsSpec)

/-- 'ropewalklaw19.InboxNobody', WHERE WHAT IT READS IS OF BULK AT MOST 1048576: true; the input reads as it did. -/
def inboxNobodyUptoRow : OpenClaim := { program := "ytccffjlahpfdaaadoor", sum := "9fbb9f7d7749547ea14690301c2b26b92ccc2d3f0cec91a4762d906503680d49", func := "ropewalk/ropewalklaw19.InboxNobody", spec := "inboxNobody", unfollowed := true, recurses := true, named := ["math/bits.deBruijn64tab"], apart := false, laid := [("math/bits.deBruijn64tab", laid_math_bits_deBruijn64tab)], narrowed := true }
def InboxNobodyUptoSaid : Prop := inboxNobodyUptoRow.holds Tryd.pinned (OpenSpec.upto inboxNobodySpec)

end Rows
end Go.Proofs.YtccffjlahpfdaaaDoor
