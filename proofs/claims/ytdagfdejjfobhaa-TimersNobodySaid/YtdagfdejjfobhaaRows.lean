/-
  No cell of these rows narrows 'for every input' (looked for: loops, veiled, ifaces, maps, wideKeys, modest, calm, conditions, laid).
  DERIVED. THE GIVEN ROWS OF THIS SEAT. 4 by the template 'for every input the law returns true; each argument reads behind the call as it read before'; 0 by the template 'total and deterministic' (their statements: YtdagfdejjfobhaaTotals.lean).
  GIVEN WITH THE SEED: the statements are not yours to turn. If you find one false, say at which input.
  Laid BY PROGRAM, IN A SANDBOX (cutbox-rows.mjs): the forced cells as the released guide's own fill.sh prints them over the translation 93386713eb6ba34d… (all of the seat's roots in one cut). By AI agents, Wed Nov 11 2026. No macro, syntax, notation, axiom, sorry.
-/
import Derived.Test.YtdagfdejjfobhaaChecked
import GoSem.Claim
import GoSem.ClaimJoined
import GoSem.ClaimMapViews
import Derived.JoinedTies
import Derived.KernelRfl
namespace Go.Proofs.Ytdagfdejjfobhaa
/- THE CELL 'sum', in the pinned program and in every row, IS THE sha256 OF THE DUMP (.gsa) THAT YtdagfdejjfobhaaProg.lean LOADS. Nothing in Lean hashes anything: it is a label: what it is worth is what the hold of that sum in a sandbox is worth. -/
noncomputable def Try.pinned : Pinned := { name := "ytdagfdejjfobhaa", sum := "93386713eb6ba34d3bc11146b6eecb29e308974e056b3181aa839210ed8e8772", checked := Try.checked }
namespace Rows
def none {H : Type} : Left H := { results := [], args := [] }

/-- 'ropewalklaw08.TimersSteps': WHATEVER THE INPUT: true; the input reads as it did. -/
def timersStepsSpec : ChangeSpec := { name := "timersSteps", fn := fun _ => fun
  | [d1, d2, d3] => { results := [.lit (.bool true)], args := [d1, d2, d3] }
  | _ => none }
def timersStepsRow : OpenClaim := { program := "ytdagfdejjfobhaa", sum := "93386713eb6ba34d3bc11146b6eecb29e308974e056b3181aa839210ed8e8772", func := "ropewalk/ropewalklaw08.TimersSteps", spec := "timersSteps", unfollowed := true, recurses := true, apart := false }
def TimersStepsSaid : Prop := timersStepsRow.holds Try.pinned (OpenSpec.ofChange timersStepsSpec)

/-- ITS FALSE NEIGHBOUR: 'it returns false'. Refute it at one input. -/
def timersStepsWrong : ChangeSpec := { name := "timersSteps", fn := fun _ => fun
  | [d1, d2, d3] => { results := [.lit (.bool false)], args := [d1, d2, d3] }
  | _ => none }
def TimersStepsWrongFalsely : Prop := timersStepsRow.holds Try.pinned (OpenSpec.ofChange timersStepsWrong)

/-- 'ropewalklaw08.TimersOnce': WHATEVER THE INPUT: true; the input reads as it did. -/
def timersOnceSpec : ChangeSpec := { name := "timersOnce", fn := fun _ => fun
  | [d] => { results := [.lit (.bool true)], args := [d] }
  | _ => none }
def timersOnceRow : OpenClaim := { program := "ytdagfdejjfobhaa", sum := "93386713eb6ba34d3bc11146b6eecb29e308974e056b3181aa839210ed8e8772", func := "ropewalk/ropewalklaw08.TimersOnce", spec := "timersOnce", unfollowed := true, recurses := true, apart := false }
def TimersOnceSaid : Prop := timersOnceRow.holds Try.pinned (OpenSpec.ofChange timersOnceSpec)

/-- ITS FALSE NEIGHBOUR: 'it returns false'. Refute it at one input. -/
def timersOnceWrong : ChangeSpec := { name := "timersOnce", fn := fun _ => fun
  | [d] => { results := [.lit (.bool false)], args := [d] }
  | _ => none }
def TimersOnceWrongFalsely : Prop := timersOnceRow.holds Try.pinned (OpenSpec.ofChange timersOnceWrong)

/-- 'ropewalklaw08.TimersRuns': WHATEVER THE INPUT: true; the input reads as it did. -/
def timersRunsSpec : ChangeSpec := { name := "timersRuns", fn := fun _ => fun
  | [d] => { results := [.lit (.bool true)], args := [d] }
  | _ => none }
def timersRunsRow : OpenClaim := { program := "ytdagfdejjfobhaa", sum := "93386713eb6ba34d3bc11146b6eecb29e308974e056b3181aa839210ed8e8772", func := "ropewalk/ropewalklaw08.TimersRuns", spec := "timersRuns", unfollowed := true, recurses := true, apart := false }
def TimersRunsSaid : Prop := timersRunsRow.holds Try.pinned (OpenSpec.ofChange timersRunsSpec)

/-- ITS FALSE NEIGHBOUR: 'it returns false'. Refute it at one input. -/
def timersRunsWrong : ChangeSpec := { name := "timersRuns", fn := fun _ => fun
  | [d] => { results := [.lit (.bool false)], args := [d] }
  | _ => none }
def TimersRunsWrongFalsely : Prop := timersRunsRow.holds Try.pinned (OpenSpec.ofChange timersRunsWrong)

/-- 'ropewalklaw08.TimersNobody': WHATEVER THE INPUT: true; the input reads as it did. -/
def timersNobodySpec : ChangeSpec := { name := "timersNobody", fn := fun _ => fun
  | [d] => { results := [.lit (.bool true)], args := [d] }
  | _ => none }
def timersNobodyRow : OpenClaim := { program := "ytdagfdejjfobhaa", sum := "93386713eb6ba34d3bc11146b6eecb29e308974e056b3181aa839210ed8e8772", func := "ropewalk/ropewalklaw08.TimersNobody", spec := "timersNobody", unfollowed := true, recurses := true, apart := false }
def TimersNobodySaid : Prop := timersNobodyRow.holds Try.pinned (OpenSpec.ofChange timersNobodySpec)

/-- ITS FALSE NEIGHBOUR: 'it returns false'. Refute it at one input. -/
def timersNobodyWrong : ChangeSpec := { name := "timersNobody", fn := fun _ => fun
  | [d] => { results := [.lit (.bool false)], args := [d] }
  | _ => none }
def TimersNobodyWrongFalsely : Prop := timersNobodyRow.holds Try.pinned (OpenSpec.ofChange timersNobodyWrong)

/- THE SECOND FORM. 'bulk': how many values and letters a reading holds, each counted each time it is reached (what is shared counts as often as it is met; a slice's spare places count too). A statement '..UptoSaid' is the law's where the arguments, and the package variables that the reading takes, are together of bulk at most 1048576: NARROWER than '..Said'. Prove '..Said' where nothing that the law and all that it calls make is longer than what came in: it says more and counts as full. Else prove '..UptoSaid'. A law counts once. -/
mutual
def uptoBulk {H : Type} : DataW H → Nat
  | .lit (.string bytes) => bytes.length + 1
  | .lit _ => 1
  | .nil => 1
  | .ptr d => uptoBulk d + 1
  | .slice elems spare => uptoBulkAll elems + uptoBulkAll spare + 1
  | .agg parts => uptoBulkAll parts + 1
  | .iface _ d => uptoBulk d + 1
  | .map entries => uptoBulkEntries entries + 1
  | .held _ => 1
def uptoBulkAll {H : Type} : List (DataW H) → Nat
  | [] => 0
  | d :: r => uptoBulk d + uptoBulkAll r
def uptoBulkEntries {H : Type} : List (Lit × DataW H) → Nat
  | [] => 0
  | x :: r => uptoBulkEntry x + uptoBulkEntries r
def uptoBulkEntry {H : Type} : Lit × DataW H → Nat
  | (.string bytes, d) => bytes.length + uptoBulk d + 1
  | (_, d) => uptoBulk d + 1
 end
def uptoSmall : (H : Type) → List (DataW H) → Bool := fun _ ds => decide (uptoBulkAll ds ≤ 1048576)
def OpenSpec.upto (s : _root_.Go.ChangeSpec) : _root_.Go.OpenSpec := { _root_.Go.OpenSpec.ofChange s with cond := some uptoSmall }

/-- 'ropewalklaw08.TimersSteps', WHERE WHAT IT READS IS OF BULK AT MOST 1048576: true; the input reads as it did. -/
def timersStepsUptoRow : OpenClaim := { program := "ytdagfdejjfobhaa", sum := "93386713eb6ba34d3bc11146b6eecb29e308974e056b3181aa839210ed8e8772", func := "ropewalk/ropewalklaw08.TimersSteps", spec := "timersSteps", unfollowed := true, recurses := true, apart := false, narrowed := true }
def TimersStepsUptoSaid : Prop := timersStepsUptoRow.holds Try.pinned (OpenSpec.upto timersStepsSpec)

/-- 'ropewalklaw08.TimersOnce', WHERE WHAT IT READS IS OF BULK AT MOST 1048576: true; the input reads as it did. -/
def timersOnceUptoRow : OpenClaim := { program := "ytdagfdejjfobhaa", sum := "93386713eb6ba34d3bc11146b6eecb29e308974e056b3181aa839210ed8e8772", func := "ropewalk/ropewalklaw08.TimersOnce", spec := "timersOnce", unfollowed := true, recurses := true, apart := false, narrowed := true }
def TimersOnceUptoSaid : Prop := timersOnceUptoRow.holds Try.pinned (OpenSpec.upto timersOnceSpec)

/-- 'ropewalklaw08.TimersRuns', WHERE WHAT IT READS IS OF BULK AT MOST 1048576: true; the input reads as it did. -/
def timersRunsUptoRow : OpenClaim := { program := "ytdagfdejjfobhaa", sum := "93386713eb6ba34d3bc11146b6eecb29e308974e056b3181aa839210ed8e8772", func := "ropewalk/ropewalklaw08.TimersRuns", spec := "timersRuns", unfollowed := true, recurses := true, apart := false, narrowed := true }
def TimersRunsUptoSaid : Prop := timersRunsUptoRow.holds Try.pinned (OpenSpec.upto timersRunsSpec)

/-- 'ropewalklaw08.TimersNobody', WHERE WHAT IT READS IS OF BULK AT MOST 1048576: true; the input reads as it did. -/
def timersNobodyUptoRow : OpenClaim := { program := "ytdagfdejjfobhaa", sum := "93386713eb6ba34d3bc11146b6eecb29e308974e056b3181aa839210ed8e8772", func := "ropewalk/ropewalklaw08.TimersNobody", spec := "timersNobody", unfollowed := true, recurses := true, apart := false, narrowed := true }
def TimersNobodyUptoSaid : Prop := timersNobodyUptoRow.holds Try.pinned (OpenSpec.upto timersNobodySpec)

end Rows
end Go.Proofs.Ytdagfdejjfobhaa
