/-
  No cell of these rows narrows 'for every input' (looked for: loops, veiled, ifaces, maps, wideKeys, modest, calm, conditions, laid).
  DERIVED. THE GIVEN ROWS OF THIS SEAT. 6 by the template 'for every input the law returns true; each argument reads behind the call as it read before'; 0 by the template 'total and deterministic' (their statements: YtaflmpbeonoilaaTotals.lean).
  GIVEN WITH THE SEED: the statements are not yours to turn. If you find one false, say at which input.
  Laid BY PROGRAM, IN A SANDBOX (cutbox-rows.mjs): the forced cells as the released guide's own fill.sh prints them over the translation 849728c4e9dfb8b3… (all of the seat's roots in one cut). By AI agents, Wed Nov 11 2026. No macro, syntax, notation, axiom, sorry.
-/
import Derived.Test.YtaflmpbeonoilaaChecked
import GoSem.Claim
import GoSem.ClaimJoined
import GoSem.ClaimMapViews
import Derived.JoinedTies
import Derived.KernelRfl
namespace Go.Proofs.Ytaflmpbeonoilaa
/- THE CELL 'sum', in the pinned program and in every row, IS THE sha256 OF THE DUMP (.gsa) THAT YtaflmpbeonoilaaProg.lean LOADS. Nothing in Lean hashes anything: it is a label: what it is worth is what the hold of that sum in a sandbox is worth. -/
noncomputable def Try.pinned : Pinned := { name := "ytaflmpbeonoilaa", sum := "849728c4e9dfb8b39d39c127e6d555f7bf38edaf8ce07799ba39c6c50b013136", checked := Try.checked }
namespace Rows
def none {H : Type} : Left H := { results := [], args := [] }

/-- 'ropewalklaw20.ReasmOwn': WHATEVER THE INPUT: true; the input reads as it did. -/
def reasmOwnSpec : ChangeSpec := { name := "reasmOwn", fn := fun _ => fun
  | [d] => { results := [.lit (.bool true)], args := [d] }
  | _ => none }
def reasmOwnRow : OpenClaim := { program := "ytaflmpbeonoilaa", sum := "849728c4e9dfb8b39d39c127e6d555f7bf38edaf8ce07799ba39c6c50b013136", func := "ropewalk/ropewalklaw20.ReasmOwn", spec := "reasmOwn", unfollowed := true, recurses := true, apart := false }
def ReasmOwnSaid : Prop := reasmOwnRow.holds Try.pinned (OpenSpec.ofChange reasmOwnSpec)

/-- ITS FALSE NEIGHBOUR: 'it returns false'. Refute it at one input. -/
def reasmOwnWrong : ChangeSpec := { name := "reasmOwn", fn := fun _ => fun
  | [d] => { results := [.lit (.bool false)], args := [d] }
  | _ => none }
def ReasmOwnWrongFalsely : Prop := reasmOwnRow.holds Try.pinned (OpenSpec.ofChange reasmOwnWrong)

/-- 'ropewalklaw20.ReasmOrders': WHATEVER THE INPUT: true; the input reads as it did. -/
def reasmOrdersSpec : ChangeSpec := { name := "reasmOrders", fn := fun _ => fun
  | [d] => { results := [.lit (.bool true)], args := [d] }
  | _ => none }
def reasmOrdersRow : OpenClaim := { program := "ytaflmpbeonoilaa", sum := "849728c4e9dfb8b39d39c127e6d555f7bf38edaf8ce07799ba39c6c50b013136", func := "ropewalk/ropewalklaw20.ReasmOrders", spec := "reasmOrders", unfollowed := true, recurses := true, apart := false }
def ReasmOrdersSaid : Prop := reasmOrdersRow.holds Try.pinned (OpenSpec.ofChange reasmOrdersSpec)

/-- ITS FALSE NEIGHBOUR: 'it returns false'. Refute it at one input. -/
def reasmOrdersWrong : ChangeSpec := { name := "reasmOrders", fn := fun _ => fun
  | [d] => { results := [.lit (.bool false)], args := [d] }
  | _ => none }
def ReasmOrdersWrongFalsely : Prop := reasmOrdersRow.holds Try.pinned (OpenSpec.ofChange reasmOrdersWrong)

/-- 'ropewalklaw20.ReasmAny': WHATEVER THE INPUT: true; the input reads as it did. -/
def reasmAnySpec : ChangeSpec := { name := "reasmAny", fn := fun _ => fun
  | [d1, d2, d3, d4] => { results := [.lit (.bool true)], args := [d1, d2, d3, d4] }
  | _ => none }
def reasmAnyRow : OpenClaim := { program := "ytaflmpbeonoilaa", sum := "849728c4e9dfb8b39d39c127e6d555f7bf38edaf8ce07799ba39c6c50b013136", func := "ropewalk/ropewalklaw20.ReasmAny", spec := "reasmAny", unfollowed := true, recurses := true, apart := false }
def ReasmAnySaid : Prop := reasmAnyRow.holds Try.pinned (OpenSpec.ofChange reasmAnySpec)

/-- ITS FALSE NEIGHBOUR: 'it returns false'. Refute it at one input. -/
def reasmAnyWrong : ChangeSpec := { name := "reasmAny", fn := fun _ => fun
  | [d1, d2, d3, d4] => { results := [.lit (.bool false)], args := [d1, d2, d3, d4] }
  | _ => none }
def ReasmAnyWrongFalsely : Prop := reasmAnyRow.holds Try.pinned (OpenSpec.ofChange reasmAnyWrong)

/-- 'ropewalklaw20.ReasmRuns': WHATEVER THE INPUT: true; the input reads as it did. -/
def reasmRunsSpec : ChangeSpec := { name := "reasmRuns", fn := fun _ => fun
  | [d1, d2, d3] => { results := [.lit (.bool true)], args := [d1, d2, d3] }
  | _ => none }
def reasmRunsRow : OpenClaim := { program := "ytaflmpbeonoilaa", sum := "849728c4e9dfb8b39d39c127e6d555f7bf38edaf8ce07799ba39c6c50b013136", func := "ropewalk/ropewalklaw20.ReasmRuns", spec := "reasmRuns", unfollowed := true, recurses := true, apart := false }
def ReasmRunsSaid : Prop := reasmRunsRow.holds Try.pinned (OpenSpec.ofChange reasmRunsSpec)

/-- ITS FALSE NEIGHBOUR: 'it returns false'. Refute it at one input. -/
def reasmRunsWrong : ChangeSpec := { name := "reasmRuns", fn := fun _ => fun
  | [d1, d2, d3] => { results := [.lit (.bool false)], args := [d1, d2, d3] }
  | _ => none }
def ReasmRunsWrongFalsely : Prop := reasmRunsRow.holds Try.pinned (OpenSpec.ofChange reasmRunsWrong)

/-- 'ropewalklaw20.ReasmBounds': WHATEVER THE INPUT: true; the input reads as it did. -/
def reasmBoundsSpec : ChangeSpec := { name := "reasmBounds", fn := fun _ => fun
  | [d1, d2, d3] => { results := [.lit (.bool true)], args := [d1, d2, d3] }
  | _ => none }
def reasmBoundsRow : OpenClaim := { program := "ytaflmpbeonoilaa", sum := "849728c4e9dfb8b39d39c127e6d555f7bf38edaf8ce07799ba39c6c50b013136", func := "ropewalk/ropewalklaw20.ReasmBounds", spec := "reasmBounds", unfollowed := true, recurses := true, apart := false }
def ReasmBoundsSaid : Prop := reasmBoundsRow.holds Try.pinned (OpenSpec.ofChange reasmBoundsSpec)

/-- ITS FALSE NEIGHBOUR: 'it returns false'. Refute it at one input. -/
def reasmBoundsWrong : ChangeSpec := { name := "reasmBounds", fn := fun _ => fun
  | [d1, d2, d3] => { results := [.lit (.bool false)], args := [d1, d2, d3] }
  | _ => none }
def ReasmBoundsWrongFalsely : Prop := reasmBoundsRow.holds Try.pinned (OpenSpec.ofChange reasmBoundsWrong)

/-- 'ropewalklaw20.ReasmNobody': WHATEVER THE INPUT: true; the input reads as it did. -/
def reasmNobodySpec : ChangeSpec := { name := "reasmNobody", fn := fun _ => fun
  | [d] => { results := [.lit (.bool true)], args := [d] }
  | _ => none }
def reasmNobodyRow : OpenClaim := { program := "ytaflmpbeonoilaa", sum := "849728c4e9dfb8b39d39c127e6d555f7bf38edaf8ce07799ba39c6c50b013136", func := "ropewalk/ropewalklaw20.ReasmNobody", spec := "reasmNobody", unfollowed := true, recurses := true, apart := false }
def ReasmNobodySaid : Prop := reasmNobodyRow.holds Try.pinned (OpenSpec.ofChange reasmNobodySpec)

/-- ITS FALSE NEIGHBOUR: 'it returns false'. Refute it at one input. -/
def reasmNobodyWrong : ChangeSpec := { name := "reasmNobody", fn := fun _ => fun
  | [d] => { results := [.lit (.bool false)], args := [d] }
  | _ => none }
def ReasmNobodyWrongFalsely : Prop := reasmNobodyRow.holds Try.pinned (OpenSpec.ofChange reasmNobodyWrong)

/- THE SECOND FORM. 'bulk': how many values and letters a reading holds, each counted each time it is reached (what is shared counts as often as it is met; a slice's spare places count too). A statement '..UptoSaid' is the law's where the arguments, and the package variables that the reading takes, are together of bulk at most 1048576: NARROWER than '..Said'. Prove '..Said' where nothing that the law and all that it calls make is longer than what came in: it says more and counts as full. Else prove '..UptoSaid'. A law counts once. -/
mutual
def uptoBulk {H : Type} : DataW H → Nat
  | .lit (.string bytes) => bytes.length + 1
  | .lit _ => 1
  | .nil => 1
  | .ptr d => uptoBulk d + 1
  | .slice elems spare => uptoBulkAll elems + uptoBulkAll spare + 1
  | .agg parts => uptoBulkAll parts + 1
  | .iface _ d => uptoBulk d + 1
  | .map entries => uptoBulkEntries entries + 1
  | .held _ => 1
def uptoBulkAll {H : Type} : List (DataW H) → Nat
  | [] => 0
  | d :: r => uptoBulk d + uptoBulkAll r
def uptoBulkEntries {H : Type} : List (Lit × DataW H) → Nat
  | [] => 0
  | x :: r => uptoBulkEntry x + uptoBulkEntries r
def uptoBulkEntry {H : Type} : Lit × DataW H → Nat
  | (.string bytes, d) => bytes.length + uptoBulk d + 1
  | (_, d) => uptoBulk d + 1
 end
def uptoSmall : (H : Type) → List (DataW H) → Bool := fun _ ds => decide (uptoBulkAll ds ≤ 1048576)
def OpenSpec.upto (s : _root_.Go.ChangeSpec) : _root_.Go.OpenSpec := { _root_.Go.OpenSpec.ofChange s with cond := some uptoSmall }

/-- 'ropewalklaw20.ReasmOwn', WHERE WHAT IT READS IS OF BULK AT MOST 1048576: true; the input reads as it did. -/
def reasmOwnUptoRow : OpenClaim := { program := "ytaflmpbeonoilaa", sum := "849728c4e9dfb8b39d39c127e6d555f7bf38edaf8ce07799ba39c6c50b013136", func := "ropewalk/ropewalklaw20.ReasmOwn", spec := "reasmOwn", unfollowed := true, recurses := true, apart := false, narrowed := true }
def ReasmOwnUptoSaid : Prop := reasmOwnUptoRow.holds Try.pinned (OpenSpec.upto reasmOwnSpec)

/-- 'ropewalklaw20.ReasmOrders', WHERE WHAT IT READS IS OF BULK AT MOST 1048576: true; the input reads as it did. -/
def reasmOrdersUptoRow : OpenClaim := { program := "ytaflmpbeonoilaa", sum := "849728c4e9dfb8b39d39c127e6d555f7bf38edaf8ce07799ba39c6c50b013136", func := "ropewalk/ropewalklaw20.ReasmOrders", spec := "reasmOrders", unfollowed := true, recurses := true, apart := false, narrowed := true }
def ReasmOrdersUptoSaid : Prop := reasmOrdersUptoRow.holds Try.pinned (OpenSpec.upto reasmOrdersSpec)

/-- 'ropewalklaw20.ReasmAny', WHERE WHAT IT READS IS OF BULK AT MOST 1048576: true; the input reads as it did. -/
def reasmAnyUptoRow : OpenClaim := { program := "ytaflmpbeonoilaa", sum := "849728c4e9dfb8b39d39c127e6d555f7bf38edaf8ce07799ba39c6c50b013136", func := "ropewalk/ropewalklaw20.ReasmAny", spec := "reasmAny", unfollowed := true, recurses := true, apart := false, narrowed := true }
def ReasmAnyUptoSaid : Prop := reasmAnyUptoRow.holds Try.pinned (OpenSpec.upto reasmAnySpec)

/-- 'ropewalklaw20.ReasmRuns', WHERE WHAT IT READS IS OF BULK AT MOST 1048576: true; the input reads as it did. -/
def reasmRunsUptoRow : OpenClaim := { program := "ytaflmpbeonoilaa", sum := "849728c4e9dfb8b39d39c127e6d555f7bf38edaf8ce07799ba39c6c50b013136", func := "ropewalk/ropewalklaw20.ReasmRuns", spec := "reasmRuns", unfollowed := true, recurses := true, apart := false, narrowed := true }
def ReasmRunsUptoSaid : Prop := reasmRunsUptoRow.holds Try.pinned (OpenSpec.upto reasmRunsSpec)

/-- 'ropewalklaw20.ReasmBounds', WHERE WHAT IT READS IS OF BULK AT MOST 1048576: true; the input reads as it did. -/
def reasmBoundsUptoRow : OpenClaim := { program := "ytaflmpbeonoilaa", sum := "849728c4e9dfb8b39d39c127e6d555f7bf38edaf8ce07799ba39c6c50b013136", func := "ropewalk/ropewalklaw20.ReasmBounds", spec := "reasmBounds", unfollowed := true, recurses := true, apart := false, narrowed := true }
def ReasmBoundsUptoSaid : Prop := reasmBoundsUptoRow.holds Try.pinned (OpenSpec.upto reasmBoundsSpec)

/-- 'ropewalklaw20.ReasmNobody', WHERE WHAT IT READS IS OF BULK AT MOST 1048576: true; the input reads as it did. -/
def reasmNobodyUptoRow : OpenClaim := { program := "ytaflmpbeonoilaa", sum := "849728c4e9dfb8b39d39c127e6d555f7bf38edaf8ce07799ba39c6c50b013136", func := "ropewalk/ropewalklaw20.ReasmNobody", spec := "reasmNobody", unfollowed := true, recurses := true, apart := false, narrowed := true }
def ReasmNobodyUptoSaid : Prop := reasmNobodyUptoRow.holds Try.pinned (OpenSpec.upto reasmNobodySpec)

end Rows
end Go.Proofs.Ytaflmpbeonoilaa
