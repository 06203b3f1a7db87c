/-
  No cell of these rows narrows 'for every input' (looked for: loops, veiled, ifaces, maps, wideKeys, modest, calm, conditions, laid).
  DERIVED. THE GIVEN ROWS OF THIS SEAT. 6 by the template 'for every input the law returns true; each argument reads behind the call as it read before'; 0 by the template 'total and deterministic' (their statements: YtmliokbonkndaaaTotals.lean).
  GIVEN WITH THE SEED: the statements are not yours to turn. If you find one false, say at which input.
  Laid BY PROGRAM, IN A SANDBOX (cutbox-rows.mjs): the forced cells as the released guide's own fill.sh prints them over the translation 4adfc9af3308ef59… (all of the seat's roots in one cut). By AI agents, Wed Nov 11 2026. No macro, syntax, notation, axiom, sorry.
-/
import Derived.Test.YtmliokbonkndaaaChecked
import GoSem.Claim
import GoSem.ClaimJoined
import GoSem.ClaimMapViews
import Derived.JoinedTies
import Derived.KernelRfl
namespace Go.Proofs.Ytmliokbonkndaaa
/- THE CELL 'sum', in the pinned program and in every row, IS THE sha256 OF THE DUMP (.gsa) THAT YtmliokbonkndaaaProg.lean LOADS. Nothing in Lean hashes anything: it is a label: what it is worth is what the hold of that sum in a sandbox is worth. -/
noncomputable def Try.pinned : Pinned := { name := "ytmliokbonkndaaa", sum := "4adfc9af3308ef591970440a5cf5296446e16ebd8ed9c03ba6b5e0b1021a0ace", checked := Try.checked }
namespace Rows
def none {H : Type} : Left H := { results := [], args := [] }

/-- 'ropewalklaw17.OutboxSplit': WHATEVER THE INPUT: true; the input reads as it did. -/
def outboxSplitSpec : ChangeSpec := { name := "outboxSplit", fn := fun _ => fun
  | [d1, d2, d3, d4, d5] => { results := [.lit (.bool true)], args := [d1, d2, d3, d4, d5] }
  | _ => none }
def outboxSplitRow : OpenClaim := { program := "ytmliokbonkndaaa", sum := "4adfc9af3308ef591970440a5cf5296446e16ebd8ed9c03ba6b5e0b1021a0ace", func := "ropewalk/ropewalklaw17.OutboxSplit", spec := "outboxSplit", unfollowed := true, recurses := true, apart := false }
def OutboxSplitSaid : Prop := outboxSplitRow.holds Try.pinned (OpenSpec.ofChange outboxSplitSpec)

/-- ITS FALSE NEIGHBOUR: 'it returns false'. Refute it at one input. -/
def outboxSplitWrong : ChangeSpec := { name := "outboxSplit", fn := fun _ => fun
  | [d1, d2, d3, d4, d5] => { results := [.lit (.bool false)], args := [d1, d2, d3, d4, d5] }
  | _ => none }
def OutboxSplitWrongFalsely : Prop := outboxSplitRow.holds Try.pinned (OpenSpec.ofChange outboxSplitWrong)

/-- 'ropewalklaw17.OutboxOwn': WHATEVER THE INPUT: true; the input reads as it did. -/
def outboxOwnSpec : ChangeSpec := { name := "outboxOwn", fn := fun _ => fun
  | [d1, d2] => { results := [.lit (.bool true)], args := [d1, d2] }
  | _ => none }
def outboxOwnRow : OpenClaim := { program := "ytmliokbonkndaaa", sum := "4adfc9af3308ef591970440a5cf5296446e16ebd8ed9c03ba6b5e0b1021a0ace", func := "ropewalk/ropewalklaw17.OutboxOwn", spec := "outboxOwn", unfollowed := true, recurses := true, apart := false }
def OutboxOwnSaid : Prop := outboxOwnRow.holds Try.pinned (OpenSpec.ofChange outboxOwnSpec)

/-- ITS FALSE NEIGHBOUR: 'it returns false'. Refute it at one input. -/
def outboxOwnWrong : ChangeSpec := { name := "outboxOwn", fn := fun _ => fun
  | [d1, d2] => { results := [.lit (.bool false)], args := [d1, d2] }
  | _ => none }
def OutboxOwnWrongFalsely : Prop := outboxOwnRow.holds Try.pinned (OpenSpec.ofChange outboxOwnWrong)

/-- 'ropewalklaw17.OutboxOnce': WHATEVER THE INPUT: true; the input reads as it did. -/
def outboxOnceSpec : ChangeSpec := { name := "outboxOnce", fn := fun _ => fun
  | [d1, d2, d3] => { results := [.lit (.bool true)], args := [d1, d2, d3] }
  | _ => none }
def outboxOnceRow : OpenClaim := { program := "ytmliokbonkndaaa", sum := "4adfc9af3308ef591970440a5cf5296446e16ebd8ed9c03ba6b5e0b1021a0ace", func := "ropewalk/ropewalklaw17.OutboxOnce", spec := "outboxOnce", unfollowed := true, recurses := true, apart := false }
def OutboxOnceSaid : Prop := outboxOnceRow.holds Try.pinned (OpenSpec.ofChange outboxOnceSpec)

/-- ITS FALSE NEIGHBOUR: 'it returns false'. Refute it at one input. -/
def outboxOnceWrong : ChangeSpec := { name := "outboxOnce", fn := fun _ => fun
  | [d1, d2, d3] => { results := [.lit (.bool false)], args := [d1, d2, d3] }
  | _ => none }
def OutboxOnceWrongFalsely : Prop := outboxOnceRow.holds Try.pinned (OpenSpec.ofChange outboxOnceWrong)

/-- 'ropewalklaw17.OutboxAgain': WHATEVER THE INPUT: true; the input reads as it did. -/
def outboxAgainSpec : ChangeSpec := { name := "outboxAgain", fn := fun _ => fun
  | [d1, d2, d3, d4, d5, d6] => { results := [.lit (.bool true)], args := [d1, d2, d3, d4, d5, d6] }
  | _ => none }
def outboxAgainRow : OpenClaim := { program := "ytmliokbonkndaaa", sum := "4adfc9af3308ef591970440a5cf5296446e16ebd8ed9c03ba6b5e0b1021a0ace", func := "ropewalk/ropewalklaw17.OutboxAgain", spec := "outboxAgain", unfollowed := true, recurses := true, apart := false }
def OutboxAgainSaid : Prop := outboxAgainRow.holds Try.pinned (OpenSpec.ofChange outboxAgainSpec)

/-- ITS FALSE NEIGHBOUR: 'it returns false'. Refute it at one input. -/
def outboxAgainWrong : ChangeSpec := { name := "outboxAgain", fn := fun _ => fun
  | [d1, d2, d3, d4, d5, d6] => { results := [.lit (.bool false)], args := [d1, d2, d3, d4, d5, d6] }
  | _ => none }
def OutboxAgainWrongFalsely : Prop := outboxAgainRow.holds Try.pinned (OpenSpec.ofChange outboxAgainWrong)

/-- 'ropewalklaw17.OutboxRuns': WHATEVER THE INPUT: true; the input reads as it did. -/
def outboxRunsSpec : ChangeSpec := { name := "outboxRuns", fn := fun _ => fun
  | [d1, d2, d3] => { results := [.lit (.bool true)], args := [d1, d2, d3] }
  | _ => none }
def outboxRunsRow : OpenClaim := { program := "ytmliokbonkndaaa", sum := "4adfc9af3308ef591970440a5cf5296446e16ebd8ed9c03ba6b5e0b1021a0ace", func := "ropewalk/ropewalklaw17.OutboxRuns", spec := "outboxRuns", unfollowed := true, recurses := true, apart := false }
def OutboxRunsSaid : Prop := outboxRunsRow.holds Try.pinned (OpenSpec.ofChange outboxRunsSpec)

/-- ITS FALSE NEIGHBOUR: 'it returns false'. Refute it at one input. -/
def outboxRunsWrong : ChangeSpec := { name := "outboxRuns", fn := fun _ => fun
  | [d1, d2, d3] => { results := [.lit (.bool false)], args := [d1, d2, d3] }
  | _ => none }
def OutboxRunsWrongFalsely : Prop := outboxRunsRow.holds Try.pinned (OpenSpec.ofChange outboxRunsWrong)

/-- 'ropewalklaw17.OutboxNobody': WHATEVER THE INPUT: true; the input reads as it did. -/
def outboxNobodySpec : ChangeSpec := { name := "outboxNobody", fn := fun _ => fun
  | [d1, d2] => { results := [.lit (.bool true)], args := [d1, d2] }
  | _ => none }
def outboxNobodyRow : OpenClaim := { program := "ytmliokbonkndaaa", sum := "4adfc9af3308ef591970440a5cf5296446e16ebd8ed9c03ba6b5e0b1021a0ace", func := "ropewalk/ropewalklaw17.OutboxNobody", spec := "outboxNobody", unfollowed := true, recurses := true, apart := false }
def OutboxNobodySaid : Prop := outboxNobodyRow.holds Try.pinned (OpenSpec.ofChange outboxNobodySpec)

/-- ITS FALSE NEIGHBOUR: 'it returns false'. Refute it at one input. -/
def outboxNobodyWrong : ChangeSpec := { name := "outboxNobody", fn := fun _ => fun
  | [d1, d2] => { results := [.lit (.bool false)], args := [d1, d2] }
  | _ => none }
def OutboxNobodyWrongFalsely : Prop := outboxNobodyRow.holds Try.pinned (OpenSpec.ofChange outboxNobodyWrong)

/- THE SECOND FORM. 'bulk': how many values and letters a reading holds, each counted each time it is reached (what is shared counts as often as it is met; a slice's spare places count too). A statement '..UptoSaid' is the law's where the arguments, and the package variables that the reading takes, are together of bulk at most 1048576: NARROWER than '..Said'. Prove '..Said' where nothing that the law and all that it calls make is longer than what came in: it says more and counts as full. Else prove '..UptoSaid'. A law counts once. -/
mutual
def uptoBulk {H : Type} : DataW H → Nat
  | .lit (.string bytes) => bytes.length + 1
  | .lit _ => 1
  | .nil => 1
  | .ptr d => uptoBulk d + 1
  | .slice elems spare => uptoBulkAll elems + uptoBulkAll spare + 1
  | .agg parts => uptoBulkAll parts + 1
  | .iface _ d => uptoBulk d + 1
  | .map entries => uptoBulkEntries entries + 1
  | .held _ => 1
def uptoBulkAll {H : Type} : List (DataW H) → Nat
  | [] => 0
  | d :: r => uptoBulk d + uptoBulkAll r
def uptoBulkEntries {H : Type} : List (Lit × DataW H) → Nat
  | [] => 0
  | x :: r => uptoBulkEntry x + uptoBulkEntries r
def uptoBulkEntry {H : Type} : Lit × DataW H → Nat
  | (.string bytes, d) => bytes.length + uptoBulk d + 1
  | (_, d) => uptoBulk d + 1
 end
def uptoSmall : (H : Type) → List (DataW H) → Bool := fun _ ds => decide (uptoBulkAll ds ≤ 1048576)
def OpenSpec.upto (s : _root_.Go.ChangeSpec) : _root_.Go.OpenSpec := { _root_.Go.OpenSpec.ofChange s with cond := some uptoSmall }

/-- 'ropewalklaw17.OutboxSplit', WHERE WHAT IT READS IS OF BULK AT MOST 1048576: true; the input reads as it did. -/
def outboxSplitUptoRow : OpenClaim := { program := "ytmliokbonkndaaa", sum := "4adfc9af3308ef591970440a5cf5296446e16ebd8ed9c03ba6b5e0b1021a0ace", func := "ropewalk/ropewalklaw17.OutboxSplit", spec := "outboxSplit", unfollowed := true, recurses := true, apart := false, narrowed := true }
def OutboxSplitUptoSaid : Prop := outboxSplitUptoRow.holds Try.pinned (OpenSpec.upto outboxSplitSpec)

/-- 'ropewalklaw17.OutboxOwn', WHERE WHAT IT READS IS OF BULK AT MOST 1048576: true; the input reads as it did. -/
def outboxOwnUptoRow : OpenClaim := { program := "ytmliokbonkndaaa", sum := "4adfc9af3308ef591970440a5cf5296446e16ebd8ed9c03ba6b5e0b1021a0ace", func := "ropewalk/ropewalklaw17.OutboxOwn", spec := "outboxOwn", unfollowed := true, recurses := true, apart := false, narrowed := true }
def OutboxOwnUptoSaid : Prop := outboxOwnUptoRow.holds Try.pinned (OpenSpec.upto outboxOwnSpec)

/-- 'ropewalklaw17.OutboxOnce', WHERE WHAT IT READS IS OF BULK AT MOST 1048576: true; the input reads as it did. -/
def outboxOnceUptoRow : OpenClaim := { program := "ytmliokbonkndaaa", sum := "4adfc9af3308ef591970440a5cf5296446e16ebd8ed9c03ba6b5e0b1021a0ace", func := "ropewalk/ropewalklaw17.OutboxOnce", spec := "outboxOnce", unfollowed := true, recurses := true, apart := false, narrowed := true }
def OutboxOnceUptoSaid : Prop := outboxOnceUptoRow.holds Try.pinned (OpenSpec.upto outboxOnceSpec)

/-- 'ropewalklaw17.OutboxAgain', WHERE WHAT IT READS IS OF BULK AT MOST 1048576: true; the input reads as it did. -/
def outboxAgainUptoRow : OpenClaim := { program := "ytmliokbonkndaaa", sum := "4adfc9af3308ef591970440a5cf5296446e16ebd8ed9c03ba6b5e0b1021a0ace", func := "ropewalk/ropewalklaw17.OutboxAgain", spec := "outboxAgain", unfollowed := true, recurses := true, apart := false, narrowed := true }
def OutboxAgainUptoSaid : Prop := outboxAgainUptoRow.holds Try.pinned (OpenSpec.upto outboxAgainSpec)

/-- 'ropewalklaw17.OutboxRuns', WHERE WHAT IT READS IS OF BULK AT MOST 1048576: true; the input reads as it did. -/
def outboxRunsUptoRow : OpenClaim := { program := "ytmliokbonkndaaa", sum := "4adfc9af3308ef591970440a5cf5296446e16ebd8ed9c03ba6b5e0b1021a0ace", func := "ropewalk/ropewalklaw17.OutboxRuns", spec := "outboxRuns", unfollowed := true, recurses := true, apart := false, narrowed := true }
def OutboxRunsUptoSaid : Prop := outboxRunsUptoRow.holds Try.pinned (OpenSpec.upto outboxRunsSpec)

/-- 'ropewalklaw17.OutboxNobody', WHERE WHAT IT READS IS OF BULK AT MOST 1048576: true; the input reads as it did. -/
def outboxNobodyUptoRow : OpenClaim := { program := "ytmliokbonkndaaa", sum := "4adfc9af3308ef591970440a5cf5296446e16ebd8ed9c03ba6b5e0b1021a0ace", func := "ropewalk/ropewalklaw17.OutboxNobody", spec := "outboxNobody", unfollowed := true, recurses := true, apart := false, narrowed := true }
def OutboxNobodyUptoSaid : Prop := outboxNobodyUptoRow.holds Try.pinned (OpenSpec.upto outboxNobodySpec)

end Rows
end Go.Proofs.Ytmliokbonkndaaa
