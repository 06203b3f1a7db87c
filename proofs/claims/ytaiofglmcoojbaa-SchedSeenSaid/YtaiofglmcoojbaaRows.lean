/-
  No cell of these rows narrows 'for every input' (looked for: loops, veiled, ifaces, maps, wideKeys, modest, calm, conditions, laid).
  DERIVED. THE GIVEN ROWS OF THIS SEAT. 5 by the template 'for every input the law returns true; each argument reads behind the call as it read before'; 0 by the template 'total and deterministic' (their statements: YtaiofglmcoojbaaTotals.lean).
  GIVEN WITH THE SEED: the statements are not yours to turn. If you find one false, say at which input.
  Laid BY PROGRAM, IN A SANDBOX (cutbox-rows.mjs): the forced cells as the released guide's own fill.sh prints them over the translation a98197676bf924ba… (all of the seat's roots in one cut). By AI agents, Wed Nov 11 2026. No macro, syntax, notation, axiom, sorry.
-/
import Derived.Test.YtaiofglmcoojbaaChecked
import GoSem.Claim
import GoSem.ClaimJoined
import GoSem.ClaimMapViews
import Derived.JoinedTies
import Derived.KernelRfl
namespace Go.Proofs.Ytaiofglmcoojbaa
/- THE CELL 'sum', in the pinned program and in every row, IS THE sha256 OF THE DUMP (.gsa) THAT YtaiofglmcoojbaaProg.lean LOADS. Nothing in Lean hashes anything: it is a label: what it is worth is what the hold of that sum in a sandbox is worth. -/
noncomputable def Try.pinned : Pinned := { name := "ytaiofglmcoojbaa", sum := "a98197676bf924ba7db7c8db3074b09ef0fc504df2f3a2adc340eed9b42824d8", checked := Try.checked }
namespace Rows
def none {H : Type} : Left H := { results := [], args := [] }

/-- 'ropewalklaw18.SchedOrders': WHATEVER THE INPUT: true; the input reads as it did. -/
def schedOrdersSpec : ChangeSpec := { name := "schedOrders", fn := fun _ => fun
  | [d1, d2, d3] => { results := [.lit (.bool true)], args := [d1, d2, d3] }
  | _ => none }
def schedOrdersRow : OpenClaim := { program := "ytaiofglmcoojbaa", sum := "a98197676bf924ba7db7c8db3074b09ef0fc504df2f3a2adc340eed9b42824d8", func := "ropewalk/ropewalklaw18.SchedOrders", spec := "schedOrders", unfollowed := true, recurses := true, apart := false }
def SchedOrdersSaid : Prop := schedOrdersRow.holds Try.pinned (OpenSpec.ofChange schedOrdersSpec)

/-- ITS FALSE NEIGHBOUR: 'it returns false'. Refute it at one input. -/
def schedOrdersWrong : ChangeSpec := { name := "schedOrders", fn := fun _ => fun
  | [d1, d2, d3] => { results := [.lit (.bool false)], args := [d1, d2, d3] }
  | _ => none }
def SchedOrdersWrongFalsely : Prop := schedOrdersRow.holds Try.pinned (OpenSpec.ofChange schedOrdersWrong)

/-- 'ropewalklaw18.SchedAgains': WHATEVER THE INPUT: true; the input reads as it did. -/
def schedAgainsSpec : ChangeSpec := { name := "schedAgains", fn := fun _ => fun
  | [d1, d2] => { results := [.lit (.bool true)], args := [d1, d2] }
  | _ => none }
def schedAgainsRow : OpenClaim := { program := "ytaiofglmcoojbaa", sum := "a98197676bf924ba7db7c8db3074b09ef0fc504df2f3a2adc340eed9b42824d8", func := "ropewalk/ropewalklaw18.SchedAgains", spec := "schedAgains", unfollowed := true, recurses := true, apart := false }
def SchedAgainsSaid : Prop := schedAgainsRow.holds Try.pinned (OpenSpec.ofChange schedAgainsSpec)

/-- ITS FALSE NEIGHBOUR: 'it returns false'. Refute it at one input. -/
def schedAgainsWrong : ChangeSpec := { name := "schedAgains", fn := fun _ => fun
  | [d1, d2] => { results := [.lit (.bool false)], args := [d1, d2] }
  | _ => none }
def SchedAgainsWrongFalsely : Prop := schedAgainsRow.holds Try.pinned (OpenSpec.ofChange schedAgainsWrong)

/-- 'ropewalklaw18.SchedBest': WHATEVER THE INPUT: true; the input reads as it did. -/
def schedBestSpec : ChangeSpec := { name := "schedBest", fn := fun _ => fun
  | [d1, d2, d3, d4] => { results := [.lit (.bool true)], args := [d1, d2, d3, d4] }
  | _ => none }
def schedBestRow : OpenClaim := { program := "ytaiofglmcoojbaa", sum := "a98197676bf924ba7db7c8db3074b09ef0fc504df2f3a2adc340eed9b42824d8", func := "ropewalk/ropewalklaw18.SchedBest", spec := "schedBest", unfollowed := true, recurses := true, apart := false }
def SchedBestSaid : Prop := schedBestRow.holds Try.pinned (OpenSpec.ofChange schedBestSpec)

/-- ITS FALSE NEIGHBOUR: 'it returns false'. Refute it at one input. -/
def schedBestWrong : ChangeSpec := { name := "schedBest", fn := fun _ => fun
  | [d1, d2, d3, d4] => { results := [.lit (.bool false)], args := [d1, d2, d3, d4] }
  | _ => none }
def SchedBestWrongFalsely : Prop := schedBestRow.holds Try.pinned (OpenSpec.ofChange schedBestWrong)

/-- 'ropewalklaw18.SchedRounds': WHATEVER THE INPUT: true; the input reads as it did. -/
def schedRoundsSpec : ChangeSpec := { name := "schedRounds", fn := fun _ => fun
  | [d1, d2] => { results := [.lit (.bool true)], args := [d1, d2] }
  | _ => none }
def schedRoundsRow : OpenClaim := { program := "ytaiofglmcoojbaa", sum := "a98197676bf924ba7db7c8db3074b09ef0fc504df2f3a2adc340eed9b42824d8", func := "ropewalk/ropewalklaw18.SchedRounds", spec := "schedRounds", unfollowed := true, recurses := true, apart := false }
def SchedRoundsSaid : Prop := schedRoundsRow.holds Try.pinned (OpenSpec.ofChange schedRoundsSpec)

/-- ITS FALSE NEIGHBOUR: 'it returns false'. Refute it at one input. -/
def schedRoundsWrong : ChangeSpec := { name := "schedRounds", fn := fun _ => fun
  | [d1, d2] => { results := [.lit (.bool false)], args := [d1, d2] }
  | _ => none }
def SchedRoundsWrongFalsely : Prop := schedRoundsRow.holds Try.pinned (OpenSpec.ofChange schedRoundsWrong)

/-- 'ropewalklaw18.SchedSeen': WHATEVER THE INPUT: true; the input reads as it did. -/
def schedSeenSpec : ChangeSpec := { name := "schedSeen", fn := fun _ => fun
  | [d1, d2, d3, d4, d5] => { results := [.lit (.bool true)], args := [d1, d2, d3, d4, d5] }
  | _ => none }
def schedSeenRow : OpenClaim := { program := "ytaiofglmcoojbaa", sum := "a98197676bf924ba7db7c8db3074b09ef0fc504df2f3a2adc340eed9b42824d8", func := "ropewalk/ropewalklaw18.SchedSeen", spec := "schedSeen", unfollowed := true, recurses := true, apart := false }
def SchedSeenSaid : Prop := schedSeenRow.holds Try.pinned (OpenSpec.ofChange schedSeenSpec)

/-- ITS FALSE NEIGHBOUR: 'it returns false'. Refute it at one input. -/
def schedSeenWrong : ChangeSpec := { name := "schedSeen", fn := fun _ => fun
  | [d1, d2, d3, d4, d5] => { results := [.lit (.bool false)], args := [d1, d2, d3, d4, d5] }
  | _ => none }
def SchedSeenWrongFalsely : Prop := schedSeenRow.holds Try.pinned (OpenSpec.ofChange schedSeenWrong)

/- THE SECOND FORM. 'bulk': how many values and letters a reading holds, each counted each time it is reached (what is shared counts as often as it is met; a slice's spare places count too). A statement '..UptoSaid' is the law's where the arguments, and the package variables that the reading takes, are together of bulk at most 1048576: NARROWER than '..Said'. Prove '..Said' where nothing that the law and all that it calls make is longer than what came in: it says more and counts as full. Else prove '..UptoSaid'. A law counts once. -/
mutual
def uptoBulk {H : Type} : DataW H → Nat
  | .lit (.string bytes) => bytes.length + 1
  | .lit _ => 1
  | .nil => 1
  | .ptr d => uptoBulk d + 1
  | .slice elems spare => uptoBulkAll elems + uptoBulkAll spare + 1
  | .agg parts => uptoBulkAll parts + 1
  | .iface _ d => uptoBulk d + 1
  | .map entries => uptoBulkEntries entries + 1
  | .held _ => 1
def uptoBulkAll {H : Type} : List (DataW H) → Nat
  | [] => 0
  | d :: r => uptoBulk d + uptoBulkAll r
def uptoBulkEntries {H : Type} : List (Lit × DataW H) → Nat
  | [] => 0
  | x :: r => uptoBulkEntry x + uptoBulkEntries r
def uptoBulkEntry {H : Type} : Lit × DataW H → Nat
  | (.string bytes, d) => bytes.length + uptoBulk d + 1
  | (_, d) => uptoBulk d + 1
 end
def uptoSmall : (H : Type) → List (DataW H) → Bool := fun _ ds => decide (uptoBulkAll ds ≤ 1048576)
def OpenSpec.upto (s : _root_.Go.ChangeSpec) : _root_.Go.OpenSpec := { _root_.Go.OpenSpec.ofChange s with cond := some uptoSmall }

/-- 'ropewalklaw18.SchedOrders', WHERE WHAT IT READS IS OF BULK AT MOST 1048576: true; the input reads as it did. -/
def schedOrdersUptoRow : OpenClaim := { program := "ytaiofglmcoojbaa", sum := "a98197676bf924ba7db7c8db3074b09ef0fc504df2f3a2adc340eed9b42824d8", func := "ropewalk/ropewalklaw18.SchedOrders", spec := "schedOrders", unfollowed := true, recurses := true, apart := false, narrowed := true }
def SchedOrdersUptoSaid : Prop := schedOrdersUptoRow.holds Try.pinned (OpenSpec.upto schedOrdersSpec)

/-- 'ropewalklaw18.SchedAgains', WHERE WHAT IT READS IS OF BULK AT MOST 1048576: true; the input reads as it did. -/
def schedAgainsUptoRow : OpenClaim := { program := "ytaiofglmcoojbaa", sum := "a98197676bf924ba7db7c8db3074b09ef0fc504df2f3a2adc340eed9b42824d8", func := "ropewalk/ropewalklaw18.SchedAgains", spec := "schedAgains", unfollowed := true, recurses := true, apart := false, narrowed := true }
def SchedAgainsUptoSaid : Prop := schedAgainsUptoRow.holds Try.pinned (OpenSpec.upto schedAgainsSpec)

/-- 'ropewalklaw18.SchedBest', WHERE WHAT IT READS IS OF BULK AT MOST 1048576: true; the input reads as it did. -/
def schedBestUptoRow : OpenClaim := { program := "ytaiofglmcoojbaa", sum := "a98197676bf924ba7db7c8db3074b09ef0fc504df2f3a2adc340eed9b42824d8", func := "ropewalk/ropewalklaw18.SchedBest", spec := "schedBest", unfollowed := true, recurses := true, apart := false, narrowed := true }
def SchedBestUptoSaid : Prop := schedBestUptoRow.holds Try.pinned (OpenSpec.upto schedBestSpec)

/-- 'ropewalklaw18.SchedRounds', WHERE WHAT IT READS IS OF BULK AT MOST 1048576: true; the input reads as it did. -/
def schedRoundsUptoRow : OpenClaim := { program := "ytaiofglmcoojbaa", sum := "a98197676bf924ba7db7c8db3074b09ef0fc504df2f3a2adc340eed9b42824d8", func := "ropewalk/ropewalklaw18.SchedRounds", spec := "schedRounds", unfollowed := true, recurses := true, apart := false, narrowed := true }
def SchedRoundsUptoSaid : Prop := schedRoundsUptoRow.holds Try.pinned (OpenSpec.upto schedRoundsSpec)

/-- 'ropewalklaw18.SchedSeen', WHERE WHAT IT READS IS OF BULK AT MOST 1048576: true; the input reads as it did. -/
def schedSeenUptoRow : OpenClaim := { program := "ytaiofglmcoojbaa", sum := "a98197676bf924ba7db7c8db3074b09ef0fc504df2f3a2adc340eed9b42824d8", func := "ropewalk/ropewalklaw18.SchedSeen", spec := "schedSeen", unfollowed := true, recurses := true, apart := false, narrowed := true }
def SchedSeenUptoSaid : Prop := schedSeenUptoRow.holds Try.pinned (OpenSpec.upto schedSeenSpec)

end Rows
end Go.Proofs.Ytaiofglmcoojbaa
