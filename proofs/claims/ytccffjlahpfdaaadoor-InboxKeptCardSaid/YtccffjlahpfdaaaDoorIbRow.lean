/- Own text: part of the shallow reading of the code and of the contracts that are proved over it. -/
import Derived.Test.YtccffjlahpfdaaaDoorIbN
import Derived.Test.YtccffjlahpfdaaaDoorShY
import Derived.Test.YtccffjlahpfdaaaDoorRows
import Derived.Test.YtccffjlahpfdaaaDoorTie
import Derived.Test.YtccffjlahpfdaaaDoorCards
import Derived.ProofKit
import Derived.LaidMore
import Derived.OpenShut
import Derived.Stop.Joined
namespace Go.Proofs.YtccffjlahpfdaaaDoor
open Go Go.Sh Go.Sp
open Go.ChangeShapes Go.WideShapes Go.ChangeAt Go.WideMaps Go.WideElems Go.RowKit
theorem own : ownKnob Tryd.prog.godebug = none := by kernel_rfl
theorem laidOut : laidOutB Tryd.prog = true := by kernel_rfl
theorem gTab : Tryd.prog.globalNamed "math/bits.deBruijn64tab" = some 0 := by kernel_rfl
theorem tTab : (Tryd.prog.globals[0]?).map (·.type) = some 114 := by kernel_rfl
theorem u114 : Tryd.prog.underlying 114 = some (.array 64 5) := by kernel_rfl
theorem u5 : Tryd.prog.underlying 5 = some (.int .u8) := by kernel_rfl
theorem z5 : Tryd.prog.cellsOf 5 = 1 := by kernel_rfl
theorem z114 : Tryd.prog.cellsOf 114 = 64 := by kernel_rfl
theorem laid_eq : (Rows.laid_math_bits_deBruijn64tab : DataW Unit) = .agg (tabL.map fun (n : Nat) => .lit (.int .u8 (n : Int))) := by kernel_rfl
theorem door_met (os : Os) (args : Array Value) : laidMetH Tryd.prog Rows.inboxRunsRow.laid ((World.doorLaid Tryd.prog 400 os).forCall (fun _ _ => 0) ⟨#[], args, []⟩).memory :=
  laidMetH_of_parts3 (fuel := 8) (laidMet_of_run' 8 (by kernel_rfl) (by kernel_rfl)) (by kernel_rfl) (by kernel_rfl)
theorem of_laid {W : World} (h : laidMetH Tryd.prog Rows.inboxRunsRow.laid W) : TB W := by
  rw [MakeChecks.laidMetH_plain _ _ _ (by kernel_rfl)] at h
  obtain ⟨ps, ⟨g0, t0, cs0, f0, p0, q0, hg0, ht0, hv0, hd0, _⟩, _⟩ := h
  obtain rfl := Option.some.inj (gTab.symm.trans hg0)
  obtain rfl := Option.some.inj (tTab.symm.trans ht0)
  obtain ⟨xs, m, rfl, hx, hlen, hn, hel⟩ := DataW.trod_array u114 hd0
  rw [z114] at hlen
  rw [z5] at hel
  have hv : ∃ T z, W.heap[0]? = some (.cells cs0 T z) := by
    unfold World.var? at hv0
    rw [gTab] at hv0
    simp only [Option.bind_some] at hv0
    split at hv0
    · rename_i cs T z e
      cases hv0
      exact ⟨T, z, e⟩
    · cases hv0
  obtain ⟨T, z, hT⟩ := hv
  refine ⟨T, z, ?_⟩
  rw [hT]
  have : cs0 = tabV := by
    apply Array.toList_inj.1
    apply List.ext_getElem?
    intro i
    rcases Nat.lt_or_ge i 64 with hi | hi
    · have h1 := hel i hi
      simp only [Nat.mul_one] at h1
      have hci : i < cs0.toList.length := by omega
      have e1 : (cs0.toList.drop i).take 1 = [cs0.toList[i]] := by
        rw [List.drop_eq_getElem_cons hci]
        rfl
      rw [e1] at h1
      obtain ⟨y, hy⟩ : ∃ y, xs[i]? = some y := ⟨xs[i]'(by omega), by simp⟩
      rw [hy] at h1
      obtain ⟨k, e2, e3, _⟩ := DataW.trod_int u5 h1
      simp only [List.cons.injEq, and_true] at e2
      rw [List.getElem?_eq_getElem hci, e2]
      simp only [Prod.mk.injEq] at hx
      have hx1 := hx.1
      rw [laid_eq, DataW.agg.injEq] at hx1
      have h2 := congrArg (·[i]?) hx1
      simp only [List.getElem?_map, hy, Option.map_some, e3] at h2
      obtain ⟨t, ht⟩ : ∃ t, tabL[i]? = some t := ⟨tabL[i]'(by simp [tabL]; omega), by simp⟩
      rw [ht] at h2
      simp only [Option.map_some, Option.some.injEq, DataW.lit.injEq, Lit.int.injEq, true_and] at h2
      simp only [tabV, List.getElem?_map, ht, Option.map_some, ← h2]
    · rw [List.getElem?_eq_none (by omega), List.getElem?_eq_none (by simp [tabV, tabL]; omega)]
  rw [this]
theorem u4 : Tryd.prog.underlying 4 = some .bool := by kernel_rfl
theorem u22 : Tryd.prog.underlying 22 = some (.int .u32) := by kernel_rfl
theorem u24 : Tryd.prog.underlying 24 = some (.int .u16) := by kernel_rfl
theorem u3' : Tryd.prog.underlying 3 = some (.int .i64) := by kernel_rfl
theorem z3' : Tryd.prog.cellsOf 3 = 1 := by kernel_rfl
theorem z22 : Tryd.prog.cellsOf 22 = 1 := by kernel_rfl
theorem z34 : Tryd.prog.cellsOf 34 = 1 := by kernel_rfl
theorem u34 : Tryd.prog.underlying 34 = some (.slice 22) := by kernel_rfl
theorem y22 : Tryd.prog.bytesOf 22 = 4 := by kernel_rfl
theorem u_r : Tryd.prog.underlying 23 = some (.slice 48) := by kernel_rfl
theorem z_r : Tryd.prog.cellsOf 48 = 3 := by kernel_rfl
theorem s48 : structIs Tryd.prog 48 [(3, 0), (34, 1), (3, 2)] = true := by kernel_rfl
set_option maxRecDepth 100000 in
theorem q_r {H : Type} {enc : TypeId × Value → H} {w : World} (n : Nat) (cs : List Value) (x : DataW H × List MemPlace) (hl : cs.length = 3) (h : DataW.trod enc Tryd.prog w 0 (fun _ => true) true n 48 cs = some x) (hw : light Tryd.prog 48 x.1) : ∃ q : OpB, cs = opB q ∧ OpOk w q := by
  obtain ⟨m, hf⟩ := fld_of2 s48 h hw
  match cs, hl with
  | [c0, c1, c2], _ =>
    obtain ⟨y0, h0, _⟩ := hf 0 3 0 rfl
    obtain ⟨y1, h1, l1⟩ := hf 1 34 1 rfl
    obtain ⟨y2, h2, _⟩ := hf 2 3 2 rfl
    rw [z3'] at h0 h2
    rw [z34] at h1
    obtain ⟨k0, e0, _, _⟩ := DataW.trod_int u3' h0
    obtain ⟨k2, e2, _, _⟩ := DataW.trod_int u3' h2
    obtain ⟨a, X, c, e1, _, _, hn, hr, hX, hs⟩ := ints_open u34 u22 z22 h1
    simp at e0 e1 e2
    subst e0; subst e1; subst e2
    refine ⟨⟨⟨k0, X, k2⟩, a, c⟩, rfl, hr, fun y hy => wf_u32 (hX y hy), ?_⟩
    rcases hs with rfl | ⟨es, sp, e, hle⟩
    · simp
    · rw [e] at l1
      have := light_len u34 l1
      rw [y22] at this
      unfold reachBytes at this
      simp only
      omega
end Go.Proofs.YtccffjlahpfdaaaDoor
