/-
  What is handed in, opened.
-/
import Derived.Test.YtdagfdejjfobhaaTmQ
import Derived.Test.YtdagfdejjfobhaaShW
import Derived.Test.YtdagfdejjfobhaaRows
import Derived.ProofKit
namespace Go.Proofs.Ytdagfdejjfobhaa
open Go Go.Sh Go.Tm
open Go.ChangeShapes Go.WideShapes Go.ChangeAt Go.WideMaps Go.WideElems Go.RowKit
namespace Row
theorem own : ownKnob Try.prog.godebug = none := by kernel_rfl
theorem laidOut : laidOutB Try.prog = true := by kernel_rfl
theorem u4 : Try.prog.underlying 4 = some .bool := by kernel_rfl
theorem u22 : Try.prog.underlying 22 = some (.slice 30) := by kernel_rfl
theorem u23 : Try.prog.underlying 23 = some (.slice 3) := by kernel_rfl
theorem u37 : Try.prog.underlying 37 = some (.slice 39) := by kernel_rfl
theorem z30 : Try.prog.cellsOf 30 = 2 := by kernel_rfl
theorem z39 : Try.prog.cellsOf 39 = 3 := by kernel_rfl
theorem z3 : Try.prog.cellsOf 3 = 1 := by kernel_rfl
theorem s30 : structIs Try.prog 30 [(3, 0), (3, 1)] = true := by kernel_rfl
theorem s39 : structIs Try.prog 39 [(3, 0), (3, 1), (3, 2)] = true := by kernel_rfl
end Row
open Row
section
variable {H : Type} {enc : TypeId × Value → H} {w : World}
theorem q_op (n : Nat) (cs : List Value) (x : DataW H × List MemPlace) (hl : cs.length = 3) (h : DataW.trod enc Try.prog w 0 (fun _ => true) true n 39 cs = some x) : ∃ o : R38, cs = o.l ∧ True := by
  obtain ⟨m, hf⟩ := fld_of s39 h
  match cs, hl with
  | [c0, c1, c2], _ =>
    obtain ⟨y0, h0⟩ := hf 0 3 0 rfl
    obtain ⟨y1, h1⟩ := hf 1 3 1 rfl
    obtain ⟨y2, h2⟩ := hf 2 3 2 rfl
    rw [z3] at h0 h1 h2
    obtain ⟨k0, e0, _, _⟩ := DataW.trod_int u3 h0
    obtain ⟨k1, e1, _, _⟩ := DataW.trod_int u3 h1
    obtain ⟨k2, e2, _, _⟩ := DataW.trod_int u3 h2
    simp at e0 e1 e2
    subst e0; subst e1; subst e2
    exact ⟨⟨k0, k1, k2⟩, rfl, trivial⟩
theorem q_due (n : Nat) (cs : List Value) (x : DataW H × List MemPlace) (hl : cs.length = 2) (h : DataW.trod enc Try.prog w 0 (fun _ => true) true n 30 cs = some x) : ∃ d : Du, cs = du d ∧ True := by
  obtain ⟨m, hf⟩ := fld_of s30 h
  match cs, hl with
  | [c0, c1], _ =>
    obtain ⟨y0, h0⟩ := hf 0 3 0 rfl
    obtain ⟨y1, h1⟩ := hf 1 3 1 rfl
    rw [z3] at h0 h1
    obtain ⟨k0, e0, _, _⟩ := DataW.trod_int u3 h0
    obtain ⟨k1, e1, _, _⟩ := DataW.trod_int u3 h1
    simp at e0 e1
    subst e0; subst e1
    exact ⟨(k0, k1), rfl, trivial⟩
theorem ops_in {r : Reach} {b0 : Nat} {v : Value} {d : DataW H} {ps : List MemPlace} (hval : Value.okWide Try.prog w r b0 37 v) (h : DataW.Trod enc Try.prog w 0 (fun _ => true) true 37 v d ps) :
    ∃ a c, ∃ os : List R38, v = .slice a os.length c ∧ os.length ≤ 9223372036854775807 ∧ Rd w a (os.flatMap R38.l) := by
  obtain ⟨a, rows, c, rfl, hc, hm, hr, hQ⟩ := recs_in (sz := 3) (by decide) u37 z39 hval q_op h
  obtain ⟨os, hl, hfl, _⟩ := recs_of rows fun r hr => (hQ r hr).2
  rw [hfl] at hr
  exact ⟨a, c, os, by rw [hl], by unfold maxLen at hm; omega, hr⟩
theorem dues_in {r : Reach} {b0 : Nat} {v : Value} {d : DataW H} {ps : List MemPlace} (hval : Value.okWide Try.prog w r b0 22 v) (h : DataW.Trod enc Try.prog w 0 (fun _ => true) true 22 v d ps) :
    ∃ a c, ∃ X : List Du, v = .slice a X.length c ∧ X.length ≤ 9223372036854775807 ∧ Rd w a (duV X) := by
  obtain ⟨a, rows, c, rfl, hc, hm, hr, hQ⟩ := recs_in (sz := 2) (by decide) u22 z30 hval q_due h
  obtain ⟨X, hl, hfl, _⟩ := recs_of rows fun r hr => (hQ r hr).2
  rw [hfl] at hr
  exact ⟨a, c, X, by rw [hl], by unfold maxLen at hm; omega, hr⟩
theorem nums_in {r : Reach} {b0 : Nat} {v : Value} {d : DataW H} {ps : List MemPlace} (hval : Value.okWide Try.prog w r b0 23 v) (h : DataW.Trod enc Try.prog w 0 (fun _ => true) true 23 v d ps) :
    ∃ a c, ∃ X : List Int, v = .slice a X.length c ∧ X.length ≤ 9223372036854775807 ∧ Rd w a (iV X) := by
  obtain ⟨a, X, c, rfl, hc, hm, hr, _⟩ := ints_in u23 u3 z3 hval h
  exact ⟨a, c, X, rfl, by unfold maxLen at hm; omega, hr⟩
theorem op_in {r : Reach} {b0 : Nat} {v : Value} {d : DataW H} {ps : List MemPlace} (hval : Value.okWide Try.prog w r b0 39 v) (h : DataW.Trod enc Try.prog w 0 (fun _ => true) true 39 v d ps) : ∃ o : R38, v = o.v := by
  obtain ⟨fs, hu, _⟩ := struct_of s39
  obtain ⟨cs, rfl, hsz⟩ := okWide_struct hu hval
  rw [z39] at hsz
  obtain ⟨fuel, hf⟩ := h
  obtain ⟨o, ho, _⟩ := q_op (w := w) (enc := enc) fuel cs.toList (d, ps) (by simpa using hsz) hf
  refine ⟨o, ?_⟩
  unfold R38.v
  congr 1
  apply Array.toList_inj.1
  rw [ho]
  rfl
end
end Go.Proofs.Ytdagfdejjfobhaa
