/- What is proved: NetRuns and NetTells of the given program return true for every input; each argument reads behind the call as it read before. Conditions: none. -/
import Derived.Test.YtnmgdeimngcbgaaNuE
import Derived.Test.YtnmgdeimngcbgaaShW
import Derived.Test.YtnmgdeimngcbgaaRows
import Derived.ProofKit
namespace Go.Proofs.Ytnmgdeimngcbgaa
open Go Go.Sh
open Go.ChangeShapes Go.WideShapes Go.ChangeAt Go.WideMaps Go.WideElems Go.RowKit

namespace Row5
theorem own : ownKnob Try.prog.godebug = none := by kernel_rfl
theorem laidOut : laidOutB Try.prog = true := by kernel_rfl
theorem u4 : Try.prog.underlying 4 = some .bool := by kernel_rfl
theorem u3 : Try.prog.underlying 3 = some (.int .i64) := by kernel_rfl
theorem u22 : Try.prog.underlying 22 = some (.slice 32) := by kernel_rfl
theorem z32 : Try.prog.cellsOf 32 = 8 := by kernel_rfl
theorem z3 : Try.prog.cellsOf 3 = 1 := by kernel_rfl
theorem z5 : Try.prog.cellsOf 5 = 1 := by kernel_rfl
theorem z23 : Try.prog.cellsOf 23 = 1 := by kernel_rfl
theorem s32 : structIs Try.prog 32 [(3, 0), (3, 1), (3, 2), (3, 3), (3, 4), (3, 5), (5, 6), (23, 7)] = true := by kernel_rfl
set_option maxRecDepth 100000 in
theorem q32 {H : Type} {enc : TypeId × Value → H} {w : World} (n : Nat) (cs : List Value) (x : DataW H × List MemPlace) (hl : cs.length = 8) (h : DataW.trod enc Try.prog w 0 (fun _ => true) true n 32 cs = some x) : ∃ q : OpA, cs = opAV q ∧ OpOk w q := by
  obtain ⟨m, hf⟩ := fld_of s32 h
  match cs, hl with
  | [c0, c1, c2, c3, c4, c5, c6, c7], _ =>
    obtain ⟨y0, h0⟩ := hf 0 3 0 rfl
    obtain ⟨y1, h1⟩ := hf 1 3 1 rfl
    obtain ⟨y2, h2⟩ := hf 2 3 2 rfl
    obtain ⟨y3, h3⟩ := hf 3 3 3 rfl
    obtain ⟨y4, h4⟩ := hf 4 3 4 rfl
    obtain ⟨y5, h5⟩ := hf 5 3 5 rfl
    obtain ⟨y6, h6⟩ := hf 6 5 6 rfl
    obtain ⟨y7, h7⟩ := hf 7 23 7 rfl
    rw [z3] at h0 h1 h2 h3 h4 h5
    rw [z5] at h6
    rw [z23] at h7
    obtain ⟨k0, e0, _, w0⟩ := DataW.trod_int u3 h0
    obtain ⟨k1, e1, _, w1⟩ := DataW.trod_int u3 h1
    obtain ⟨k2, e2, _, w2⟩ := DataW.trod_int u3 h2
    obtain ⟨k3, e3, _, w3⟩ := DataW.trod_int u3 h3
    obtain ⟨k4, e4, _, w4⟩ := DataW.trod_int u3 h4
    obtain ⟨k5, e5, _, w5⟩ := DataW.trod_int u3 h5
    obtain ⟨k6, e6, _, w6⟩ := DataW.trod_int u5 h6
    obtain ⟨a, X, c, e7, _, _, hn, hr, hX, _⟩ := ints_open u23 u5 z5 h7
    simp at e0 e1 e2 e3 e4 e5 e6 e7
    subst e0; subst e1; subst e2; subst e3; subst e4; subst e5; subst e6; subst e7
    exact ⟨⟨⟨k0, k1, k2, k3, k4, k5, k6, X⟩, a, c⟩, rfl, hn, hr, fun x hx => wf_u8 (hX x hx)⟩
theorem func5 : Try.prog.funcs[5]? = some Try.f5 := by kernel_rfl
theorem params5 : Try.f5.params.toList = [3, 22] := by kernel_rfl
theorem func4 : Try.prog.funcs[4]? = some Try.f4 := by kernel_rfl
theorem params4 : Try.f4.params.toList = [3, 22] := by kernel_rfl
set_option maxRecDepth 100000 in
theorem lifted5 (os : Os) (started : os.Started) (H : Type) (enc : TypeId × Value → H) :
    ReturnsInHanded {} Try.checked os 5 .any (Rows.netRunsSpec.pre6 enc Try.prog Try.f5 Rows.netRunsRow.domain false) (Rows.netRunsSpec.post enc Try.prog Try.f5 false true false false) := by
  refine returnsInHanded_of_change (C := Try.checked) own started (by kernel_rfl) func5
    (ChangeSpec.witness6 (enc := enc) (C := Try.checked) false ⟨#[], #[.int .i64 0, .slice none 0 0], []⟩ 8 (by kernel_rfl) (by kernel_rfl) (by kernel_rfl) (by kernel_rfl)) ?_
  intro W base args ds gs before hval0 hW _ _
  have hval : ∀ (j : Nat) t v, Try.f5.params[j]? = some t → args[j]? = some v → Value.okWide Try.prog W .any base t v := hval0
  have hW' := hW
  obtain ⟨p, q, hA0, hV, rfl, hfz, hnd⟩ := hW
  have hA : DataW.TrodAll enc Try.prog W 0 (fun _ => true) true Try.f5.params.toList args.toList ds p := hA0
  rw [params5] at hA
  obtain ⟨v0, v1, d0, d1, p0, p1, rfl, rfl, rfl, h0, h1⟩ := trodAll_two hA
  obtain ⟨rfl, rfl⟩ := trodVars_none hV
  clear hA0 hval0
  have hlt0 : ∀ x ∈ p0, x.block < W.heap.size := fun x hx => by simpa using hW'.lt x (by simp [hx])
  have hlt1 : ∀ x ∈ p1, x.block < W.heap.size := fun x hx => by simpa using hW'.lt x (by simp [hx])
  have h0k := h0
  obtain ⟨m, rfl, rfl, rfl, hm⟩ := open_int u3 (hval 0 3 v0 (by kernel_rfl) rfl) h0
  obtain ⟨a, rows, c, rfl, hc, hml, hr, hQ⟩ := recs_in (sz := 8) (by decide) u22 z32 (hval 1 22 v1 (by kernel_rfl) rfl) q32 h1
  obtain ⟨ops, hl, hfl, hops⟩ := recs_of rows fun r hr => (hQ r hr).2
  rw [hfl] at hr
  have key := c5 (sc := c) m (wf_i64 hm) hr hops (by omega)
  rw [hl] at key
  refine key.mono fun e W' ⟨v, he, hv, hf⟩ => ?_
  subst he; subst hv
  have hbelow : Below W.heap.size W W' := hf.below (Nat.le_refl _) fun _ x => x.elim
  refine ⟨_, rfl, _, _, _, [], [] ++ p1, [], hW', ?_, ?_, rfl, hbelow.frame _, fun h => by cases h⟩
  · exact trodAll_mk1 (shut_bool u4 _)
  · exact trodAll_mk2 (Below.trod laidOut (by kernel_rfl) (of_decide_eq_true (by kernel_rfl)) h0k hbelow hlt0) (Below.trod laidOut (by kernel_rfl) (of_decide_eq_true (by kernel_rfl)) h1 hbelow hlt1)
set_option maxRecDepth 100000 in
theorem lifted4 (os : Os) (started : os.Started) (H : Type) (enc : TypeId × Value → H) :
    ReturnsInHanded {} Try.checked os 4 .any (Rows.netTellsSpec.pre6 enc Try.prog Try.f4 Rows.netTellsRow.domain false) (Rows.netTellsSpec.post enc Try.prog Try.f4 false true false false) := by
  refine returnsInHanded_of_change (C := Try.checked) own started (by kernel_rfl) func4
    (ChangeSpec.witness6 (enc := enc) (C := Try.checked) false ⟨#[], #[.int .i64 0, .slice none 0 0], []⟩ 8 (by kernel_rfl) (by kernel_rfl) (by kernel_rfl) (by kernel_rfl)) ?_
  intro W base args ds gs before hval0 hW _ _
  have hval : ∀ (j : Nat) t v, Try.f4.params[j]? = some t → args[j]? = some v → Value.okWide Try.prog W .any base t v := hval0
  have hW' := hW
  obtain ⟨p, q, hA0, hV, rfl, hfz, hnd⟩ := hW
  have hA : DataW.TrodAll enc Try.prog W 0 (fun _ => true) true Try.f4.params.toList args.toList ds p := hA0
  rw [params4] at hA
  obtain ⟨v0, v1, d0, d1, p0, p1, rfl, rfl, rfl, h0, h1⟩ := trodAll_two hA
  obtain ⟨rfl, rfl⟩ := trodVars_none hV
  clear hA0 hval0
  have hlt0 : ∀ x ∈ p0, x.block < W.heap.size := fun x hx => by simpa using hW'.lt x (by simp [hx])
  have hlt1 : ∀ x ∈ p1, x.block < W.heap.size := fun x hx => by simpa using hW'.lt x (by simp [hx])
  have h0k := h0
  obtain ⟨m, rfl, rfl, rfl, hm⟩ := open_int u3 (hval 0 3 v0 (by kernel_rfl) rfl) h0
  obtain ⟨a, rows, c, rfl, hc, hml, hr, hQ⟩ := recs_in (sz := 8) (by decide) u22 z32 (hval 1 22 v1 (by kernel_rfl) rfl) q32 h1
  obtain ⟨ops, hl, hfl, hops⟩ := recs_of rows fun r hr => (hQ r hr).2
  rw [hfl] at hr
  have key := c4 (sc := c) m (wf_i64 hm) hr hops (by omega)
  rw [hl] at key
  refine key.mono fun e W' ⟨v, he, hv, hf⟩ => ?_
  subst he; subst hv
  have hbelow : Below W.heap.size W W' := hf.below (Nat.le_refl _) fun _ x => x.elim
  refine ⟨_, rfl, _, _, _, [], [] ++ p1, [], hW', ?_, ?_, rfl, hbelow.frame _, fun h => by cases h⟩
  · exact trodAll_mk1 (shut_bool u4 _)
  · exact trodAll_mk2 (Below.trod laidOut (by kernel_rfl) (of_decide_eq_true (by kernel_rfl)) h0k hbelow hlt0) (Below.trod laidOut (by kernel_rfl) (of_decide_eq_true (by kernel_rfl)) h1 hbelow hlt1)
end Row5
open Row5
theorem netRuns_holds : Rows.NetRunsSaid :=
  OpenClaim.holds_of_wide 5 Try.f5 rfl rfl rfl rfl rfl rfl rfl ⟨rfl, rfl, rfl, rfl, rfl⟩ rfl rfl rfl rfl rfl (by kernel_rfl) func5 (by kernel_rfl)
    (of_decide_eq_true (by kernel_rfl)) (by unfold Func.isWrapper; first | (rw [if_pos (by decide +kernel)]; kernel_rfl) | (rw [if_neg (by decide +kernel)]; exact ⟨rfl, rfl⟩))
    (fun os started H enc _ => lifted5 os started H enc)
theorem netTells_holds : Rows.NetTellsSaid :=
  OpenClaim.holds_of_wide 4 Try.f4 rfl rfl rfl rfl rfl rfl rfl ⟨rfl, rfl, rfl, rfl, rfl⟩ rfl rfl rfl rfl rfl (by kernel_rfl) func4 (by kernel_rfl)
    (of_decide_eq_true (by kernel_rfl)) (by unfold Func.isWrapper; first | (rw [if_pos (by decide +kernel)]; kernel_rfl) | (rw [if_neg (by decide +kernel)]; exact ⟨rfl, rfl⟩))
    (fun os started H enc _ => lifted4 os started H enc)
#print axioms netRuns_holds
#print axioms netTells_holds
end Go.Proofs.Ytnmgdeimngcbgaa
