/-
  Chunks handed in, a slice of them.
-/
import Derived.Test.YtaflmpbeonoilaaRmRow
import Derived.Test.YtaflmpbeonoilaaRmW
namespace Go.Proofs.Ytaflmpbeonoilaa
open Go Go.Sh
open Go.ChangeShapes Go.WideShapes Go.ChangeAt Go.WideMaps Go.WideElems Go.RowKit
set_option maxRecDepth 100000
section
variable {H : Type} {enc : TypeId × Value → H} {w : World}
theorem chunks_in {r : Reach} {b0 : Nat} {v : Value} {d : DataW H} {ps : List MemPlace} (hval : Value.okWide Try.prog w r b0 45 v) (h : DataW.Trod enc Try.prog w 0 (fun _ => true) true 45 v d ps) :
    ∃ a c, ∃ cs : List (R35 × List Int), v = .slice a cs.length c ∧ cs.length ≤ 9223372036854775807 ∧ Rd w a (cs.flatMap fun e => e.1.l) ∧ ∀ e ∈ cs, CsOk w e := by
  obtain ⟨a, rows, c, rfl, hc, hm, hr, hQ⟩ := recs_in (sz := 15) (Q := fun r => ∃ e : R35 × List Int, r = e.1.l ∧ CsOk w e) (by decide) Row.u45 Row.c36 hval (fun n cs x hl h => by
    obtain ⟨s, b, e1, hk⟩ := chunk_open hl h
    exact ⟨(s, b), e1, hk.rd, hk.len, hk.ck⟩) h
  obtain ⟨cs, hl, hfl, hok⟩ := recs_of rows fun r hr => (hQ r hr).2
  rw [hfl] at hr
  exact ⟨a, c, cs, by rw [hl], by unfold maxLen at hm; omega, hr, hok⟩
end
end Go.Proofs.Ytaflmpbeonoilaa
namespace Go.Proofs.Ytaflmpbeonoilaa
open Go Go.Sh
open Go.ChangeShapes Go.WideShapes Go.ChangeAt Go.WideMaps Go.WideElems Go.RowKit
open Row

namespace Row4
theorem func4 : Try.prog.funcs[4]? = some Try.f4 := by kernel_rfl
theorem params4 : Try.f4.params.toList = [45] := by kernel_rfl
set_option maxRecDepth 100000 in
theorem lifted4 (os : Os) (started : os.Started) (H : Type) (enc : TypeId × Value → H) :
    ReturnsInHanded {} Try.checked os 4 .any (Rows.reasmOrdersSpec.pre6 enc Try.prog Try.f4 Rows.reasmOrdersRow.domain false) (Rows.reasmOrdersSpec.post enc Try.prog Try.f4 false true false false) := by
  refine returnsInHanded_of_change (C := Try.checked) own started (by kernel_rfl) func4
    (ChangeSpec.witness6 (enc := enc) (C := Try.checked) false ⟨#[], #[.slice none 0 0], []⟩ 8 (by kernel_rfl) (by kernel_rfl) (by kernel_rfl) (by kernel_rfl)) ?_
  intro W base args ds gs before hval0 hW _ _
  have hval : ∀ (j : Nat) t v, Try.f4.params[j]? = some t → args[j]? = some v → Value.okWide Try.prog W .any base t v := hval0
  have hW' := hW
  obtain ⟨p, q, hA0, hV, rfl, hfz, hnd⟩ := hW
  have hA : DataW.TrodAll enc Try.prog W 0 (fun _ => true) true Try.f4.params.toList args.toList ds p := hA0
  rw [params4] at hA
  obtain ⟨v0, d0, rfl, rfl, h0⟩ := trodAll_one hA
  obtain ⟨rfl, rfl⟩ := trodVars_none hV
  clear hA0 hval0
  have hlt0 : ∀ x ∈ p, x.block < W.heap.size := fun x hx => by simpa using hW'.lt x (by simp [hx])
  have h0k := h0
  obtain ⟨a0, c0, cs0, rfl, hl0, hr0, ok0⟩ := chunks_in (hval 0 45 v0 (by kernel_rfl) rfl) h0
  have key := c4 (xc := c0) hr0 ok0 hl0
  refine key.mono fun e W' ⟨v, he, hv, hf⟩ => ?_
  subst he; subst hv
  have hbelow : Below W.heap.size W W' := hf.below (Nat.le_refl _) fun _ x => x.elim
  refine ⟨_, rfl, _, _, _, [], p, [], hW', ?_, ?_, rfl, hbelow.frame _, fun h => by cases h⟩
  · exact trodAll_mk1 (shut_bool u4 _)
  · exact trodAll_mk1 (Below.trod laidOut (by kernel_rfl) (of_decide_eq_true (by kernel_rfl)) h0k hbelow hlt0)
end Row4
theorem reasmOrders_holds : Rows.ReasmOrdersSaid :=
  OpenClaim.holds_of_wide 4 Try.f4 rfl rfl rfl rfl rfl rfl rfl ⟨rfl, rfl, rfl, rfl, rfl⟩ rfl rfl rfl rfl rfl (by kernel_rfl) Row4.func4 (by kernel_rfl)
    (of_decide_eq_true (by kernel_rfl)) (by unfold Func.isWrapper; first | (rw [if_pos (by decide +kernel)]; kernel_rfl) | (rw [if_neg (by decide +kernel)]; exact ⟨rfl, rfl⟩))
    (fun os started H enc _ => Row4.lifted4 os started H enc)
#print axioms reasmOrders_holds
end Go.Proofs.Ytaflmpbeonoilaa
