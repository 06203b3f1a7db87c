/- What is proved: the laws named below return true for every input; each argument reads behind the call as it read before. Conditions: none. -/
import Derived.Test.YtmliokbonkndaaaObP
import Derived.Test.YtmliokbonkndaaaObRow
namespace Go.Proofs.Ytmliokbonkndaaa
open Go Go.Sh
open Go.ChangeShapes Go.WideShapes Go.ChangeAt Go.WideMaps Go.WideElems Go.RowKit
open Row

namespace Row4
theorem func4 : Try.prog.funcs[4]? = some Try.f4 := by kernel_rfl
theorem params4 : Try.f4.params.toList = [22, 23] := by kernel_rfl
set_option maxRecDepth 100000 in
theorem lifted4 (os : Os) (started : os.Started) (H : Type) (enc : TypeId × Value → H) :
    ReturnsInHanded {} Try.checked os 4 .any (Rows.outboxOwnSpec.pre6 enc Try.prog Try.f4 Rows.outboxOwnRow.domain false) (Rows.outboxOwnSpec.post enc Try.prog Try.f4 false true false false) := by
  refine returnsInHanded_of_change_sized (C := Try.checked) own started (by kernel_rfl) func4
    (ChangeSpec.witness6 (enc := enc) (C := Try.checked) false ⟨#[], #[.int .u32 0, .slice none 0 0], []⟩ 8 (by kernel_rfl) (by kernel_rfl) (by kernel_rfl) (by kernel_rfl)) ?_
  intro W base args ds gs before hval0 hW _ hz _
  have hval : ∀ (j : Nat) t v, Try.f4.params[j]? = some t → args[j]? = some v → Value.okWide Try.prog W .any base t v := hval0
  have hW' := hW
  obtain ⟨p, q, hA0, hV, rfl, hfz, hnd⟩ := hW
  have hA : DataW.TrodAll enc Try.prog W 0 (fun _ => true) true Try.f4.params.toList args.toList ds p := hA0
  rw [params4] at hA
  obtain ⟨v0, v1, d0, d1, p0, p1, rfl, rfl, rfl, h0, h1⟩ := trodAll_two hA
  obtain ⟨rfl, rfl⟩ := trodVars_none hV
  clear hA0 hval0
  have hlt0 : ∀ x ∈ p0, x.block < W.heap.size := fun x hx => by simpa using hW'.lt x (by simp [hx])
  have h0k := h0
  have hlt1 : ∀ x ∈ p1, x.block < W.heap.size := fun x hx => by simpa using hW'.lt x (by simp [hx])
  have h1k := h1
  obtain ⟨n0, rfl, rfl, rfl, hn0⟩ := open_int u22 (hval 0 22 v0 (by kernel_rfl) rfl) h0
  have hn0 := wf_u32 hn0
  obtain ⟨a1, X1, c1, rfl, _, _, hn1, hr1, hw1, hb1⟩ := ints_in2 u23 u5 z5 (hval 1 23 v1 (by kernel_rfl) rfl) h1
  have hlen1 : X1.length ≤ 140737488355328 := by
    rcases hb1 with rfl | ⟨es, sp, rfl, hle⟩
    · simp
    · have := sized_slice hz (j := 1) (t := 23) (e := 5) (by rw [params4]; rfl) rfl u23
      rw [by5] at this
      have h2 := reachBytes_lt
      omega
  have hx1 : ∀ x ∈ X1, 0 ≤ x ∧ x < 256 := fun x hx => wf_u8 (hw1 x hx)
  have key := c4 (xc := c1) hr1 hx1 hlen1 hn1 n0
  refine key.mono fun e W' ⟨v, he, hv, hf⟩ => ?_
  subst he; subst hv
  have hbelow : Below W.heap.size W W' := hf.below (Nat.le_refl _) fun _ x => x.elim
  refine ⟨_, rfl, _, _, _, [], [] ++ (p1), [], hW', ?_, ?_, rfl, hbelow.frame _, fun h => by cases h⟩
  · exact trodAll_mk1 (shut_bool u4 _)
  · exact trodAll_mk2 (Below.trod laidOut (by kernel_rfl) (of_decide_eq_true (by kernel_rfl)) h0k hbelow hlt0) (Below.trod laidOut (by kernel_rfl) (of_decide_eq_true (by kernel_rfl)) h1k hbelow hlt1)
end Row4
theorem outboxOwn_holds : Rows.OutboxOwnSaid :=
  OpenClaim.holds_of_wide 4 Try.f4 rfl rfl rfl rfl rfl rfl rfl ⟨rfl, rfl, rfl, rfl, rfl⟩ rfl rfl rfl rfl rfl (by kernel_rfl) Row4.func4 (by kernel_rfl)
    (of_decide_eq_true (by kernel_rfl)) (by unfold Func.isWrapper; first | (rw [if_pos (by decide +kernel)]; kernel_rfl) | (rw [if_neg (by decide +kernel)]; exact ⟨rfl, rfl⟩))
    (fun os started H enc _ => Row4.lifted4 os started H enc)
#print axioms outboxOwn_holds
end Go.Proofs.Ytmliokbonkndaaa
