/- What is proved: NetWhole of the given program returns true for every input; each argument reads behind the call as it read before. Conditions: none. -/
import Derived.Test.YtnmgdeimngcbgaaNuW
import Derived.Test.YtnmgdeimngcbgaaNtRow5
import Derived.SizedLaws
namespace Go.Proofs.Ytnmgdeimngcbgaa
open Go Go.Sh
open Go.ChangeShapes Go.WideShapes Go.ChangeAt Go.WideMaps Go.WideElems Go.RowKit
open Row5
namespace Row3
theorem func3 : Try.prog.funcs[3]? = some Try.f3 := by kernel_rfl
theorem params3 : Try.f3.params.toList = [3, 22, 23, 3] := by kernel_rfl
theorem by5 : Try.checked.prog.bytesOf 5 = 1 := by kernel_rfl
set_option maxRecDepth 100000 in
theorem lifted3 (os : Os) (started : os.Started) (H : Type) (enc : TypeId × Value → H) :
    ReturnsInHanded {} Try.checked os 3 .any (Rows.netWholeSpec.pre6 enc Try.prog Try.f3 Rows.netWholeRow.domain false) (Rows.netWholeSpec.post enc Try.prog Try.f3 false true false false) := by
  refine returnsInHanded_of_change_sized (C := Try.checked) own started (by kernel_rfl) func3
    (ChangeSpec.witness6 (enc := enc) (C := Try.checked) false ⟨#[], #[.int .i64 0, .slice none 0 0, .slice none 0 0, .int .i64 0], []⟩ 8 (by kernel_rfl) (by kernel_rfl) (by kernel_rfl) (by kernel_rfl)) ?_
  intro W base args ds gs before hval0 hW _ hz _
  have hval : ∀ (j : Nat) t v, Try.f3.params[j]? = some t → args[j]? = some v → Value.okWide Try.prog W .any base t v := hval0
  have hW' := hW
  obtain ⟨p, q, hA0, hV, rfl, hfz, hnd⟩ := hW
  have hA : DataW.TrodAll enc Try.prog W 0 (fun _ => true) true Try.f3.params.toList args.toList ds p := hA0
  rw [params3] at hA
  obtain ⟨v0, v1, v2, v3, d0, d1, d2, d3, p0, p1, p2, p3, rfl, rfl, rfl, h0, h1, h2, h3⟩ := trodAll_four hA
  obtain ⟨rfl, rfl⟩ := trodVars_none hV
  clear hA0 hval0
  have hlt0 : ∀ x ∈ p0, x.block < W.heap.size := fun x hx => by simpa using hW'.lt x (by simp [hx])
  have hlt1 : ∀ x ∈ p1, x.block < W.heap.size := fun x hx => by simpa using hW'.lt x (by simp [hx])
  have hlt2 : ∀ x ∈ p2, x.block < W.heap.size := fun x hx => by simpa using hW'.lt x (by simp [hx])
  have hlt3 : ∀ x ∈ p3, x.block < W.heap.size := fun x hx => by simpa using hW'.lt x (by simp [hx])
  have h0k := h0
  have h3k := h3
  obtain ⟨m, rfl, rfl, rfl, hm⟩ := open_int u3 (hval 0 3 v0 (by kernel_rfl) rfl) h0
  obtain ⟨now, rfl, rfl, rfl, _⟩ := open_int u3 (hval 3 3 v3 (by kernel_rfl) rfl) h3
  obtain ⟨a, rows, c, rfl, hc, hml, hr, hQ⟩ := recs_in (sz := 8) (by decide) u22 z32 (hval 1 22 v1 (by kernel_rfl) rfl) q32 h1
  obtain ⟨ops, hl, hfl, hops⟩ := recs_of rows fun r hr => (hQ r hr).2
  rw [hfl] at hr
  obtain ⟨ba, bs, bc, rfl, _, _, hbc, hb, hbw, hbs⟩ := ints_in2 u23 u5 z5 (hval 2 23 v2 (by kernel_rfl) rfl) h2
  have hlen : bs.length ≤ 140737488355328 := by
    rcases hbs with rfl | ⟨es, sp, rfl, hle⟩
    · simp
    · have := sized_slice hz (j := 2) (t := 23) (e := 5) (by rw [params3]; rfl) rfl u23
      rw [by5] at this
      have h2 := reachBytes_lt
      omega
  have key := c3 (sc := c) m (wf_i64 hm) hr hops (by omega) hb hbc (fun x hx => wf_u8 (hbw x hx)) hlen now
  rw [hl] at key
  refine key.mono fun e W' ⟨v, he, hv, hf⟩ => ?_
  subst he; subst hv
  have hbelow : Below W.heap.size W W' := hf.below (Nat.le_refl _) fun _ x => x.elim
  refine ⟨_, rfl, _, _, _, [], [] ++ (p1 ++ (p2 ++ [])), [], hW', ?_, ?_, rfl, hbelow.frame _, fun h => by cases h⟩
  · exact trodAll_mk1 (shut_bool u4 _)
  · exact trodAll_mk4 (Below.trod laidOut (by kernel_rfl) (of_decide_eq_true (by kernel_rfl)) h0k hbelow hlt0) (Below.trod laidOut (by kernel_rfl) (of_decide_eq_true (by kernel_rfl)) h1 hbelow hlt1) (Below.trod laidOut (by kernel_rfl) (of_decide_eq_true (by kernel_rfl)) h2 hbelow hlt2) (Below.trod laidOut (by kernel_rfl) (of_decide_eq_true (by kernel_rfl)) h3k hbelow hlt3)
end Row3
theorem netWhole_holds : Rows.NetWholeSaid :=
  OpenClaim.holds_of_wide 3 Try.f3 rfl rfl rfl rfl rfl rfl rfl ⟨rfl, rfl, rfl, rfl, rfl⟩ rfl rfl rfl rfl rfl (by kernel_rfl) Row3.func3 (by kernel_rfl)
    (of_decide_eq_true (by kernel_rfl)) (by unfold Func.isWrapper; first | (rw [if_pos (by decide +kernel)]; kernel_rfl) | (rw [if_neg (by decide +kernel)]; exact ⟨rfl, rfl⟩))
    (fun os started H enc _ => Row3.lifted3 os started H enc)
#print axioms netWhole_holds
end Go.Proofs.Ytnmgdeimngcbgaa
