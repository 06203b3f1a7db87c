/- What is proved: the laws named below return true for every input; each argument reads behind the call as it read before. Conditions: none. -/
import Derived.Test.YtmliokbonkndaaaObW
import Derived.Test.YtmliokbonkndaaaObRow
import Derived.Test.YtmliokbonkndaaaObBulk
import Derived.Deep.CondSized
namespace Go.Proofs.Ytmliokbonkndaaa
open Go Go.Sh
open Go.ChangeShapes Go.WideShapes Go.ChangeAt Go.WideMaps Go.WideElems Go.RowKit
open Row

namespace Row3
theorem func3 : Try.prog.funcs[3]? = some Try.f3 := by kernel_rfl
theorem params3 : Try.f3.params.toList = [22, 23, 24, 31, 3] := by kernel_rfl
set_option maxRecDepth 100000 in
theorem lifted3 (os : Os) (started : os.Started) (H : Type) (enc : TypeId × Value → H) (F : Stop.Interp) :
    ReturnsInHanded {} Try.checked os 3 .any ((Rows.OpenSpec.upto Rows.outboxSplitSpec).pre6 enc Try.prog Try.f3 Rows.outboxSplitUptoRow.domain false) (((Rows.OpenSpec.upto Rows.outboxSplitSpec).at F).post enc Try.prog Try.f3 false true false false) := by
  refine returnsInHanded_of_cond_sized (C := Try.checked) (s := Rows.OpenSpec.upto Rows.outboxSplitSpec) (k := Rows.uptoSmall) rfl own started (by kernel_rfl) func3
    (OpenSpec.witness (enc := enc) (C := Try.checked) (s := Rows.OpenSpec.upto Rows.outboxSplitSpec) (k := Rows.uptoSmall) rfl false ⟨#[], #[.int .u32 0, .slice none 0 0, .slice none 0 0, R30.z.v, .int .i64 0], []⟩ 8 (by kernel_rfl) (by kernel_rfl) (by kernel_rfl)
      (x := ([.lit (.int .u32 0), .nil, .nil, .agg [.lit (.int .u8 0), .lit (.int .u8 0), .lit (.int .u32 0), .lit (.int .u16 0), .lit (.int .u16 0), .lit (.int .u32 0), .lit (.int .u32 0), .lit (.int .u32 0), .lit (.int .u16 0), .lit (.int .u16 0), .nil, .nil, .nil, .nil, .nil], .lit (.int .i64 0)], [], [])) (by kernel_rfl) rfl (by kernel_rfl)) ?_
  intro W base args ds gs before hval0 hW _ hbulk hz _
  have hval : ∀ (j : Nat) t v, Try.f3.params[j]? = some t → args[j]? = some v → Value.okWide Try.prog W .any base t v := hval0
  have hW' := hW
  obtain ⟨p, q, hA0, hV, rfl, hfz, hnd⟩ := hW
  have hA : DataW.TrodAll enc Try.prog W 0 (fun _ => true) true Try.f3.params.toList args.toList ds p := hA0
  rw [params3] at hA
  obtain ⟨v0, v1, v2, v3, v4, d0, d1, d2, d3, d4, p0, p1, p2, p3, p4, rfl, rfl, rfl, h0, h1, h2, h3, h4⟩ := trodAll_five hA
  obtain ⟨rfl, rfl⟩ := trodVars_none hV
  clear hA0 hval0
  have hlt0 : ∀ x ∈ p0, x.block < W.heap.size := fun x hx => by simpa using hW'.lt x (by simp [hx])
  have h0k := h0
  have hlt1 : ∀ x ∈ p1, x.block < W.heap.size := fun x hx => by simpa using hW'.lt x (by simp [hx])
  have h1k := h1
  have hlt2 : ∀ x ∈ p2, x.block < W.heap.size := fun x hx => by simpa using hW'.lt x (by simp [hx])
  have h2k := h2
  have hlt3 : ∀ x ∈ p3, x.block < W.heap.size := fun x hx => by simpa using hW'.lt x (by simp [hx])
  have h3k := h3
  have hlt4 : ∀ x ∈ p4, x.block < W.heap.size := fun x hx => by simpa using hW'.lt x (by simp [hx])
  have h4k := h4
  have hwt := hz
  rw [params3] at hwt
  obtain ⟨n0, rfl, rfl, rfl, hn0⟩ := open_int u22 (hval 0 22 v0 (by kernel_rfl) rfl) h0
  have hn0 := wf_u32 hn0
  obtain ⟨a1, X1, c1, rfl, _, _, hn1, hr1, hw1, hb1⟩ := ints_in2 u23 u5 z5 (hval 1 23 v1 (by kernel_rfl) rfl) h1
  have hlen1 : X1.length ≤ 140737488355328 := by
    rcases hb1 with rfl | ⟨es, sp, rfl, hle⟩
    · simp
    · have := sized_slice hz (j := 1) (t := 23) (e := 5) (by rw [params3]; rfl) rfl u23
      rw [by5] at this
      have h2 := reachBytes_lt
      omega
  have hx1 : ∀ x ∈ X1, 0 ≤ x ∧ x < 256 := fun x hx => wf_u8 (hw1 x hx)
  obtain ⟨a2, c2, B2, rfl, hr2⟩ := bools_in (hval 2 24 v2 (by kernel_rfl) rfl) h2
  obtain ⟨s3, r3, parts3, rfl, hk3, hd3, hg3⟩ := chunk_in (hval 3 31 v3 (by kernel_rfl) rfl) (light_each hwt (j := 3) rfl rfl) h3
  obtain ⟨n4, rfl, rfl, rfl, hn4⟩ := open_int u3 (hval 4 3 v4 (by kernel_rfl) rfl) h4
  have hn4 := wf_i64 hn4
  have key := c3 (xc := c1) (bc := c2) hr1 hx1 hr2 hk3.gl hk3.gr hk3.gok.1 (hg3.elim (fun h => by rw [h] ; exact Nat.zero_le _) fun ⟨es, sp, h, hle⟩ => Nat.le_trans hle (bulks.nested hbulk (by rw [hd3] ; simp) (List.mem_of_getElem? h))) n0 n4
  refine key.mono fun e W' ⟨v, he, hv, hf⟩ => ?_
  subst he; subst hv
  have hbelow : Below W.heap.size W W' := hf.below (Nat.le_refl _) fun _ x => x.elim
  refine ⟨_, rfl, _, _, _, [], [] ++ (p1 ++ (p2 ++ (p3 ++ ([])))), [], hW', ?_, ?_, rfl, hbelow.frame _, fun h => by cases h⟩
  · exact trodAll_mk1 (shut_bool u4 _)
  · exact trodAll_mk5 (Below.trod laidOut (by kernel_rfl) (of_decide_eq_true (by kernel_rfl)) h0k hbelow hlt0) (Below.trod laidOut (by kernel_rfl) (of_decide_eq_true (by kernel_rfl)) h1k hbelow hlt1) (Below.trod laidOut (by kernel_rfl) (of_decide_eq_true (by kernel_rfl)) h2k hbelow hlt2) (Below.trod laidOut (by kernel_rfl) (of_decide_eq_true (by kernel_rfl)) h3k hbelow hlt3) (Below.trod laidOut (by kernel_rfl) (of_decide_eq_true (by kernel_rfl)) h4k hbelow hlt4)
end Row3
theorem outboxSplit_upto : Rows.OutboxSplitUptoSaid :=
  OpenClaim.holds_of_cond 3 Try.f3 rfl rfl rfl rfl rfl rfl rfl ⟨rfl, rfl, rfl, rfl, rfl⟩ rfl rfl rfl rfl rfl (by kernel_rfl) Row3.func3 (by kernel_rfl)
    (of_decide_eq_true (by kernel_rfl)) (by unfold Func.isWrapper; first | (rw [if_pos (by decide +kernel)]; kernel_rfl) | (rw [if_neg (by decide +kernel)]; exact ⟨rfl, rfl⟩))
    (fun os started H enc _ F => Row3.lifted3 os started H enc F)
#print axioms outboxSplit_upto
end Go.Proofs.Ytmliokbonkndaaa
