/- What is proved: the laws named below return true for every input; each argument reads behind the call as it read before; the library's table stands as it is laid. Conditions: none. -/
import Derived.Test.YtccffjlahpfdaaaDoorIbRow
import Derived.Test.YtccffjlahpfdaaaDoorIbT
namespace Go.Proofs.YtccffjlahpfdaaaDoor
open Go Go.Sh Go.Sp
open Go.ChangeShapes Go.WideShapes Go.ChangeAt Go.WideMaps Go.WideElems Go.RowKit
theorem func3 : Tryd.prog.funcs[3]? = some Tryd.f3 := by kernel_rfl
theorem params3 : Tryd.f3.params.toList = [22, 23, 24, 23] := by kernel_rfl
theorem met3 (os : Os) (args : Array Value) : laidMetH Tryd.prog Rows.inboxKeptRow.laid ((World.doorLaid Tryd.prog 400 os).forCall (fun _ _ => 0) ⟨#[], args, []⟩).memory := door_met os args
set_option maxRecDepth 100000 in
theorem lifted3 (os : Os) (started : os.Started) (H : Type) (enc : TypeId × Value → H) :
    ReturnsInHanded {} Tryd.checked os 3 .any (fun w args => (Rows.inboxKeptSpec.pre enc Tryd.prog Tryd.f3 [] false w args ∧ laidMetH Tryd.prog Rows.inboxKeptRow.laid w) ∧ sizedMet enc Tryd.prog Tryd.f3 (OpenSpec.ofChange Rows.inboxKeptSpec) false w args)
      (Rows.inboxKeptSpec.post enc Tryd.prog Tryd.f3 false true false false) := by
  refine returnsInHanded_of_change_and (C := Tryd.checked) (X := fun w _ => laidMetH Tryd.prog Rows.inboxKeptRow.laid w) (fun _ _ _ hh h => h.of_heap hh) own started (by kernel_rfl) func3
    (ChangeSpec.witness_shaped (enc := enc) (C := Tryd.checked) (os := os) (X := fun w _ => laidMetH Tryd.prog Rows.inboxKeptRow.laid w) false (World.doorLaid Tryd.prog 400 os) #[.int .u32 0, .slice none 0 0, .int .u16 0, .slice none 0 0] 8 rfl (World.shaped_of_RefB (by kernel_rfl) (by kernel_rfl)) (by kernel_rfl) (by kernel_rfl) (by kernel_rfl) (met3 os _)) ?_
  intro W base args ds gs before hval0 hW _ hwt hL _
  have hval : ∀ (j : Nat) t v, Tryd.f3.params[j]? = some t → args[j]? = some v → Value.okWide Tryd.prog W .any base t v := hval0
  have hW' := hW
  obtain ⟨p, q, hA0, hV, rfl, hfz, hnd⟩ := hW
  have hA : DataW.TrodAll enc Tryd.prog W 0 (fun _ => true) true Tryd.f3.params.toList args.toList ds p := hA0
  rw [params3] at hA hwt
  obtain ⟨v0, v1, v2, v3, d0, d1, d2, d3, p0, p1, p2, p3, rfl, rfl, rfl, h0, h1, h2, h3⟩ := trodAll_four hA
  obtain ⟨rfl, rfl⟩ := trodVars_none hV
  clear hA0 hval0
  have ht := of_laid hL
  have hlt0 : ∀ x ∈ p0, x.block < W.heap.size := fun x hx => by simpa using hW'.lt x (by simp [hx])
  have h0k := h0
  have hlt1 : ∀ x ∈ p1, x.block < W.heap.size := fun x hx => by simpa using hW'.lt x (by simp [hx])
  have h1k := h1
  have hlt2 : ∀ x ∈ p2, x.block < W.heap.size := fun x hx => by simpa using hW'.lt x (by simp [hx])
  have h2k := h2
  have hlt3 : ∀ x ∈ p3, x.block < W.heap.size := fun x hx => by simpa using hW'.lt x (by simp [hx])
  have h3k := h3
  obtain ⟨n0, rfl, rfl, rfl, hn0⟩ := open_int u22 (hval 0 22 v0 (by kernel_rfl) rfl) h0
  have hn0 := wf_u32 hn0
  obtain ⟨a1, rows1, k1, rfl, hc1, hml1, hr1, hQ1⟩ := recs_in2 (sz := 3) (by decide) u_r z_r (hval 1 23 v1 (by kernel_rfl) rfl) (light_each hwt (j := 1) rfl rfl) q_r h1
  obtain ⟨rs1, hl1, hfl1, ok1⟩ := recs_of rows1 fun r hr => (hQ1 r hr).2
  rw [hfl1] at hr1
  obtain ⟨n2, rfl, rfl, rfl, hn2⟩ := open_int u24 (hval 2 24 v2 (by kernel_rfl) rfl) h2
  have hn2 := wf_u16 hn2
  obtain ⟨a3, rows3, k3, rfl, hc3, hml3, hr3, hQ3⟩ := recs_in2 (sz := 3) (by decide) u_r z_r (hval 3 23 v3 (by kernel_rfl) rfl) (light_each hwt (j := 3) rfl rfl) q_r h3
  obtain ⟨rs3, hl3, hfl3, ok3⟩ := recs_of rows3 fun r hr => (hQ3 r hr).2
  rw [hfl3] at hr3
  have key := c3 (sc := k1) (mc := k3) ht hr1 ok1 hr3 ok3 n0 hn2
  rw [hl1] at key
  rw [hl3] at key
  refine key.mono fun e W' ⟨v, he, hv, hf⟩ => ?_
  subst he; subst hv
  have hbelow : Below W.heap.size W W' := hf.below (Nat.le_refl _) fun _ x => x.elim
  refine ⟨_, rfl, _, _, _, [], [] ++ (p1 ++ ([] ++ (p3))), [], hW', ?_, ?_, rfl, hbelow.frame _, fun h => by cases h⟩
  · exact trodAll_mk1 (shut_bool u4 _)
  · exact trodAll_mk4 (Below.trod laidOut (by kernel_rfl) (of_decide_eq_true (by kernel_rfl)) h0k hbelow hlt0) (Below.trod laidOut (by kernel_rfl) (of_decide_eq_true (by kernel_rfl)) h1k hbelow hlt1) (Below.trod laidOut (by kernel_rfl) (of_decide_eq_true (by kernel_rfl)) h2k hbelow hlt2) (Below.trod laidOut (by kernel_rfl) (of_decide_eq_true (by kernel_rfl)) h3k hbelow hlt3)
theorem inboxKept_holds : Rows.InboxKeptSaid :=
  OpenClaim.holds_of_wide 3 Tryd.f3 rfl rfl rfl rfl rfl rfl rfl ⟨rfl, rfl, rfl, rfl, rfl⟩ rfl rfl rfl rfl rfl (by kernel_rfl) func3 (by kernel_rfl)
    (of_decide_eq_true (by kernel_rfl)) (by unfold Func.isWrapper; first | (rw [if_pos (by decide +kernel)]; kernel_rfl) | (rw [if_neg (by decide +kernel)]; exact ⟨rfl, rfl⟩))
    (fun os started H enc _ => lifted3 os started H enc)
theorem inboxKept_card : Rows.InboxKeptCardSaid :=
  Claim7.holds_tied_plain_at .later [] [.data] true (true, "42baf7983b802b38cca7b3cf9ccea2d8fdff56437e8796d0789e4398d95faf7d") false
    inboxKept_holds (fun _ h => by cases h) (by kernel_rfl) (fun _ h => by cases h) inboxKept_row_tie rfl ⟨rfl, rfl⟩ (by kernel_rfl) rfl
    (fun f fn hf hfn => by
      obtain rfl : f = 3 := Option.some.inj ((show Tryd.prog.funcNamed "ropewalk/ropewalklaw19.InboxKept" = some 3 by kernel_rfl).symm.trans hf) |>.symm
      obtain rfl : fn = Tryd.f3 := (Option.some.inj (func3.symm.trans hfn)).symm
      exact ⟨by kernel_rfl, fun j t ht => by
        have hm : t ∈ [22, 23, 24, 23] := by rw [← params3]; simpa using Array.mem_of_getElem? ht
        have hall : ([22, 23, 24, 23].all fun u => !Tryd.prog.wantsStandIn u) = true := by kernel_rfl
        exact (show Tryd.prog.wantsStandIn t = false by simpa using List.all_eq_true.1 hall t hm)⟩)
    (by kernel_rfl)
#print axioms inboxKept_card
end Go.Proofs.YtccffjlahpfdaaaDoor
