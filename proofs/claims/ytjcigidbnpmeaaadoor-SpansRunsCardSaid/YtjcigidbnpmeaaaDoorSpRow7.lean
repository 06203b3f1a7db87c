/- What is proved: SpansRuns of the given program returns true for every input; each argument reads behind the call as it read before; the library's table stands as it is laid. Conditions: none. -/
import Derived.Test.YtjcigidbnpmeaaaDoorSqC
import Derived.Deep.Strs
import Derived.Test.YtjcigidbnpmeaaaDoorSpRow
namespace Go.Proofs.YtjcigidbnpmeaaaDoor
open Go Go.Sh Go.Sp
open Go.ChangeShapes Go.WideShapes Go.ChangeAt Go.WideMaps Go.WideElems Go.RowKit

/-- a script that was handed in -/
theorem u48 : Tryd.prog.underlying 48 = some (.slice 52) := by kernel_rfl
theorem z52 : Tryd.prog.cellsOf 52 = 3 := by kernel_rfl
theorem z3c : Tryd.prog.cellsOf 3 = 1 := by kernel_rfl
theorem z22 : Tryd.prog.cellsOf 22 = 1 := by kernel_rfl
theorem q52 {H : Type} {enc : TypeId × Value → H} {w : World} (n : Nat) (cs : List Value) (x : DataW H × List MemPlace) (hl : cs.length = 3) (h : DataW.trod enc Tryd.prog w 0 (fun _ => true) true n 52 cs = some x) : ∃ o : OpI, cs = opC o ∧ 0 ≤ o.at_ ∧ o.at_ < 4294967296 := by
  obtain ⟨f0, f1, f2, hu, o0, o1, o2, t0, t1, t2⟩ := struct3_of (show structIs Tryd.prog 52 [(3, 0), (22, 1), (3, 2)] = true by kernel_rfl)
  obtain ⟨y0, y1, y2, m, _, _, h0, h1, h2⟩ := Go.Deep.trod_struct3 hu h
  rw [o0, t0, z3c] at h0
  rw [o1, t1, z22] at h1
  rw [o2, t2, z3c] at h2
  match cs, hl with
  | [c0, c1, c2], _ =>
    obtain ⟨k0, e0, _, w0⟩ := DataW.trod_int u3 h0
    obtain ⟨k1, e1, _, w1⟩ := DataW.trod_int u22 h1
    obtain ⟨k2, e2, _, w2⟩ := DataW.trod_int u3 h2
    simp at e0 e1 e2
    subst e0; subst e1; subst e2
    obtain ⟨a1, a2⟩ := wf_u32 w1
    exact ⟨⟨k0, k1, k2⟩, rfl, a1, a2⟩
theorem ops_of : ∀ (rows : List (List Value)), (∀ r ∈ rows, r.length = 3 ∧ ∃ o : OpI, r = opC o ∧ 0 ≤ o.at_ ∧ o.at_ < 4294967296) → ∃ O : List OpI, O.length = rows.length ∧ rows.flatten = opV O ∧ ∀ o ∈ O, 0 ≤ o.at_ ∧ o.at_ < 4294967296
  | [], _ => ⟨[], rfl, rfl, by simp⟩
  | r :: rows, h => by
    obtain ⟨O, h1, h2, h3⟩ := ops_of rows fun q hq => h q (List.mem_cons_of_mem _ hq)
    obtain ⟨_, o, rfl, p1, p2⟩ := h r List.mem_cons_self
    refine ⟨o :: O, by simp [h1], by rw [List.flatten_cons, h2]; rfl, fun q hq => ?_⟩
    rcases List.mem_cons.1 hq with rfl | hq
    · exact ⟨p1, p2⟩
    · exact h3 q hq

theorem func7 : Tryd.prog.funcs[7]? = some Tryd.f7 := by kernel_rfl
theorem params7 : Tryd.f7.params.toList = [22, 48] := by kernel_rfl
set_option maxRecDepth 100000 in
theorem lifted7 (os : Os) (started : os.Started) (H : Type) (enc : TypeId × Value → H) :
    ReturnsInHanded {} Tryd.checked os 7 .any (fun w args => (Rows.spansRunsSpec.pre enc Tryd.prog Tryd.f7 [] false w args ∧ laidMetH Tryd.prog Rows.spansRunsRow.laid w) ∧ sizedMet enc Tryd.prog Tryd.f7 (OpenSpec.ofChange Rows.spansRunsSpec) false w args)
      (Rows.spansRunsSpec.post enc Tryd.prog Tryd.f7 false true false false) := by
  refine returnsInHanded_of_change_and (C := Tryd.checked) (X := fun w _ => laidMetH Tryd.prog Rows.spansRunsRow.laid w) (fun _ _ _ hh h => h.of_heap hh) own started (by kernel_rfl) func7
    (ChangeSpec.witness_shaped (enc := enc) (C := Tryd.checked) (os := os) (X := fun w _ => laidMetH Tryd.prog Rows.spansRunsRow.laid w) false (World.doorLaid Tryd.prog 400 os) #[.int .u32 0, .slice none 0 0] 8 rfl (World.shaped_of_RefB (by kernel_rfl) (by kernel_rfl)) (by kernel_rfl) (by kernel_rfl) (by kernel_rfl) (door_met os _)) ?_
  intro W base args ds gs before hval0 hW _ _ hL _
  have hval : ∀ (j : Nat) t v, Tryd.f7.params[j]? = some t → args[j]? = some v → Value.okWide Tryd.prog W .any base t v := hval0
  have hW' := hW
  obtain ⟨p, q, hA0, hV, rfl, hfz, hnd⟩ := hW
  have hA : DataW.TrodAll enc Tryd.prog W 0 (fun _ => true) true Tryd.f7.params.toList args.toList ds p := hA0
  rw [params7] at hA
  obtain ⟨v0, v1, d0, d1, p0, p1, rfl, rfl, rfl, h0, h1⟩ := trodAll_two hA
  obtain ⟨rfl, rfl⟩ := trodVars_none hV
  clear hA0 hval0
  have hlt0 : ∀ x ∈ p0, x.block < W.heap.size := fun x hx => by simpa using hW'.lt x (by simp [hx])
  have hlt1 : ∀ x ∈ p1, x.block < W.heap.size := fun x hx => by simpa using hW'.lt x (by simp [hx])
  have ht := of_laid hL
  have h0k := h0
  obtain ⟨n, rfl, rfl, rfl, hn⟩ := open_int u22 (hval 0 22 v0 (by kernel_rfl) rfl) h0
  obtain ⟨n0, n1⟩ := wf_u32 hn
  obtain ⟨a, rows, c, rfl, hc, hm, hr, hQ⟩ := recs_in (sz := 3) (by decide) u48 z52 (hval 1 48 v1 (by kernel_rfl) rfl) q52 h1
  obtain ⟨O, hl, hfl, hO⟩ := ops_of rows hQ
  rw [hfl] at hr
  have key := c7 (cc := c) ht n0 n1 hr hO
  rw [hl] at key
  refine key.mono fun e W' ⟨v, he, hv, hf⟩ => ?_
  subst he; subst hv
  have hbelow : Below W.heap.size W W' := hf.below (Nat.le_refl _) fun _ x => x.elim
  refine ⟨_, rfl, _, _, _, [], [] ++ p1, [], hW', ?_, ?_, rfl, hbelow.frame _, fun h => by cases h⟩
  · exact trodAll_mk1 (shut_bool u4 _)
  · exact trodAll_mk2 (Below.trod laidOut (by kernel_rfl) (of_decide_eq_true (by kernel_rfl)) h0k hbelow hlt0) (Below.trod laidOut (by kernel_rfl) (of_decide_eq_true (by kernel_rfl)) h1 hbelow hlt1)

theorem spansRuns_holds : Rows.SpansRunsSaid :=
  OpenClaim.holds_of_wide 7 Tryd.f7 rfl rfl rfl rfl rfl rfl rfl ⟨rfl, rfl, rfl, rfl, rfl⟩ rfl rfl rfl rfl rfl (by kernel_rfl) func7 (by kernel_rfl)
    (of_decide_eq_true (by kernel_rfl)) (by unfold Func.isWrapper; first | (rw [if_pos (by decide +kernel)]; kernel_rfl) | (rw [if_neg (by decide +kernel)]; exact ⟨rfl, rfl⟩))
    (fun os started H enc _ => lifted7 os started H enc)
theorem spansRuns_card : Rows.SpansRunsCardSaid :=
  Claim7.holds_tied_plain_at .later [] [.data] true (true, "757805c767b06dd9faffa757f59b9d3b094de337d2b72198853864d89bba897e") false
    spansRuns_holds (fun _ h => by cases h) (by kernel_rfl) (fun _ h => by cases h) spansRuns_row_tie rfl ⟨rfl, rfl⟩ (by kernel_rfl) rfl
    (fun f fn hf hfn => by
      obtain rfl : f = 7 := Option.some.inj ((show Tryd.prog.funcNamed "ropewalk/ropewalklaw03.SpansRuns" = some 7 by kernel_rfl).symm.trans hf) |>.symm
      obtain rfl : fn = Tryd.f7 := (Option.some.inj (func7.symm.trans hfn)).symm
      exact ⟨by kernel_rfl, fun j t ht => by
        have hm : t ∈ [22, 48] := by rw [← params7]; simpa using Array.mem_of_getElem? ht
        have hall : ([22, 48].all fun u => !Tryd.prog.wantsStandIn u) = true := by kernel_rfl
        exact (show Tryd.prog.wantsStandIn t = false by simpa using List.all_eq_true.1 hall t hm)⟩)
    (by kernel_rfl)
#print axioms spansRuns_card
end Go.Proofs.YtjcigidbnpmeaaaDoor
