/- What is proved: SpansFrom of the given program returns true for every input; each argument reads behind the call as it read before; the library's table stands as it is laid. Conditions: none. -/
import Derived.Test.YtjcigidbnpmeaaaDoorSpX
import Derived.Test.YtjcigidbnpmeaaaDoorSpRow
namespace Go.Proofs.YtjcigidbnpmeaaaDoor
open Go Go.Sh Go.Sp
open Go.ChangeShapes Go.WideShapes Go.ChangeAt Go.WideMaps Go.WideElems Go.RowKit

/-- a slice of blocks that was handed in -/
theorem u37 : Tryd.prog.underlying 37 = some (.slice 74) := by kernel_rfl
theorem z74 : Tryd.prog.cellsOf 74 = 2 := by kernel_rfl
theorem q74 {H : Type} {enc : TypeId × Value → H} {w : World} (n : Nat) (cs : List Value) (x : DataW H × List MemPlace) (hl : cs.length = 2) (h : DataW.trod enc Tryd.prog w 0 (fun _ => true) true n 74 cs = some x) : ∃ p : Nat × Nat, cs = [.int .u16 (p.1 : Int), .int .u16 (p.2 : Int)] ∧ p.1 ≤ 65535 ∧ p.2 ≤ 65535 := by
  obtain ⟨f0, f1, hu, o0, o1, t0, t1⟩ := struct2_of (show structIs Tryd.prog 74 [(24, 0), (24, 1)] = true by kernel_rfl)
  obtain ⟨y0, y1, m, _, _, h0, h1⟩ := trod_struct2 hu h
  rw [o0, t0, z24] at h0
  rw [o1, t1, z24] at h1
  match cs, hl with
  | [c0, c1], _ =>
    obtain ⟨k0, e0, _, w0⟩ := DataW.trod_int u24 h0
    obtain ⟨k1, e1, _, w1⟩ := DataW.trod_int u24 h1
    simp at e0 e1
    subst e0; subst e1
    have a0 := wf_u16 w0
    have a1 := wf_u16 w1
    exact ⟨(k0.toNat, k1.toNat), by simp only; rw [Int.toNat_of_nonneg a0.1, Int.toNat_of_nonneg a1.1], by simp only; omega, by simp only; omega⟩
theorem gaps_of : ∀ (rows : List (List Value)), (∀ r ∈ rows, r.length = 2 ∧ ∃ p : Nat × Nat, r = [.int .u16 (p.1 : Int), .int .u16 (p.2 : Int)] ∧ p.1 ≤ 65535 ∧ p.2 ≤ 65535) → ∃ G : List (Nat × Nat), G.length = rows.length ∧ rows.flatten = gapV G ∧ ∀ p ∈ G, p.1 ≤ 65535 ∧ p.2 ≤ 65535
  | [], _ => ⟨[], rfl, rfl, by simp⟩
  | r :: rows, h => by
    obtain ⟨G, h1, h2, h3⟩ := gaps_of rows fun q hq => h q (List.mem_cons_of_mem _ hq)
    obtain ⟨_, p, rfl, p1, p2⟩ := h r List.mem_cons_self
    refine ⟨p :: G, by simp [h1], by rw [List.flatten_cons, h2]; rfl, fun q hq => ?_⟩
    rcases List.mem_cons.1 hq with rfl | hq
    · exact ⟨p1, p2⟩
    · exact h3 q hq

theorem func5 : Tryd.prog.funcs[5]? = some Tryd.f5 := by kernel_rfl
theorem params5 : Tryd.f5.params.toList = [22, 37] := by kernel_rfl
set_option maxRecDepth 100000 in
theorem lifted5 (os : Os) (started : os.Started) (H : Type) (enc : TypeId × Value → H) :
    ReturnsInHanded {} Tryd.checked os 5 .any (fun w args => (Rows.spansFromSpec.pre enc Tryd.prog Tryd.f5 [] false w args ∧ laidMetH Tryd.prog Rows.spansFromRow.laid w) ∧ sizedMet enc Tryd.prog Tryd.f5 (OpenSpec.ofChange Rows.spansFromSpec) false w args)
      (Rows.spansFromSpec.post enc Tryd.prog Tryd.f5 false true false false) := by
  refine returnsInHanded_of_change_and (C := Tryd.checked) (X := fun w _ => laidMetH Tryd.prog Rows.spansFromRow.laid w) (fun _ _ _ hh h => h.of_heap hh) own started (by kernel_rfl) func5
    (ChangeSpec.witness_shaped (enc := enc) (C := Tryd.checked) (os := os) (X := fun w _ => laidMetH Tryd.prog Rows.spansFromRow.laid w) false (World.doorLaid Tryd.prog 400 os) #[.int .u32 0, .slice none 0 0] 8 rfl (World.shaped_of_RefB (by kernel_rfl) (by kernel_rfl)) (by kernel_rfl) (by kernel_rfl) (by kernel_rfl) (door_met os _)) ?_
  intro W base args ds gs before hval0 hW _ _ hL _
  have hval : ∀ (j : Nat) t v, Tryd.f5.params[j]? = some t → args[j]? = some v → Value.okWide Tryd.prog W .any base t v := hval0
  have hW' := hW
  obtain ⟨p, q, hA0, hV, rfl, hfz, hnd⟩ := hW
  have hA : DataW.TrodAll enc Tryd.prog W 0 (fun _ => true) true Tryd.f5.params.toList args.toList ds p := hA0
  rw [params5] at hA
  obtain ⟨v0, v1, d0, d1, p0, p1, rfl, rfl, rfl, h0, h1⟩ := trodAll_two hA
  obtain ⟨rfl, rfl⟩ := trodVars_none hV
  clear hA0 hval0
  have hlt0 : ∀ x ∈ p0, x.block < W.heap.size := fun x hx => by simpa using hW'.lt x (by simp [hx])
  have hlt1 : ∀ x ∈ p1, x.block < W.heap.size := fun x hx => by simpa using hW'.lt x (by simp [hx])
  have ht := of_laid hL
  have h0k := h0
  obtain ⟨n, rfl, rfl, rfl, hn⟩ := open_int u22 (hval 0 22 v0 (by kernel_rfl) rfl) h0
  obtain ⟨n0, n1⟩ := wf_u32 hn
  obtain ⟨a, rows, c, rfl, hc, hm, hr, hQ⟩ := recs_in (sz := 2) (by decide) u37 z74 (hval 1 37 v1 (by kernel_rfl) rfl) q74 h1
  obtain ⟨G, hl, hfl, hG⟩ := gaps_of rows hQ
  rw [hfl] at hr
  have key := c5 (cc := c) ht n0 n1 hr hG
  rw [hl] at key
  refine key.mono fun e W' ⟨v, he, hv, hf⟩ => ?_
  subst he; subst hv
  have hbelow : Below W.heap.size W W' := hf.below (Nat.le_refl _) fun _ x => x.elim
  refine ⟨_, rfl, _, _, _, [], [] ++ p1, [], hW', ?_, ?_, rfl, hbelow.frame _, fun h => by cases h⟩
  · exact trodAll_mk1 (shut_bool u4 _)
  · exact trodAll_mk2 (Below.trod laidOut (by kernel_rfl) (of_decide_eq_true (by kernel_rfl)) h0k hbelow hlt0) (Below.trod laidOut (by kernel_rfl) (of_decide_eq_true (by kernel_rfl)) h1 hbelow hlt1)

theorem spansFrom_holds : Rows.SpansFromSaid :=
  OpenClaim.holds_of_wide 5 Tryd.f5 rfl rfl rfl rfl rfl rfl rfl ⟨rfl, rfl, rfl, rfl, rfl⟩ rfl rfl rfl rfl rfl (by kernel_rfl) func5 (by kernel_rfl)
    (of_decide_eq_true (by kernel_rfl)) (by unfold Func.isWrapper; first | (rw [if_pos (by decide +kernel)]; kernel_rfl) | (rw [if_neg (by decide +kernel)]; exact ⟨rfl, rfl⟩))
    (fun os started H enc _ => lifted5 os started H enc)
theorem spansFrom_card : Rows.SpansFromCardSaid :=
  Claim7.holds_tied_plain_at .later [] [.data] true (true, "757805c767b06dd9faffa757f59b9d3b094de337d2b72198853864d89bba897e") false
    spansFrom_holds (fun _ h => by cases h) (by kernel_rfl) (fun _ h => by cases h) spansFrom_row_tie rfl ⟨rfl, rfl⟩ (by kernel_rfl) rfl
    (fun f fn hf hfn => by
      obtain rfl : f = 5 := Option.some.inj ((show Tryd.prog.funcNamed "ropewalk/ropewalklaw03.SpansFrom" = some 5 by kernel_rfl).symm.trans hf) |>.symm
      obtain rfl : fn = Tryd.f5 := (Option.some.inj (func5.symm.trans hfn)).symm
      exact ⟨by kernel_rfl, fun j t ht => by
        have hm : t ∈ [22, 37] := by rw [← params5]; simpa using Array.mem_of_getElem? ht
        have hall : ([22, 37].all fun u => !Tryd.prog.wantsStandIn u) = true := by kernel_rfl
        exact (show Tryd.prog.wantsStandIn t = false by simpa using List.all_eq_true.1 hall t hm)⟩)
    (by kernel_rfl)
#print axioms spansFrom_card
end Go.Proofs.YtjcigidbnpmeaaaDoor
