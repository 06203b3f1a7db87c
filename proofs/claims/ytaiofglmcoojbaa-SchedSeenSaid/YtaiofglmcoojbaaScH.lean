/- Own text: part of the shallow reading of the code and of the contracts that are proved over it. -/
import Derived.Test.YtaiofglmcoojbaaScG
namespace Go.Proofs.Ytaiofglmcoojbaa
open Go Go.Sh
section
variable {W w : World} {L M : List HP} {va : Option Addr} {vs : List VW} {vc : Nat}
/-! Again -/
def stepB (vs : List VW) (but : Int) (best : Int) (i : Nat) : Int := if (i : Int) ≠ but ∧ (best < 0 ∨ (gv vs i).sp > (gv vs best.toNat).sp) then (i : Int) else best
def mst (vs : List VW) (but s : Int) : Int := (ofS vs s).foldl (stepB vs but) (-1)
theorem stepB_in {but best : Int} {i : Nat} (hb : best = -1 ∨ ∃ k < vs.length, best = (k : Nat)) (hi : i < vs.length) : stepB vs but best i = -1 ∨ ∃ k < vs.length, stepB vs but best i = (k : Nat) := by
  unfold stepB
  split
  · exact .inr ⟨i, hi, rfl⟩
  · exact hb
theorem c30 (hv : Rd w va (vs.flatMap vwC)) (hl : vs.length ≤ 8) (s but : Int) : Calls Try.prog 30 #[.slice va vs.length vc, .int .i64 s, .int .i64 but] w (rt fun v w' => v = .int .i64 (mst vs but s) ∧ Same w w') := by
  refine F30_ok ?_
  unfold F30
  simp only [rdC_mk, rdI_mk]
  obtain ⟨p, hp⟩ : ∃ p : Nat → Bool, p = fun i => decide ((gv vs i).st = s) := ⟨_, rfl⟩
  have loop : ∀ (i j : Nat) (best : Int) (w1 : World) (k : Nat) (K0 : Value → World → Prop), j + i = vs.length → best = ((List.range j).filter p).foldl (stepB vs but) (-1) → (best = -1 ∨ ∃ k < vs.length, best = (k : Nat)) → Same w w1 → i < k →
      (∀ w', Same w w' → K0 (.int .i64 (((List.range vs.length).filter p).foldl (stepB vs but) (-1))) w') →
      F30_1 K0 k (.slice va vs.length vc) (.int .i64 s) (.int .i64 but) (.int .i64 best) (.int .i64 (j : Int)) w1 := by
    intro i
    induction i with
    | zero =>
      intro j best w1 k K0 hj hb hb2 hw hk hK
      obtain ⟨k, rfl⟩ : ∃ j, k = j + 1 := ⟨k - 1, by omega⟩
      show F30_1B _ _ _ _ _ _ _ _
      unfold F30_1B
      simp only [rdC_mk, rdI_mk, br_dec]
      have : j = vs.length := by omega
      subst this
      refine ⟨fun h => by exfalso; omega, fun _ => ?_⟩
      rw [hb]; exact hK w1 hw
    | succ i ih =>
      intro j best w1 k K0 hj hb hb2 hw hk hK
      obtain ⟨k, rfl⟩ : ∃ j, k = j + 1 := ⟨k - 1, by omega⟩
      show F30_1B _ _ _ _ _ _ _ _
      unfold F30_1B drw
      simp only [rdC_mk, rdI_mk, br_dec]
      refine ⟨fun _ => ?_, fun h => by exfalso; omega⟩
      have hjl : j < vs.length := by omega
      have hs := hw.drew
      have hr := hv.fr hs fun _ _ x => x
      generalize w1.drew = w2 at hs hr ⊢
      obtain ⟨ad, rfl⟩ := vw_some hr hjl
      have e1 : IntKind.wrap .i64 ((j : Int) + 1) = ((j + 1 : Nat) : Int) := by rw [wrap_i64 (by omega) (by omega)]; omega
      rw [e1]
      have hsn := range_snoc_filter p j
      have atx : ∀ {q : Nat} {K : Addr → Prop}, q < vs.length → K (ad.add (q * 4)) → ixS 4 (some ad) vs.length (q : Int) K := fun hq hk => ixS_of (by omega) (by omega) (by rw [Int.toNat_natCast]; exact hk)
      have skip : p j = false → F30_1 K0 k (.slice (some ad) vs.length vc) (.int .i64 s) (.int .i64 but) (.int .i64 best) (.int .i64 ((j + 1 : Nat) : Int)) w2 := fun hf => by
        rw [hf] at hsn
        simp at hsn
        exact ih (j + 1) best w2 k K0 (by omega) (by rw [hsn]; exact hb) hb2 hs (by omega) hK
      have take : p j = true → ∀ b', b' = stepB vs but best j → F30_1 K0 k (.slice (some ad) vs.length vc) (.int .i64 s) (.int .i64 but) (.int .i64 b') (.int .i64 ((j + 1 : Nat) : Int)) w2 := fun hf b' hb' => by
        rw [hf] at hsn
        simp only [if_true] at hsn
        refine ih (j + 1) b' w2 k K0 (by omega) ?_ ?_ hs (by omega) hK
        · rw [hsn, List.foldl_append, ← hb]; exact hb'
        · rw [hb']; exact stepB_in hb2 hjl
      have hpj : p j = decide ((gv vs j).st = s) := by rw [hp]
      refine atx hjl ?_
      simp only [add_add]
      refine ldI_c (vw_at hr hjl rfl) ?_
      rw [br_iff]
      refine ⟨fun hst => ?_, fun hst => skip (by rw [hpj]; simpa using hst)⟩
      have hst : p j = true := by rw [hpj]; simpa using hst
      rw [br_iff]
      refine ⟨fun hne => ?_, fun hne => ?_⟩
      · have hne : (j : Int) ≠ but := by simpa using hne
        refine ⟨fun hbn => take hst _ ?_, fun hbn => ?_⟩
        · unfold stepB; rw [if_pos ⟨hne, .inl hbn⟩]
        · obtain ⟨q, hq, rfl⟩ := hb2.resolve_left (by omega)
          refine atx hjl ?_
          simp only [add_add]
          refine ldI_c (vw_at hr hjl rfl) (atx hq ?_)
          simp only [add_add]
          refine ldI_c (vw_at hr hq rfl) ⟨fun hgt => take hst _ ?_, fun hgt => take hst _ ?_⟩
          · unfold stepB; rw [if_pos ⟨hne, .inr (by simpa using hgt)⟩]
          · unfold stepB; rw [if_neg (fun h => hgt (by have := h.2.resolve_left hbn; simpa using this))]
      · have hne : (j : Int) = but := by simpa using hne
        refine take hst _ ?_
        unfold stepB; rw [if_neg (fun h => h.1 hne)]
  refine ⟨vs.length + 1, loop vs.length 0 (-1) w _ _ (by omega) rfl (.inl rfl) (Fr.refl w) (by omega) fun w' s' _g => ?_⟩
  simp only [rdI_mk]
  refine ⟨?_, s'⟩
  unfold mst ofS
  rw [hp]
def agn (vs : List VW) (f : Nat) : Int :=
  if mst vs f 1 ≥ 0 then mst vs f 1 else if (gv vs f).st = 1 then f else if mst vs f 2 ≥ 0 then mst vs f 2 else if (gv vs f).st = 2 then f else if mst vs f 3 ≥ 0 then mst vs f 3 else f
def agE (vs : List VW) (from' : Int) : Int := if chk vs ≠ 0 then chk vs else if from' < 0 ∨ from' ≥ (vs.length : Int) then 5 else 0
def ag (vs : List VW) (from' : Int) : Int := if agE vs from' = 0 then agn vs from'.toNat else 0
theorem c17_step {R : Value → Value → Value → World → Prop} {K0 : Value → World → Prop} {Kr : Value → Value → World → Prop} (hv : Rd w va (vs.flatMap vwC)) (hl : vs.length ≤ 8) {f : Nat} (hf : f < vs.length) {s : Int} (hs : 1 ≤ s ∧ s ≤ 3)
    (h1 : mst vs f s ≥ 0 → ∀ w', Same w w' → Kr (.int .i64 (mst vs f s)) (.int .i64 0) w') (h2 : ¬ mst vs f s ≥ 0 → (gv vs f).st = s → ∀ w', Same w w' → Kr (.int .i64 (f : Int)) (.int .i64 0) w') (h3 : ¬ mst vs f s ≥ 0 → (gv vs f).st ≠ s → ∀ w', Same w w' → R (.int .i64 (f : Int)) (.slice va vs.length vc) (.int .i64 (s + 1)) w') :
    F17_1B R K0 Kr (.int .i64 (f : Int)) (.slice va vs.length vc) (.int .i64 s) w := by
  unfold F17_1B
  simp only [rdC_mk, rdI_mk, br_dec]
  refine ⟨fun _ => ?_, fun h => by exfalso; omega⟩
  refine cl (c30 hv hl s f) ?_
  rintro _ w1 ⟨rfl, s1⟩
  refine ⟨_, rfl, fun hm => h1 hm w1 s1, fun hm => ?_⟩
  have hr := hv.fr s1 fun _ _ x => x
  obtain ⟨ad, rfl⟩ := vw_some hr hf
  refine ixS_of (by omega) (by omega) ?_
  simp only [Int.toNat_natCast, add_add]
  refine ldI_c (vw_at hr hf rfl) ?_
  have ew : IntKind.wrap .i64 (s + 1) = s + 1 := wrap_i64 (by omega) (by omega)
  rw [ew, br_iff]
  refine ⟨fun hst => h2 hm (by simpa using hst) w1 s1, fun hst => h3 hm (by simpa using hst) w1 s1⟩
theorem c17 (hv : Rd w va (vs.flatMap vwC)) (from' : Int) : Calls Try.prog 17 #[.int .i64 from', .slice va vs.length vc] w (rt fun v w' => v = .tuple #[.int .i64 (ag vs from'), .int .i64 (agE vs from')] ∧ Same w w') := by
  refine F17_ok ?_
  unfold F17
  simp only [rdI_mk, rdC_mk]
  refine cl (c14 hv) ?_
  rintro _ w1 ⟨rfl, s1⟩
  refine ⟨_, rfl, ?_⟩
  have bad : ∀ e : Int, e ≠ 0 → agE vs from' = e → (.tuple #[.int .i64 0, .int .i64 e] : Value) = .tuple #[.int .i64 (ag vs from'), .int .i64 (agE vs from')] ∧ Same w w1 := fun e he h => by
    unfold ag; rw [h, if_neg he]; exact ⟨rfl, s1⟩
  by_cases hc : chk vs ≠ 0
  · have e1 : (chk vs != 0) = true := by simpa using hc
    rw [e1, br_true]
    exact bad _ hc (by unfold agE; rw [if_pos hc])
  replace hc : chk vs = 0 := Classical.not_not.1 hc
  obtain ⟨hn, _⟩ := ok_of hc
  rw [hc, show ((0 : Int) != 0) = false from rfl, br_false]
  have b5 : (from' < 0 ∨ from' ≥ (vs.length : Int)) → agE vs from' = 5 := fun h => by unfold agE; rw [if_neg (by rw [hc]; decide), if_pos h]
  simp only [br_dec]
  refine ⟨fun h => bad 5 (by decide) (b5 (.inl h)), fun h1 => ⟨fun h => bad 5 (by decide) (b5 (.inr h)), fun h2 => ?_⟩⟩
  obtain ⟨f, rfl⟩ : ∃ f : Nat, from' = f := ⟨from'.toNat, by omega⟩
  have hf : f < vs.length := by omega
  have hE : agE vs (f : Int) = 0 := by unfold agE; rw [if_neg (by rw [hc]; decide), if_neg (by omega)]
  have hA : ag vs (f : Int) = agn vs f := by unfold ag; rw [hE, if_pos rfl, Int.toNat_natCast]
  rw [hE, hA]
  have hv1 : Rd w1 va (vs.flatMap vwC) := hv.fr s1 fun _ _ x => x
  unfold F17_2
  simp only [rdI_mk, rdC_mk]
  refine ⟨4, ?_⟩
  show F17_1B _ _ _ _ _ _ _
  have res : ∀ {x : Int} {w' : World}, x = agn vs f → Same w w' → (.tuple #[.int .i64 x, .int .i64 0] : Value) = .tuple #[.int .i64 (agn vs f), .int .i64 0] ∧ Same w w' := fun h s => by rw [h]; exact ⟨rfl, s⟩
  refine c17_step hv1 hn.2 hf (by decide) (fun m w' s _g => ?_) (fun m st w' s _g => ?_) (fun m1 t1 w2 s2 => ?_)
  · simp only [rdI_mk]; intro _g; exact res (by unfold agn; rw [if_pos m]) (s1.trans s fun _ _ x => x)
  · simp only [rdI_mk]; intro _g; exact res (by unfold agn; rw [if_neg m, if_pos st]) (s1.trans s fun _ _ x => x)
  have g2 := s1.trans s2 fun _ _ x => x
  show F17_1B _ _ _ _ _ _ _
  refine c17_step (s := 2) (hv.fr g2 fun _ _ x => x) hn.2 hf (by decide) (fun m w' s _g => ?_) (fun m st w' s _g => ?_) (fun m2 t2 w3 s3 => ?_)
  · simp only [rdI_mk]; intro _g; exact res (by unfold agn; rw [if_neg m1, if_neg t1, if_pos m]) (g2.trans s fun _ _ x => x)
  · simp only [rdI_mk]; intro _g; exact res (by unfold agn; rw [if_neg m1, if_neg t1, if_neg m, if_pos st]) (g2.trans s fun _ _ x => x)
  have g3 := g2.trans s3 fun _ _ x => x
  show F17_1B _ _ _ _ _ _ _
  refine c17_step (s := 3) (hv.fr g3 fun _ _ x => x) hn.2 hf (by decide) (fun m w' s _g => ?_) (fun m st w' s _g => ?_) (fun m3 t3 w4 s4 => ?_)
  · simp only [rdI_mk]; intro _g; exact res (by unfold agn; rw [if_neg m1, if_neg t1, if_neg m2, if_neg t2, if_pos m]) (g3.trans s fun _ _ x => x)
  · simp only [rdI_mk]; intro _g; exact res (by unfold agn; rw [if_neg m1, if_neg t1, if_neg m2, if_neg t2, if_neg m]) (g3.trans s fun _ _ x => x)
  show F17_1B _ _ _ _ _ _ _
  unfold F17_1B
  simp only [rdC_mk, rdI_mk, br_dec]
  refine ⟨fun h => by exfalso; revert h; decide, fun _ _g => ?_⟩
  intro _g
  exact res (by unfold agn; rw [if_neg m1, if_neg t1, if_neg m2, if_neg t2, if_neg m3]) (g3.trans s4 fun _ _ x => x)
end
end Go.Proofs.Ytaiofglmcoojbaa
