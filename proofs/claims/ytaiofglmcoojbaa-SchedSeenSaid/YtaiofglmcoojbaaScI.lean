/- Own text: part of the shallow reading of the code and of the contracts that are proved over it. -/
import Derived.Test.YtaiofglmcoojbaaScH
namespace Go.Proofs.Ytaiofglmcoojbaa
open Go Go.Sh
section
variable {W w : World} {L M : List HP} {va : Option Addr} {vs : List VW} {vc : Nat}
def litP (b : Nat) : HP := pt b (.cells #[.int .i64 1, .int .i64 2, .int .i64 3] 40 (0, 0))
theorem c16_in {oa : Option Addr} {oc : Nat} {f b : Nat} {s n7 : Int} {K2 : Value → Value → Value → Value → Value → Value → Value → World → Prop} (hv : Rd W va (vs.flatMap vwC)) (hl : vs.length ≤ 8) {xs : List Nat} (hx : ∀ x ∈ xs, x < vs.length) : ∀ (i j : Nat) (best : Int) (w : World) (k : Nat), j + i = xs.length → best = (xs.take j).foldl (stepB vs f) (-1) → (best = -1 ∨ ∃ k < vs.length, best = (k : Nat)) → Hs W [slP 3 1 oa xs.length oc (inV xs), litP b] w → i < k →
    (∀ w' best, best = xs.foldl (stepB vs f) (-1) → Hs W [slP 3 1 oa xs.length oc (inV xs), litP b] w' → K2 (.int .i64 (f : Int)) (.slice va vs.length vc) (.int .i64 s) (.int .i64 best) (.slice (some ⟨b, 0, none⟩) 3 3) (.int .i64 3) (.int .i64 n7) w') →
    F16_1 K2 k (.int .i64 (f : Int)) (.slice va vs.length vc) (.int .i64 s) (.int .i64 best) (.slice (some ⟨b, 0, none⟩) 3 3) (.int .i64 3) (.int .i64 n7) (.slice oa xs.length oc) (.int .i64 (xs.length : Int)) (.int .i64 (j : Int)) w := by
  intro i
  induction i with
  | zero =>
    intro j best w k hj hb hb2 hw hk hK
    obtain ⟨k, rfl⟩ : ∃ j, k = j + 1 := ⟨k - 1, by omega⟩
    show F16_1B _ _ _ _ _ _ _ _ _ _ _ _ _
    unfold F16_1B
    simp only [rdC_mk, rdI_mk, br_dec]
    rw [List.take_of_length_le (by omega)] at hb
    exact ⟨fun h => by exfalso; omega, fun _ => hK w best hb hw⟩
  | succ i ih =>
    intro j best w k hj hb hb2 hw hk hK
    obtain ⟨k, rfl⟩ : ∃ j, k = j + 1 := ⟨k - 1, by omega⟩
    show F16_1B _ _ _ _ _ _ _ _ _ _ _ _ _
    unfold F16_1B drw
    simp only [rdC_mk, rdI_mk, br_dec]
    refine ⟨fun _ => ?_, fun h => by exfalso; omega⟩
    obtain ⟨x, hxj⟩ : ∃ x, xs[j]? = some x := ⟨xs[j]'(by omega), by simp⟩
    have hxl := hx x (List.mem_of_getElem? hxj)
    obtain ⟨od, rfl⟩ := (hw.rd 0 rfl).some (by rw [inV_length]; omega)
    refine ixS_of (by omega) (by omega) ?_
    rw [Int.toNat_natCast, Nat.mul_one]
    refine ldI_c ((hw.rd 0 rfl).at (inV_at hxj)) ?_
    have h1 := hw.drew
    generalize w.drew = w1 at h1 ⊢
    have hr := h1.rd_old hv
    obtain ⟨ad, rfl⟩ := vw_some hr hxl
    have hxlen : xs.length ≤ maxLen := by
      rcases (hw.own 0 rfl).cases with ⟨_, h, _⟩ | ⟨_, _, _, _, _, h, h', _⟩
      · omega
      · omega
    have e1 : IntKind.wrap .i64 ((j : Int) + 1) = ((j + 1 : Nat) : Int) := by
      unfold maxLen at hxlen
      rw [wrap_i64 (by omega) (by omega)]; omega
    rw [e1]
    have atx : ∀ {q : Nat} {K : Addr → Prop}, q < vs.length → K (ad.add (q * 4)) → ixS 4 (some ad) vs.length (q : Int) K := fun hq hk => ixS_of (by omega) (by omega) (by rw [Int.toNat_natCast]; exact hk)
    have go : ∀ b', b' = stepB vs f best x → F16_1 K2 k (.int .i64 (f : Int)) (.slice (some ad) vs.length vc) (.int .i64 s) (.int .i64 b') (.slice (some ⟨b, 0, none⟩) 3 3) (.int .i64 3) (.int .i64 n7) (.slice (some od) xs.length oc) (.int .i64 (xs.length : Int)) (.int .i64 ((j + 1 : Nat) : Int)) w1 := fun b' hb' => by
      refine ih (j + 1) b' w1 k (by omega) ?_ ?_ h1 (by omega) hK
      · rw [List.take_add_one, hxj, Option.toList_some, List.foldl_append, ← hb]; exact hb'
      · rw [hb']; exact stepB_in hb2 hxl
    rw [br_iff]
    refine ⟨fun hne => ?_, fun hne => ?_⟩
    · have hne : (x : Int) ≠ (f : Int) := by simpa using hne
      refine ⟨fun hbn => go _ ?_, fun hbn => ?_⟩
      · unfold stepB; rw [if_pos ⟨hne, .inl hbn⟩]
      · obtain ⟨q, hq, rfl⟩ := hb2.resolve_left (by omega)
        refine atx hxl ?_
        simp only [add_add]
        refine ldI_c (vw_at hr hxl rfl) (atx hq ?_)
        simp only [add_add]
        refine ldI_c (vw_at hr hq rfl) ⟨fun hgt => go _ ?_, fun hgt => go _ ?_⟩
        · unfold stepB; rw [if_pos ⟨hne, .inr (by simpa using hgt)⟩]
        · unfold stepB; rw [if_neg (fun h => hgt (by have := h.2.resolve_left hbn; simpa using this))]
    · have hne : (x : Int) = (f : Int) := by simpa using hne
      refine go _ ?_
      unfold stepB; rw [if_neg (fun h => h.1 hne)]
theorem c16_step {R : Value → Value → Value → Value → Value → World → Prop} {K0 : Value → World → Prop} {Kr : Value → Value → World → Prop} {b : Nat} (hv : Rd W va (vs.flatMap vwC)) (hl : vs.length ≤ 8) (h : Hs W [litP b] w) {f : Nat} (hf : f < vs.length) {q : Nat} (hq : q < 3) {s : Int} (hs : s = q + 1)
    (h1 : mst vs f s ≥ 0 → ∀ w', Hs W [litP b] w' → Kr (.int .i64 (mst vs f s)) (.int .i64 0) w') (h2 : ¬ mst vs f s ≥ 0 → (gv vs f).st = s → ∀ w', Hs W [litP b] w' → Kr (.int .i64 (f : Int)) (.int .i64 0) w') (h3 : ¬ mst vs f s ≥ 0 → (gv vs f).st ≠ s → ∀ w', Hs W [litP b] w' → R (.int .i64 (f : Int)) (.slice va vs.length vc) (.slice (some ⟨b, 0, none⟩) 3 3) (.int .i64 3) (.int .i64 ((q + 1 : Nat) : Int)) w') :
    F16_2B R K0 Kr (.int .i64 (f : Int)) (.slice va vs.length vc) (.slice (some ⟨b, 0, none⟩) 3 3) (.int .i64 3) (.int .i64 (q : Int)) w := by
  unfold F16_2B
  simp only [rdC_mk, rdI_mk, br_dec]
  refine ⟨fun _ => ?_, fun h => by exfalso; omega⟩
  refine ixS_of (by omega) (by omega) ?_
  rw [Int.toNat_natCast, Nat.mul_one, add_mk]
  refine h.ldI 0 rfl (n := s) ?_ ?_
  · have : q = 0 ∨ q = 1 ∨ q = 2 := by omega
    rcases this with rfl | rfl | rfl <;> (subst hs; rfl)
  refine cl (c29 (h.rd_old hv) hl s) ?_
  rintro _ w1 ⟨oa, oc, rfl, o, s1⟩
  refine ⟨_, _, _, rfl, ?_⟩
  have hw := h.own_new s1 o
  refine ⟨(ofS vs s).length + 1, c16_in hv hl (xs := ofS vs s) (fun x hx => (ofS_lt hx).1) (ofS vs s).length 0 (-1) w1 _ (by omega) rfl (.inl rfl) hw (by omega) fun w2 best hb hw2 _g => ?_⟩
  simp only [rdI_mk, rdC_mk]
  have hbm : best = mst vs f s := hb
  subst hbm
  have h4 := hw2.erase 0
  have ew : IntKind.wrap .i64 ((q : Int) + 1) = ((q + 1 : Nat) : Int) := by rw [wrap_i64 (by omega) (by omega)]; omega
  rw [ew]
  refine ⟨fun hm => h1 hm w2 h4, fun hm => ?_⟩
  have hr := h4.rd_old hv
  obtain ⟨ad, rfl⟩ := vw_some hr hf
  refine ixS_of (by omega) (by omega) ?_
  simp only [Int.toNat_natCast, add_add]
  refine ldI_c (vw_at hr hf rfl) ?_
  rw [br_iff]
  exact ⟨fun hst => h2 hm (by simpa using hst) w2 h4, fun hst => h3 hm (by simpa using hst) w2 h4⟩
theorem c16 (hv : Rd w va (vs.flatMap vwC)) (from' : Int) : Calls Try.prog 16 #[.int .i64 from', .slice va vs.length vc] w (rt fun v w' => v = .tuple #[.int .i64 (ag vs from'), .int .i64 (agE vs from')] ∧ Same w w') := by
  refine F16_ok ?_
  unfold F16
  simp only [rdI_mk, rdC_mk]
  refine cl (c13 hv) ?_
  rintro _ w1 ⟨rfl, s1⟩
  refine ⟨_, rfl, ?_⟩
  have bad : ∀ e : Int, e ≠ 0 → agE vs from' = e → (.tuple #[.int .i64 0, .int .i64 e] : Value) = .tuple #[.int .i64 (ag vs from'), .int .i64 (agE vs from')] ∧ Same w w1 := fun e he h => by
    unfold ag; rw [h, if_neg he]; exact ⟨rfl, s1⟩
  by_cases hc : chk vs ≠ 0
  · have e1 : (chk vs != 0) = true := by simpa using hc
    rw [e1, br_true]
    exact bad _ hc (by unfold agE; rw [if_pos hc])
  replace hc : chk vs = 0 := Classical.not_not.1 hc
  obtain ⟨hn, _⟩ := ok_of hc
  rw [hc, show ((0 : Int) != 0) = false from rfl, br_false]
  have b5 : (from' < 0 ∨ from' ≥ (vs.length : Int)) → agE vs from' = 5 := fun h => by unfold agE; rw [if_neg (by rw [hc]; decide), if_pos h]
  simp only [br_dec]
  refine ⟨fun h => bad 5 (by decide) (b5 (.inl h)), fun h1 => ⟨fun h => bad 5 (by decide) (b5 (.inr h)), fun h2 => ?_⟩⟩
  obtain ⟨f, rfl⟩ : ∃ f : Nat, from' = f := ⟨from'.toNat, by omega⟩
  have hf : f < vs.length := by omega
  have hE : agE vs (f : Int) = 0 := by unfold agE; rw [if_neg (by rw [hc]; decide), if_neg (by omega)]
  have hA : ag vs (f : Int) = agn vs f := by unfold ag; rw [hE, if_pos rfl, Int.toNat_natCast]
  rw [hE, hA]
  unfold F16_3
  simp only [rdI_mk, rdC_mk]
  refine ((Hs.start w).same s1).alc fun b w2 h2 => ⟨4, ?_⟩
  have res : ∀ {x : Int} {w' : World}, x = agn vs f → Hs w [litP b] w' → (.tuple #[.int .i64 x, .int .i64 0] : Value) = .tuple #[.int .i64 (agn vs f), .int .i64 0] ∧ Same w w' := fun h s => by rw [h]; exact ⟨rfl, s.1⟩
  show F16_2B _ _ _ _ _ _ _ (.int .i64 ((0 : Nat) : Int)) _
  refine c16_step (s := 1) hv hn.2 h2 hf (by decide) rfl (fun m w' s _g => ?_) (fun m st w' s _g => ?_) (fun m1 t1 w3 h3 => ?_)
  · simp only [rdI_mk]; intro _g; exact res (by unfold agn; rw [if_pos m]) s
  · simp only [rdI_mk]; intro _g; exact res (by unfold agn; rw [if_neg m, if_pos st]) s
  show F16_2B _ _ _ _ _ _ _ _ _
  refine c16_step (s := 2) hv hn.2 h3 hf (by decide) rfl (fun m w' s _g => ?_) (fun m st w' s _g => ?_) (fun m2 t2 w4 h4 => ?_)
  · simp only [rdI_mk]; intro _g; exact res (by unfold agn; rw [if_neg m1, if_neg t1, if_pos m]) s
  · simp only [rdI_mk]; intro _g; exact res (by unfold agn; rw [if_neg m1, if_neg t1, if_neg m, if_pos st]) s
  show F16_2B _ _ _ _ _ _ _ _ _
  refine c16_step (s := 3) hv hn.2 h4 hf (by decide) rfl (fun m w' s _g => ?_) (fun m st w' s _g => ?_) (fun m3 t3 w5 h5 => ?_)
  · simp only [rdI_mk]; intro _g; exact res (by unfold agn; rw [if_neg m1, if_neg t1, if_neg m2, if_neg t2, if_pos m]) s
  · simp only [rdI_mk]; intro _g; exact res (by unfold agn; rw [if_neg m1, if_neg t1, if_neg m2, if_neg t2, if_neg m]) s
  show F16_2B _ _ _ _ _ _ _ _ _
  unfold F16_2B
  simp only [rdC_mk, rdI_mk, br_dec]
  refine ⟨fun h => by exfalso; revert h; decide, fun _ _g => ?_⟩
  intro _g
  exact res (by unfold agn; rw [if_neg m1, if_neg t1, if_neg m2, if_neg t2, if_neg m3]) h5
/-! two equal lists -/
theorem c12 {a b : Option Addr} {c d : Nat} {xs : List Nat} (hx : xs.length ≤ 8) (ha : Rd w a (inV xs)) (hb : Rd w b (inV xs)) : Calls Try.prog 12 #[.slice a xs.length c, .slice b xs.length d] w (rt fun v w' => v = .bool true ∧ Same w w') := by
  refine F12_ok ?_
  unfold F12
  simp only [rdC_mk]
  have e0 : ((xs.length : Int) != (xs.length : Int)) = false := by simp
  rw [e0, br_false]
  have loop : ∀ (i j : Nat) (w1 : World) (k : Nat) (K0 : World → Prop) (Kr : Value → World → Prop), j + i = xs.length → Same w w1 → i < k → (∀ w', Same w w' → K0 w') → F12_1 K0 Kr k (.slice a xs.length c) (.slice b xs.length d) (.int .i64 (j : Int)) w1 := by
    intro i
    induction i with
    | zero =>
      intro j w1 k K0 Kr hj hw hk hK
      obtain ⟨k, rfl⟩ : ∃ j, k = j + 1 := ⟨k - 1, by omega⟩
      show F12_1B _ _ _ _ _ _ _
      unfold F12_1B
      simp only [rdC_mk, rdI_mk, br_dec]
      exact ⟨fun h => by exfalso; omega, fun _ => hK w1 hw⟩
    | succ i ih =>
      intro j w1 k K0 Kr hj hw hk hK
      obtain ⟨k, rfl⟩ : ∃ j, k = j + 1 := ⟨k - 1, by omega⟩
      show F12_1B _ _ _ _ _ _ _
      unfold F12_1B drw
      simp only [rdC_mk, rdI_mk, br_dec]
      refine ⟨fun _ => ?_, fun h => by exfalso; omega⟩
      have hs := hw.drew
      have ha' := ha.fr hs fun _ _ x => x
      have hb' := hb.fr hs fun _ _ x => x
      generalize w1.drew = w2 at hs ha' hb' ⊢
      obtain ⟨x, hxj⟩ : ∃ x, xs[j]? = some x := ⟨xs[j]'(by omega), by simp⟩
      obtain ⟨ad, rfl⟩ := ha'.some (by rw [inV_length]; omega)
      obtain ⟨bd, rfl⟩ := hb'.some (by rw [inV_length]; omega)
      refine ixS_of (by omega) (by omega) ?_
      rw [Int.toNat_natCast, Nat.mul_one]
      refine ldI_c (ha'.at (inV_at hxj)) (ixS_of (by omega) (by omega) ?_)
      rw [Int.toNat_natCast, Nat.mul_one]
      refine ldI_c (hb'.at (inV_at hxj)) ?_
      have e1 : IntKind.wrap .i64 ((j : Int) + 1) = ((j + 1 : Nat) : Int) := by rw [wrap_i64 (by omega) (by omega)]; omega
      have e2 : ((x : Int) != (x : Int)) = false := by simp
      rw [e1, e2, br_false]
      exact ih (j + 1) w2 k K0 Kr (by omega) hs (by omega) hK
  exact ⟨xs.length + 1, loop xs.length 0 w _ _ _ (by omega) (Fr.refl w) (by omega) fun w' s _g => ⟨trivial, s⟩⟩
/-! awake -/
def vs3 : List VW := [⟨1, 10, 0, true⟩, ⟨1, 0, 0, true⟩, ⟨1, 20, 0, true⟩]
theorem n30 : nxt 0 0 vs3 = (2, true, 0) := by decide
theorem n32 : nxt 0 2 vs3 = (0, true, 0) := by decide
theorem a32 : ag vs3 2 = 0 ∧ agE vs3 2 = 0 := by decide
theorem c15 (w : World) : Calls Try.prog 15 #[] w (rt fun v w' => v = .bool true ∧ Same w w') := by
  refine F15_ok ?_
  unfold F15
  refine (Hs.start w).alc fun b w1 h1 => ?_
  have hr : ∀ {w'}, Same w1 w' → Rd w' (some ⟨b, 0, none⟩) (vs3.flatMap vwC) := fun s j u hj => ⟨_, rfl, by
    rw [add_mk, cell_at ((h1.same s).at 0 rfl), Nat.zero_add, ← Array.getElem?_toList]; exact hj⟩
  refine cl (c10 (vs := vs3) (hr (Fr.refl w1)) 0 0 (by decide)) ?_
  rintro _ w2 ⟨rfl, s2⟩
  rw [n30]
  refine ⟨_, _, _, rfl, ?_⟩
  refine cl (c10 (vs := vs3) (hr s2) 0 2 (by decide)) ?_
  rintro _ w3 ⟨rfl, s3⟩
  rw [n32]
  refine ⟨_, _, _, rfl, ?_⟩
  have g3 := s2.trans s3 fun _ _ x => x
  refine cl (c16 (vs := vs3) (hr g3) 2) ?_
  rintro _ w4 ⟨rfl, s4⟩
  rw [a32.1, a32.2]
  refine ⟨_, _, rfl, ?_⟩
  exact ⟨rfl, (h1.1.trans g3 fun _ _ x => x).trans s4 fun _ _ x => x⟩
end
end Go.Proofs.Ytaiofglmcoojbaa
