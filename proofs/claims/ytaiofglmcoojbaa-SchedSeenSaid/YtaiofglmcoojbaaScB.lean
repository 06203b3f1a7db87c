/- Own text: part of the shallow reading of the code and of the contracts that are proved over it. -/
import Derived.Test.YtaiofglmcoojbaaScA
namespace Go.Proofs.Ytaiofglmcoojbaa
open Go Go.Sh
noncomputable def E23i : TypeInfo := (Try.prog.info? 3).getD default
theorem E23 : ElemT Try.prog 23 3 1 8 (.int .i64 0) E23i := ⟨by kernel_rfl, by kernel_rfl, by kernel_rfl, by kernel_rfl, by kernel_rfl, rfl, by decide⟩
section
variable {w : World} {va : Option Addr} {vs : List VW} {vc : Nat}
theorem c32 (n : Int) (w : World) : Calls Try.prog 32 #[.int .i64 n] w (rt (KR (.bool false) w)) := by
  refine F32_ok ?_
  unfold F32
  simp only [rdI_mk]
  have : (n != n) = false := by simp
  rw [this]
  exact KR.mk _ _
def cmpI (a b : Int) : Int := if a < b then -1 else if a > b then 1 else 0
theorem c21 (a b : Int) (w : World) : Calls Try.prog 21 #[.int .i64 a, .int .i64 b] w (rt (KR (.int .i64 (cmpI a b)) w)) := by
  refine F21_ok ?_
  unfold F21
  simp only [rdI_mk]
  refine clr (c32 a w) ⟨_, rfl, clr (c32 b w) ⟨_, rfl, ?_⟩⟩
  simp only [br_false, br_dec]
  unfold cmpI
  refine ⟨fun h => ?_, fun h => ⟨fun h2 => ?_, fun h2 => ?_⟩⟩
  · rw [if_pos h]; exact KR.mk _ _
  · rw [if_neg h, if_pos h2]; exact KR.mk _ _
  · rw [if_neg h, if_neg h2]; exact KR.mk _ _
theorem c23 {ad : Addr} {a b : Int} {c : Nat} (hr : Rd w (some ad) [.int .i64 a, .int .i64 b]) : Calls Try.prog 23 #[.slice (some ad) 2 c] w (rt (KR (.int .i64 (if a ≠ 0 then a else b)) w)) := by
  refine F23_ok ?_
  unfold F23
  simp only [rdC_mk]
  refine ⟨3, ?_⟩
  show F23_1B _ _ _ _ _ _ _ _
  unfold F23_1B
  simp only [rdI_mk, rdC_mk, br_dec]
  refine ⟨fun _ => ixS_of (by omega) (by decide) (ldI_c (hr.at (j := 0) rfl) ?_), fun h => by exfalso; exact h (by decide)⟩
  rw [br_iff]
  refine ⟨fun h _g => ?_, fun h => ?_⟩
  · have h : a ≠ 0 := by simpa using h
    rw [if_pos h]
    exact KR.mk _ _
  · have h : a = 0 := by simpa using h
    rw [if_neg (by simp [h])]
    show F23_1B _ _ _ _ _ _ _ _
    unfold F23_1B
    simp only [rdI_mk, rdC_mk, br_dec]
    refine ⟨fun _ => ixS_of (by decide) (by decide) (ldI_c (n := b) (hr.at (j := 1) rfl) ?_), fun h => by exfalso; exact h (by decide)⟩
    rw [br_iff]
    refine ⟨fun h2 _g => KR.mk _ _, fun h2 => ?_⟩
    have h2 : b = 0 := by simpa using h2
    show F23_1B _ _ _ _ _ _ _ _
    unfold F23_1B
    simp only [rdI_mk, rdC_mk, br_dec]
    refine ⟨fun h => by exfalso; revert h; decide, fun _ _g => ?_⟩
    rw [h2]
    exact KR.mk _ _
/-- a view's cells -/
theorem vw_at {ad : Addr} (hr : Rd w (some ad) (vs.flatMap vwC)) {i k : Nat} (h : i < vs.length) {v : Value} (hv : (vwC (gv vs i))[k]? = some v) : w.cell? (ad.add (i * 4 + k)) = some v := hr.at (flat_at vwC_len (gv_at h) hv)
theorem vw_some (hr : Rd w va (vs.flatMap vwC)) {i : Nat} (h : i < vs.length) : ∃ ad, va = some ad := hr.some (by rw [flat_length vwC_len]; omega)
theorem chk_bad {i : Nat} (hl : ¬ (vs.length = 0 ∨ 8 < vs.length)) (hi : i < vs.length) (hb : okV (gv vs i) = false) : chk vs = 1 := by
  unfold chk
  rw [if_neg hl, if_neg]
  intro h
  have := List.all_eq_true.1 h (gv vs i) (List.mem_of_getElem? (gv_at hi))
  rw [hb] at this; cases this
theorem chk_good (hl : ¬ (vs.length = 0 ∨ 8 < vs.length)) (h : ∀ i < vs.length, okV (gv vs i) = true) : chk vs = 0 := by
  unfold chk
  rw [if_neg hl, if_pos]
  rw [List.all_eq_true]
  intro v hv
  obtain ⟨i, hi⟩ := List.getElem?_of_mem hv
  have hlt := (List.getElem?_eq_some_iff.1 hi).1
  have := gv_at hlt
  rw [hi] at this
  cases this
  exact h i hlt
theorem c13 (hv : Rd w va (vs.flatMap vwC)) : Calls Try.prog 13 #[.slice va vs.length vc] w (rt fun v w' => v = .int .i64 (chk vs) ∧ Same w w') := by
  refine F13_ok ?_
  unfold F13
  simp only [rdC_mk, br_dec]
  have big : (vs.length = 0 ∨ 8 < vs.length) → chk vs = 3 := fun h => by unfold chk; rw [if_pos h]
  refine ⟨fun h => ⟨by rw [big (.inl (by omega))], Fr.refl w⟩, fun h1 => ⟨fun h => ⟨by rw [big (.inr (by omega))], Fr.refl w⟩, fun h2 => ?_⟩⟩
  have hl : ¬ (vs.length = 0 ∨ 8 < vs.length) := by omega
  unfold F13_3
  simp only [rdC_mk]
  have loop : ∀ (i j : Nat) (w1 : World) (k : Nat) (K0 : World → Prop) (Kr : Value → World → Prop), j + i = vs.length → Hs w [] w1 → (∀ q < j, okV (gv vs q) = true) → i < k → (chk vs = 0 → ∀ w', Same w w' → K0 w') → (chk vs = 1 → ∀ w', Same w w' → Kr (.int .i64 1) w') →
      F13_2 K0 Kr k (.slice va vs.length vc) (.int .i64 (vs.length : Int)) (.int .i64 (j : Int)) w1 := by
    intro i
    induction i with
    | zero =>
      intro j w1 k K0 Kr hj hw hq hk hK hR
      obtain ⟨k, rfl⟩ : ∃ j, k = j + 1 := ⟨k - 1, by omega⟩
      show F13_2B _ _ _ _ _ _ _
      unfold F13_2B
      simp only [rdC_mk, rdI_mk, br_dec]
      exact ⟨fun h => by exfalso; omega, fun _ => hK (chk_good hl fun i hi => hq i (by omega)) w1 hw.1⟩
    | succ i ih =>
      intro j w1 k K0 Kr hj hw hq hk hK hR
      obtain ⟨k, rfl⟩ : ∃ j, k = j + 1 := ⟨k - 1, by omega⟩
      show F13_2B _ _ _ _ _ _ _
      unfold F13_2B
      simp only [rdC_mk, rdI_mk, br_dec]
      refine ⟨fun _ => ?_, fun h => by exfalso; omega⟩
      have hjl : j < vs.length := by omega
      have hr := hw.rd_old hv
      obtain ⟨ad, rfl⟩ := vw_some hr hjl
      refine ixS_of (by omega) (by omega) ?_
      simp only [Int.toNat_natCast, add_add, add_mk]
      refine ldI_c (vw_at hr hjl rfl) (ldI_c (vw_at hr hjl rfl) (ldI_c (vw_at hr hjl rfl) (ldB_c (vw_at hr hjl rfl) ?_)))
      refine hw.alc fun b w2 h2 => h2.stc 0 rfl (by simp) fun w3 h3 => h3.stc 0 rfl (by simp) fun w4 h4 => h4.stc 0 rfl (by simp) fun w5 h5 => h5.stc 0 rfl (by simp) fun w6 h6 => ?_
      have h7 : Hs w [pt b (.cells (vwC (gv vs j)).toArray 42)] w6 := h6
      clear h6 h5 h4 h3 h2
      refine h7.ldI 0 rfl rfl ?_
      have e1 : IntKind.wrap .i64 ((j : Int) + 1) = ((j + 1 : Nat) : Int) := by rw [wrap_i64 (by omega) (by omega)]; omega
      have bad : okV (gv vs j) = false → Kr (.int .i64 1) w6 := fun hb => hR (chk_bad hl hjl hb) w6 h7.1
      have mid : (1 ≤ (gv vs j).st ∧ (gv vs j).st ≤ 3) → F13_1 (fun y13_15 y14_15 y15_15 w17 => ∀ _g18 : Tm, rdC y13_15 fun l19a l19n l19c => rdI .i64 y14_15 fun n20 => rdI .i64 y15_15 fun n21 => F13_2 K0 Kr k (.slice l19a l19n l19c) (.int .i64 n20) (.int .i64 (IntKind.wrap .i64 (n21 + 1))) w17) (fun y2_21 w23 => ∀ _g24 : Tm, rdI .i64 y2_21 fun n25 => Kr (.int .i64 n25) w23) (.pointer (some (Addr.mk b 0 none))) (.slice (some ad) vs.length vc) (.int .i64 (vs.length : Int)) (.int .i64 (j : Int)) w6 := by
        intro hst
        unfold F13_1
        simp only [rdA_mk, rdC_mk, rdI_mk, br_dec, add_mk]
        refine h7.ldI 0 rfl rfl ⟨fun hx _g => bad (by unfold okV; simp; omega), fun hx1 => h7.ldI 0 rfl rfl ⟨fun hx _g => bad (by unfold okV; simp; omega), fun hx2 => h7.ldI 0 rfl rfl ⟨fun hx _g => bad (by unfold okV; simp; omega), fun hx3 => h7.ldI 0 rfl rfl ⟨fun hx _g => bad (by unfold okV; simp; omega), fun hx4 _g => ?_⟩⟩⟩⟩
        rw [e1]
        refine ih (j + 1) w6 k K0 Kr (by omega) (h7.erase 0) (fun q hq' => ?_) (by omega) hK hR
        rcases Nat.lt_succ_iff_lt_or_eq.1 hq' with h | rfl
        · exact hq q h
        · unfold okV; simp; omega
      rw [br_iff]
      refine ⟨fun h => ?_, fun h => ?_⟩
      · have h : (gv vs j).st = 1 := by simpa using h
        exact mid (by omega)
      have n1 : (gv vs j).st ≠ 1 := by simpa using h
      rw [br_iff]
      refine ⟨fun h => ?_, fun h => ?_⟩
      · have h : (gv vs j).st = 2 := by simpa using h
        exact mid (by omega)
      have n2 : (gv vs j).st ≠ 2 := by simpa using h
      rw [br_iff]
      refine ⟨fun h => ?_, fun h => ?_⟩
      · have h : (gv vs j).st = 3 := by simpa using h
        exact mid (by omega)
      have n3 : (gv vs j).st ≠ 3 := by simpa using h
      exact bad (by unfold okV; simp; omega)
  refine ⟨vs.length + 1, loop vs.length 0 w _ _ _ (by omega) (Hs.start w) (fun q h => by omega) (by omega) (fun hc w' s _g => ?_) (fun hc w' s _g => ?_)⟩
  · intro _g
    exact ⟨_, rfl, by rw [hc], s⟩
  · simp only [rdI_mk]
    intro _g
    exact ⟨by rw [hc], s⟩
/-- the paths of a state -/
theorem range_snoc_filter (p : Nat → Bool) (j : Nat) : (List.range (j + 1)).filter p = (List.range j).filter p ++ (if p j then [j] else []) := by
  rw [List.range_succ, List.filter_append]
  congr 1
  cases h : p j <;> simp [h]
theorem c29 (hv : Rd w va (vs.flatMap vwC)) (hl : vs.length ≤ 8) (s : Int) : Calls Try.prog 29 #[.slice va vs.length vc, .int .i64 s] w (rt fun v w' => ∃ a c, v = .slice a (ofS vs s).length c ∧ Own w' w.heap.size 3 1 a (ofS vs s).length c (inV (ofS vs s)) ∧ Same w w') := by
  refine F29_ok ?_
  unfold F29
  simp only [rdC_mk, rdI_mk]
  have loop : ∀ (i j : Nat) (w1 : World) (k : Nat) (a : Option Addr) (m c : Nat) (K0 : Value → World → Prop), j + i = vs.length → m = ((List.range j).filter fun i => decide ((gv vs i).st = s)).length → Hs w [slP 3 1 a m c (inV ((List.range j).filter fun i => decide ((gv vs i).st = s)))] w1 → i < k →
      (∀ w' a c, Hs w [slP 3 1 a (ofS vs s).length c (inV (ofS vs s))] w' → K0 (.slice a (ofS vs s).length c) w') →
      F29_1 K0 k (.int .i64 s) (.slice a m c) (.slice va vs.length vc) (.int .i64 (vs.length : Int)) (.int .i64 (j : Int)) w1 := by
    intro i
    induction i with
    | zero =>
      intro j w1 k a m c K0 hj hm hw hk hK
      obtain ⟨k, rfl⟩ : ∃ j, k = j + 1 := ⟨k - 1, by omega⟩
      show F29_1B _ _ _ _ _ _ _ _
      unfold F29_1B
      simp only [rdC_mk, rdI_mk, br_dec]
      have : j = vs.length := by omega
      subst this
      subst hm
      exact ⟨fun h => by exfalso; omega, fun _ => hK w1 a c hw⟩
    | succ i ih =>
      intro j w1 k a m c K0 hj hm hw hk hK
      obtain ⟨k, rfl⟩ : ∃ j, k = j + 1 := ⟨k - 1, by omega⟩
      show F29_1B _ _ _ _ _ _ _ _
      unfold F29_1B
      simp only [rdC_mk, rdI_mk, br_dec]
      refine ⟨fun _ => ?_, fun h => by exfalso; omega⟩
      have hjl : j < vs.length := by omega
      have hr := hw.rd_old hv
      obtain ⟨ad, rfl⟩ := vw_some hr hjl
      refine ixS_of (by omega) (by omega) ?_
      simp only [Int.toNat_natCast, add_add, add_mk]
      refine ldI_c (vw_at hr hjl rfl) (ldI_c (vw_at hr hjl rfl) (ldI_c (vw_at hr hjl rfl) (ldB_c (vw_at hr hjl rfl) ?_)))
      refine hw.alc fun b w2 h2 => h2.stc 0 rfl (by simp) fun w3 h3 => h3.stc 0 rfl (by simp) fun w4 h4 => h4.stc 0 rfl (by simp) fun w5 h5 => h5.stc 0 rfl (by simp) fun w6 h6 => ?_
      have h7 : Hs w [pt b (.cells (vwC (gv vs j)).toArray 42), slP 3 1 a m c (inV ((List.range j).filter fun i => decide ((gv vs i).st = s)))] w6 := h6
      clear h6 h5 h4 h3 h2
      refine h7.ldI 0 rfl rfl ?_
      have e1 : IntKind.wrap .i64 ((j : Int) + 1) = ((j + 1 : Nat) : Int) := by rw [wrap_i64 (by omega) (by omega)]; omega
      rw [e1]
      have hml : m ≤ j := by
        rw [hm]; exact Nat.le_trans (List.length_filter_le _ _) (by simp)
      have hsn := range_snoc_filter (fun i => decide ((gv vs i).st = s)) j
      rw [br_iff]
      refine ⟨fun h => ?_, fun h => ?_⟩
      · have h : (gv vs j).st = s := by simpa using h
        unfold alc
        refine h7.push E23 1 rfl (news := #[_]) rfl (by simp [Value.oneCell']) (by omega) (by omega) ?_
        intro a2 c2 w8 h8
        have hp : decide ((gv vs j).st = s) = true := decide_eq_true h
        simp only [hp, if_true] at hsn
        refine ih (j + 1) w8 k a2 (m + 1) c2 K0 (by omega) ?_ ?_ (by omega) hK
        · rw [hsn, List.length_append, hm]; rfl
        · rw [hsn, inV_snoc]; exact h8.erase 0
      · have h : (gv vs j).st ≠ s := by simpa using h
        have hp : decide ((gv vs j).st = s) = false := decide_eq_false h
        simp only [hp] at hsn
        refine ih (j + 1) w6 k a m c K0 (by omega) ?_ ?_ (by omega) hK
        · rw [hsn]; simpa using hm
        · rw [hsn]; simpa using h7.erase 0
  refine ⟨vs.length + 1, loop vs.length 0 w _ none 0 0 _ (by omega) rfl ((Hs.start w).nil 3 1) (by omega) fun w' a c h' _g => ?_⟩
  simp only [rdC_mk]
  exact ⟨a, c, rfl, h'.own 0 rfl, h'.1⟩
theorem c25 (hv : Rd w va (vs.flatMap vwC)) (hl : vs.length ≤ 8) : Calls Try.prog 25 #[.slice va vs.length vc] w (rt fun v w' => ∃ a c, v = .slice a (cls vs).length c ∧ Own w' w.heap.size 3 1 a (cls vs).length c (inV (cls vs)) ∧ Same w w') := by
  refine F25_ok ?_
  unfold F25
  simp only [rdC_mk]
  refine (Hs.start w).alc fun b w1 h1 => ⟨3, ?_⟩
  show F25_1B _ _ _ _ _ _ _ _
  unfold F25_1B
  simp only [rdC_mk, rdI_mk, br_dec]
  have hr1 : ∀ {w1 : World}, Hs w [pt b (.cells #[.int .i64 1, .int .i64 2] 40)] w1 → Rd w1 (some ⟨b, 0, none⟩) [.int .i64 1, .int .i64 2] := fun h j u hj => ⟨_, rfl, by
    rw [add_mk, cell_at (h.at 0 rfl), Nat.zero_add]
    match j, hj with
    | 0, hj => simpa using hj
    | 1, hj => simpa using hj
    | j + 2, hj => simp at hj⟩
  refine ⟨fun _ => ixS_of (by omega) (by decide) (ldI_c (n := 1) ((hr1 h1).at (j := 0) rfl) ?_), fun h => by exfalso; exact h (by decide)⟩
  refine cl (c29 (h1.rd_old hv) hl 1) ?_
  rintro _ w2 ⟨a2, c2, rfl, o2, s2⟩
  refine ⟨_, _, _, rfl, ?_⟩
  have h2 := h1.own_new s2 o2
  try simp only [br_dec]
  unfold cls
  refine ⟨fun hc _g => ?_, fun hc => ?_⟩
  · rw [if_pos (by omega)]
    exact ⟨a2, c2, rfl, h2.own 0 rfl, h2.1⟩
  rw [if_neg (by omega)]
  show F25_1B _ _ _ _ _ _ _ _
  unfold F25_1B
  simp only [rdC_mk, rdI_mk, br_dec]
  have h3 := h2.erase 0
  refine ⟨fun _ => ixS_of (by decide) (by decide) (ldI_c (n := 2) ((hr1 h3).at (j := 1) rfl) ?_), fun h => by exfalso; exact h (by decide)⟩
  refine cl (c29 (h3.rd_old hv) hl 2) ?_
  rintro _ w4 ⟨a4, c4, rfl, o4, s4⟩
  refine ⟨_, _, _, rfl, ?_⟩
  have h4 := h3.own_new s4 o4
  try simp only [br_dec]
  refine ⟨fun hc _g => ?_, fun hc => ?_⟩
  · rw [if_pos (by omega)]
    exact ⟨a4, c4, rfl, h4.own 0 rfl, h4.1⟩
  rw [if_neg (by omega)]
  show F25_1B _ _ _ _ _ _ _ _
  unfold F25_1B
  simp only [rdC_mk, rdI_mk, br_dec]
  refine ⟨fun h => by exfalso; revert h; decide, fun _ _g => ?_⟩
  refine cl (c29 (h4.rd_old hv) hl 3) ?_
  rintro _ w5 ⟨a5, c5, rfl, o5, s5⟩
  have h5 := h4.own_new s5 o5
  exact ⟨_, _, _, rfl, a5, c5, rfl, h5.own 0 rfl, h5.1⟩
end
end Go.Proofs.Ytaiofglmcoojbaa
