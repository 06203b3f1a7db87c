/- Own text: part of the shallow reading of the code and of the contracts that are proved over it. -/
import Derived.Test.YtaiofglmcoojbaaScD
namespace Go.Proofs.Ytaiofglmcoojbaa
open Go Go.Sh
section
variable {W w : World} {L M : List HP} {va : Option Addr} {vs : List VW} {vc : Nat}
/-! Next -/
def nxt (kind last : Int) (vs : List VW) : Int × Bool × Int := match ordL kind last vs with | [] => (0, false, ordE kind vs) | x :: _ => ((x : Int), true, 0)
def nxtV (t : Int × Bool × Int) : Value := .tuple #[.int .i64 t.1, .bool t.2.1, .int .i64 t.2.2]
theorem ordL_nil {kind last : Int} (h : ordE kind vs ≠ 0) : ordL kind last vs = [] := by unfold ordL; rw [if_neg h]
theorem c10 (hv : Rd w va (vs.flatMap vwC)) (kind last : Int) (hlr : -9223372036854775808 ≤ last ∧ last ≤ 9223372036854775807) : Calls Try.prog 10 #[.int .i64 kind, .int .i64 last, .slice va vs.length vc] w (rt fun v w' => v = nxtV (nxt kind last vs) ∧ Same w w') := by
  refine F10_ok ?_
  unfold F10
  simp only [rdI_mk, rdC_mk]
  refine cl (c8 hv kind last hlr) ?_
  rintro _ w1 ⟨a, c, rfl, o, s⟩
  refine ⟨_, _, _, _, rfl, ?_⟩
  unfold nxt
  by_cases he : ordE kind vs = 0
  · rw [he, show ((0 : Int) != 0) = false from rfl, br_false]
    cases hl : ordL kind last vs with
    | nil =>
      rw [show ((([] : List Nat).length : Int) == 0) = true from rfl, br_true]
      exact ⟨rfl, s⟩
    | cons x r =>
      have e1 : ((((x :: r).length : Nat) : Int) == 0) = false := by simp; omega
      rw [e1, br_false]
      rw [hl] at o
      obtain ⟨ad, rfl⟩ := o.rd.some (by simp [inV])
      refine ixS_of (by omega) (by simp <;> omega) ?_
      exact ldI_c (o.rd.at (j := 0) rfl) ⟨rfl, s⟩
  · have e1 : (ordE kind vs != 0) = true := by simpa using he
    rw [e1, br_true, ordL_nil he]
    exact ⟨rfl, s⟩
/-! the reference's Check -/
theorem c28 (v : VW) (w : World) : Calls Try.prog 28 #[.agg (vwC v).toArray] w (rt fun x w' => x = .bool (okV v) ∧ Same w w') := by
  refine F28_ok ?_
  unfold F28
  refine ⟨v.st, v.sp, v.tr, v.sh, rfl, ?_⟩
  refine (Hs.start w).alc fun b w1 h1 => ?_
  simp only [add_mk]
  have no : ∀ {p : Prop}, (p → okV v = false) → p → (Value.bool false = .bool (okV v) ∧ Same w w1) := fun h hp => by rw [h hp]; exact ⟨rfl, h1.1⟩
  refine h1.ldI 0 rfl rfl ?_
  simp only [br_dec]
  refine ⟨fun k1 => h1.ldI 0 rfl rfl ⟨fun k2 => h1.ldI 0 rfl rfl ⟨fun k3 => h1.ldI 0 rfl rfl ⟨fun k4 => h1.ldI 0 rfl rfl ⟨fun k5 => h1.ldI 0 rfl rfl ⟨?_, h1.1⟩, no fun k => ?_⟩, no fun k => ?_⟩, no fun k => ?_⟩, no fun k => ?_⟩, no fun k => ?_⟩
  · congr 1
    unfold okV
    rw [Bool.eq_iff_iff]; simp; omega
  all_goals (unfold okV; simp; omega)
theorem c14 (hv : Rd w va (vs.flatMap vwC)) : Calls Try.prog 14 #[.slice va vs.length vc] w (rt fun v w' => v = .int .i64 (chk vs) ∧ Same w w') := by
  refine F14_ok ?_
  unfold F14
  simp only [rdC_mk, br_dec]
  have big : (vs.length = 0 ∨ 8 < vs.length) → chk vs = 3 := fun h => by unfold chk; rw [if_pos h]
  rw [br_iff]
  refine ⟨fun h => ⟨by rw [big (.inl (by simpa using h))], Fr.refl w⟩, fun h1 => ⟨fun h => ⟨by rw [big (.inr (by omega))], Fr.refl w⟩, fun h2 => ?_⟩⟩
  have h1 : vs.length ≠ 0 := by simpa using h1
  have hl : ¬ (vs.length = 0 ∨ 8 < vs.length) := by omega
  unfold F14_2
  simp only [rdC_mk]
  have loop : ∀ (i j : Nat) (w1 : World) (k : Nat) (K0 : World → Prop) (Kr : Value → World → Prop), j + i = vs.length → Same w w1 → (∀ q < j, okV (gv vs q) = true) → i < k → (chk vs = 0 → ∀ w', Same w w' → K0 w') → (chk vs = 1 → ∀ w', Same w w' → Kr (.int .i64 1) w') →
      F14_1 K0 Kr k (.slice va vs.length vc) (.int .i64 (j : Int)) w1 := by
    intro i
    induction i with
    | zero =>
      intro j w1 k K0 Kr hj hw hq hk hK hR
      obtain ⟨k, rfl⟩ : ∃ j, k = j + 1 := ⟨k - 1, by omega⟩
      show F14_1B _ _ _ _ _ _
      unfold F14_1B
      simp only [rdC_mk, rdI_mk, br_dec]
      exact ⟨fun h => by exfalso; omega, fun _ => hK (chk_good hl fun i hi => hq i (by omega)) w1 hw⟩
    | succ i ih =>
      intro j w1 k K0 Kr hj hw hq hk hK hR
      obtain ⟨k, rfl⟩ : ∃ j, k = j + 1 := ⟨k - 1, by omega⟩
      show F14_1B _ _ _ _ _ _
      unfold F14_1B
      simp only [rdC_mk, rdI_mk, br_dec]
      refine ⟨fun _ => ?_, fun h => by exfalso; omega⟩
      have hjl : j < vs.length := by omega
      have hr := hv.fr hw fun _ _ x => x
      obtain ⟨ad, rfl⟩ := vw_some hr hjl
      refine ixS_of (by omega) (by omega) ?_
      simp only [Int.toNat_natCast, add_add]
      refine ldI_c (vw_at hr hjl rfl) (ldI_c (vw_at hr hjl rfl) (ldI_c (vw_at hr hjl rfl) (ldB_c (vw_at hr hjl rfl) ?_)))
      refine cl (c28 (gv vs j) w1) ?_
      rintro _ w2 ⟨rfl, s2⟩
      refine ⟨_, rfl, ?_⟩
      have hs := hw.trans s2 fun _ _ x => x
      have e1 : IntKind.wrap .i64 ((j : Int) + 1) = ((j + 1 : Nat) : Int) := by rw [wrap_i64 (by omega) (by omega)]; omega
      rw [e1]
      cases hok : okV (gv vs j) with
      | false => exact hR (chk_bad hl hjl hok) w2 hs
      | true =>
        rw [Bool.not_true, br_false]
        refine ih (j + 1) w2 k K0 Kr (by omega) hs (fun q hq' => ?_) (by omega) hK hR
        rcases Nat.lt_succ_iff_lt_or_eq.1 hq' with h | rfl
        · exact hq q h
        · exact hok
  refine ⟨vs.length + 1, loop vs.length 0 w _ _ _ (by omega) (Fr.refl w) (fun q h => by omega) (by omega) (fun hc w' s _g => ?_) (fun hc w' s _g => ?_)⟩
  · intro _g
    exact ⟨_, rfl, by rw [hc], s⟩
  · simp only [rdI_mk]
    intro _g
    exact ⟨by rw [hc], s⟩
/-! the reference's Fit -/
def okAll (vs : List VW) : Prop := ∀ i < vs.length, 1 ≤ (gv vs i).st ∧ (gv vs i).st ≤ 3
theorem ok_of (h : chk vs = 0) : (0 < vs.length ∧ vs.length ≤ 8) ∧ ∀ i < vs.length, okV (gv vs i) = true := by
  unfold chk at h
  split at h
  · cases h
  · split at h
    · rename_i h1 h2
      refine ⟨by omega, fun i hi => List.all_eq_true.1 h2 _ (List.mem_of_getElem? (gv_at hi))⟩
    · cases h
theorem okAll_of (h : chk vs = 0) : okAll vs := fun i hi => by
  have := (ok_of h).2 i hi
  unfold okV at this
  simp at this
  omega
theorem c31 (hv : Rd w va (vs.flatMap vwC)) (hl : vs.length ≤ 8) (ho : okAll vs) : Calls Try.prog 31 #[.slice va vs.length vc] w (rt fun v w' => w' = w ∧ ∃ m : Int, v = .int .i64 (if m = 3 then 0 else m) ∧ 1 ≤ m ∧ m ≤ 3 ∧ (∀ i < vs.length, m ≤ (gv vs i).st) ∧ (m = 3 ∨ ∃ i < vs.length, (gv vs i).st = m)) := by
  refine F31_ok ?_
  unfold F31
  simp only [rdC_mk]
  have loop : ∀ (i j : Nat) (m : Int) (k : Nat) (K0 : Value → World → Prop), j + i = vs.length → 1 ≤ m → m ≤ 3 → (∀ i < j, m ≤ (gv vs i).st) → (m = 3 ∨ ∃ i < vs.length, (gv vs i).st = m) → i < k →
      (∀ m : Int, 1 ≤ m → m ≤ 3 → (∀ i < vs.length, m ≤ (gv vs i).st) → (m = 3 ∨ ∃ i < vs.length, (gv vs i).st = m) → K0 (.int .i64 m) w) →
      F31_1 K0 k (.slice va vs.length vc) (.int .i64 m) (.int .i64 (j : Int)) w := by
    intro i
    induction i with
    | zero =>
      intro j m k K0 hj h1 h3 hq hm hk hK
      obtain ⟨k, rfl⟩ : ∃ j, k = j + 1 := ⟨k - 1, by omega⟩
      show F31_1B _ _ _ _ _ _
      unfold F31_1B
      simp only [rdC_mk, rdI_mk, br_dec]
      exact ⟨fun h => by exfalso; omega, fun _ => hK m h1 h3 (fun i hi => hq i (by omega)) hm⟩
    | succ i ih =>
      intro j m k K0 hj h1 h3 hq hm hk hK
      obtain ⟨k, rfl⟩ : ∃ j, k = j + 1 := ⟨k - 1, by omega⟩
      show F31_1B _ _ _ _ _ _
      unfold F31_1B
      simp only [rdC_mk, rdI_mk, br_dec]
      refine ⟨fun _ => ?_, fun h => by exfalso; omega⟩
      have hjl : j < vs.length := by omega
      obtain ⟨ad, rfl⟩ := vw_some hv hjl
      refine ixS_of (by omega) (by omega) ?_
      simp only [Int.toNat_natCast, add_add]
      refine ldI_c (vw_at hv hjl rfl) ?_
      have e1 : IntKind.wrap .i64 ((j : Int) + 1) = ((j + 1 : Nat) : Int) := by rw [wrap_i64 (by omega) (by omega)]; omega
      rw [e1]
      have hoj := ho j hjl
      by_cases hlt : (gv vs j).st < m
      · rw [if_pos hlt]
        refine ih (j + 1) _ k K0 (by omega) hoj.1 hoj.2 (fun q hq' => ?_) (.inr ⟨j, hjl, rfl⟩) (by omega) hK
        rcases Nat.lt_succ_iff_lt_or_eq.1 hq' with h | rfl
        · have := hq q h; omega
        · omega
      · rw [if_neg hlt]
        refine ih (j + 1) m k K0 (by omega) h1 h3 (fun q hq' => ?_) hm (by omega) hK
        rcases Nat.lt_succ_iff_lt_or_eq.1 hq' with h | rfl
        · exact hq q h
        · omega
  refine ⟨vs.length + 1, loop vs.length 0 3 _ _ (by omega) (by omega) (by omega) (fun i h => by omega) (.inl rfl) (by omega) fun m h1 h3 hq hm _g => ?_⟩
  simp only [rdI_mk]
  rw [br_iff]
  refine ⟨fun h => ?_, fun h => ?_⟩
  · have h : m = 3 := by simpa using h
    exact ⟨trivial, m, by rw [if_pos h], h1, h3, hq, hm⟩
  · have h : m ≠ 3 := by simpa using h
    exact ⟨trivial, m, by rw [if_neg h], h1, h3, hq, hm⟩
theorem ofS_pos {s : Int} : (ofS vs s).length > 0 ↔ ∃ i < vs.length, (gv vs i).st = s := by
  constructor
  · intro h
    obtain ⟨x, hx⟩ : ∃ x, x ∈ ofS vs s := ⟨(ofS vs s)[0], by simp⟩
    exact ⟨x, ofS_lt hx⟩
  · rintro ⟨i, hi, hs⟩
    have : i ∈ ofS vs s := by unfold ofS; rw [List.mem_filter]; exact ⟨List.mem_range.2 hi, by simpa using hs⟩
    exact List.length_pos_of_mem this
theorem fitR_eq (ho : okAll vs) {m : Int} (h1 : 1 ≤ m) (h3 : m ≤ 3) (hq : ∀ i < vs.length, m ≤ (gv vs i).st) (hm : m = 3 ∨ ∃ i < vs.length, (gv vs i).st = m) :
    (List.range vs.length).filter (fun i => ((decide ((if m = 3 then 0 else m) = 0)) || decide ((gv vs i).st = (if m = 3 then 0 else m))) && isFit vs i) = fit vs := by
  unfold fit
  have hcl : cls vs = (List.range vs.length).filter (fun i => (decide ((if m = 3 then 0 else m) = 0)) || decide ((gv vs i).st = (if m = 3 then 0 else m))) := by
    unfold cls
    by_cases m1 : m = 1
    · have : (ofS vs 1).length > 0 := ofS_pos.2 (by rcases hm with h | h; · omega
                                                    · rw [m1] at h; exact h)
      rw [if_pos this]
      unfold ofS
      congr 1
      funext i
      simp [m1]
    · have n1 : ¬ (ofS vs 1).length > 0 := fun h => by
        obtain ⟨i, hi, hs⟩ := ofS_pos.1 h
        have := hq i hi; omega
      rw [if_neg n1]
      by_cases m2 : m = 2
      · have : (ofS vs 2).length > 0 := ofS_pos.2 (by rcases hm with h | h; · omega
                                                      · rw [m2] at h; exact h)
        rw [if_pos this]
        unfold ofS
        congr 1
        funext i
        simp [m2]
      · have n2 : ¬ (ofS vs 2).length > 0 := fun h => by
          obtain ⟨i, hi, hs⟩ := ofS_pos.1 h
          have := hq i hi; omega
        rw [if_neg n2]
        have m3 : m = 3 := by omega
        unfold ofS
        apply List.filter_congr
        intro i hi
        have hi := List.mem_range.1 hi
        have a := hq i hi
        have b := ho i hi
        have : (gv vs i).st = 3 := by omega
        simp [m3, this]
  rw [hcl, List.filter_filter]
  apply List.filter_congr
  intro i _
  rw [Bool.and_comm]
theorem c18 (hv : Rd w va (vs.flatMap vwC)) (hl : vs.length ≤ 8) (ho : okAll vs) : Calls Try.prog 18 #[.slice va vs.length vc] w (rt fun v w' => ∃ a c, v = .slice a (fit vs).length c ∧ Own w' w.heap.size 3 1 a (fit vs).length c (inV (fit vs)) ∧ Same w w') := by
  refine F18_ok ?_
  unfold F18
  simp only [rdC_mk]
  refine cl (c31 hv hl ho) ?_
  rintro _ w1 ⟨e, m, rfl, h1, h3, hq, hm⟩
  rw [e]
  refine ⟨_, rfl, ?_⟩
  have hfit := fitR_eq ho h1 h3 hq hm
  generalize (if m = 3 then (0 : Int) else m) = cc at hfit ⊢
  obtain ⟨p, hp⟩ : ∃ p : Nat → Bool, p = fun i => ((decide (cc = 0)) || decide ((gv vs i).st = cc)) && isFit vs i := ⟨_, rfl⟩
  rw [← hp] at hfit
  have loop : ∀ (i j : Nat) (w1 : World) (k : Nat) (a : Option Addr) (n c : Nat) (K0 : Value → World → Prop), j + i = vs.length → n = ((List.range j).filter p).length → Hs w [slP 3 1 a n c (inV ((List.range j).filter p))] w1 → i < k →
      (∀ w' a c, Hs w [slP 3 1 a (fit vs).length c (inV (fit vs))] w' → K0 (.slice a (fit vs).length c) w') →
      F18_1 K0 k (.slice va vs.length vc) (.int .i64 cc) (.slice a n c) (.int .i64 (j : Int)) w1 := by
    intro i
    induction i with
    | zero =>
      intro j w1 k a n c K0 hj hm hw hk hK
      obtain ⟨k, rfl⟩ : ∃ j, k = j + 1 := ⟨k - 1, by omega⟩
      show F18_1B _ _ _ _ _ _ _
      unfold F18_1B
      simp only [rdC_mk, rdI_mk, br_dec]
      have : j = vs.length := by omega
      subst this
      subst hm
      rw [hfit] at hw ⊢
      exact ⟨fun h => by exfalso; omega, fun _ => hK w1 a c hw⟩
    | succ i ih =>
      intro j w1 k a n c K0 hj hm hw hk hK
      obtain ⟨k, rfl⟩ : ∃ j, k = j + 1 := ⟨k - 1, by omega⟩
      show F18_1B _ _ _ _ _ _ _
      unfold F18_1B
      simp only [rdC_mk, rdI_mk, br_dec]
      refine ⟨fun _ => ?_, fun h => by exfalso; omega⟩
      have hjl : j < vs.length := by omega
      have hr := hw.rd_old hv
      obtain ⟨ad, rfl⟩ := vw_some hr hjl
      have e1 : IntKind.wrap .i64 ((j : Int) + 1) = ((j + 1 : Nat) : Int) := by rw [wrap_i64 (by omega) (by omega)]; omega
      have hnl : n ≤ j := by rw [hm]; exact Nat.le_trans (List.length_filter_le _ _) (by simp)
      have hsn := range_snoc_filter p j
      have skip : p j = false → F18_1 K0 k (.slice (some ad) vs.length vc) (.int .i64 cc) (.slice a n c) (.int .i64 ((j + 1 : Nat) : Int)) w1 := fun hf => by
        rw [hf] at hsn
        simp at hsn
        exact ih (j + 1) w1 k a n c K0 (by omega) (by rw [hsn]; exact hm) (by rw [hsn]; exact hw) (by omega) hK
      have take : p j = true → alc (.cells #[(.int .i64 (j : Int))] 3) w1 fun b9 w10 => ∃ l11a l11n l11c w12, Sem.run Try.prog (Builtin.append_ #[23, 23] 23 #[(.slice a n c), (.slice (some (Addr.mk b9 0 none)) 1 1)]) w10 = .ok (.slice l11a l11n l11c) w12 ∧ (F18_1 K0 k (.slice (some ad) vs.length vc) (.int .i64 cc) (.slice l11a l11n l11c) (.int .i64 ((j + 1 : Nat) : Int)) w12) := fun hf => by
        unfold alc
        refine hw.push E23 0 rfl (news := #[_]) rfl (by simp [Value.oneCell']) (by omega) (by omega) ?_
        intro a2 c2 w3 h3
        rw [hf] at hsn
        simp only [if_true] at hsn
        refine ih (j + 1) w3 k a2 (n + 1) c2 K0 (by omega) ?_ ?_ (by omega) hK
        · rw [hsn, List.length_append, hm]; rfl
        · rw [hsn, inV_snoc]; exact h3
      rw [e1]
      have at4 : ∀ {K : Addr → Prop}, K (ad.add (j * 4)) → ixS 4 (some ad) vs.length (j : Int) K := fun hk => ixS_of (by omega) (by omega) (by rw [Int.toNat_natCast]; exact hk)
      have hpj : p j = (((decide (cc = 0)) || decide ((gv vs j).st = cc)) && (decide (0 < (gv vs j).sp) && (gv vs j).sh)) := by rw [hp]; rfl
      rw [br_iff]
      refine ⟨fun h0 => at4 ?_, fun h0 => at4 ?_⟩
      · have h0 : cc = 0 := by simpa using h0
        simp only [add_add]
        refine ldI_c (vw_at hr hjl rfl) ⟨fun hsp => at4 ?_, fun hsp => skip (by rw [hpj]; simp; omega)⟩
        simp only [add_add]
        refine ldB_c (vw_at hr hjl rfl) ?_
        rw [br_iff]
        refine ⟨fun hsh => take (by rw [hpj]; simp [h0, hsh]; omega), fun hsh => skip (by rw [hpj]; simp [hsh])⟩
      · have h0 : cc ≠ 0 := by simpa using h0
        simp only [add_add]
        refine ldI_c (vw_at hr hjl rfl) ?_
        rw [br_iff]
        refine ⟨fun hst => at4 ?_, fun hst => ?_⟩
        · have hst : (gv vs j).st = cc := by simpa using hst
          simp only [add_add]
          refine ldI_c (vw_at hr hjl rfl) ⟨fun hsp => at4 ?_, fun hsp => skip (by rw [hpj]; simp; omega)⟩
          simp only [add_add]
          refine ldB_c (vw_at hr hjl rfl) ?_
          rw [br_iff]
          refine ⟨fun hsh => take (by rw [hpj]; simp [hst, hsh]; omega), fun hsh => skip (by rw [hpj]; simp [hsh])⟩
        · have hst : (gv vs j).st ≠ cc := by simpa using hst
          exact skip (by rw [hpj]; simp [h0, hst])
  refine ⟨vs.length + 1, loop vs.length 0 w _ none 0 0 _ (by omega) rfl ((Hs.start w).nil 3 1) (by omega) fun w' a c h' _g => ?_⟩
  simp only [rdC_mk]
  exact ⟨a, c, rfl, h'.own 0 rfl, h'.1⟩
/-! better -/
theorem c27 (hv : Rd w va (vs.flatMap vwC)) (kind last : Int) {i k : Nat} (hi : i < vs.length) (hk : k < vs.length) : Calls Try.prog 27 #[.int .i64 kind, .int .i64 last, .slice va vs.length vc, .int .i64 (i : Int), .int .i64 (k : Int)] w (rt fun v w' => v = .bool (lt kind last vs i k) ∧ Same w w') := by
  have hik : decide ((i : Int) < (k : Int)) = decide (i < k) := decide_eq_decide.2 (by omega)
  refine F27_ok ?_
  unfold F27 drw
  simp only [rdI_mk, rdC_mk]
  obtain ⟨ad, rfl⟩ := vw_some hv hi
  have s1 : Same w w.drew := (Fr.refl w).drew
  have s2 : Same w w.drew.drew := s1.drew
  have h1 : Rd w.drew (some ad) (vs.flatMap vwC) := hv.fr s1 fun _ _ x => x
  have h2 : Rd w.drew.drew (some ad) (vs.flatMap vwC) := hv.fr s2 fun _ _ x => x
  have ati : ∀ {K : Addr → Prop}, K (ad.add (i * 4)) → ixS 4 (some ad) vs.length (i : Int) K := fun hk => ixS_of (by omega) (by omega) (by rw [Int.toNat_natCast]; exact hk)
  have atk : ∀ {K : Addr → Prop}, K (ad.add (k * 4)) → ixS 4 (some ad) vs.length (k : Int) K := fun hk => ixS_of (by omega) (by omega) (by rw [Int.toNat_natCast]; exact hk)
  rw [br_iff]
  refine ⟨fun hk1 => ?_, fun hk1 => ?_⟩
  · have hk1 : kind = 1 := by simpa using hk1
    subst hk1
    rw [lt_1]
    refine ati ?_
    simp only [add_add]
    refine ldI_c (vw_at h1 hi rfl) (atk ?_)
    simp only [add_add]
    refine ldI_c (vw_at h1 hk rfl) ?_
    rw [br_iff]
    refine ⟨fun hne => ati ?_, fun heq => ?_⟩
    · have hne : (gv vs i).tr ≠ (gv vs k).tr := by simpa using hne
      simp only [add_add]
      refine ldI_c (vw_at h2 hi rfl) (atk ?_)
      simp only [add_add]
      refine ldI_c (vw_at h2 hk rfl) ?_
      rw [if_pos hne]
      exact ⟨rfl, s2⟩
    · have heq : (gv vs i).tr = (gv vs k).tr := by simpa using heq
      rw [if_neg (by simp [heq]), hik]
      exact ⟨rfl, s1⟩
  have n1 : kind ≠ 1 := by simpa using hk1
  rw [br_iff]
  refine ⟨fun hk2 => ?_, fun hk2 => ?_⟩
  · have hk2 : kind = 2 := by simpa using hk2
    subst hk2
    rw [lt_2]
    refine ati ?_
    simp only [add_add]
    refine ldI_c (vw_at h1 hi rfl) (atk ?_)
    simp only [add_add]
    refine ldI_c (vw_at h1 hk rfl) ?_
    rw [br_iff]
    refine ⟨fun hne => ati ?_, fun heq => ?_⟩
    · have hne : (gv vs i).sp ≠ (gv vs k).sp := by simpa using hne
      simp only [add_add]
      refine ldI_c (vw_at h2 hi rfl) (atk ?_)
      simp only [add_add]
      refine ldI_c (vw_at h2 hk rfl) ?_
      rw [if_pos hne]
      exact ⟨rfl, s2⟩
    · have heq : (gv vs i).sp = (gv vs k).sp := by simpa using heq
      rw [if_neg (by simp [heq]), hik]
      exact ⟨rfl, s1⟩
  have n2 : kind ≠ 2 := by simpa using hk2
  have e0 : lt kind last vs i k = lt 0 last vs i k := by unfold lt; rw [if_neg n1, if_neg n2]; rfl
  rw [e0, lt_0, hik]
  simp only [br_dec]
  refine ⟨fun a1 => ⟨fun a2 => ?_, fun a2 => ?_⟩, fun a1 => ?_⟩
  · rw [br_iff]
    refine ⟨fun a3 => ?_, fun a3 => ?_⟩
    · rw [if_pos ⟨a1, a2, by simpa using a3⟩]; exact ⟨rfl, Fr.refl w⟩
    · rw [if_neg (fun h => by have := h.2.2; simp at a3; exact this (by simpa using a3))]; exact ⟨rfl, Fr.refl w⟩
  · rw [if_neg (fun h => a2 h.2.1)]; exact ⟨rfl, Fr.refl w⟩
  · rw [if_neg (fun h => a1 h.1)]; exact ⟨rfl, Fr.refl w⟩
end
end Go.Proofs.Ytaiofglmcoojbaa
