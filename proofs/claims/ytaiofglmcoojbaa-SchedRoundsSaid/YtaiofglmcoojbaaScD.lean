/- Own text: part of the shallow reading of the code and of the contracts that are proved over it. -/
import Derived.Test.YtaiofglmcoojbaaScC
namespace Go.Proofs.Ytaiofglmcoojbaa
open Go Go.Sh
section
variable {W w : World} {L M : List HP} {va : Option Addr} {vs : List VW} {vc : Nat}
def fromOf (last : Int) (n : Nat) : Int := if 0 ≤ last ∧ last < (n : Int) then last + 1 else 0
def turnI (last : Int) (n i : Nat) : Int := Int.tmod ((i : Int) - fromOf last n + n) n
theorem turnI_eq {last : Int} {n i : Nat} (hi : i < n) : turnI last n i = if (i : Int) < fromOf last n then (i : Int) - fromOf last n + n else (i : Int) - fromOf last n := by
  have hf : 0 ≤ fromOf last n ∧ fromOf last n ≤ n := by unfold fromOf; split <;> omega
  unfold turnI
  rw [Int.tmod_eq_emod_of_nonneg (by omega)]
  split
  · exact Int.emod_eq_of_lt (by omega) (by omega)
  · have : ((i : Int) - fromOf last n + n) = ((i : Int) - fromOf last n) + n := rfl
    rw [this, Int.add_emod_right]
    exact Int.emod_eq_of_lt (by omega) (by omega)
theorem lt_0 {last : Int} {vs : List VW} {i k : Nat} : lt 0 last vs i k = if 0 ≤ last ∧ last < (vs.length : Int) ∧ (decide ((i : Int) > last)) ≠ (decide ((k : Int) > last)) then decide ((i : Int) > last) else decide (i < k) := rfl
theorem lt_1 {last : Int} {vs : List VW} {i k : Nat} : lt 1 last vs i k = if (gv vs i).tr ≠ (gv vs k).tr then decide ((gv vs i).tr < (gv vs k).tr) else decide (i < k) := rfl
theorem lt_2 {last : Int} {vs : List VW} {i k : Nat} : lt 2 last vs i k = if (gv vs i).sp ≠ (gv vs k).sp then decide ((gv vs i).sp > (gv vs k).sp) else decide (i < k) := rfl
theorem turn_lt {last : Int} {vs : List VW} {i k : Nat} (hi : i < vs.length) (hk : k < vs.length) : turnI last vs.length i < turnI last vs.length k ↔ lt 0 last vs i k = true := by
  rw [turnI_eq hi, turnI_eq hk, lt_0]
  by_cases hl : 0 ≤ last ∧ last < (vs.length : Int)
  · have hf : fromOf last vs.length = last + 1 := by unfold fromOf; rw [if_pos hl]
    rw [hf]
    split <;> split <;> split <;> simp only [decide_eq_true_eq, ne_eq, decide_eq_decide] at * <;> omega
  · have hf : fromOf last vs.length = 0 := by unfold fromOf; rw [if_neg hl]
    rw [hf, if_neg (by omega), if_neg (by omega), if_neg (fun h => hl ⟨h.1, h.2.1⟩)]
    simp only [decide_eq_true_eq]; omega
theorem cmpI_neg {a b : Int} : cmpI a b < 0 ↔ a < b := by
  unfold cmpI
  split
  · simp_all
  · split <;> omega
theorem cmpI_zero {a b : Int} : cmpI a b = 0 ↔ a = b := by
  unfold cmpI
  split
  · omega
  · split <;> omega
def bvP (bv : Nat) (va : Option Addr) (n vc : Nat) : HP := pt bv (.cells #[.slice va n vc] 22 (0, 0))
theorem c19 {bq bv : Nat} {fr : Int} {n : Nat} (h1 : w.heap[bq]? = some (.cells #[.int .i64 fr] 3 (0, 0))) (h2 : w.heap[bv]? = some (.cells #[.slice va n vc] 22 (0, 0))) (hn : 0 < n ∧ n ≤ 8) (hf : 0 ≤ fr ∧ fr ≤ 8) {i : Nat} (hi : i < n) :
    Calls Try.prog 19 #[.int .i64 (i : Int), .pointer (some ⟨bq, 0, none⟩), .pointer (some ⟨bv, 0, none⟩)] w (rt (KR (.int .i64 (Int.tmod ((i : Int) - fr + n) n)) w)) := by
  refine F19_ok ?_
  unfold F19
  simp only [rdI_mk, rdA_mk]
  refine ldI_at h1 rfl (ldC_at h2 rfl (ldC_at h2 rfl (nz_of (by omega) ?_)))
  rw [wrap_i64 (n := (i : Int) - fr) (by omega) (by omega), wrap_i64 (by omega) (by omega)]
  exact KR.mk _ _
theorem cmp_round {bf bq bv : Nat} {last : Int} (hn : 0 < vs.length ∧ vs.length ≤ 8) :
    CmpOk W (pt bf (.cells #[.func (.func 19) #[] #[.pointer (some ⟨bq, 0, none⟩), .pointer (some ⟨bv, 0, none⟩)]] 47 (0, 0)) :: pt bq (.cells #[.int .i64 (fromOf last vs.length)] 3 (0, 0)) :: bvP bv va vs.length vc :: M) (.func (.func 20) #[] #[.pointer (some ⟨bf, 0, none⟩)]) (lt 0 last vs) vs.length := by
  intro A w i k K hw hi hk hne hK
  have hf : 0 ≤ fromOf last vs.length ∧ fromOf last vs.length ≤ 8 := by unfold fromOf; split <;> omega
  have key : Calls Try.prog 20 #[.int .i64 (i : Int), .int .i64 (k : Int), .pointer (some ⟨bf, 0, none⟩)] w (rt fun v w' => ∃ m : Int, v = .int .i64 m ∧ (m < 0 ↔ lt 0 last vs i k = true) ∧ Same w w') := by
    refine F20_ok ?_
    unfold F20 drw
    simp only [rdI_mk, rdA_mk]
    have h1 := hw.drew
    have s1 : Same w w.drew := (Fr.refl w).drew
    generalize w.drew = w1 at h1 s1 ⊢
    refine ⟨w1, Pres.refl _, ldV_at (h1.at 1 rfl) rfl (ldV_at (h1.at 1 rfl) rfl ?_)⟩
    refine callV_of (by kernel_rfl) (call_of (c19 (h1.at 2 rfl) (h1.at 3 rfl) hn hf hi) ?_)
    rintro _ w2 ⟨v, rfl, rfl, rfl⟩
    refine ⟨_, rfl, _, rfl, Pres.refl _, ?_⟩
    refine callV_of (by kernel_rfl) (call_of (c19 (h1.at 2 rfl) (h1.at 3 rfl) hn hf hk) ?_)
    rintro _ w3 ⟨v, rfl, rfl, rfl⟩
    refine ⟨_, rfl, _, rfl, clr (c21 _ _ _) ⟨_, rfl, _, rfl, ?_, s1⟩⟩
    rw [cmpI_neg]
    exact turn_lt hi hk
  refine callV_of (by kernel_rfl) (call_of key ?_)
  rintro _ w' ⟨v, rfl, m, rfl, hm, hs⟩
  exact ⟨_, rfl, hK m w' hm hs⟩
theorem cmp_trip {bv : Nat} {last : Int} (hv : Rd W va (vs.flatMap vwC)) :
    CmpOk W (bvP bv va vs.length vc :: M) (.func (.func 22) #[] #[.pointer (some ⟨bv, 0, none⟩)]) (lt 1 last vs) vs.length := by
  intro A w i k K hw hi hk hne hK
  have key : Calls Try.prog 22 #[.int .i64 (i : Int), .int .i64 (k : Int), .pointer (some ⟨bv, 0, none⟩)] w (rt fun v w' => ∃ m : Int, v = .int .i64 m ∧ (m < 0 ↔ lt 1 last vs i k = true) ∧ Same w w') := by
    refine F22_ok ?_
    unfold F22 drw
    simp only [rdI_mk, rdA_mk]
    have h1 := hw.drew
    have s1 : Same w w.drew := (Fr.refl w).drew
    generalize w.drew = w1 at h1 s1 ⊢
    have hr := h1.rd_old hv
    obtain ⟨ad, rfl⟩ := vw_some hr hi
    refine ldC_at (h1.at 1 rfl) rfl (ixS_of (by omega) (by omega) ?_)
    simp only [Int.toNat_natCast, add_add]
    refine ldI_c (vw_at hr hi rfl) (ldC_at (h1.at 1 rfl) rfl (ixS_of (by omega) (by omega) ?_))
    simp only [Int.toNat_natCast, add_add]
    refine ldI_c (vw_at hr hk rfl) (clr (c21 _ _ _) ⟨_, rfl, clr (c21 _ _ _) ⟨_, rfl, ?_⟩⟩)
    unfold alc
    have hnew : Rd (w1.alloc (.cells #[.int .i64 (cmpI (gv vs i).tr (gv vs k).tr), .int .i64 (cmpI (i : Int) (k : Int))] 3)) (some ⟨w1.heap.size, 0, none⟩) [.int .i64 (cmpI (gv vs i).tr (gv vs k).tr), .int .i64 (cmpI (i : Int) (k : Int))] := fun j u hj => ⟨_, rfl, by rw [add_mk, cell_at (alloc_new w1 _)]; simpa using hj⟩
    refine clr (c23 hnew) ⟨_, rfl, _, rfl, ?_, s1.alloc _⟩
    rw [lt_1]
    by_cases he : (gv vs i).tr = (gv vs k).tr
    · have hz : cmpI (gv vs i).tr (gv vs k).tr = 0 := cmpI_zero.2 he
      rw [hz, if_neg (by simp), if_neg (by simp [he]), cmpI_neg]; simp
    · have hz : cmpI (gv vs i).tr (gv vs k).tr ≠ 0 := fun e => he (cmpI_zero.1 e)
      rw [if_pos hz, if_pos he, cmpI_neg]; simp
  refine callV_of (by kernel_rfl) (call_of key ?_)
  rintro _ w' ⟨v, rfl, m, rfl, hm, hs⟩
  exact ⟨_, rfl, hK m w' hm hs⟩
theorem cmp_space {bv : Nat} {last : Int} (hv : Rd W va (vs.flatMap vwC)) :
    CmpOk W (bvP bv va vs.length vc :: M) (.func (.func 24) #[] #[.pointer (some ⟨bv, 0, none⟩)]) (lt 2 last vs) vs.length := by
  intro A w i k K hw hi hk hne hK
  have key : Calls Try.prog 24 #[.int .i64 (i : Int), .int .i64 (k : Int), .pointer (some ⟨bv, 0, none⟩)] w (rt fun v w' => ∃ m : Int, v = .int .i64 m ∧ (m < 0 ↔ lt 2 last vs i k = true) ∧ Same w w') := by
    refine F24_ok ?_
    unfold F24 drw
    simp only [rdI_mk, rdA_mk]
    have h1 := hw.drew
    have s1 : Same w w.drew := (Fr.refl w).drew
    generalize w.drew = w1 at h1 s1 ⊢
    have hr := h1.rd_old hv
    obtain ⟨ad, rfl⟩ := vw_some hr hi
    refine ldC_at (h1.at 1 rfl) rfl (ixS_of (by omega) (by omega) ?_)
    simp only [Int.toNat_natCast, add_add]
    refine ldI_c (vw_at hr hk rfl) (ldC_at (h1.at 1 rfl) rfl (ixS_of (by omega) (by omega) ?_))
    simp only [Int.toNat_natCast, add_add]
    refine ldI_c (vw_at hr hi rfl) (clr (c21 _ _ _) ⟨_, rfl, clr (c21 _ _ _) ⟨_, rfl, ?_⟩⟩)
    unfold alc
    have hnew : Rd (w1.alloc (.cells #[.int .i64 (cmpI (gv vs k).sp (gv vs i).sp), .int .i64 (cmpI (i : Int) (k : Int))] 3)) (some ⟨w1.heap.size, 0, none⟩) [.int .i64 (cmpI (gv vs k).sp (gv vs i).sp), .int .i64 (cmpI (i : Int) (k : Int))] := fun j u hj => ⟨_, rfl, by rw [add_mk, cell_at (alloc_new w1 _)]; simpa using hj⟩
    refine clr (c23 hnew) ⟨_, rfl, _, rfl, ?_, s1.alloc _⟩
    rw [lt_2]
    by_cases he : (gv vs i).sp = (gv vs k).sp
    · have hz : cmpI (gv vs k).sp (gv vs i).sp = 0 := cmpI_zero.2 he.symm
      rw [hz, if_neg (by simp), if_neg (by simp [he]), cmpI_neg]; simp
    · have hz : cmpI (gv vs k).sp (gv vs i).sp ≠ 0 := fun e => he (cmpI_zero.1 e).symm
      rw [if_pos hz, if_pos he, cmpI_neg]; simp
  refine callV_of (by kernel_rfl) (call_of key ?_)
  rintro _ w' ⟨v, rfl, m, rfl, hm, hs⟩
  exact ⟨_, rfl, hK m w' hm hs⟩
/-! Order -/
theorem filter_take_succ {p : Nat → Bool} {xs : List Nat} {j x : Nat} (h : xs[j]? = some x) : (xs.take (j + 1)).filter p = (xs.take j).filter p ++ (if p x then [x] else []) := by
  rw [List.take_add_one, h, Option.toList_some, List.filter_append]
  congr 1
  cases hp : p x <;> simp [hp]
theorem c8_fin {bv i0 : Nat} {f : Nat → Nat → Bool} {fv : Value} {Kr : Value → Value → World → Prop} (hv : Rd W va (vs.flatMap vwC)) (hn : 0 < vs.length ∧ vs.length ≤ 8) (hi0 : M[i0]? = some (bvP bv va vs.length vc)) (hc : CmpOk W M fv f vs.length) (S : Strict f) (h : Hs W M w)
    (hK : ∀ w' a c, Hs W (slP 3 1 a (fit vs).length c (inV (isort f (fit vs))) :: M) w' → Kr (.slice a (fit vs).length c) (.int .i64 0) w') :
    F8_3 Kr (.pointer (some ⟨bv, 0, none⟩)) fv w := by
  unfold F8_3
  simp only [rdA_mk]
  refine ldC_at (h.at i0 hi0) rfl ?_
  refine cl (c25 (h.rd_old hv) hn.2) ?_
  rintro _ w1 ⟨ca, cc, rfl, o1, s1⟩
  refine ⟨_, _, _, rfl, ?_⟩
  have h1 := h.own_new s1 o1
  have hcl := cls_len vs
  have loop : ∀ (i j : Nat) (w1 : World) (k : Nat) (a : Option Addr) (m c : Nat) (K1 : Value → Value → World → Prop), j + i = (cls vs).length → m = (((cls vs).take j).filter (isFit vs)).length → Hs W (slP 3 1 a m c (inV (((cls vs).take j).filter (isFit vs))) :: slP 3 1 ca (cls vs).length cc (inV (cls vs)) :: M) w1 → i < k →
      (∀ w' a c, Hs W (slP 3 1 a (fit vs).length c (inV (fit vs)) :: slP 3 1 ca (cls vs).length cc (inV (cls vs)) :: M) w' → K1 fv (.slice a (fit vs).length c) w') →
      F8_2 K1 k (.pointer (some ⟨bv, 0, none⟩)) fv (.slice a m c) (.slice ca (cls vs).length cc) (.int .i64 ((cls vs).length : Int)) (.int .i64 (j : Int)) w1 := by
    intro i
    induction i with
    | zero =>
      intro j w1 k a m c K1 hj hm hw hk hK
      obtain ⟨k, rfl⟩ : ∃ j, k = j + 1 := ⟨k - 1, by omega⟩
      show F8_2B _ _ _ _ _ _ _ _ _
      unfold F8_2B
      simp only [rdA_mk, rdC_mk, rdI_mk, br_dec]
      have e1 : (cls vs).take j = cls vs := List.take_of_length_le (by omega)
      rw [e1] at hw hm
      subst hm
      exact ⟨fun h => by exfalso; omega, fun _ => hK w1 a c hw⟩
    | succ i ih =>
      intro j w1 k a m c K1 hj hm hw hk hK
      obtain ⟨k, rfl⟩ : ∃ j, k = j + 1 := ⟨k - 1, by omega⟩
      show F8_2B _ _ _ _ _ _ _ _ _
      unfold F8_2B
      simp only [rdA_mk, rdC_mk, rdI_mk, br_dec]
      refine ⟨fun _ => ?_, fun h => by exfalso; omega⟩
      obtain ⟨x, hx⟩ : ∃ x, (cls vs)[j]? = some x := ⟨(cls vs)[j]'(by omega), by simp⟩
      have hxl := cls_lt (List.mem_of_getElem? hx)
      have hrc := hw.rd 1 rfl
      obtain ⟨cd, hcd⟩ := hrc.some (by rw [inV_length]; omega)
      have hr := hw.rd_old hv
      obtain ⟨ad, had⟩ := vw_some hr hxl
      have hbv := hw.at (i0 + 2) (by exact hi0)
      have e1 : IntKind.wrap .i64 ((j : Int) + 1) = ((j + 1 : Nat) : Int) := by rw [wrap_i64 (by omega) (by omega)]; omega
      have hml : m ≤ j := by rw [hm]; exact Nat.le_trans (List.length_filter_le _ _) (by rw [List.length_take]; omega)
      have hft := filter_take_succ (p := isFit vs) hx
      have skip : isFit vs x = false → F8_2 K1 k (.pointer (some ⟨bv, 0, none⟩)) fv (.slice a m c) (.slice ca (cls vs).length cc) (.int .i64 ((cls vs).length : Int)) (.int .i64 ((j + 1 : Nat) : Int)) w1 := fun hf => by
        rw [hf] at hft
        simp at hft
        exact ih (j + 1) w1 k a m c K1 (by omega) (by rw [hft]; exact hm) (by rw [hft]; exact hw) (by omega) hK
      rw [e1]
      subst hcd
      subst had
      refine ixS_of (by omega) (by omega) ?_
      rw [Int.toNat_natCast, Nat.mul_one]
      refine ldI_c (hrc.at (inV_at hx)) (ldC_at hbv rfl (ixS_of (by omega) (by omega) ?_))
      simp only [Int.toNat_natCast, add_add]
      refine ldI_c (vw_at hr hxl rfl) ⟨fun hsp => ?_, fun hsp => ?_⟩
      · refine ldC_at hbv rfl (ixS_of (by omega) (by omega) ?_)
        simp only [Int.toNat_natCast, add_add]
        refine ldB_c (vw_at hr hxl rfl) ?_
        rw [br_iff]
        refine ⟨fun hsh => ?_, fun hsh => ?_⟩
        · have hf : isFit vs x = true := by unfold isFit; simp [hsh]; omega
          unfold alc
          refine hw.push E23 0 rfl (news := #[_]) rfl (by simp [Value.oneCell']) (by omega) (by omega) ?_
          intro a2 c2 w3 h3
          rw [hf] at hft
          simp only [if_true] at hft
          refine ih (j + 1) w3 k a2 (m + 1) c2 K1 (by omega) ?_ ?_ (by omega) hK
          · rw [hft, List.length_append, hm]; rfl
          · rw [hft, inV_snoc]; exact h3
        · exact skip (by unfold isFit; simp [hsh])
      · exact skip (by unfold isFit; simp; omega)
  refine ⟨(cls vs).length + 1, loop (cls vs).length 0 w1 _ none 0 0 _ (by omega) rfl (h1.nil 3 1) (by omega) fun w2 a c h2 _g => ?_⟩
  simp only [rdC_mk]
  have h3 := h2.erase 1
  refine cl (c26 hc (Nat.le_trans (fit_len vs) hn.2) (fit_nodup vs) (fun x hx => (fit_lt hx).1) h3) ?_
  rintro _ w3 ⟨rfl, h4⟩
  exact ⟨rfl, hK w3 a c h4⟩
theorem c8 (hv : Rd w va (vs.flatMap vwC)) (kind last : Int) (hlr : -9223372036854775808 ≤ last ∧ last ≤ 9223372036854775807) : Calls Try.prog 8 #[.int .i64 kind, .int .i64 last, .slice va vs.length vc] w (rt fun v w' => ∃ a c, v = .tuple #[.slice a (ordL kind last vs).length c, .int .i64 (ordE kind vs)] ∧ Own w' w.heap.size 3 1 a (ordL kind last vs).length c (inV (ordL kind last vs)) ∧ Same w w') := by
  refine F8_ok ?_
  unfold F8
  simp only [rdI_mk, rdC_mk]
  refine (Hs.start w).alc fun bv w1 h1 => ?_
  refine h1.ldC 0 rfl rfl ?_
  refine cl (c13 (h1.rd_old hv)) ?_
  rintro _ w2 ⟨rfl, s2⟩
  refine ⟨_, rfl, ?_⟩
  have h2 := h1.same s2
  by_cases hc : chk vs ≠ 0
  · have e1 : (chk vs != 0) = true := by simpa using hc
    rw [e1, br_true]
    have e2 : ordE kind vs = chk vs := by unfold ordE; rw [if_pos hc]
    have e3 : ordL kind last vs = [] := by unfold ordL; rw [e2, if_neg hc]
    rw [e2, e3]
    exact ⟨none, 0, rfl, Own.nil _ _ _ _, h2.1⟩
  replace hc : chk vs = 0 := Classical.not_not.1 hc
  have hn : 0 < vs.length ∧ vs.length ≤ 8 := by
    unfold chk at hc
    split at hc
    · cases hc
    · omega
  rw [hc, show ((0 : Int) != 0) = false from rfl, br_false]
  have res : ∀ (k : Int), 0 ≤ k ∧ k ≤ 2 → ordE k vs = 0 ∧ ordL k last vs = isort (lt k last vs) (fit vs) := fun k hk => by
    have : ordE k vs = 0 := by unfold ordE; rw [if_neg (by rw [hc]; decide), if_pos hk]
    exact ⟨this, by unfold ordL; rw [this, if_pos rfl]; rfl⟩
  rw [br_iff]
  refine ⟨fun hk => ?_, fun hk => ?_⟩
  · have hk : kind = 0 := by simpa using hk
    subst hk
    obtain ⟨r1, r2⟩ := res 0 (by decide)
    rw [r1, r2]
    refine h2.alc fun bq w3 h3 => h3.stc 0 rfl (by simp) fun w4 h4 => ?_
    have fin : ∀ (w5 : World), Hs w [pt bq (.cells #[.int .i64 (fromOf last vs.length)] 3 (0, 0)), bvP bv va vs.length vc] w5 →
        ∀ {Kr : Value → Value → World → Prop}, (∀ w' a c, Same w w' → Own w' w.heap.size 3 1 a (isort (lt 0 last vs) (fit vs)).length c (inV (isort (lt 0 last vs) (fit vs))) → Kr (.slice a (isort (lt 0 last vs) (fit vs)).length c) (.int .i64 0) w') →
        F8_1 (fun y5_14 y9_14 w16 => ∀ _g17 : Tm, rdA y5_14 fun a18 => F8_3 (fun y6_18 y7_18 w20 => ∀ _g21 : Tm, rdC y6_18 fun l22a l22n l22c => rdI .i64 y7_18 fun n23 => Kr (.slice l22a l22n l22c) (.int .i64 n23) w20) (.pointer (some a18)) y9_14 w16) (.pointer (some ⟨bv, 0, none⟩)) (.pointer (some ⟨bq, 0, none⟩)) w5 := by
      intro w5 h5 Kr hK
      unfold F8_1
      simp only [rdA_mk]
      refine h5.alc fun bf w6 h6 => h6.stc 0 rfl (by simp) fun w7 h7 _g => ?_
      refine c8_fin (i0 := 2) (M := pt bf (.cells #[.func (.func 19) #[] #[.pointer (some ⟨bq, 0, none⟩), .pointer (some ⟨bv, 0, none⟩)]] 47 (0, 0)) :: pt bq (.cells #[.int .i64 (fromOf last vs.length)] 3 (0, 0)) :: bvP bv va vs.length vc :: []) hv hn rfl (cmp_round hn) (strict 0 last vs) h7 fun w' a c h8 _g => ?_
      simp only [rdC_mk, rdI_mk]
      have := hK w' a c h8.1
      rw [len_isort] at this
      exact this (h8.own 0 rfl)
    have done : ∀ w' a c, Same w w' → Own w' w.heap.size 3 1 a (isort (lt 0 last vs) (fit vs)).length c (inV (isort (lt 0 last vs) (fit vs))) → ∃ a_1 c_1, (.tuple #[.slice a (isort (lt 0 last vs) (fit vs)).length c, .int .i64 0] : Value) = .tuple #[.slice a_1 (isort (lt 0 last vs) (fit vs)).length c_1, .int .i64 0] ∧ Own w' w.heap.size 3 1 a_1 (isort (lt 0 last vs) (fit vs)).length c_1 (inV (isort (lt 0 last vs) (fit vs))) ∧ Same w w' := fun w' a c s o => ⟨a, c, rfl, o, s⟩
    simp only [br_dec]
    refine ⟨fun hl => ?_, fun hl => ?_⟩
    · refine h4.ldC 1 rfl rfl ⟨fun hl2 => ?_, fun hl2 => ?_⟩
      · refine h4.stc 0 rfl (by simp) fun w5 h5 => ?_
        have hf : fromOf last vs.length = last + 1 := by unfold fromOf; rw [if_pos ⟨by omega, hl2⟩]
        have ew : IntKind.wrap .i64 (last + 1) = last + 1 := wrap_i64 (by omega) (by omega)
        rw [ew] at h5
        exact fin w5 (by rw [hf]; exact h5) (Kr := fun x y w' => ∃ a_1 c_1, (.tuple #[x, y] : Value) = .tuple #[.slice a_1 (isort (lt 0 last vs) (fit vs)).length c_1, .int .i64 0] ∧ Own w' w.heap.size 3 1 a_1 (isort (lt 0 last vs) (fit vs)).length c_1 (inV (isort (lt 0 last vs) (fit vs))) ∧ Same w w') done
      · have hf : fromOf last vs.length = 0 := by unfold fromOf; rw [if_neg (fun h => hl2 h.2)]
        exact fin w4 (by rw [hf]; exact h4) (Kr := fun x y w' => ∃ a_1 c_1, (.tuple #[x, y] : Value) = .tuple #[.slice a_1 (isort (lt 0 last vs) (fit vs)).length c_1, .int .i64 0] ∧ Own w' w.heap.size 3 1 a_1 (isort (lt 0 last vs) (fit vs)).length c_1 (inV (isort (lt 0 last vs) (fit vs))) ∧ Same w w') done
    · have hf : fromOf last vs.length = 0 := by unfold fromOf; rw [if_neg (fun h => hl h.1)]
      exact fin w4 (by rw [hf]; exact h4) (Kr := fun x y w' => ∃ a_1 c_1, (.tuple #[x, y] : Value) = .tuple #[.slice a_1 (isort (lt 0 last vs) (fit vs)).length c_1, .int .i64 0] ∧ Own w' w.heap.size 3 1 a_1 (isort (lt 0 last vs) (fit vs)).length c_1 (inV (isort (lt 0 last vs) (fit vs))) ∧ Same w w') done
  have k0 : kind ≠ 0 := by simpa using hk
  rw [br_iff]
  refine ⟨fun hk => ?_, fun hk => ?_⟩
  · have hk : kind = 1 := by simpa using hk
    subst hk
    obtain ⟨r1, r2⟩ := res 1 (by decide)
    rw [r1, r2]
    refine c8_fin (i0 := 0) (M := bvP bv va vs.length vc :: []) hv hn rfl (cmp_trip hv) (strict 1 last vs) h2 fun w' a c h8 _g => ?_
    simp only [rdC_mk, rdI_mk]
    exact ⟨a, c, by rw [len_isort], by rw [len_isort]; exact h8.own 0 rfl, h8.1⟩
  have k1 : kind ≠ 1 := by simpa using hk
  rw [br_iff]
  refine ⟨fun hk => ?_, fun hk => ?_⟩
  · have hk : kind = 2 := by simpa using hk
    subst hk
    obtain ⟨r1, r2⟩ := res 2 (by decide)
    rw [r1, r2]
    refine c8_fin (i0 := 0) (M := bvP bv va vs.length vc :: []) hv hn rfl (cmp_space hv) (strict 2 last vs) h2 fun w' a c h8 _g => ?_
    simp only [rdC_mk, rdI_mk]
    exact ⟨a, c, by rw [len_isort], by rw [len_isort]; exact h8.own 0 rfl, h8.1⟩
  have k2 : kind ≠ 2 := by simpa using hk
  have e2 : ordE kind vs = 5 := by unfold ordE; rw [if_neg (by rw [hc]; decide), if_neg (by omega)]
  have e3 : ordL kind last vs = [] := by unfold ordL; rw [e2, if_neg (by decide)]
  rw [e2, e3]
  exact ⟨none, 0, rfl, Own.nil _ _ _ _, h2.1⟩
end
end Go.Proofs.Ytaiofglmcoojbaa
