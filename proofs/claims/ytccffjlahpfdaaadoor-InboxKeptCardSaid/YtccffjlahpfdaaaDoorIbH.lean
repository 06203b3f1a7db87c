/- Own text: part of the shallow reading of the code and of the contracts that are proved over it. -/
import Derived.Test.YtccffjlahpfdaaaDoorIbG
namespace Go.Proofs.YtccffjlahpfdaaaDoor
open Go Go.Sh Go.Sp
section
variable {W w : World} {L : List HP} {bb rr : Nat} {D : BD} {R : RD} {x : BX}
/-! DeleteFunc -/
theorem c74 {X : List Int} {a : Option Addr} {c : Nat} (hr : Rd w a (nV X)) (hlen : X.length ≤ 281474976710656) {p : Int → Bool} {fv : Value} (hcl : ∀ t, callV Tryd.prog fv #[.int .u32 t] w (.one (.one .bool)) fun r w2 => r = .bool (p t) ∧ w2 = w) :
    Calls Tryd.prog 74 #[.slice a X.length c, fv] w (rt fun v w' => w' = w ∧ ((v = .int .i64 (-1) ∧ ∀ y ∈ X, p y = false) ∨ ∃ (j : Nat) (y : Int), X[j]? = some y ∧ p y = true ∧ (∀ z ∈ X.take j, p z = false) ∧ v = .int .i64 (j : Int))) := by
  refine F74_ok ?_
  unfold F74
  simp only [rdC_mk]
  have loop : ∀ (i j k : Nat) (K0 : World → Prop) (Kr : Value → World → Prop), j + i = X.length → (∀ z ∈ X.take j, p z = false) → i < k → ((∀ y ∈ X, p y = false) → K0 w) → (∀ (j : Nat) (y : Int), X[j]? = some y → p y = true → (∀ z ∈ X.take j, p z = false) → Kr (.int .i64 (j : Int)) w) →
      F74_1 K0 Kr k (.slice a X.length c) fv (.int .i64 (X.length : Int)) (.int .i64 (j : Int)) w := by
    intro i
    induction i with
    | zero =>
      intro j k K0 Kr hj ht hk h0 h1
      obtain ⟨k, rfl⟩ : ∃ j, k = j + 1 := ⟨k - 1, by omega⟩
      show F74_1B _ _ _ _ _ _ _ _
      unfold F74_1B
      simp only [rdC_mk, rdI_mk]
      rw [br_dec]
      refine ⟨fun h => by exfalso; omega, fun _ => h0 ?_⟩
      rwa [List.take_of_length_le (by omega)] at ht
    | succ i ih =>
      intro j k K0 Kr hj ht hk h0 h1
      obtain ⟨k, rfl⟩ : ∃ j, k = j + 1 := ⟨k - 1, by omega⟩
      show F74_1B _ _ _ _ _ _ _ _
      unfold F74_1B
      simp only [rdC_mk, rdI_mk]
      rw [br_dec]
      refine ⟨fun _ => ?_, fun h => by exfalso; omega⟩
      obtain ⟨y, hy⟩ : ∃ y, X[j]? = some y := ⟨X[j]'(by omega), by simp⟩
      obtain ⟨ad, hod⟩ := hr.some (by rw [nV_length]; omega)
      subst hod
      refine ixS_of (by omega) (by omega) ?_
      rw [Int.toNat_natCast, Nat.mul_one]
      refine ldI_c (hr.at (nV_at hy)) (callV_mono ?_ (hcl y))
      rintro _ w3 ⟨rfl, e⟩
      have e := e.symm
      subst e
      refine ⟨_, rfl, ?_⟩
      have e1 : IntKind.wrap .i64 ((j : Int) + 1) = ((j + 1 : Nat) : Int) := by rw [wrap_i64 (by omega) (by omega)]; omega
      have htk : X.take (j + 1) = X.take j ++ [y] := by rw [List.take_add_one, hy]; rfl
      rw [br_iff, e1]
      refine ⟨fun hb => h1 j y hy hb ht, fun hb => ih (j + 1) k K0 Kr (by omega) ?_ (by omega) h0 h1⟩
      intro z hz
      rw [htk] at hz
      rcases List.mem_append.1 hz with hz | hz
      · exact ht z hz
      · simp at hz; subst hz; simpa using hb
  refine ⟨X.length + 1, loop X.length 0 _ _ _ (by omega) (by simp) (by omega) (fun hn _g => ⟨rfl, .inl ⟨trivial, hn⟩⟩) fun j y h1 h2 h3 _g => ?_⟩
  simp only [rdI_mk]
  exact ⟨trivial, .inr ⟨j, y, h1, h2, h3, rfl⟩⟩
theorem c58 {X : List Int} {a : Option Addr} {c : Nat} (h : Hs W (slP 22 1 a X.length c (nV X) :: L) w) (hlen : X.length ≤ 1048576) {p : Int → Bool} {fv : Value} (hcl : ∀ t w1, Hs W L w1 → callV Tryd.prog fv #[.int .u32 t] w1 (.one (.one .bool)) fun r w2 => r = .bool (p t) ∧ w2 = w1) :
    Calls Tryd.prog 58 #[.slice a X.length c, fv] w (rt fun v w' => ∃ a' c', v = .slice a' (X.filter fun t => !p t).length c' ∧ Hs W (slP 22 1 a' (X.filter fun t => !p t).length c' (nV (X.filter fun t => !p t)) :: L) w') := by
  refine F58_ok ?_
  unfold F58
  simp only [rdC_mk]
  obtain ⟨q, hq⟩ : ∃ q : Int → Bool, q = fun t => !p t := ⟨_, rfl⟩
  refine cl (c74 (h.rd 0 rfl) (by omega) fun t => hcl t w h.drop) ?_
  rintro _ w1 ⟨e, hv⟩
  have e := e.symm
  subst e
  rcases hv with ⟨rfl, hno⟩ | ⟨j0, y0, hy0, hp0, hbef, rfl⟩
  · refine ⟨_, rfl, ?_⟩
    rw [show ((-1 : Int) == -1) = true from rfl, br_true]
    have : X.filter (fun t => !p t) = X := by rw [List.filter_eq_self]; intro y hy; rw [hno y hy]; rfl
    rw [this]
    exact ⟨a, c, rfl, h⟩
  · refine ⟨_, rfl, ?_⟩
    have e0 : ((j0 : Int) == -1) = false := by rw [beq_eq_false_iff_ne]; omega
    rw [e0, br_false]
    have hj0 := (List.getElem?_eq_some_iff.1 hy0).1
    have hr := h.rd 0 rfl
    obtain ⟨ad, hod⟩ := hr.some (by rw [nV_length]; omega)
    subst hod
    have e1 : IntKind.wrap .i64 ((j0 : Int) + 1) = ((j0 + 1 : Nat) : Int) := by rw [wrap_i64 (by omega) (by omega)]; omega
    rw [e1]
    have loop : ∀ (i j n : Nat) (Y : List Int) (w1 : World) (k : Nat) (K0 : Value → Value → World → Prop), j + i = X.length → Y.length = X.length → n = ((X.take j).filter q).length → n < j → Y.take n = (X.take j).filter q → Y.drop j = X.drop j → Hs W (slP 22 1 (some ad) X.length c (nV Y) :: L) w1 → i < k →
        (∀ w' Y, Y.length = X.length → (X.filter q).length < X.length → Y.take (X.filter q).length = X.filter q → Hs W (slP 22 1 (some ad) X.length c (nV Y) :: L) w' → K0 (.slice (some ad) X.length c) (.int .i64 ((X.filter q).length : Int)) w') →
        F58_1 K0 k (.slice (some ad) X.length c) fv (.int .i64 (n : Int)) (.int .i64 (j : Int)) w1 := by
      intro i
      induction i with
      | zero =>
        intro j n Y w1 k K0 hj hY hn hnj ht hd hw hk hK
        obtain ⟨k, rfl⟩ : ∃ j, k = j + 1 := ⟨k - 1, by omega⟩
        show F58_1B _ _ _ _ _ _ _
        unfold F58_1B
        simp only [rdC_mk, rdI_mk]
        rw [br_dec]
        have e : X.take j = X := List.take_of_length_le (by omega)
        rw [e] at hn ht
        subst hn
        exact ⟨fun h => by exfalso; omega, fun _ => hK w1 Y hY (by omega) ht hw⟩
      | succ i ih =>
        intro j n Y w1 k K0 hj hY hn hnj ht hd hw hk hK
        obtain ⟨k, rfl⟩ : ∃ j, k = j + 1 := ⟨k - 1, by omega⟩
        show F58_1B _ _ _ _ _ _ _
        unfold F58_1B
        simp only [rdC_mk, rdI_mk]
        rw [br_dec]
        refine ⟨fun _ => ?_, fun h => by exfalso; omega⟩
        obtain ⟨y, hy⟩ : ∃ y, X[j]? = some y := ⟨X[j]'(by omega), by simp⟩
        have hyY : Y[j]? = some y := by
          have := congrArg (·[0]?) hd
          simp only [List.getElem?_drop, Nat.add_zero] at this
          rw [this]; exact hy
        refine ixS_of (by omega) (by omega) ?_
        rw [Int.toNat_natCast, Nat.mul_one]
        refine ldI_c ((hw.rd 0 rfl).at (nV_at hyY)) (callV_mono ?_ (hcl y w1 hw.drop))
        rintro _ w3 ⟨rfl, e⟩
        have e := e.symm
        subst e
        refine ⟨_, rfl, ?_⟩
        have e2 : IntKind.wrap .i64 ((j : Int) + 1) = ((j + 1 : Nat) : Int) := by rw [wrap_i64 (by omega) (by omega)]; omega
        have htk : (X.take (j + 1)).filter q = (X.take j).filter q ++ (if q y then [y] else []) := by
          rw [List.take_add_one, hy, List.filter_append]
          cases hqy : q y <;> simp [hqy]
        have hqy : (!p y) = q y := by rw [hq]
        rw [e2, hqy, br_iff]
        refine ⟨fun hb => ?_, fun hb => ?_⟩
        · rw [hb, if_pos rfl] at htk
          refine ixS_of (by omega) (by omega) ?_
          rw [Int.toNat_natCast, Nat.mul_one]
          refine hw.put 0 rfl (by rw [nV_length]; omega) fun w4 h4 => ?_
          have e3 : IntKind.wrap .i64 ((n : Int) + 1) = ((n + 1 : Nat) : Int) := by rw [wrap_i64 (by omega) (by omega)]; omega
          rw [e3]
          have e4 : (nV Y).set n (.int .u32 y) = nV (Y.set n y) := by simp [nV, List.map_set]
          rw [e4] at h4
          refine ih (j + 1) (n + 1) (Y.set n y) w4 k K0 (by omega) (by rw [List.length_set]; exact hY) (by rw [htk, List.length_append, List.length_singleton]; omega) (by omega) ?_ ?_ h4 (by omega) hK
          · rw [htk, ← ht, List.take_add_one, List.take_set_of_le (Nat.le_refl _)]
            congr 1
            rw [List.getElem?_set, if_pos rfl, if_pos (by omega)]; rfl
          · rw [List.drop_set, if_pos (by omega), ← List.drop_drop, hd, List.drop_drop]
        · have hb : q y = false := by simpa using hb
          rw [hb] at htk
          simp only [Bool.false_eq_true, if_false, List.append_nil] at htk
          refine ih (j + 1) n Y w1 k K0 (by omega) hY (by rw [htk]; exact hn) (by omega) (by rw [htk]; exact ht) ?_ hw (by omega) hK
          rw [← List.drop_drop, hd, List.drop_drop]
    have hbf : (X.take j0).filter q = X.take j0 := by
      rw [List.filter_eq_self]; intro z hz; rw [hq]; simp only; rw [hbef z hz]; rfl
    have hqy0 : q y0 = false := by rw [hq]; simp only; rw [hp0]; rfl
    have ht1 : (X.take (j0 + 1)).filter q = X.take j0 := by
      rw [List.take_add_one, hy0, List.filter_append, hbf]; simp [hqy0]
    refine ⟨X.length + 1, loop (X.length - (j0 + 1)) (j0 + 1) j0 X w _ _ (by omega) rfl (by rw [ht1, List.length_take]; omega) (by omega) ht1.symm rfl h (by omega) fun w1 Y hY hlt ht h1 _g => ?_⟩
    simp only [rdC_mk, rdI_mk]
    rw [← hq]
    have o1 := h1.own 0 rfl
    have hle := o1.le
    refine slS_lo (by omega) ?_
    rw [if_neg (by omega)]
    have ocut := o1.cut (n := (X.filter q).length) (by omega)
    obtain ⟨w2, hr2, o2, f2⟩ := clear_own (P := Tryd.prog) (ty := 0) (t := 34) (m := X.length - (X.filter q).length) (d := c - (X.filter q).length) E30 (by simp [Value.cells, Value.oneCell']) ocut (by omega)
    rw [Nat.mul_one] at hr2
    rw [Nat.mul_one]
    refine ⟨w2, hr2, slS_hi (by omega) ⟨some ad, c, rfl, ?_⟩⟩
    have e5 : (nV Y).take ((X.filter q).length * 1) = nV (X.filter q) := by
      rw [Nat.mul_one, ← ht]; simp [nV, List.map_take]
    rw [e5] at o2
    exact h1.slice 0 rfl o2 f2 fun k hk => .inl hk
/-! Fixed -/
theorem c59 {g : Nat} (h : Hs W (boxL bb D x ++ L) w) (hg : w.heap[g]? = some (.cells #[.pointer (some ⟨bb, 0, none⟩)] 25 (0, 0))) (t : Int) : Calls Tryd.prog 59 #[.int .u32 t, .pointer (some ⟨g, 0, none⟩)] w (rt (KR (.bool (!decide (t ∈ x.fx))) w)) := by
  refine F59_ok ?_
  unfold F59
  simp only [rdI_mk, rdA_mk]
  exact ldP_at hg rfl (clr (c39 h t) ⟨_, rfl, rfl, rfl⟩)
theorem c32 (ht : TB W) (h : Hs W (boxL bb D x ++ L) w) : Calls Tryd.prog 32 #[.pointer (some ⟨bb, 0, none⟩)] w (rt fun v w' => ∃ a c, v = .slice a ((nums x.cum x.S).filter fun t => decide (t ∈ x.fx)).length c ∧ Own w' w.heap.size 22 1 a ((nums x.cum x.S).filter fun t => decide (t ∈ x.fx)).length c (nV ((nums x.cum x.S).filter fun t => decide (t ∈ x.fx))) ∧ Same w w') := by
  have hr := box_RngX h
  refine F32_ok ?_
  unfold F32
  simp only [rdP_mk]
  refine (Hs.start w).alc fun g w1 h1 => h1.ldP 0 rfl rfl ?_
  refine cl (c27 ht (h.same h1.1)) ?_
  rintro _ w2 ⟨a, c, rfl, o2, s2⟩
  refine ⟨_, _, _, rfl, ?_⟩
  have h2 := h1.own_new s2 o2
  have hlen := hr.len
  have key := c58 (c := c) (X := nums x.cum x.S) (by rw [nums_length]; exact h2) (by rw [nums_length]; omega) (p := fun t => !decide (t ∈ x.fx)) (fv := .func (.func 59) #[] #[.pointer (some ⟨g, 0, none⟩)]) fun t w3 h3 => by
    refine callV_of (by kernel_rfl) (call_of (c59 (h.same h3.1) (h3.at 0 rfl) t) ?_)
    rintro _ w4 ⟨v, rfl, rfl, rfl⟩
    exact ⟨_, rfl, rfl, rfl⟩
  rw [nums_length] at key
  refine cl key ?_
  rintro _ w3 ⟨a', c', rfl, h3⟩
  simp only [Bool.not_not] at h3 ⊢
  exact ⟨_, _, _, rfl, a', c', rfl, h3.own 0 rfl, h3.1⟩
theorem c14 (h : Hs W (refL rr R x ++ L) w) (ho : OkX x) : Calls Tryd.prog 14 #[.pointer (some ⟨rr, 0, none⟩)] w (rt fun v w' => ∃ a c, v = .slice a ((nums x.cum x.S).filter fun t => decide (t ∈ x.fx)).length c ∧ Own w' w.heap.size 22 1 a ((nums x.cum x.S).filter fun t => decide (t ∈ x.fx)).length c (nV ((nums x.cum x.S).filter fun t => decide (t ∈ x.fx))) ∧ Same w w') := by
  have hr := ref_RngX h
  have hfl := ho.len hr
  refine F14_ok ?_
  unfold F14
  simp only [rdP_mk, nn_some, add_mk]
  obtain ⟨ra, hra, _⟩ := ref_open h
  refine h.ldP 0 rfl rfl (cl (r26 hra) ?_)
  rintro _ w1 ⟨fa, fc, rfl, o1, s1⟩
  rw [numV_nV] at o1
  refine ⟨_, _, _, rfl, ?_⟩
  obtain ⟨q, hq⟩ : ∃ q : Int → Bool, q = fun t => decide (t ∈ x.fx) := ⟨_, rfl⟩
  rw [← hq]
  have hlen := hr.len
  have loop : ∀ (i j : Nat) (oa : Option Addr) (oc : Nat) (w2 : World) (k : Nat) (K0 : Value → World → Prop), j + i = x.S.length → Hs w (slP 22 1 oa (((nums x.cum x.S).take j).filter q).length oc (nV (((nums x.cum x.S).take j).filter q)) :: slP 22 1 fa x.S.length fc (nV (nums x.cum x.S)) :: []) w2 → i < k →
      (∀ w' a c, Hs w (slP 22 1 a ((nums x.cum x.S).filter q).length c (nV ((nums x.cum x.S).filter q)) :: slP 22 1 fa x.S.length fc (nV (nums x.cum x.S)) :: []) w' → K0 (.slice a ((nums x.cum x.S).filter q).length c) w') →
      F14_1 K0 k (.pointer (some ⟨rr, 0, none⟩)) (.slice oa (((nums x.cum x.S).take j).filter q).length oc) (.slice fa x.S.length fc) (.int .i64 (j : Int)) w2 := by
    intro i
    induction i with
    | zero =>
      intro j oa oc w2 k K0 hj hw hk hK
      obtain ⟨k, rfl⟩ : ∃ j, k = j + 1 := ⟨k - 1, by omega⟩
      show F14_1B _ _ _ _ _ _ _
      unfold F14_1B
      simp only [rdP_mk, rdC_mk, rdI_mk]
      rw [br_dec]
      have e : (nums x.cum x.S).take j = nums x.cum x.S := List.take_of_length_le (by rw [nums_length]; omega)
      rw [e] at hw ⊢
      exact ⟨fun h => by exfalso; omega, fun _ => hK _ _ _ hw⟩
    | succ i ih =>
      intro j oa oc w2 k K0 hj hw hk hK
      obtain ⟨k, rfl⟩ : ∃ j, k = j + 1 := ⟨k - 1, by omega⟩
      show F14_1B _ _ _ _ _ _ _
      unfold F14_1B
      simp only [rdP_mk, rdC_mk, rdI_mk]
      rw [br_dec]
      refine ⟨fun _ => ?_, fun h => by exfalso; omega⟩
      obtain ⟨y, hy⟩ : ∃ y, (nums x.cum x.S)[j]? = some y := ⟨(nums x.cum x.S)[j]'(by rw [nums_length]; omega), by simp⟩
      have hrd := hw.rd 1 rfl
      obtain ⟨ad, hod⟩ := hrd.some (by rw [nV_length, nums_length]; omega)
      subst hod
      refine ixS_of (by omega) (by omega) ?_
      rw [Int.toNat_natCast, Nat.mul_one]
      refine ldI_c (hrd.at (nV_at hy)) (clr (c42 (h.same hw.1) (by omega) y) ⟨_, rfl, ?_⟩)
      have e1 : IntKind.wrap .i64 ((j : Int) + 1) = ((j + 1 : Nat) : Int) := by rw [wrap_i64 (by omega) (by omega)]; omega
      have htk : ((nums x.cum x.S).take (j + 1)).filter q = ((nums x.cum x.S).take j).filter q ++ (if q y then [y] else []) := by
        rw [List.take_add_one, hy, List.filter_append]
        cases hqy : q y <;> simp [hqy]
      have hle : (((nums x.cum x.S).take j).filter q).length ≤ 1048576 := Nat.le_trans (List.length_filter_le _ _) (by rw [List.length_take, nums_length]; omega)
      have hqy : decide (y ∈ x.fx) = q y := by rw [hq]
      rw [e1, hqy, br_iff]
      refine ⟨fun hb => ?_, fun hb => ?_⟩
      · refine ixS_of (by omega) (by omega) ?_
        rw [Int.toNat_natCast, Nat.mul_one]
        refine ldI_c (hrd.at (nV_at hy)) ?_
        unfold alc
        refine hw.push E30 0 rfl (news := #[_]) rfl (by simp [Value.oneCell']) (by omega) (by omega) ?_
        intro a' c' w3 h3
        rw [hb, if_pos rfl] at htk
        have := ih (j + 1) a' c' w3 k K0 (by omega)
        rw [htk] at this
        simp only [List.length_append, List.length_singleton] at this
        refine this ?_ (by omega) hK
        rw [nV_snoc]
        exact h3
      · rw [hb] at htk
        simp only [Bool.false_eq_true, if_false, List.append_nil] at htk
        have := ih (j + 1) oa oc w2 k K0 (by omega)
        rw [htk] at this
        exact this hw (by omega) hK
  refine ⟨x.S.length + 1, loop x.S.length 0 none 0 w1 _ _ (by omega) (((Hs.start w).own_new s1 o1).nil 22 1) (by omega) fun w2 a c h2 _g => ?_⟩
  simp only [rdC_mk]
  exact ⟨a, c, rfl, h2.own 0 rfl, h2.1⟩
end
end Go.Proofs.YtccffjlahpfdaaaDoor
