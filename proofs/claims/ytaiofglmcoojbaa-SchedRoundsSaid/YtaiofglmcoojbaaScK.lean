/- Own text: part of the shallow reading of the code and of the contracts that are proved over it. -/
import Derived.Test.YtaiofglmcoojbaaScJ
import Derived.Test.YtaiofglmcoojbaaScI
namespace Go.Proofs.Ytaiofglmcoojbaa
open Go Go.Sh
section
variable {W w : World} {L M : List HP} {va : Option Addr} {vs : List VW} {vc : Nat}
/-! the laws -/
theorem ordL_len (kind last : Int) : (ordL kind last vs).length ≤ 8 := by
  unfold ordL
  split
  · rename_i h
    have hc : chk vs = 0 := by
      rcases Classical.em (chk vs = 0) with h' | h'
      · exact h'
      · rw [ordE_chk h'] at h; exact absurd h h'
    obtain ⟨hn, _⟩ := ok_of hc
    unfold order
    rw [len_isort]
    exact Nat.le_trans (fit_len vs) hn.2
  · simp
theorem c3 (hv : Rd w va (vs.flatMap vwC)) (kind last : Int) (hlr : -9223372036854775808 ≤ last ∧ last ≤ 9223372036854775807) : Calls Try.prog 3 #[.int .i64 kind, .int .i64 last, .slice va vs.length vc] w (rt fun v w' => v = .bool true ∧ Same w w') := by
  refine F3_ok ?_
  unfold F3
  simp only [rdI_mk, rdC_mk]
  refine cl (c8 hv kind last hlr) ?_
  rintro _ w1 ⟨a1, d1, rfl, o1, s1⟩
  refine ⟨_, _, _, _, rfl, ?_⟩
  have h1 := (Hs.start w).own_new s1 o1
  refine cl (c9 (h1.rd_old hv) kind last) ?_
  rintro _ w2 ⟨a2, d2, rfl, o2, s2⟩
  refine ⟨_, _, _, _, rfl, ?_⟩
  have h2 := h1.own_new s2 o2
  refine cl (c10 (h2.rd_old hv) kind last hlr) ?_
  rintro _ w3 ⟨rfl, s3⟩
  refine ⟨_, _, _, rfl, ?_⟩
  have h3 := h2.same s3
  refine cl (c11 (h3.rd_old hv) kind last) ?_
  rintro _ w4 ⟨rfl, s4⟩
  refine ⟨_, _, _, rfl, ?_⟩
  have h4 := h3.same s4
  refine cl (c12 (ordL_len kind last) (h4.rd 1 rfl) (h4.rd 0 rfl)) ?_
  rintro _ w5 ⟨rfl, s5⟩
  have h5 := h4.same s5
  refine ⟨_, rfl, ?_⟩
  rw [br_true]
  have e0 : ∀ x : Int, (x == x) = true := fun x => by simp
  have eb : ∀ x : Bool, (x == x) = true := fun x => by simp
  rw [e0, br_true, e0, br_true, eb, br_true, e0, br_true]
  refine cl (c13 (h5.rd_old hv)) ?_
  rintro _ w6 ⟨rfl, s6⟩
  have h6 := h5.same s6
  refine ⟨_, rfl, ?_⟩
  refine cl (c14 (h6.rd_old hv)) ?_
  rintro _ w7 ⟨rfl, s7⟩
  have h7 := h6.same s7
  refine ⟨_, rfl, ?_⟩
  rw [e0, br_true]
  refine cl (c15 w7) ?_
  rintro _ w8 ⟨rfl, s8⟩
  exact ⟨_, rfl, rfl, (h7.same s8).1⟩
theorem c4 (hv : Rd w va (vs.flatMap vwC)) (f : Int) : Calls Try.prog 4 #[.int .i64 f, .slice va vs.length vc] w (rt fun v w' => v = .bool true ∧ Same w w') := by
  refine F4_ok ?_
  unfold F4
  simp only [rdI_mk, rdC_mk]
  refine cl (c16 hv f) ?_
  rintro _ w1 ⟨rfl, s1⟩
  refine ⟨_, _, rfl, ?_⟩
  have h1 := (Hs.start w).same s1
  refine cl (c17 (h1.rd_old hv) f) ?_
  rintro _ w2 ⟨rfl, s2⟩
  refine ⟨_, _, rfl, ?_⟩
  have h2 := h1.same s2
  have e0 : ∀ x : Int, (x == x) = true := fun x => by simp
  rw [e0, br_true, e0, br_true]
  refine cl (c15 w2) ?_
  rintro _ w8 ⟨rfl, s8⟩
  exact ⟨_, rfl, rfl, (h2.same s8).1⟩
/-! best -/
theorem c5_2 {K1 Kn : Value → Value → Value → Value → Value → Value → Value → World → Prop} {Kr : Value → World → Prop} (hv : Rd W va (vs.flatMap vwC)) (hc : chk vs = 0) (f : Int) (a : Int) (ok : Bool) {i : Nat} (hi : i < vs.length) (h : Hs W [] w)
    (h1 : ∀ w', Hs W [] w' → K1 (.int .i64 f) (.slice va vs.length vc) (.int .i64 a) (.bool ok) (.int .i64 (ag vs f)) (.int .i64 (agE vs f)) (.int .i64 (i : Int)) w')
    (hn : ∀ w', Hs W [] w' → Kn (.int .i64 f) (.slice va vs.length vc) (.int .i64 a) (.bool ok) (.int .i64 (ag vs f)) (.int .i64 (agE vs f)) (.int .i64 (i : Int)) w') :
    F5_2 K1 Kn Kr (.int .i64 f) (.slice va vs.length vc) (.int .i64 a) (.bool ok) (.int .i64 (ag vs f)) (.int .i64 (agE vs f)) (.int .i64 (i : Int)) w := by
  unfold F5_2
  simp only [rdI_mk, rdC_mk, rdB_mk]
  obtain ⟨hn8, _⟩ := ok_of hc
  have ho := okAll_of hc
  by_cases hE : agE vs f = 0
  · have hE' := hE
    unfold agE at hE'
    rw [if_neg (by rw [hc]; decide)] at hE'
    split at hE'
    · cases hE'
    · rename_i hfr
      obtain ⟨q, rfl⟩ : ∃ q : Nat, f = q := ⟨f.toNat, by omega⟩
      have hq : q < vs.length := by omega
      have hA : ag vs (q : Int) = agn vs q := by unfold ag; rw [hE, if_pos rfl, Int.toNat_natCast]
      obtain ⟨b, hb, e, sp1, sp2⟩ := agn_spec ho hq
      rw [hA, e] at h1 hn ⊢
      rw [hE] at h1 hn ⊢
      rw [show ((0 : Int) != 0) = false from rfl, br_false]
      unfold drw
      have h2 := h.drew
      generalize w.drew = w2 at h2 ⊢
      have hr := h2.rd_old hv
      obtain ⟨ad, rfl⟩ := vw_some hr hi
      have atx : ∀ {q : Nat} {K : Addr → Prop}, q < vs.length → K (ad.add (q * 4)) → ixS 4 (some ad) vs.length (q : Int) K := fun hq hk => ixS_of (by omega) (by omega) (by rw [Int.toNat_natCast]; exact hk)
      show br _ _ _
      have last : F5_1 (Kn) Kr (.int .i64 (q : Int)) (.slice (some ad) vs.length vc) (.int .i64 a) (.bool ok) (.int .i64 (b : Int)) (.int .i64 0) (.int .i64 (i : Int)) w2 := by
        unfold F5_1 drw
        simp only [rdI_mk, rdC_mk, rdB_mk]
        have h3 := h2.drew
        generalize w2.drew = w3 at h3 ⊢
        have hr3 := h3.rd_old hv
        rw [br_iff]
        refine ⟨fun hbq => ?_, fun _ => hn w3 h3⟩
        have hbq : b = q := by have : (b : Int) = q := by simpa using hbq
                               omega
        rw [br_iff]
        refine ⟨fun hne => ?_, fun _ => hn w3 h3⟩
        have hne : i ≠ q := by have : (i : Int) ≠ q := by simpa using hne
                               omega
        refine atx hi ?_
        simp only [add_add]
        refine ldI_c (vw_at hr3 hi rfl) (atx hq ?_)
        simp only [add_add]
        refine ldI_c (vw_at hr3 hq rfl) ?_
        rw [br_dec]
        refine ⟨fun hle => ?_, fun _ => hn w3 h3⟩
        have := sp2 hbq i hi hne
        exfalso; omega
      rw [br_dec]
      refine ⟨fun h => by exfalso; omega, fun _ => ?_⟩
      rw [br_dec]
      refine ⟨fun h => by exfalso; omega, fun _ => ?_⟩
      rw [br_dec]
      refine ⟨fun h => by exfalso; omega, fun _ => ?_⟩
      rw [br_dec]
      refine ⟨fun h => by exfalso; omega, fun _ => ?_⟩
      refine atx hi ?_
      simp only [add_add]
      refine ldI_c (vw_at hr hi rfl) (atx hb ?_)
      simp only [add_add]
      refine ldI_c (vw_at hr hb rfl) ?_
      have last' := last
      rw [br_dec]
      refine ⟨fun hlt => ?_, fun _ => ?_⟩
      · have : i = q := sp1 i hi hlt
        subst this
        rw [br_iff]
        refine ⟨fun hne => by simp at hne, fun _ => ?_⟩
        unfold F5_1 at last ⊢
        simpa only [rdI_mk, rdC_mk, rdB_mk, forall_const] using last
      · unfold F5_1 at last ⊢
        simpa only [rdI_mk, rdC_mk, rdB_mk, forall_const] using last
  · rw [br_iff]
    exact ⟨fun _ => h1 w h, fun hh => absurd (by simpa using hh) hE⟩
theorem c5 (hv : Rd w va (vs.flatMap vwC)) (kind last f : Int) (hlr : -9223372036854775808 ≤ last ∧ last ≤ 9223372036854775807) : Calls Try.prog 5 #[.int .i64 kind, .int .i64 last, .int .i64 f, .slice va vs.length vc] w (rt fun v w' => v = .bool true ∧ Same w w') := by
  refine F5_ok ?_
  unfold F5
  simp only [rdI_mk, rdC_mk]
  refine cl (c15 w) ?_
  rintro _ w1 ⟨rfl, s1⟩
  refine ⟨_, rfl, ?_⟩
  have h1 := (Hs.start w).same s1
  rw [show (!true) = false from rfl, br_false]
  refine cl (c10 (h1.rd_old hv) kind last hlr) ?_
  rintro _ w2 ⟨rfl, s2⟩
  refine ⟨_, _, _, rfl, ?_⟩
  have h2 := h1.same s2
  refine cl (c16 (h2.rd_old hv) f) ?_
  rintro _ w3 ⟨rfl, s3⟩
  refine ⟨_, _, rfl, ?_⟩
  have h3 := h2.same s3
  refine cl (c14 (h3.rd_old hv)) ?_
  rintro _ w4 ⟨rfl, s4⟩
  refine ⟨_, rfl, ?_⟩
  have h4 := h3.same s4
  have e0 : ∀ x : Int, (x == x) = true := fun x => by simp
  rw [br_iff]
  refine ⟨fun hb => ?_, fun hb => ?_⟩
  · have hc : chk vs ≠ 0 := by simpa using hb
    refine cl (c14 (h4.rd_old hv)) ?_
    rintro _ w5 ⟨rfl, s5⟩
    refine ⟨_, rfl, ?_⟩
    rw [nxt_bad hc, (ag_bad hc).2, e0, br_true, br_true]
    exact ⟨rfl, (h4.same s5).1⟩
  · have hc : chk vs = 0 := by simpa using hb
    obtain ⟨hn8, _⟩ := ok_of hc
    have ho := okAll_of hc
    have loop : ∀ (i j : Nat) (w5 : World) (k : Nat) (K0 : World → Prop) (Kr : Value → World → Prop), j + i = vs.length → Hs w [] w5 → i < k → (∀ w', Hs w [] w' → K0 w') →
        F5_3 K0 Kr k (.int .i64 f) (.slice va vs.length vc) (.int .i64 (nxt kind last vs).1) (.bool (nxt kind last vs).2.1) (.int .i64 (ag vs f)) (.int .i64 (agE vs f)) (.int .i64 (j : Int)) w5 := by
      intro i
      induction i with
      | zero =>
        intro j w5 k K0 Kr hj hw hk hK
        obtain ⟨k, rfl⟩ : ∃ j, k = j + 1 := ⟨k - 1, by omega⟩
        show F5_3B _ _ _ _ _ _ _ _ _ _ _
        unfold F5_3B
        simp only [rdC_mk, rdI_mk, rdB_mk]
        rw [br_dec]
        exact ⟨fun h => by exfalso; omega, fun _ => hK w5 hw⟩
      | succ i ih =>
        intro j w5 k K0 Kr hj hw hk hK
        obtain ⟨k, rfl⟩ : ∃ j, k = j + 1 := ⟨k - 1, by omega⟩
        show F5_3B _ _ _ _ _ _ _ _ _ _ _
        unfold F5_3B drw
        simp only [rdC_mk, rdI_mk, rdB_mk]
        rw [br_dec]
        refine ⟨fun _ => ?_, fun h => by exfalso; omega⟩
        have hjl : j < vs.length := by omega
        have h6 := hw.drew
        generalize w5.drew = w6 at h6 ⊢
        have hr := h6.rd_old hv
        have e1 : IntKind.wrap .i64 ((j : Int) + 1) = ((j + 1 : Nat) : Int) := by rw [wrap_i64 (by omega) (by omega)]; omega
        have go : ∀ w', Hs w [] w' → F5_3 K0 Kr k (.int .i64 f) (.slice va vs.length vc) (.int .i64 (nxt kind last vs).1) (.bool (nxt kind last vs).2.1) (.int .i64 (ag vs f)) (.int .i64 (agE vs f)) (.int .i64 ((j + 1 : Nat) : Int)) w' := fun w' h' => ih (j + 1) w' k K0 Kr (by omega) h' (by omega) hK
        have fin : ∀ w', Hs w [] w' → Tm → F5_3 K0 Kr k (.int .i64 f) (.slice va vs.length vc) (.int .i64 (nxt kind last vs).1) (.bool (nxt kind last vs).2.1) (.int .i64 (ag vs f)) (.int .i64 (agE vs f)) (.int .i64 (IntKind.wrap .i64 ((j : Int) + 1))) w' := fun w' h' _ => by rw [e1]; exact go w' h'
        rw [br_iff]
        refine ⟨fun hok => ?_, fun hok => c5_2 hv hc f _ _ hjl h6 (fun w' h' _ => by simp only [rdI_mk, rdC_mk, rdB_mk]; exact fin w' h' (fun _ => .bool true)) (fun w' h' _ => by simp only [rdI_mk, rdC_mk, rdB_mk]; exact fin w' h' (fun _ => .bool true))⟩
        rcases nxt_cases kind last vs with e | ⟨_, x, e, hx⟩
        · rw [e] at hok; cases hok
        · obtain ⟨hxf, _⟩ := order_head hx
          obtain ⟨hxl, hxi⟩ := fit_lt hxf
          have hxc : x ∈ cls vs := (List.mem_filter.1 hxf).1
          rw [e] at fin ⊢
          obtain ⟨ad, rfl⟩ := vw_some hr hjl
          have atx : ∀ {q : Nat} {K : Addr → Prop}, q < vs.length → K (ad.add (q * 4)) → ixS 4 (some ad) vs.length (q : Int) K := fun hq hk => ixS_of (by omega) (by omega) (by rw [Int.toNat_natCast]; exact hk)
          rw [br_dec]
          refine ⟨fun h => by exfalso; omega, fun _ => ?_⟩
          rw [br_dec]
          refine ⟨fun h => by exfalso; omega, fun _ => ?_⟩
          refine atx hjl ?_
          simp only [add_add]
          refine ldI_c (vw_at hr hjl rfl) (atx hxl ?_)
          simp only [add_add]
          refine ldI_c (vw_at hr hxl rfl) ?_
          rw [br_dec]
          refine ⟨fun h => by have := cls_min ho hxc j hjl; exfalso; omega, fun _ => ?_⟩
          refine atx hxl ?_
          simp only [add_add]
          refine ldI_c (vw_at hr hxl rfl) ?_
          unfold isFit at hxi
          simp only [Bool.and_eq_true, decide_eq_true_eq] at hxi
          rw [br_iff]
          refine ⟨fun h => by have : (gv vs x).sp = 0 := by simpa using h
                              exfalso; omega, fun _ => ?_⟩
          refine atx hxl ?_
          simp only [add_add]
          refine ldB_c (vw_at hr hxl rfl) ?_
          rw [hxi.2, show (!true) = false from rfl, br_false]
          exact c5_2 hv hc f _ _ hjl h6 (fun w' h' _ => by simp only [rdI_mk, rdC_mk, rdB_mk]; exact fin w' h' (fun _ => .bool true)) (fun w' h' _ => by simp only [rdI_mk, rdC_mk, rdB_mk]; exact fin w' h' (fun _ => .bool true))
    exact ⟨vs.length + 1, loop vs.length 0 w4 _ _ _ (by omega) h4 (by omega) fun w' h' _g => ⟨trivial, h'.1⟩⟩
end
end Go.Proofs.Ytaiofglmcoojbaa
