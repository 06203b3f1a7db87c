/- Own text: part of the shallow reading of the code and of the contracts that are proved over it. -/
import Derived.Test.YtccffjlahpfdaaaDoorIbE
namespace Go.Proofs.YtccffjlahpfdaaaDoor
open Go Go.Sh Go.Sp
/-! blocks -/
def nm (cum : Int) (d : Nat) : Int := (cum + (d : Int)) % 4294967296
theorem nums_at {cum : Int} {S : List Nat} {j d : Nat} (h : S[j]? = some d) : (nums cum S)[j]? = some (nm cum d) := by simp [nums, nm, h]
theorem gapV_set (G : List (Nat × Nat)) (g : Nat × Nat) (d : Nat) : (gapV (G ++ [g])).set (G.length * 2 + 1) (.int .u16 (d : Int)) = gapV (G ++ [(g.1, d)]) := by
  rw [gapV_snoc, gapV_snoc, List.set_append_right _ _ (by rw [gapV_length]; omega), gapV_length]
  have : G.length * 2 + 1 - G.length * 2 = 1 := by omega
  rw [this]; rfl
theorem filter_take {q : Nat → Bool} {S : List Nat} {j d : Nat} (h : S[j]? = some d) : (S.take (j + 1)).filter q = (S.take j).filter q ++ (if q d then [d] else []) := by
  rw [List.take_add_one, h, List.filter_append]
  cases hq : q d <;> simp [hq]
section
variable {W w : World} {L : List HP} {bb rr : Nat} {D : BD} {R : RD} {x : BX}
theorem gap_facts {S : List Nat} (hr : S.Pairwise (· < ·)) (hS : ∀ d ∈ S, 2 ≤ d ∧ d ≤ 65535) {q : Nat → Bool} (j : Nat) : (∀ p ∈ gapA ((S.take j).filter q), 2 ≤ p.2 ∧ p.2 ≤ 65535) ∧ (gapA ((S.take j).filter q)).length ≤ 65534 := by
  have hsub : ((S.take j).filter q).Sublist S := List.filter_sublist.trans (List.take_sublist j S)
  obtain ⟨h1, _, h3⟩ := gapA_inv _ (hr.sublist hsub)
  refine ⟨fun p hp => hS _ (hsub.subset (h1 p hp).2.1), ?_⟩
  have h4 := rising_length hr (a := 2) (b := 65536) (fun d hd => by have := hS d hd; omega)
  have := hsub.length_le
  omega
theorem c49 (ht : TB W) (h : Hs W (boxL bb D x ++ L) w) {p : Int → Bool} {fv : Value} (hcl : ∀ t w1, Same w w1 → callV Tryd.prog fv #[.int .u32 t] w1 (.one (.one .bool)) fun r w2 => r = .bool (p t) ∧ w2 = w1) {N : Int} (hN : 0 ≤ N ∧ N ≤ 4096) :
    Calls Tryd.prog 49 #[.pointer (some ⟨bb, 0, none⟩), .int .i64 N, fv] w (rt fun v w' => ∃ a c, v = .slice a (gapS (x.S.filter fun d => p (nm x.cum d)) N).length c ∧ Own w' w.heap.size 60 2 a (gapS (x.S.filter fun d => p (nm x.cum d)) N).length c (gapV (gapS (x.S.filter fun d => p (nm x.cum d)) N)) ∧ Same w w') := by
  have hr := box_RngX h
  obtain ⟨q, hq⟩ : ∃ q : Nat → Bool, q = fun d => p (nm x.cum d) := ⟨_, rfl⟩
  rw [← hq]
  refine F49_ok ?_
  unfold F49
  simp only [rdP_mk, rdI_mk, nn_some, add_mk]
  obtain ⟨m, hm, _⟩ := box_open h
  refine h.ldP 0 rfl rfl (cl (c55 (Hs.tb h ht) hm) ?_)
  rintro _ w1 ⟨fa, fc, rfl, o1, s1⟩
  rw [numV_nV] at o1
  refine ⟨_, _, _, rfl, ?_⟩
  have hlenS := hr.len
  have h1 := ((Hs.start w).own_new s1 o1).nil 60 2
  have loop : ∀ (i j : Nat) (G : List (Nat × Nat)) (oa : Option Addr) (oc : Nat) (w2 : World) (k : Nat) (K0 : Value → Value → World → Prop), j + i = x.S.length → G = gapA ((x.S.take j).filter q) → Hs w [slP 60 2 oa G.length oc (gapV G), slP 22 1 fa x.S.length fc (nV (nums x.cum x.S))] w2 → i < k →
      (∀ w' a c, Hs w [slP 60 2 a (gapA (x.S.filter q)).length c (gapV (gapA (x.S.filter q))), slP 22 1 fa x.S.length fc (nV (nums x.cum x.S))] w' → K0 (.int .i64 N) (.slice a (gapA (x.S.filter q)).length c) w') →
      F49_2 K0 k (.pointer (some ⟨bb, 0, none⟩)) (.int .i64 N) fv (.slice oa G.length oc) (.slice fa x.S.length fc) (.int .i64 (x.S.length : Int)) (.int .i64 (j : Int)) w2 := by
    intro i
    induction i with
    | zero =>
      intro j G oa oc w2 k K0 hj hG hw hk hK
      obtain ⟨k, rfl⟩ : ∃ j, k = j + 1 := ⟨k - 1, by omega⟩
      show F49_2B _ _ _ _ _ _ _ _ _ _
      unfold F49_2B
      simp only [rdP_mk, rdC_mk, rdI_mk]
      rw [br_dec]
      have e : G = gapA (x.S.filter q) := by rw [hG, List.take_of_length_le (by omega)]
      rw [← e] at hK
      exact ⟨fun h => by exfalso; omega, fun _ => hK _ _ _ hw⟩
    | succ i ih =>
      intro j G oa oc w2 k K0 hj hG hw hk hK
      obtain ⟨k, rfl⟩ : ∃ j, k = j + 1 := ⟨k - 1, by omega⟩
      show F49_2B _ _ _ _ _ _ _ _ _ _
      unfold F49_2B
      simp only [rdP_mk, rdC_mk, rdI_mk]
      rw [br_dec]
      refine ⟨fun _ => ?_, fun h => by exfalso; omega⟩
      obtain ⟨d, hd⟩ : ∃ d, x.S[j]? = some d := ⟨x.S[j]'(by omega), by simp⟩
      have hdr := hr.rng d (List.mem_of_getElem? hd)
      have hrd := hw.rd 1 rfl
      obtain ⟨ad, hod⟩ := hrd.some (by rw [nV_length, nums_length]; omega)
      subst hod
      refine ixS_of (by omega) (by omega) ?_
      rw [Int.toNat_natCast, Nat.mul_one]
      refine ldI_c (hrd.at (nV_at (nums_at hd))) (callV_mono ?_ (hcl (nm x.cum d) w2 hw.1))
      rintro _ w3 ⟨rfl, e⟩
      have e := e.symm
      subst e
      refine ⟨_, rfl, ?_⟩
      have e1 : IntKind.wrap .i64 ((j : Int) + 1) = ((j + 1 : Nat) : Int) := by rw [wrap_i64 (by omega) (by omega)]; omega
      have hqd : p (nm x.cum d) = q d := by rw [hq]
      have hft := filter_take (q := q) hd
      obtain ⟨gf1, gf2⟩ := gap_facts hr.rise hr.rng (q := q) j
      rw [← hG] at gf1 gf2
      rw [e1, hqd, br_iff]
      refine ⟨fun hb => ?_, fun hb => ?_⟩
      · have hqf : q d = false := by simpa using hb
        refine ih (j + 1) G oa oc w2 k K0 (by omega) ?_ hw (by omega) hK
        rw [hft, hqf]
        simp only [Bool.false_eq_true, if_false, List.append_nil]
        exact hG
      · have hqt : q d = true := by simpa using hb
        rw [hqt, if_pos rfl] at hft
        have hB := h.same hw.1
        obtain ⟨m2, hm2, _⟩ := box_open hB
        simp only [nn_some, add_mk]
        refine hB.ldP 0 rfl rfl (clr (c35 hm2) ⟨_, rfl, ?_⟩)
        have ed : IntKind.wrap .u16 (IntKind.wrap .u32 (nm x.cum d - x.cum)) = (d : Int) := by
          have : IntKind.wrap .u32 (nm x.cum d - x.cum) = (d : Int) := by rw [wrap_u32_mod]; unfold nm; omega
          rw [this, wrap_u16 (by omega) (by omega)]
        rw [ed]
        have done : ∀ {G' : List (Nat × Nat)} {a' : Option Addr} {c' : Nat} {w3 : World}, G' = gstep G d → Hs w [slP 60 2 a' G'.length c' (gapV G'), slP 22 1 (some ad) x.S.length fc (nV (nums x.cum x.S))] w3 → F49_2 K0 k (.pointer (some ⟨bb, 0, none⟩)) (.int .i64 N) fv (.slice a' G'.length c') (.slice (some ad) x.S.length fc) (.int .i64 (x.S.length : Int)) (.int .i64 ((j + 1 : Nat) : Int)) w3 := by
          intro G' a' c' w3 hG' h3
          refine ih (j + 1) G' a' c' w3 k K0 (by omega) ?_ h3 (by omega) hK
          rw [hG', hft, gapA_snoc, hG]
        have app : ∀ {Kn : Value → Value → Value → Value → Value → Value → Value → World → Prop} {n5 : Int}, (∀ a' c' w3, Hs w [slP 60 2 a' (G ++ [(d, d)]).length c' (gapV (G ++ [(d, d)])), slP 22 1 (some ad) x.S.length fc (nV (nums x.cum x.S))] w3 → Kn (.pointer (some ⟨bb, 0, none⟩)) (.int .i64 N) fv (.slice a' (G ++ [(d, d)]).length c') (.slice (some ad) x.S.length fc) (.int .i64 (x.S.length : Int)) (.int .i64 (j : Int)) w3) →
            F49_1 Kn (.pointer (some ⟨bb, 0, none⟩)) (.int .i64 N) fv (.slice oa G.length oc) (.int .u16 (d : Int)) (.int .i64 n5) (.slice (some ad) x.S.length fc) (.int .i64 (x.S.length : Int)) (.int .i64 (j : Int)) (.bool false) w2 := by
          intro Kn n5 hKn
          unfold F49_1
          simp only [rdP_mk, rdC_mk, rdI_mk, rdB_mk, br_false]
          unfold alc
          refine hw.push E37 0 rfl (news := #[_, _]) rfl (by simp [Value.oneCell']) (by omega) (by omega) ?_
          intro a' c' w3 h3
          have := hKn a' c' w3
          simp only [List.length_append, List.length_singleton] at this
          refine this ?_
          rw [gapV_snoc]
          exact h3
        rcases List.eq_nil_or_concat G with hG0 | ⟨G', g, hG0⟩
        · have hl0 : G.length = 0 := by rw [hG0]; rfl
          rw [br_dec]
          refine ⟨fun hl => by exfalso; omega, fun _ => app fun a' c' w3 h3 _g => ?_⟩
          simp only [rdP_mk, rdC_mk, rdI_mk]
          rw [e1]
          exact done (G' := G ++ [(d, d)]) (by rw [hG0]; rfl) h3
        · rw [List.concat_eq_append] at hG0
          have hl1 : G.length = G'.length + 1 := by rw [hG0]; simp
          have hg := gf1 g (by rw [hG0]; simp)
          rw [br_dec]
          refine ⟨fun _ => ?_, fun hl => by exfalso; omega⟩
          have ei : IntKind.wrap .i64 ((G.length : Int) - 1) = (G'.length : Int) := by rw [wrap_i64 (by omega) (by omega)]; omega
          rw [ei]
          have hgd := hw.rd 0 rfl
          obtain ⟨gd, hgo⟩ := hgd.some (by rw [gapV_length]; omega)
          subst hgo
          have hat : G[G'.length]? = some g := by rw [hG0]; simp
          refine ixS_of (by omega) (by omega) ?_
          rw [Int.toNat_natCast]
          simp only [add_add]
          refine ldI_c (hgd.at (gapV_at hat).2) ?_
          have eb : (IntKind.wrap .u16 ((g.2 : Int) + 1) == (d : Int)) = decide (g.2 + 1 = d) := by
            rw [wrap_u16_mod, Bool.eq_iff_iff]
            simp only [beq_iff_eq, decide_eq_true_eq]
            omega
          rw [eb]
          by_cases hs : g.2 + 1 = d
          · rw [decide_eq_true hs]
            unfold F49_1
            simp only [rdP_mk, rdC_mk, rdI_mk, rdB_mk, br_true]
            rw [ei]
            refine ixS_of (by omega) (by omega) ?_
            rw [Int.toNat_natCast]
            simp only [add_add]
            refine hw.put 0 rfl (by rw [gapV_length]; omega) fun w3 h3 _g => ?_
            rw [e1]
            have e4 : G.length = (G' ++ [(g.1, d)]).length := by rw [hG0]; simp
            rw [hG0, gapV_set, ← hG0, e4] at h3
            rw [e4]
            exact done (G' := G' ++ [(g.1, d)]) (by rw [hG0, gstep_snoc, if_pos hs]) h3
          · rw [decide_eq_false hs]
            refine app fun a' c' w3 h3 _g => ?_
            simp only [rdP_mk, rdC_mk, rdI_mk]
            rw [e1]
            exact done (G' := G ++ [(d, d)]) (by rw [hG0, gstep_snoc, if_neg hs]) h3
  refine ⟨x.S.length + 1, loop x.S.length 0 [] none 0 w1 _ _ (by omega) rfl h1 (by omega) fun w2 a c h2 _g => ?_⟩
  simp only [rdC_mk, rdI_mk]
  have hlg : (gapS (x.S.filter q) N).length = min N.toNat (gapA (x.S.filter q)).length := by unfold gapS; rw [List.length_take]
  have em : (if ((gapA (x.S.filter q)).length : Int) < N then ((gapA (x.S.filter q)).length : Int) else N) = ((gapS (x.S.filter q) N).length : Int) := by
    rw [hlg]; split <;> omega
  rw [em]
  have o2 := h2.own 0 rfl
  have hle := o2.le
  refine slS_hi (by omega) ⟨a, c, rfl, ?_, h2.1⟩
  have o3 := o2.cut (n := (gapS (x.S.filter q) N).length) (by omega)
  have eg : gapV (gapS (x.S.filter q) N) = (gapV (gapA (x.S.filter q))).take ((gapS (x.S.filter q) N).length * 2) := by
    rw [gapV_take]
    congr 1
    rw [hlg]; unfold gapS
    rw [← List.take_take, List.take_length]
  rw [eg]
  exact o3
end
end Go.Proofs.YtccffjlahpfdaaaDoor
