/- Own text: part of the shallow reading of the code and of the contracts that are proved over it. -/
import Derived.Test.YtccffjlahpfdaaaDoorIbH
namespace Go.Proofs.YtccffjlahpfdaaaDoor
open Go Go.Sh Go.Sp
section
variable {W w : World} {L : List HP} {bb rr : Nat} {D : BD} {R : RD} {x : BX}
/-! the document's blocks -/
theorem c67 (h : Hs W (refL rr R x ++ L) w) (ho : OkX x) (fb al : Bool) {N : Int} : Calls Tryd.prog 67 #[.pointer (some ⟨rr, 0, none⟩), .bool fb, .bool al, .int .i64 N] w (rt fun v w' => ∃ a c, v = .slice a (gapS (x.S.filter fun d => al || (decide (nm x.cum d ∈ x.fx) == fb)) N).length c ∧ Own w' w.heap.size 60 2 a (gapS (x.S.filter fun d => al || (decide (nm x.cum d ∈ x.fx) == fb)) N).length c (gapV (gapS (x.S.filter fun d => al || (decide (nm x.cum d ∈ x.fx) == fb)) N)) ∧ Same w w') := by
  have hr := ref_RngX h
  have hfl := ho.len hr
  have hlenS := hr.len
  obtain ⟨q, hq⟩ : ∃ q : Nat → Bool, q = fun d => al || (decide (nm x.cum d ∈ x.fx) == fb) := ⟨_, rfl⟩
  rw [← hq]
  refine F67_ok ?_
  unfold F67
  simp only [rdP_mk, rdI_mk, rdB_mk, nn_some, add_mk]
  obtain ⟨cs, hc, hc0⟩ := ref_cum h
  refine h.ldP 0 rfl rfl ?_
  simp only [nn_some, add_mk]
  refine ldI_at hc hc0 ?_
  unfold alc
  have g0 := (Hs.start w).alloc (.cells #[.int .u32 x.cum, .slice none 0 0] 32)
  have hsb : w.heap.size < (w.alloc (.cells #[.int .u32 x.cum, .slice none 0 0] 32)).heap.size := by simp
  obtain ⟨sb, hsbe⟩ : ∃ sb, sb = w.heap.size := ⟨_, rfl⟩
  rw [← hsbe] at g0
  have hsb' : sb < (w.alloc (.cells #[.int .u32 x.cum, .slice none 0 0] 32)).heap.size := by omega
  rw [← hsbe]
  generalize w.alloc (.cells #[.int .u32 x.cum, .slice none 0 0] 32) = w1 at g0 hsb' ⊢
  have h1 := h.same g0.1
  obtain ⟨ra, hra, _⟩ := ref_open h1
  refine h1.ldP 0 rfl rfl (cl (r26 hra) ?_)
  rintro _ w2 ⟨fa, fc, rfl, o2, s2⟩
  rw [numV_nV] at o2
  refine ⟨_, _, _, rfl, ?_⟩
  have g2 : Hs w [slP 3 1 none 0 0 (atV []), pt sb (.cells #[.int .u32 x.cum, .slice none 0 0] 32 (0, 0)), slP 22 1 fa x.S.length fc (nV (nums x.cum x.S))] w2 :=
    ((g0.own_new s2 o2).perm (List.Perm.swap _ _ _)).nil 3 1
  have loop : ∀ (i j : Nat) (oa : Option Addr) (oc : Nat) (w3 : World) (k : Nat) (K0 : Value → Value → World → Prop), j + i = x.S.length → Hs w [slP 3 1 oa ((x.S.take j).filter q).length oc (atV ((x.S.take j).filter q)), pt sb (.cells #[.int .u32 x.cum, .slice oa ((x.S.take j).filter q).length oc] 32 (0, 0)), slP 22 1 fa x.S.length fc (nV (nums x.cum x.S))] w3 → i < k →
      (∀ w' a c, Hs w [slP 3 1 a (x.S.filter q).length c (atV (x.S.filter q)), pt sb (.cells #[.int .u32 x.cum, .slice a (x.S.filter q).length c] 32 (0, 0)), slP 22 1 fa x.S.length fc (nV (nums x.cum x.S))] w' → K0 (.int .i64 N) (.pointer (some ⟨sb, 0, none⟩)) w') →
      F67_2 K0 k (.pointer (some ⟨rr, 0, none⟩)) (.bool fb) (.bool al) (.int .i64 N) (.pointer (some ⟨sb, 0, none⟩)) (.slice fa x.S.length fc) (.int .i64 (j : Int)) w3 := by
    intro i
    induction i with
    | zero =>
      intro j oa oc w3 k K0 hj hw hk hK
      obtain ⟨k, rfl⟩ : ∃ j, k = j + 1 := ⟨k - 1, by omega⟩
      show F67_2B _ _ _ _ _ _ _ _ _ _
      unfold F67_2B
      simp only [rdP_mk, rdC_mk, rdI_mk, rdB_mk]
      rw [br_dec]
      have e : x.S.take j = x.S := List.take_of_length_le (by omega)
      rw [e] at hw
      exact ⟨fun h => by exfalso; omega, fun _ => hK _ _ _ hw⟩
    | succ i ih =>
      intro j oa oc w3 k K0 hj hw hk hK
      obtain ⟨k, rfl⟩ : ∃ j, k = j + 1 := ⟨k - 1, by omega⟩
      show F67_2B _ _ _ _ _ _ _ _ _ _
      unfold F67_2B
      simp only [rdP_mk, rdC_mk, rdI_mk, rdB_mk]
      rw [br_dec]
      refine ⟨fun _ => ?_, fun h => by exfalso; omega⟩
      obtain ⟨d, hd⟩ : ∃ d, x.S[j]? = some d := ⟨x.S[j]'(by omega), by simp⟩
      have e1 : IntKind.wrap .i64 ((j : Int) + 1) = ((j + 1 : Nat) : Int) := by rw [wrap_i64 (by omega) (by omega)]; omega
      have hft := filter_take (q := q) hd
      have hle : ((x.S.take j).filter q).length ≤ 65534 := Nat.le_trans (List.length_filter_le _ _) (by rw [List.length_take]; omega)
      have step : ∀ {Kn : Value → Value → Value → Value → Value → Value → Value → World → Prop} (b : Bool), b = q d → (∀ a' c' w4, Hs w [slP 3 1 a' ((x.S.take (j + 1)).filter q).length c' (atV ((x.S.take (j + 1)).filter q)), pt sb (.cells #[.int .u32 x.cum, .slice a' ((x.S.take (j + 1)).filter q).length c'] 32 (0, 0)), slP 22 1 fa x.S.length fc (nV (nums x.cum x.S))] w4 → Kn (.pointer (some ⟨rr, 0, none⟩)) (.bool fb) (.bool al) (.int .i64 N) (.pointer (some ⟨sb, 0, none⟩)) (.slice fa x.S.length fc) (.int .i64 (j : Int)) w4) →
          F67_1 Kn (.pointer (some ⟨rr, 0, none⟩)) (.bool fb) (.bool al) (.int .i64 N) (.pointer (some ⟨sb, 0, none⟩)) (.slice fa x.S.length fc) (.int .i64 (j : Int)) (.bool b) w3 := by
        intro Kn b hb hKn
        unfold F67_1 drw
        simp only [rdP_mk, rdC_mk, rdI_mk, rdB_mk, nn_some, add_mk]
        rw [hft] at hKn
        cases b with
        | true =>
          rw [← hb, if_pos rfl] at hKn
          rw [br_true]
          have hw2 := hw.drew
          generalize w3.drew = w4 at hw2 ⊢
          have h4 := h.same hw2.1
          obtain ⟨ra, hra, _⟩ := ref_open h4
          obtain ⟨rc, hb1, hb2⟩ := hra.blk
          refine hw2.ldC 1 rfl rfl (h4.ldP 0 rfl rfl ?_)
          simp only [nn_some, add_mk]
          refine ldC_at hb1 rfl ?_
          have hrd := hb2.rd
          obtain ⟨ad, hod⟩ := hrd.some (by rw [atV_length]; omega)
          rw [hod] at hrd
          rw [hod]
          refine ixS_of (by omega) (by omega) ?_
          rw [Int.toNat_natCast, Nat.mul_one]
          refine ldI_c (hrd.at (atV_at hd)) ⟨Pres.of_Same ((Fr.refl w4).alloc _), ?_⟩
          refine hw2.push E54 0 rfl (news := #[_]) rfl (by simp [Value.oneCell']) (by omega) (by omega) ?_
          intro a' c' w5 h5
          refine h5.stc 1 rfl (by simp) fun w6 h6 => ?_
          have := hKn a' c' w6
          simp only [List.length_append, List.length_singleton, atV_snoc] at this
          exact this h6
        | false =>
          rw [← hb] at hKn
          simp only [Bool.false_eq_true, if_false, List.append_nil] at hKn
          rw [br_false]
          exact hKn _ _ _ hw
      have next : ∀ a' c' w4, Hs w [slP 3 1 a' ((x.S.take (j + 1)).filter q).length c' (atV ((x.S.take (j + 1)).filter q)), pt sb (.cells #[.int .u32 x.cum, .slice a' ((x.S.take (j + 1)).filter q).length c'] 32 (0, 0)), slP 22 1 fa x.S.length fc (nV (nums x.cum x.S))] w4 → F67_2 K0 k (.pointer (some ⟨rr, 0, none⟩)) (.bool fb) (.bool al) (.int .i64 N) (.pointer (some ⟨sb, 0, none⟩)) (.slice fa x.S.length fc) (.int .i64 ((j + 1 : Nat) : Int)) w4 := fun a' c' w4 h4 => ih (j + 1) a' c' w4 k K0 (by omega) h4 (by omega) hK
      rw [br_iff]
      refine ⟨fun hal => step true (by rw [hq]; simp [hal]) fun a' c' w4 h4 _g => ?_, fun hal => ?_⟩
      · simp only [rdP_mk, rdC_mk, rdI_mk, rdB_mk]
        rw [e1]; exact next a' c' w4 h4
      · have hrd := hw.rd 2 rfl
        obtain ⟨ad, hod⟩ := hrd.some (by rw [nV_length, nums_length]; omega)
        rw [hod] at hrd
        rw [hod] at step next ⊢
        refine ixS_of (by omega) (by omega) ?_
        rw [Int.toNat_natCast, Nat.mul_one]
        refine ldI_c (hrd.at (nV_at (nums_at hd))) (clr (c42 (h.same hw.1) (by omega) _) ⟨_, rfl, ?_⟩)
        refine step _ (by rw [hq]; simp [hal]) fun a' c' w4 h4 _g => ?_
        simp only [rdP_mk, rdC_mk, rdI_mk, rdB_mk]
        rw [e1]; exact next a' c' w4 h4
  refine ⟨x.S.length + 1, loop x.S.length 0 none 0 w2 _ _ (by omega) g2 (by omega) fun w3 a c h3 _g => ?_⟩
  simp only [rdP_mk, rdI_mk]
  have o3 := h3.own 0 rfl
  have hR : RefR w3 sb a x.cum (x.S.filter q) := by
    refine ⟨⟨c, h3.at 1 rfl, o3.loc fun k hk => ⟨rfl, ?_⟩⟩, hr.rise.filter _, fun d hd => hr.rng d (List.mem_filter.1 hd).1, hr.c0, hr.c1⟩
    have h4 := h3.apart (i := 0) (j := 1) (by decide) rfl rfl Dm.sl (Dm.pt _ _) k (mem_bk.2 hk)
    have h5 := (o3.base_le hk).1
    simp at h4
    omega
  refine cl (r79 hR N) ?_
  rintro _ w4 ⟨ga, gc, rfl, og, sg⟩
  refine ⟨_, _, _, rfl, ga, gc, rfl, og.loc fun k hk => ⟨rfl, ?_⟩, h3.1.trans sg fun _ _ x => x⟩
  have := (og.base_le hk).1
  have := h3.size
  omega
/-! closures of Report -/
theorem c50 {g : Nat} (h : Hs W (boxL bb D x ++ L) w) (hg : w.heap[g]? = some (.cells #[.pointer (some ⟨bb, 0, none⟩)] 25 (0, 0))) (t : Int) : Calls Tryd.prog 50 #[.int .u32 t, .pointer (some ⟨g, 0, none⟩)] w (rt (KR (.bool (!x.nr || !decide (t ∈ x.fx))) w)) := by
  refine F50_ok ?_
  unfold F50
  simp only [rdI_mk, rdA_mk]
  refine ldP_at hg rfl ?_
  simp only [nn_some, add_mk]
  refine h.ldB 0 rfl rfl ?_
  cases x.nr with
  | false => rw [Bool.not_false, br_true]; exact ⟨rfl, rfl⟩
  | true => rw [Bool.not_true, br_false]; exact ldP_at hg rfl (clr (c39 h t) ⟨_, rfl, rfl, rfl⟩)
end
end Go.Proofs.YtccffjlahpfdaaaDoor
