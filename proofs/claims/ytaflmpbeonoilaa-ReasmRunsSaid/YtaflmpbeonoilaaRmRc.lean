/-
  The document's table: how much is held; lists with one less; a row becomes a message.
-/
import Derived.Test.YtaflmpbeonoilaaRmRb
namespace Go.Proofs.Ytaflmpbeonoilaa
open Go Go.Sh Go.RowKit
theorem szL_take {L : List Ch} {j : Nat} {x : Ch} (h : L[j]? = some x) : szL (L.take (j + 1)) = szL (L.take j) + x.b.length := by
  rw [List.take_add_one, h]; exact szL_snoc _ _
theorem szM_snoc (M : List Ms) (m : Ms) : szM (M ++ [m]) = szM M + m.d.length := by unfold szM; simp
theorem szM_take {M : List Ms} {j : Nat} {m : Ms} (h : M[j]? = some m) : szM (M.take (j + 1)) = szM (M.take j) + m.d.length := by
  rw [List.take_add_one, h]; exact szM_snoc _ _
theorem szL_take_le (L : List Ch) (j : Nat) : szL (L.take j) ≤ szL L := by
  have : szL L = szL (L.take j) + szL (L.drop j) := by
    unfold szL
    rw [← List.sum_append, ← List.map_append, List.take_append_drop]
  omega
theorem szM_take_le (M : List Ms) (j : Nat) : szM (M.take j) ≤ szM M := by
  have : szM M = szM (M.take j) + szM (M.drop j) := by
    unfold szM
    rw [← List.sum_append, ← List.map_append, List.take_append_drop]
  omega
section
variable {W w : World} {L M Z : List HP} {rb lc : Nat} {la : Option Addr} {d : RD} {s : St} {es : List Ec} {Wl : List Int}
theorem c43 (hi : RIs d s) (ht : tot s ≤ 1073741824) (hl : s.L.length ≤ 4294967296) (hm : s.M.length ≤ 4294967296) (h : Hs W (refL rb d s Wl ++ Z) w) : Calls Try.prog 43 #[.pointer (some ⟨rb, 0, none⟩)] w (rt (KR (.int .i64 (tot s : Int)) w)) := by
  refine F43_ok ?_
  unfold F43
  simp only [rdP_mk]
  have hel : d.es.length = s.L.length := by rw [← hi.L, List.length_map]
  have hml : d.ms.length = s.M.length := by rw [← hi.M, List.length_map]
  unfold tot at ht
  have loop2 : ∀ (m j k : Nat) (K2 : Value → World → Prop), j + m = d.ms.length → m < k → K2 (.int .i64 ((szL s.L + szM s.M : Nat) : Int)) w → F43_1 K2 k (.pointer (some ⟨rb, 0, none⟩)) (.int .i64 ((szL s.L + szM (s.M.take j) : Nat) : Int)) (.int .i64 (j : Int)) w := by
    intro m
    induction m with
    | zero =>
      intro j k K2 hj hk hK
      obtain ⟨k, rfl⟩ : ∃ j, k = j + 1 := ⟨k - 1, by omega⟩
      show F43_1B _ _ _ _ _ _
      unfold F43_1B
      simp only [rdP_mk, rdI_mk, nn_some, add_mk]
      refine rl3 h 0 rfl ?_
      rw [br_dec]
      refine ⟨fun hlt => by exfalso; omega, fun _ => ?_⟩
      rw [List.take_of_length_le (by omega)]
      exact hK
    | succ m ih =>
      intro j k K2 hj hk hK
      obtain ⟨k, rfl⟩ : ∃ j, k = j + 1 := ⟨k - 1, by omega⟩
      show F43_1B _ _ _ _ _ _
      unfold F43_1B
      simp only [rdP_mk, rdI_mk, nn_some, add_mk]
      refine rl3 h 0 rfl ?_
      rw [br_dec]
      refine ⟨fun _ => ?_, fun hlt => by exfalso; omega⟩
      refine rl3 h 0 rfl ?_
      obtain ⟨e, he⟩ : ∃ e, d.ms[j]? = some e := ⟨d.ms[j]'(by omega), by simp⟩
      have hem : s.M[j]? = some e.m := by rw [← hi.M, List.getElem?_map, he]; rfl
      have hrd := h.rd 2 rfl
      obtain ⟨ad, hra⟩ := hrd.some (by rw [msV_length]; omega)
      have hrd' : Rd w (some ad) (msV d.ms) := by rw [← hra]; exact hrd
      rw [hra]
      refine ixS_to rfl (by omega) ?_
      have hat := hrd'.atI (f := fun e : Em => e.rc.l) (m := 5) (i := j) (fun _ => rfl) he
      refine ldC_c (hat 4 _ rfl) ?_
      have hs := szM_take hem
      have hle := szM_take_le s.M (j + 1)
      have e1 : IntKind.wrap .i64 (((szL s.L + szM (s.M.take j) : Nat) : Int) + (e.rc.f4n : Int)) = ((szL s.L + szM (s.M.take (j + 1)) : Nat) : Int) := by
        have : e.rc.f4n = e.m.d.length := rfl
        rw [wrap_i64 (by omega) (by omega)]; omega
      have e2 : IntKind.wrap .i64 ((j : Int) + 1) = ((j + 1 : Nat) : Int) := by rw [wrap_i64 (by omega) (by omega)]; omega
      rw [e1, e2]
      exact ih (j + 1) k K2 (by omega) (by omega) hK
  have loop1 : ∀ (m j k : Nat) (K0 : Value → Value → World → Prop), j + m = d.es.length → m < k → K0 (.pointer (some ⟨rb, 0, none⟩)) (.int .i64 ((szL s.L : Nat) : Int)) w → F43_2 K0 k (.pointer (some ⟨rb, 0, none⟩)) (.int .i64 ((szL (s.L.take j) : Nat) : Int)) (.int .i64 (j : Int)) w := by
    intro m
    induction m with
    | zero =>
      intro j k K0 hj hk hK
      obtain ⟨k, rfl⟩ : ∃ j, k = j + 1 := ⟨k - 1, by omega⟩
      show F43_2B _ _ _ _ _ _
      unfold F43_2B
      simp only [rdP_mk, rdI_mk, nn_some, add_mk]
      refine rl2 h 0 rfl ?_
      rw [br_dec]
      refine ⟨fun hlt => by exfalso; omega, fun _ => ?_⟩
      rw [List.take_of_length_le (by omega)]
      exact hK
    | succ m ih =>
      intro j k K0 hj hk hK
      obtain ⟨k, rfl⟩ : ∃ j, k = j + 1 := ⟨k - 1, by omega⟩
      show F43_2B _ _ _ _ _ _
      unfold F43_2B
      simp only [rdP_mk, rdI_mk, nn_some, add_mk]
      refine rl2 h 0 rfl ?_
      rw [br_dec]
      refine ⟨fun _ => ?_, fun hlt => by exfalso; omega⟩
      refine rl2 h 0 rfl ?_
      obtain ⟨e, he⟩ : ∃ e, d.es[j]? = some e := ⟨d.es[j]'(by omega), by simp⟩
      have hem : s.L[j]? = some e.x := by rw [← hi.L, List.getElem?_map, he]; rfl
      refine ch_ix (h.rd 1 rfl) rfl he fun a ha => ?_
      refine ldC_c (ha 13 _ rfl) ?_
      have hs := szL_take hem
      have hle := szL_take_le s.L (j + 1)
      have e1 : IntKind.wrap .i64 (((szL (s.L.take j) : Nat) : Int) + (e.rc.f13n : Int)) = ((szL (s.L.take (j + 1)) : Nat) : Int) := by
        have : e.rc.f13n = e.x.b.length := rfl
        rw [wrap_i64 (by omega) (by omega)]; omega
      have e2 : IntKind.wrap .i64 ((j : Int) + 1) = ((j + 1 : Nat) : Int) := by rw [wrap_i64 (by omega) (by omega)]; omega
      rw [e1, e2]
      exact ih (j + 1) k K0 (by omega) (by omega) hK
  refine ⟨d.es.length + 1, loop1 d.es.length 0 _ _ (by omega) (by omega) ?_⟩
  intro _g
  simp only [rdP_mk, rdI_mk]
  refine ⟨d.ms.length + 1, loop2 d.ms.length 0 _ _ (by omega) (by omega) ?_⟩
  intro _g
  simp only [rdI_mk]
  exact KR.mk _ _
theorem c67 {t : Int} (hl : es.length ≤ 32769) (hrd : ∀ w', Hs W M w' → Rd w' la (chV es)) (h : Hs W M w) : Calls Try.prog 67 #[.slice la es.length lc, .int .u32 t] w (rt fun v w' => ∃ a c, v = .slice a (es.filter fun e => e.x.tsn != t).length c ∧ Hs W (slP 36 15 a (es.filter fun e => e.x.tsn != t).length c (chV (es.filter fun e => e.x.tsn != t)) :: M) w') := by
  refine F67_ok ?_
  unfold F67
  simp only [rdC_mk, rdI_mk]
  have loop : ∀ (K0 : Value → World → Prop), (∀ w' a c, Hs W (slP 36 15 a (es.filter fun e => e.x.tsn != t).length c (chV (es.filter fun e => e.x.tsn != t)) :: M) w' → K0 (.slice a (es.filter fun e => e.x.tsn != t).length c) w') →
      ∀ (m j k : Nat) (w : World) (a : Option Addr) (c : Nat), j + m = es.length → m < k → Hs W (slP 36 15 a ((es.take j).filter fun e => e.x.tsn != t).length c (chV ((es.take j).filter fun e => e.x.tsn != t)) :: M) w →
      F67_1 K0 k (.slice la es.length lc) (.int .u32 t) (.slice a ((es.take j).filter fun e => e.x.tsn != t).length c) (.int .i64 (j : Int)) w := by
    intro K0 hK m
    induction m with
    | zero =>
      intro j k w a c hj hk h
      obtain ⟨k, rfl⟩ : ∃ j, k = j + 1 := ⟨k - 1, by omega⟩
      show F67_1B _ _ _ _ _ _ _
      unfold F67_1B
      simp only [rdC_mk, rdI_mk]
      rw [br_dec]
      refine ⟨fun hlt => by exfalso; omega, fun _ => ?_⟩
      rw [show es.take j = es from List.take_of_length_le (by omega)] at h ⊢
      exact hK w a c h
    | succ m ih =>
      intro j k w a c hj hk h
      obtain ⟨k, rfl⟩ : ∃ j, k = j + 1 := ⟨k - 1, by omega⟩
      show F67_1B _ _ _ _ _ _ _
      unfold F67_1B
      simp only [rdC_mk, rdI_mk]
      rw [br_dec]
      refine ⟨fun _ => ?_, fun hlt => by exfalso; omega⟩
      obtain ⟨e, he⟩ : ∃ e, es[j]? = some e := ⟨es[j]'(by omega), by simp⟩
      have hr := hrd w h.drop
      refine ch_ix hr rfl he fun ad ha => ?_
      refine ldI_c (ha 2 _ rfl) ?_
      have e1 : IntKind.wrap .i64 ((j : Int) + 1) = ((j + 1 : Nat) : Int) := by rw [wrap_i64 (by omega) (by omega)]; omega
      have etk : es.take (j + 1) = es.take j ++ [e] := by rw [List.take_add_one, he]; rfl
      rw [e1, br_iff]
      refine ⟨fun hb => ?_, fun hb => ?_⟩
      · have hb' : (e.x.tsn != t) = true := hb
        have ef : ((es.take (j + 1)).filter fun e => e.x.tsn != t) = ((es.take j).filter fun e => e.x.tsn != t) ++ [e] := by
          rw [etk, List.filter_append]; simp [hb']
        refine ch_ix hr rfl he fun ad ha => ?_
        refine ldR35_of ha ?_
        unfold alc
        have hlen := List.length_filter_le (fun e : Ec => e.x.tsn != t) (es.take j)
        rw [List.length_take] at hlen
        refine h.push (ty := 45) E45 0 rfl (news := e.rc.c) rfl (R35_one _) (by omega) (by omega) fun a' c' w8 h9 => ?_
        have h9 : Hs W (slP 36 15 a' (((es.take j).filter fun e => e.x.tsn != t).length + 1) c' (chV ((es.take j).filter fun e => e.x.tsn != t) ++ e.rc.l) :: M) w8 := h9
        rw [← chV_snoc, ← ef] at h9
        have el : ((es.take j).filter fun e => e.x.tsn != t).length + 1 = ((es.take (j + 1)).filter fun e => e.x.tsn != t).length := by rw [ef]; simp
        rw [el] at h9 ⊢
        exact ih (j + 1) k w8 a' c' (by omega) (by omega) h9
      · have hb' : (e.x.tsn != t) = false := hb
        have ef : ((es.take (j + 1)).filter fun e => e.x.tsn != t) = ((es.take j).filter fun e => e.x.tsn != t) := by
          rw [etk, List.filter_append]; simp [hb']
        have := ih (j + 1) k w a c (by omega) (by omega) (by rw [ef]; exact h)
        rw [ef] at this
        exact this
  refine ⟨es.length + 1, loop _ (fun w' a c h' _g => ?_) es.length 0 _ w none 0 (by omega) (by omega) (by simpa [chV] using h.nil 36 15)⟩
  simp only [rdC_mk]
  exact ⟨a, c, by first | rfl | trivial, h'⟩
theorem c89 {t : Int} {X : List Int} (hl : X.length ≤ 4294967296) (hrd : ∀ w', Hs W M w' → Rd w' la (inV .u32 X)) (h : Hs W M w) : Calls Try.prog 89 #[.slice la X.length lc, .int .u32 t] w (rt fun v w' => ∃ a c, v = .slice a (X.filter (· != t)).length c ∧ Hs W (slP 30 1 a (X.filter (· != t)).length c (inV .u32 (X.filter (· != t))) :: M) w') := by
  refine F89_ok ?_
  unfold F89
  simp only [rdC_mk, rdI_mk]
  have loop : ∀ (K0 : Value → World → Prop), (∀ w' a c, Hs W (slP 30 1 a (X.filter (· != t)).length c (inV .u32 (X.filter (· != t))) :: M) w' → K0 (.slice a (X.filter (· != t)).length c) w') →
      ∀ (m j k : Nat) (w : World) (a : Option Addr) (c : Nat), j + m = X.length → m < k → Hs W (slP 30 1 a ((X.take j).filter (· != t)).length c (inV .u32 ((X.take j).filter (· != t))) :: M) w →
      F89_1 K0 k (.slice la X.length lc) (.int .u32 t) (.slice a ((X.take j).filter (· != t)).length c) (.int .i64 (j : Int)) w := by
    intro K0 hK m
    induction m with
    | zero =>
      intro j k w a c hj hk h
      obtain ⟨k, rfl⟩ : ∃ j, k = j + 1 := ⟨k - 1, by omega⟩
      show F89_1B _ _ _ _ _ _ _
      unfold F89_1B
      simp only [rdC_mk, rdI_mk]
      rw [br_dec]
      refine ⟨fun hlt => by exfalso; omega, fun _ => ?_⟩
      rw [show X.take j = X from List.take_of_length_le (by omega)] at h ⊢
      exact hK w a c h
    | succ m ih =>
      intro j k w a c hj hk h
      obtain ⟨k, rfl⟩ : ∃ j, k = j + 1 := ⟨k - 1, by omega⟩
      show F89_1B _ _ _ _ _ _ _
      unfold F89_1B
      simp only [rdC_mk, rdI_mk]
      rw [br_dec]
      refine ⟨fun _ => ?_, fun hlt => by exfalso; omega⟩
      obtain ⟨e, he⟩ : ∃ e, X[j]? = some e := ⟨X[j]'(by omega), by simp⟩
      have hr := hrd w h.drop
      obtain ⟨xd, hxa⟩ := hr.some (by rw [inV_length]; omega)
      have hr' : Rd w (some xd) (inV .u32 X) := by rw [← hxa]; exact hr
      rw [hxa]
      refine ixS_to rfl (by omega) ?_
      rw [Nat.mul_one]
      refine ldI_c (hr'.at (inV_at he)) ?_
      have e1 : IntKind.wrap .i64 ((j : Int) + 1) = ((j + 1 : Nat) : Int) := by rw [wrap_i64 (by omega) (by omega)]; omega
      have etk : X.take (j + 1) = X.take j ++ [e] := by rw [List.take_add_one, he]; rfl
      rw [e1, br_iff]
      refine ⟨fun hb => ?_, fun hb => ?_⟩
      · have ef : ((X.take (j + 1)).filter (· != t)) = ((X.take j).filter (· != t)) ++ [e] := by
          rw [etk, List.filter_append]; simp [hb]
        refine ixS_to rfl (by omega) ?_
        rw [Nat.mul_one]
        refine ldI_c (hr'.at (inV_at he)) ?_
        unfold alc
        have hlen := List.length_filter_le (· != t) (X.take j)
        rw [List.length_take] at hlen
        refine h.push (ty := 33) E33 0 rfl (news := #[.int .u32 e]) rfl (by simp [Value.oneCell']) (by omega) (by omega) fun a' c' w8 h9 => ?_
        have h9 : Hs W (slP 30 1 a' (((X.take j).filter (· != t)).length + 1) c' (inV .u32 ((X.take j).filter (· != t)) ++ [.int .u32 e]) :: M) w8 := h9
        rw [← inV_snoc, ← ef] at h9
        have el : ((X.take j).filter (· != t)).length + 1 = ((X.take (j + 1)).filter (· != t)).length := by rw [ef]; simp
        rw [el] at h9 ⊢
        rw [← hxa]
        exact ih (j + 1) k w8 a' c' (by omega) (by omega) h9
      · have ef : ((X.take (j + 1)).filter (· != t)) = ((X.take j).filter (· != t)) := by
          rw [etk, List.filter_append]; simp [hb]
        have := ih (j + 1) k w a c (by omega) (by omega) (by rw [ef]; exact h)
        rw [ef, hxa] at this
        exact this
  refine ⟨X.length + 1, loop _ (fun w' a c h' _g => ?_) X.length 0 _ w none 0 (by omega) (by omega) (by simpa [inV] using h.nil 30 1)⟩
  simp only [rdC_mk]
  exact ⟨a, c, by first | rfl | trivial, h'⟩
end
end Go.Proofs.Ytaflmpbeonoilaa
