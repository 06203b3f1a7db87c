/-
  Is a report right; what it tells of each chunk.
-/
import Derived.Test.YtmliokbonkndaaaShQ
namespace Go.Proofs.Ytmliokbonkndaaa
open Go Go.Sh
def ordG (G : List Gp) : Bool := G.all fun g => decide (g.1 ≠ 0 ∧ g.1 ≤ g.2)
def pastG (next tsn : Int) (G : List Gp) : Bool := G.any fun g => decide (sd next ((tsn + g.2) % 4294967296) ≥ 0)
def rightE (kind tsn cum : Int) (len : Nat) (Gs : List (List Gp)) : Int :=
  if kind ≠ 3 ∧ kind ≠ 16 then 172 else if Gs.all ordG = false then 172 else if sd tsn cum > 0 then 170 else if sd (nxt cum len) tsn ≥ 0 ∨ Gs.any (pastG (nxt cum len) tsn) = true then 171 else 0
theorem sd_shift (t x y : Int) (h : -2147483648 ≤ y - x ∧ y - x < 2147483648) : sd ((t + x) % 4294967296) ((t + y) % 4294967296) = y - x := by
  unfold sd
  split <;> omega
/-- the farthest end so far -/
def farM (mx : Int) (pre : List Gp) : Prop := 0 ≤ mx ∧ mx ≤ 65535 ∧ (∀ g ∈ pre, g.2 ≤ mx) ∧ (mx = 0 ∨ ∃ g ∈ pre, g.2 = mx)
theorem farM.zero : farM 0 [] := ⟨by omega, by omega, by simp, .inl rfl⟩
theorem farM.add {mx : Int} {pre : List Gp} {g : Gp} (h : farM mx pre) (h0 : 0 ≤ g.2) (h1 : g.2 ≤ 65535) : farM (if g.2 - mx > 0 then g.2 else mx) (pre ++ [g]) := by
  obtain ⟨a, b, c, d⟩ := h
  split
  · refine ⟨h0, h1, fun x hx => ?_, .inr ⟨g, by simp, rfl⟩⟩
    rcases List.mem_append.1 hx with hx | hx
    · have := c x hx; omega
    · simp at hx; subst hx; exact Int.le_refl _
  · refine ⟨a, b, fun x hx => ?_, ?_⟩
    · rcases List.mem_append.1 hx with hx | hx
      · exact c x hx
      · simp at hx; subst hx; omega
    · rcases d with d | ⟨x, hx, e⟩
      · exact .inl d
      · exact .inr ⟨x, by simp [hx], e⟩
theorem past_far {next tsn mx : Int} {Gs : List (List Gp)} (h : farM mx Gs.flatten) (hg : ∀ G ∈ Gs, gOk G) (hn : sd next tsn < 0) (_ : 0 ≤ tsn ∧ tsn < 4294967296) (_ : 0 ≤ next ∧ next < 4294967296) :
    (sd next ((tsn + mx) % 4294967296) ≥ 0) ↔ Gs.any (pastG next tsn) = true := by
  obtain ⟨a, b, c, d⟩ := h
  have key : ∀ e : Int, 0 ≤ e → e ≤ 65535 → (sd next ((tsn + e) % 4294967296) ≥ 0 ↔ e + sd next tsn ≥ 0) := by
    intro e h0 h1
    unfold sd at hn ⊢
    split at hn <;> split <;> omega
  rw [key mx a b, List.any_eq_true]
  constructor
  · intro h
    rcases d with d | ⟨g, hg', e⟩
    · omega
    · obtain ⟨G, hG, hgG⟩ := List.mem_flatten.1 hg'
      refine ⟨G, hG, ?_⟩
      unfold pastG
      rw [List.any_eq_true]
      obtain ⟨_, _, o3, o4⟩ := hg G hG g hgG
      exact ⟨g, hgG, by simp only [decide_eq_true_eq]; rw [key g.2 o3 o4]; omega⟩
  · rintro ⟨G, hG, h⟩
    unfold pastG at h
    rw [List.any_eq_true] at h
    obtain ⟨g, hgG, h⟩ := h
    obtain ⟨_, _, o3, o4⟩ := hg G hG g hgG
    simp only [decide_eq_true_eq] at h
    rw [key g.2 o3 o4] at h
    have := c g (List.mem_flatten.2 ⟨G, hG, hgG⟩)
    omega
section
variable {W w : World} {L M : List HP} {bb : Nat} {n cum : Int} {a la : Option Addr} {c lc : Nat} {hs : List (Option Addr × Nat)} {es : List (Nat × En)} {b m : Nat} {e : En} {Gs : List (List Gp)}
theorem c32_2 {pb : Option Addr} {cb : Nat} {s2 : R30} {v23 : Option Addr} {n23 c23 : Nat} {n24 n25 : Int} {ga : Option Addr} {gc : Nat} {G : List Gp} (hG : gOk G) (hGl : G.length ≤ 140737488355328) (_ : 0 ≤ s2.f2 ∧ s2.f2 < 4294967296)
    {K2 : Value → Value → Value → Value → Value → Value → World → Prop} {Kr : Value → World → Prop} (hr : Rd w ga (gapV G)) :
    ∀ (i j : Nat) (mx : Int) (pre : List Gp) (w1 : World) (k : Nat), j + i = G.length → farM mx pre → Hs w [pt cb (.cells s2.c 31 (0, 0))] w1 → (G.take j).all (fun g => decide (g.1 ≠ 0 ∧ g.1 ≤ g.2)) = true → i < k →
      (∀ w' mx', ordG G = true → farM mx' (pre ++ G.drop j) → Hs w [pt cb (.cells s2.c 31 (0, 0))] w' → K2 (.pointer pb) (.pointer (some ⟨cb, 0, none⟩)) (.int .u32 ((s2.f2 + mx') % 4294967296)) (.slice v23 n23 c23) (.int .i64 n24) (.int .i64 n25) w') →
      (∀ w', ordG G = false → Same w w' → Kr (.int .i64 172) w') →
      F32_2 K2 Kr k (.pointer pb) (.pointer (some ⟨cb, 0, none⟩)) (.int .u32 ((s2.f2 + mx) % 4294967296)) (.slice v23 n23 c23) (.int .i64 n24) (.int .i64 n25) (.slice ga G.length gc) (.int .i64 (G.length : Int)) (.int .i64 (j : Int)) w1 := by
  intro i
  induction i with
  | zero =>
    intro j mx pre w1 k hj hf h hall hk hK hKr
    obtain ⟨k, rfl⟩ : ∃ j, k = j + 1 := ⟨k - 1, by omega⟩
    show F32_2B _ _ _ _ _ _ _ _ _ _ _ _ _
    unfold F32_2B
    simp only [rdC_mk, rdI_mk, rdP_mk, rdA_mk, br_dec]
    refine ⟨fun hle => by exfalso; omega, fun _ => hK w1 mx ?_ ?_ h⟩
    · rw [List.take_of_length_le (by omega)] at hall; exact hall
    · rw [List.drop_eq_nil_of_le (by omega), List.append_nil]; exact hf
  | succ i ih =>
    intro j mx pre w1 k hj hf h hall hk hK hKr
    obtain ⟨k, rfl⟩ : ∃ j, k = j + 1 := ⟨k - 1, by omega⟩
    show F32_2B _ _ _ _ _ _ _ _ _ _ _ _ _
    unfold F32_2B
    simp only [rdC_mk, rdI_mk, rdP_mk, rdA_mk, br_dec]
    refine ⟨fun hle => ?_, fun h => by exfalso; omega⟩
    obtain ⟨g, hg⟩ : ∃ g, G[j]? = some g := ⟨G[j]'(by omega), by simp⟩
    obtain ⟨o1, o2, o3, o4⟩ := hG g (List.mem_of_getElem? hg)
    have hrw := h.rd_old hr
    obtain ⟨ad, rfl⟩ := hrw.some (by rw [gapV_length]; omega)
    refine ixS_of (by omega) (by omega) ?_
    rw [Int.toNat_natCast]
    obtain ⟨g1, g2⟩ := gapV_at hg
    refine ldI_c (by rw [add_add]; exact hrw.at g1) (ldI_c (by rw [add_add]; exact hrw.at g2) ?_)
    refine h.alc fun b w1 h1 => ?_
    simp only [add_mk]
    refine h1.stc 0 rfl (by simp) fun w2 h2 => h2.stc 0 rfl (by simp) fun w3 h3 => ?_
    have h3 : Hs w (pt b (.cells #[.int .u16 g.1, .int .u16 g.2] 44 (0, 0)) :: [pt cb (.cells s2.c 31 (0, 0))]) w3 := h3
    have bad : (g.1 = 0 ∨ g.2 < g.1) → ordG G = false := by
      intro hb
      have hm := List.mem_of_getElem? hg
      cases ho : ordG G with
      | false => rfl
      | true =>
        unfold ordG at ho
        have := List.all_eq_true.1 ho g hm
        simp only [decide_eq_true_eq] at this
        omega
    refine h3.ldI 0 rfl rfl ?_
    rw [br_iff]
    refine ⟨fun hb => hKr w3 (bad (.inl (by simpa using hb))) h3.old, fun hb => ?_⟩
    have hb : g.1 ≠ 0 := by simpa using hb
    refine h3.ldI 0 rfl rfl (h3.ldI 0 rfl rfl ?_)
    refine ⟨fun hb2 => hKr w3 (bad (.inr hb2)) h3.old, fun hb2 => ?_⟩
    unfold F32_1
    simp only [rdC_mk, rdI_mk, rdP_mk, rdA_mk, add_mk]
    refine h3.ldI 1 rfl rfl (h3.ldI 0 rfl rfl ?_)
    have e0 : IntKind.wrap .u32 (s2.f2 + IntKind.wrap .u32 g.2) = (s2.f2 + g.2) % 4294967296 := by rw [wrap_u32 (n := g.2) (by omega) (by omega), wrap_u32_mod]
    rw [e0]
    refine clr (s37 _ _ w3) ⟨_, rfl, ?_⟩
    obtain ⟨f1, f2, f3, f4⟩ := hf
    rw [sd_shift _ _ _ (by omega), br_dec]
    have e1 : IntKind.wrap .i64 ((j : Int) + 1) = ((j + 1 : Nat) : Int) := by rw [wrap_i64 (by omega) (by omega)]; omega
    have hf' := farM.add (g := g) ⟨f1, f2, f3, f4⟩ o3 o4
    have hd : G.drop j = g :: G.drop (j + 1) := by rw [List.drop_eq_getElem_cons (by omega), (List.getElem?_eq_some_iff.1 hg).2]
    have next : ∀ (w4 : World) (mx' : Int), farM mx' (pre ++ [g]) → Hs w [pt cb (.cells s2.c 31 (0, 0))] w4 → F32_2 K2 Kr k (.pointer pb) (.pointer (some ⟨cb, 0, none⟩)) (.int .u32 ((s2.f2 + mx') % 4294967296)) (.slice v23 n23 c23) (.int .i64 n24) (.int .i64 n25) (.slice (some ad) G.length gc) (.int .i64 (G.length : Int)) (.int .i64 ((j + 1 : Nat) : Int)) w4 := by
      intro w4 mx' hf4 h4
      refine ih (j + 1) mx' (pre ++ [g]) w4 k (by omega) hf4 h4 ?_ (by omega) (fun w5 mx5 ho hf5 h5 => hK w5 mx5 ho ?_ h5) hKr
      · rw [List.take_add_one, hg, List.all_append, hall]
        simp only [Option.toList_some, List.all_cons, List.all_nil, Bool.and_true, Bool.true_and, decide_eq_true_eq]
        omega
      · rw [hd]; simpa using hf5
    refine ⟨fun hgt => ?_, fun hgt => ?_⟩
    · intro _g
      rw [e1]
      rw [if_pos hgt] at hf'
      exact next w3 g.2 hf' h3.drop
    · intro _g
      rw [e1]
      rw [if_neg hgt] at hf'
      exact next w3 mx hf' h3.drop
theorem c32 (hb : RB w bb n cum es) (hn : 1 ≤ n) (_ : 0 ≤ cum ∧ cum < 4294967296) (s2 : R30) (ht : 0 ≤ s2.f2 ∧ s2.f2 < 4294967296) (hg : GL w la hs Gs) :
    Calls Try.prog 32 #[.pointer (some ⟨bb, 0, none⟩), s2.v, .slice la Gs.length lc] w (rt fun v w' => v = .int .i64 (rightE s2.f0 s2.f2 cum es.length Gs) ∧ Same w w') := by
  refine F32_ok ?_
  unfold F32
  simp only [rdP_mk, rdC_mk]
  refine exR30_of s2 ⟨rfl, ?_⟩
  refine (Hs.start w).alc fun cb w1 h1 => ?_
  have main : (s2.f0 = 3 ∨ s2.f0 = 16) → F32_4 (fun y6 w9 => ∀ _g : Tm, rdI .i64 y6 fun n11 => (Value.int .i64 n11) = .int .i64 (rightE s2.f0 s2.f2 cum es.length Gs) ∧ Same w w9) (.pointer (some ⟨bb, 0, none⟩)) (.slice la Gs.length lc) (.pointer (some ⟨cb, 0, none⟩)) w1 := by
    intro hkind
    unfold F32_4
    simp only [rdP_mk, rdC_mk, rdA_mk, add_mk]
    refine h1.ldI 0 rfl rfl ?_
    have hfew := hg.few
    have hk : ¬ (s2.f0 ≠ 3 ∧ s2.f0 ≠ 16) := by omega
    have loop : ∀ (i j : Nat) (mx fr : Int) (w2 : World) (k : Nat) (K0 : Value → Value → Value → World → Prop) (Kr : Value → World → Prop), fr = (s2.f2 + mx) % 4294967296 → j + i = Gs.length → farM mx (Gs.take j).flatten → Hs w [pt cb (.cells s2.c 31 (0, 0))] w2 → (Gs.take j).all ordG = true → i < k →
        (∀ w' mx', Gs.all ordG = true → farM mx' Gs.flatten → Hs w [pt cb (.cells s2.c 31 (0, 0))] w' → K0 (.pointer (some ⟨bb, 0, none⟩)) (.pointer (some ⟨cb, 0, none⟩)) (.int .u32 ((s2.f2 + mx') % 4294967296)) w') →
        (∀ w', Gs.all ordG = false → Same w w' → Kr (.int .i64 172) w') →
        F32_3 K0 Kr k (.pointer (some ⟨bb, 0, none⟩)) (.pointer (some ⟨cb, 0, none⟩)) (.int .u32 fr) (.slice la Gs.length lc) (.int .i64 (Gs.length : Int)) (.int .i64 (j : Int)) w2 := by
      intro i
      induction i with
      | zero =>
        intro j mx fr w2 k K0 Kr hfr hj hf h hall hk hK hKr
        subst hfr
        obtain ⟨k, rfl⟩ : ∃ j, k = j + 1 := ⟨k - 1, by omega⟩
        show F32_3B _ _ _ _ _ _ _ _ _ _
        unfold F32_3B
        simp only [rdC_mk, rdI_mk, rdP_mk, rdA_mk, br_dec]
        rw [List.take_of_length_le (by omega)] at hf hall
        exact ⟨fun hle => by exfalso; omega, fun _ => hK w2 mx hall hf h⟩
      | succ i ih =>
        intro j mx fr w2 k K0 Kr hfr hj hf h hall hk hK hKr
        subst hfr
        obtain ⟨k, rfl⟩ : ∃ j, k = j + 1 := ⟨k - 1, by omega⟩
        show F32_3B _ _ _ _ _ _ _ _ _ _
        unfold F32_3B
        simp only [rdC_mk, rdI_mk, rdP_mk, rdA_mk, br_dec]
        refine ⟨fun hle => ?_, fun h => by exfalso; omega⟩
        obtain ⟨G, hG⟩ : ∃ g, Gs[j]? = some g := ⟨Gs[j]'(by omega), by simp⟩
        obtain ⟨x, hx⟩ : ∃ x, hs[j]? = some x := ⟨hs[j]'(by have := hg.len; omega), by simp⟩
        obtain ⟨ad, hla, hc, hrd⟩ := (hg.same h.old).row hG hx
        obtain ⟨k1, k2⟩ := hg.ok G (List.mem_of_getElem? hG)
        subst hla
        refine ixS_of (by omega) (by omega) ?_
        rw [Int.toNat_natCast, Nat.mul_one]
        refine ldC_c hc ?_
        have htk : Gs.take (j + 1) = Gs.take j ++ [G] := by rw [List.take_add_one, hG]; rfl
        refine ⟨G.length + 1, c32_2 k1 k2 ht (hg.gaps j x G hx hG) G.length 0 mx (Gs.take j).flatten w2 _ (by omega) hf h (by simp) (by omega) (fun w3 mx3 ho hf3 h3 _g => ?_) fun w3 ho s3 _g => ?_⟩
        · simp only [rdC_mk, rdI_mk, rdP_mk, rdA_mk]
          have e1 : IntKind.wrap .i64 ((j : Int) + 1) = ((j + 1 : Nat) : Int) := by rw [wrap_i64 (by omega) (by omega)]; omega
          rw [e1]
          refine ih (j + 1) mx3 _ w3 k K0 Kr rfl (by omega) ?_ h3 ?_ (by omega) hK hKr
          · rw [htk, List.flatten_append]; simpa using hf3
          · rw [htk, List.all_append, hall]; simp [ho]
        · simp only [rdI_mk]
          refine hKr w3 ?_ s3
          cases hal : Gs.all ordG with
          | false => rfl
          | true => exact absurd (List.all_eq_true.1 hal G (List.mem_of_getElem? hG)) (by rw [ho]; decide)
    refine ⟨Gs.length + 1, loop Gs.length 0 0 s2.f2 w1 (Gs.length + 1) _ _ (by omega) (by omega) (by simpa using farM.zero) h1 (by simp) (by omega) (fun w2 mx ho hf h2 _g => ?_) fun w2 ho s2' _g => ?_⟩
    · simp only [rdI_mk, rdP_mk, rdA_mk, add_mk, nn_some]
      refine h2.drw fun w3 h3 => h3.ldI 0 rfl rfl ?_
      obtain ⟨⟨a, c, hblk, _⟩, _⟩ := hb.same h3.old
      refine ldI_at hblk rfl ?_
      refine clr (s57 _ _ w3) ⟨_, rfl, ?_⟩
      have e1 : Gs.all ordG ≠ false := by rw [ho]; decide
      rw [br_dec]
      refine ⟨fun hl => ?_, fun hl => ?_⟩
      · intro _g
        refine ⟨?_, h3.old⟩
        unfold rightE
        rw [if_neg hk, if_neg e1, if_pos hl]
      refine h3.drw fun w4 h4 => ⟨w4, Pres.refl _, ?_⟩
      refine h4.ldI 0 rfl rfl ?_
      refine cl (c19 (hb.same h4.old) hn) ?_
      rintro _ w5 ⟨rfl, s5⟩
      refine ⟨_, rfl, Pres.of_Same s5, ?_⟩
      have h5 := h4.same s5
      refine clr (s37 _ _ w5) ⟨_, rfl, ?_⟩
      rw [br_dec]
      refine ⟨fun hp => ?_, fun hp => ?_⟩
      · intro _g
        refine ⟨?_, h5.old⟩
        unfold rightE
        rw [if_neg hk, if_neg e1, if_neg hl, if_pos (.inl hp)]
      refine cl (c19 (hb.same h5.old) hn) ?_
      rintro _ w6 ⟨rfl, s6⟩
      refine ⟨_, rfl, ?_⟩
      have h6 := h5.same s6
      refine clr (s37 _ _ w6) ⟨_, rfl, ?_⟩
      have hpf := past_far (next := nxt cum es.length) (tsn := s2.f2) hf (fun G hG => (hg.ok G hG).1) (by omega) ht (by unfold nxt; omega)
      rw [br_dec]
      refine ⟨fun hq => ?_, fun hq => ?_⟩
      · intro _g
        refine ⟨?_, h6.old⟩
        unfold rightE
        rw [if_neg hk, if_neg e1, if_neg hl, if_pos (.inr (hpf.1 hq))]
      · intro _g
        refine ⟨?_, h6.old⟩
        unfold rightE
        rw [if_neg hk, if_neg e1, if_neg hl, if_neg (fun h => h.elim hp fun h => hq (hpf.2 h))]
    · simp only [rdI_mk]
      intro _g
      refine ⟨?_, s2'⟩
      unfold rightE
      rw [if_neg hk, if_pos ho]
  refine h1.ldI 0 rfl rfl ?_
  rw [br_iff]
  refine ⟨fun hk3 => ?_, fun hk3 => main (.inl (by simpa using hk3))⟩
  refine h1.ldI 0 rfl rfl ?_
  rw [br_iff]
  refine ⟨fun hk16 => ⟨?_, h1.old⟩, fun hk16 => main (.inr (by simpa using hk16))⟩
  unfold rightE
  rw [if_pos ⟨by simpa using hk3, by simpa using hk16⟩]
end
end Go.Proofs.Ytmliokbonkndaaa
