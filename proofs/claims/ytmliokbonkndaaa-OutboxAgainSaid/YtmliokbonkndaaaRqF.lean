/-
  The document's box: is a report right, and of what does it tell?
-/
import Derived.Test.YtmliokbonkndaaaRqE
namespace Go.Proofs.Ytmliokbonkndaaa
open Go Go.Sh
theorem ChOk.same {w w' : World} {s : R30} {r : Rp} (h : ChOk w s r) (g : Same w w') : ChOk w' s r :=
  ⟨h.kind, h.tsn, h.t0, h.gl, h.gr.fr g fun _ _ x => x, h.nl, h.nr.fr g fun _ _ x => x, h.gok, h.nok⟩
section
variable {W w : World} {L M : List HP} {rb : Nat} {n cum : Int} {a : Option Addr} {c : Nat} {ds : List Dt} {d : Dt} {j : Nat} {G : List Gp} {ga : Option Addr} {gc : Nat} {s : R30} {r : Rp}
theorem c67 (hr : Rd w ga (gapV G)) (hl : G.length ≤ 140737488355328) : Calls Try.prog 67 #[.slice ga G.length gc] w (rt fun v w' => v = .bool (ordG G) ∧ Same w w') := by
  refine F67_ok ?_
  unfold F67
  simp only [rdC_mk]
  have loop : ∀ (i j : Nat) (w1 : World) (k : Nat) (K0 : World → Prop) (Kr : Value → World → Prop), j + i = G.length → Same w w1 → i < k → (∀ w', Same w w' → ordG (G.drop j) = true → K0 w') → (∀ w', Same w w' → ordG (G.drop j) = false → Kr (.bool false) w') →
      F67_1 K0 Kr k (.slice ga G.length gc) (.int .i64 (j : Int)) w1 := by
    intro i
    induction i with
    | zero =>
      intro j w1 k K0 Kr hj hs hk hK hKr
      obtain ⟨k, rfl⟩ : ∃ j, k = j + 1 := ⟨k - 1, by omega⟩
      show F67_1B _ _ _ _ _ _
      unfold F67_1B
      simp only [rdC_mk, rdI_mk, br_dec]
      refine ⟨fun h => by exfalso; omega, fun _ => hK w1 hs ?_⟩
      rw [List.drop_eq_nil_of_le (by omega)]; rfl
    | succ i ih =>
      intro j w1 k K0 Kr hj hs hk hK hKr
      obtain ⟨k, rfl⟩ : ∃ j, k = j + 1 := ⟨k - 1, by omega⟩
      show F67_1B _ _ _ _ _ _
      unfold F67_1B
      simp only [rdC_mk, rdI_mk]
      rw [br_dec]
      refine ⟨fun _ => ?_, fun h => by exfalso; omega⟩
      unfold drw
      have hs' : Same w w1.drew := hs.trans (Fr.refl w1).drew fun _ _ x => x
      generalize w1.drew = w4 at hs' ⊢
      obtain ⟨g, hg⟩ : ∃ g, G[j]? = some g := ⟨G[j]'(by omega), by simp⟩
      have m1 : Rd w4 ga (gapV G) := hr.fr hs' fun _ _ x => x
      obtain ⟨ad, had⟩ := m1.some (by rw [gapV_length]; omega)
      rw [had] at m1 ⊢
      have e0 : ordG (G.drop j) = (decide (g.1 ≠ 0 ∧ g.1 ≤ g.2) && ordG (G.drop (j + 1))) := by rw [drop_at hg]; rfl
      refine ixS_to (p := j) rfl (by omega) ?_
      simp only [add_add]
      refine ldI_c (m1.at (gapV_at hg).1) ?_
      rw [br_iff]
      refine ⟨fun hz => hKr w4 hs' ?_, fun hz => ?_⟩
      · have hz : g.1 = 0 := by simpa using hz
        rw [e0]; simp [hz]
      have hz : g.1 ≠ 0 := by simpa using hz
      refine ixS_to (p := j) rfl (by omega) ?_
      simp only [add_add]
      refine ldI_c (m1.at (gapV_at hg).2) ?_
      refine ixS_to (p := j) rfl (by omega) ?_
      simp only [add_add]
      refine ldI_c (m1.at (gapV_at hg).1) ?_
      rw [br_dec]
      refine ⟨fun hz2 => hKr w4 hs' ?_, fun hz2 => ?_⟩
      · rw [e0]
        have : ¬ (g.1 ≠ 0 ∧ g.1 ≤ g.2) := by omega
        rw [decide_eq_false this]; rfl
      · have e1 : IntKind.wrap .i64 ((j : Int) + 1) = ((j + 1 : Nat) : Int) := by rw [wrap_i64 (by omega) (by omega)]; omega
        have : g.1 ≠ 0 ∧ g.1 ≤ g.2 := by omega
        rw [decide_eq_true this, Bool.true_and] at e0
        rw [e1, ← had]
        rw [e0] at hK hKr
        exact ih (j + 1) w4 k K0 Kr (by omega) hs' (by omega) hK hKr
  refine ⟨G.length + 1, loop G.length 0 w _ _ _ (by omega) (Fr.refl w) (by omega) (fun w' s h _g => ⟨?_, s⟩) fun w' s h _g => ?_⟩
  · rw [List.drop_zero] at h; rw [h]
  · simp only [rdB_mk]
    rw [List.drop_zero] at h; rw [h]; exact ⟨rfl, s⟩
theorem c68 (h : ChOk w s r) : Calls Try.prog 68 #[s.v] w (rt fun v w' => ∃ a c, v = .slice a r.nr.length c ∧ Rd w' a (gapV r.nr) ∧ Same w w') := by
  refine F68_ok ?_
  unfold F68
  refine exR30_of s ⟨rfl, ?_⟩
  refine (Hs.start w).alc fun b2 w1 h1 => ?_
  have hs := h.same h1.old
  simp only [add_mk]
  refine h1.ldI 0 rfl rfl ?_
  show br (s.f0 != 16) _ _
  rw [br_iff, h.kind]
  refine ⟨fun hk => ?_, fun hk => ?_⟩
  · have hk : r.kind ≠ 16 := by simpa using hk
    have : r.nr = [] := by unfold Rp.nr; rw [if_neg hk]
    rw [this]
    exact ⟨none, 0, rfl, Rd.nil _ _, h1.old⟩
  · have hk : r.kind = 16 := by simpa using hk
    have e : r.nr = r.NR := by unfold Rp.nr; rw [if_pos hk]
    rw [e]
    refine h1.ldC 0 rfl rfl ?_
    show ∃ a c, Value.slice s.f11a s.f11n s.f11c = _ ∧ _
    rw [h.nl]
    exact ⟨_, _, rfl, hs.nr, h1.old⟩
theorem ChOk.nrok (h : ChOk w s r) : gOk r.nr ∧ r.nr.length ≤ 140737488355328 := by
  unfold Rp.nr
  split
  · exact h.nok
  · exact ⟨by simp [gOk], by simp⟩
theorem c78 (hr : Rd w ga (gapV G)) (hl : G.length ≤ 140737488355328) (hok : gOk G) (d : Int) : Calls Try.prog 78 #[.slice ga G.length gc, .int .i64 d] w (rt (KR (.bool (ins G d)) w)) := by
  refine F78_ok ?_
  unfold F78
  simp only [rdC_mk, rdI_mk]
  have loop : ∀ (i j : Nat) (k : Nat) (K0 : World → Prop) (Kr : Value → World → Prop), j + i = G.length → i < k → (ins (G.drop j) d = false → K0 w) → (ins (G.drop j) d = true → Kr (.bool true) w) →
      F78_1 K0 Kr k (.slice ga G.length gc) (.int .i64 d) (.int .i64 (j : Int)) w := by
    intro i
    induction i with
    | zero =>
      intro j k K0 Kr hj hk hK hKr
      obtain ⟨k, rfl⟩ : ∃ j, k = j + 1 := ⟨k - 1, by omega⟩
      show F78_1B _ _ _ _ _ _ _
      unfold F78_1B
      simp only [rdC_mk, rdI_mk, br_dec]
      refine ⟨fun h => by exfalso; omega, fun _ => hK ?_⟩
      rw [List.drop_eq_nil_of_le (by omega)]; rfl
    | succ i ih =>
      intro j k K0 Kr hj hk hK hKr
      obtain ⟨k, rfl⟩ : ∃ j, k = j + 1 := ⟨k - 1, by omega⟩
      show F78_1B _ _ _ _ _ _ _
      unfold F78_1B
      simp only [rdC_mk, rdI_mk]
      rw [br_dec]
      refine ⟨fun _ => ?_, fun h => by exfalso; omega⟩
      obtain ⟨g, hg⟩ : ∃ g, G[j]? = some g := ⟨G[j]'(by omega), by simp⟩
      have hgo := hok g (List.mem_of_getElem? hg)
      have m1 := hr
      obtain ⟨ad, had⟩ := m1.some (by rw [gapV_length]; omega)
      rw [had] at m1 ⊢
      have e0 : ins (G.drop j) d = (decide (g.1 ≤ d ∧ d ≤ g.2) || ins (G.drop (j + 1)) d) := by rw [drop_at hg]; rfl
      have e1 : IntKind.wrap .i64 ((j : Int) + 1) = ((j + 1 : Nat) : Int) := by rw [wrap_i64 (by omega) (by omega)]; omega
      have skip : ¬ (g.1 ≤ d ∧ d ≤ g.2) → F78_1 K0 Kr k (.slice (some ad) G.length gc) (.int .i64 d) (.int .i64 ((j + 1 : Nat) : Int)) w := by
        intro hno
        rw [decide_eq_false hno, Bool.false_or] at e0
        rw [e0] at hK hKr
        rw [← had]
        exact ih (j + 1) k K0 Kr (by omega) (by omega) hK hKr
      refine ixS_to (p := j) rfl (by omega) ?_
      simp only [add_add]
      refine ldI_c (m1.at (gapV_at hg).1) ?_
      rw [wrap_i64 (by omega) (by omega), br_dec, e1]
      refine ⟨fun h1 => ?_, fun h1 => skip (by omega)⟩
      refine ixS_to (p := j) rfl (by omega) ?_
      simp only [add_add]
      refine ldI_c (m1.at (gapV_at hg).2) ?_
      rw [wrap_i64 (by omega) (by omega), br_dec]
      refine ⟨fun h2 => hKr ?_, fun h2 => skip (by omega)⟩
      have : g.1 ≤ d ∧ d ≤ g.2 := by omega
      rw [e0, decide_eq_true this]; rfl
  refine ⟨G.length + 1, loop G.length 0 _ _ _ (by omega) (by omega) (fun h _g => ?_) fun h _g => ?_⟩
  · rw [List.drop_zero] at h; rw [h]; exact ⟨rfl, rfl⟩
  · simp only [rdB_mk]
    rw [List.drop_zero] at h; rw [h]; exact ⟨rfl, rfl⟩
theorem c70 (h : RQ w rb n cum a c ds) (hl : ds.length ≤ 1048576) (hc : 0 ≤ cum ∧ cum < 4294967296) (hs0 : s.f2 = r.tsn) (ht : 0 ≤ r.tsn ∧ r.tsn < 4294967296) (hr : Rd w ga (gapV G)) (hG : G.length ≤ 140737488355328) (hok : gOk G) :
    Calls Try.prog 70 #[.pointer (some ⟨rb, 0, none⟩), s.v, .slice ga G.length gc] w (rt fun v w' => v = .bool (pastG (nxt cum ds.length) r.tsn G || decide (sd (nxt cum ds.length) r.tsn ≥ 0)) ∧ Same w w') := by
  refine F70_ok ?_
  unfold F70
  simp only [rdP_mk, rdC_mk]
  refine exR30_of s ⟨rfl, ?_⟩
  refine (Hs.start w).alc fun b4 w1 h1 => ?_
  have hnx : 0 ≤ nxt cum ds.length ∧ nxt cum ds.length < 4294967296 := by unfold nxt; omega
  have loop : ∀ (i j : Nat) (w1 : World) (k : Nat) (K0 : Value → Value → World → Prop) (Kr : Value → World → Prop), j + i = G.length → Hs w [pt b4 (.cells s.c 31 (0, 0))] w1 → i < k → (∀ w', Hs w [pt b4 (.cells s.c 31 (0, 0))] w' → pastG (nxt cum ds.length) r.tsn (G.drop j) = false → K0 (.pointer (some ⟨rb, 0, none⟩)) (.pointer (some ⟨b4, 0, none⟩)) w') → (∀ w', Same w w' → pastG (nxt cum ds.length) r.tsn (G.drop j) = true → Kr (.bool true) w') →
      F70_1 K0 Kr k (.pointer (some ⟨rb, 0, none⟩)) (.slice ga G.length gc) (.pointer (some ⟨b4, 0, none⟩)) (.int .i64 (j : Int)) w1 := by
    intro i
    induction i with
    | zero =>
      intro j w1 k K0 Kr hj hs hk hK hKr
      obtain ⟨k, rfl⟩ : ∃ j, k = j + 1 := ⟨k - 1, by omega⟩
      show F70_1B _ _ _ _ _ _ _ _
      unfold F70_1B
      simp only [rdP_mk, rdC_mk, rdI_mk, rdA_mk, br_dec]
      refine ⟨fun h => by exfalso; omega, fun _ => hK w1 hs ?_⟩
      rw [List.drop_eq_nil_of_le (by omega)]; rfl
    | succ i ih =>
      intro j w1 k K0 Kr hj hs hk hK hKr
      obtain ⟨k, rfl⟩ : ∃ j, k = j + 1 := ⟨k - 1, by omega⟩
      show F70_1B _ _ _ _ _ _ _ _
      unfold F70_1B
      simp only [rdP_mk, rdC_mk, rdI_mk, rdA_mk]
      rw [br_dec]
      refine ⟨fun _ => ?_, fun h => by exfalso; omega⟩
      refine hs.drw fun w5 h5 => ?_
      obtain ⟨g, hg⟩ : ∃ g, G[j]? = some g := ⟨G[j]'(by omega), by simp⟩
      have hgo := hok g (List.mem_of_getElem? hg)
      have m1 := h5.rd_old hr
      obtain ⟨ad, had⟩ := m1.some (by rw [gapV_length]; omega)
      rw [had] at m1 ⊢
      have e0 : pastG (nxt cum ds.length) r.tsn (G.drop j) = (decide (sd (nxt cum ds.length) ((r.tsn + g.2) % 4294967296) ≥ 0) || pastG (nxt cum ds.length) r.tsn (G.drop (j + 1))) := by rw [drop_at hg]; rfl
      have e1 : IntKind.wrap .i64 ((j : Int) + 1) = ((j + 1 : Nat) : Int) := by rw [wrap_i64 (by omega) (by omega)]; omega
      refine ⟨w5, Pres.of_Same (Fr.refl _), ?_⟩
      simp only [add_mk]
      refine h5.ldI 0 rfl rfl ?_
      refine ixS_to (p := j) rfl (by omega) ?_
      simp only [add_add]
      refine ldI_c (m1.at (gapV_at hg).2) ?_
      refine cl (c48 (h.same h5.old) hl hc) ?_
      rintro _ w6 ⟨rfl, s6⟩
      refine ⟨_, rfl, Pres.of_Same s6, ?_⟩
      have h6 := h5.same s6
      show Calls Try.prog 21 #[.int .u32 s.f2, .int .u32 (IntKind.wrap .u32 g.2)] w6 _
      rw [hs0, wrap_u32 (n := g.2) (by omega) (by omega)]
      refine clr (s21 _ _ w6 ht.1 ht.2 (by omega) (by omega)) ⟨_, rfl, ?_⟩
      refine clr (s76 _ _ w6 hnx.1 hnx.2 (by omega) (by omega)) ⟨_, rfl, ?_⟩
      rw [br_dec]
      refine ⟨fun h7 => hKr w6 h6.old ?_, fun h7 => ?_⟩
      · rw [e0, decide_eq_true h7]; rfl
      · rw [decide_eq_false h7, Bool.false_or] at e0
        rw [e0] at hK hKr
        rw [e1, ← had]
        exact ih (j + 1) w6 k K0 Kr (by omega) h6 (by omega) hK hKr
  refine ⟨G.length + 1, loop G.length 0 w1 _ _ _ (by omega) h1 (by omega) (fun w' hw hp _g => ?_) fun w' hs hp _g => ?_⟩
  · simp only [rdP_mk, rdA_mk]
    refine hw.drw fun w5 h5 => ⟨w5, Pres.of_Same (Fr.refl _), ?_⟩
    simp only [add_mk]
    refine h5.ldI 0 rfl rfl ?_
    refine cl (c48 (h.same h5.old) hl hc) ?_
    rintro _ w6 ⟨rfl, s6⟩
    refine ⟨_, rfl, Pres.of_Same s6, ?_⟩
    show Calls Try.prog 76 #[_, .int .u32 s.f2] w6 _
    rw [hs0]
    refine clr (s76 _ _ w6 hnx.1 hnx.2 ht.1 ht.2) ⟨_, rfl, ?_, (h5.same s6).old⟩
    rw [List.drop_zero] at hp
    rw [hp, Bool.false_or]
  · simp only [rdB_mk]
    rw [List.drop_zero] at hp
    rw [hp, Bool.true_or]
    exact ⟨rfl, hs⟩
theorem c72 (h : ChOk w s r) (t : R57) (ht : 0 ≤ t.f0 ∧ t.f0 < 4294967296) :
    Calls Try.prog 72 #[s.v, t.v] w (rt fun v w' => v = .tuple #[.bool ((decide (sd r.tsn t.f0 ≤ 0) || ins r.nr (sd r.tsn t.f0)) || ins r.G (sd r.tsn t.f0)), .bool (decide (sd r.tsn t.f0 ≤ 0) || ins r.nr (sd r.tsn t.f0))] ∧ Same w w') := by
  refine F72_ok ?_
  unfold F72
  refine exR30_of s ⟨rfl, exR57_of t ⟨rfl, ?_⟩⟩
  refine (Hs.start w).alc fun b3 w1 h1 => h1.alc fun b5 w2 h2 => ?_
  simp only [add_mk]
  refine h2.ldI 1 rfl rfl (h2.ldI 0 rfl rfl ?_)
  show Calls Try.prog 76 #[.int .u32 s.f2, .int .u32 t.f0] w2 _
  rw [h.tsn]
  refine clr (s76 _ _ w2 h.t0.1 h.t0.2 ht.1 ht.2) ⟨_, rfl, ?_⟩
  have last : ∀ (B : Bool) (K : Value → Value → World → Prop) (w3 : World), Hs w [pt b5 (.cells t.c 58 (0, 0)), pt b3 (.cells s.c 31 (0, 0))] w3 → (∀ w', Same w w' → K (.bool (B || ins r.G (sd r.tsn t.f0))) (.bool B) w') →
      F72_1 K (.pointer (some ⟨b3, 0, none⟩)) (.int .i64 (sd r.tsn t.f0)) (.bool B) w3 := by
    intro B K w3 h3 hK
    unfold F72_1
    simp only [rdA_mk, rdI_mk, rdB_mk, add_mk]
    cases B with
    | true => rw [br_true]; rw [Bool.true_or] at hK; exact hK w3 h3.old
    | false =>
      rw [br_false]
      rw [Bool.false_or] at hK
      refine h3.ldC 1 rfl rfl ?_
      show Calls Try.prog 78 #[.slice s.f10a s.f10n s.f10c, _] w3 _
      rw [h.gl]
      exact clr (c78 (h3.rd_old h.gr) h.gok.2 h.gok.1 _) ⟨_, rfl, hK w3 h3.old⟩
  rw [br_dec]
  refine ⟨fun hd => ?_, fun hd => ?_⟩
  · refine last true _ w2 h2 fun w' s' => ?_
    simp only [rdB_mk]
    rw [decide_eq_true hd, Bool.true_or, Bool.true_or]
    exact fun _ => ⟨rfl, s'⟩
  · refine ldR30_of (s := s) (h2.atL 1 rfl) ?_
    refine cl (c68 (h.same h2.old)) ?_
    rintro _ w3 ⟨na, nc, rfl, hn, s3⟩
    refine ⟨_, _, _, rfl, ?_⟩
    refine clr (c78 hn h.nrok.2 h.nrok.1 _) ⟨_, rfl, ?_⟩
    refine last _ _ w3 (h2.same s3) fun w' s' => ?_
    simp only [rdB_mk]
    rw [decide_eq_false hd, Bool.false_or]
    exact fun _ => ⟨rfl, s'⟩
end
end Go.Proofs.Ytmliokbonkndaaa
