/-
  TimersSteps: one Due tells what Dues up to its time tell.
-/
import Derived.Test.YtdagfdejjfobhaaTmM
namespace Go.Proofs.Ytdagfdejjfobhaa
open Go Go.Sh Go.Tm
theorem dueN_le (t : Int) (l : List Du) : dueN t l ≤ l.length := tw_len_le _ _
theorem mem_due {t : Int} {l : List Du} {d : Du} (h : d ∈ l.take (dueN t l)) : d.2 ≤ t := by
  obtain ⟨k, hk⟩ := List.getElem?_of_mem h
  rw [List.getElem?_take] at hk
  split at hk
  · have := tw_lt (p := fun x => decide (x.2 ≤ t)) (l := l) (j := k) (by assumption) hk
    simpa using this
  · cases hk
theorem dueN_app {t : Int} : ∀ {g l : List Du}, (∀ d ∈ g, d.2 ≤ t) → dueN t (g ++ l) = g.length + dueN t l
  | [], l, _ => by simp
  | d :: g, l, h => by
    rw [List.cons_append, dueN_cons, if_pos (h d (by simp)), dueN_app fun x hx => h x (by simp [hx])]
    simp only [List.length_cons]
    omega
section
variable {W w : World} {L M P : List HP} {ta tb j : Nat} {last : Int} {l l' : List Du} {d : Du} {X : List Du} {T : List Int} {xa ya : Option Addr} {xc yc : Nat}
/-- two tables -/
def TT (W : World) (L : List HP) (ta tb : Nat) (la lb : Int) (l l' : List Du) (w : World) : Prop :=
  ∃ pa pc pm pn ph pf qa qc qm qn qh qf, TI pn ph pf l ∧ TI qn qh qf l' ∧ Hs W (tabL ta pa pc pm pn ph la pf ++ (tabL tb qa qc qm qn qh lb qf ++ L)) w
theorem TT.first {la lb : Int} (t : TT W L ta tb la lb l l' w) : ∃ qa qc qm qn qh qf, TI qn qh qf l' ∧ TB W [] (tabL tb qa qc qm qn qh lb qf ++ L) ta la l w := by
  obtain ⟨pa, pc, pm, pn, ph, pf, qa, qc, qm, qn, qh, qf, t1, t2, hs⟩ := t
  exact ⟨qa, qc, qm, qn, qh, qf, t2, pa, pc, pm, pn, ph, pf, t1, hs⟩
theorem TT.of {la lb : Int} {qa : Option Addr} {qc qm qn : Nat} {qh : Nat → Du} {qf : Int → Option Int} (t2 : TI qn qh qf l') (t : TB W [] (tabL tb qa qc qm qn qh lb qf ++ L) ta la l w) : TT W L ta tb la lb l l' w := by
  obtain ⟨pa, pc, pm, pn, ph, pf, t1, hs⟩ := t
  exact ⟨pa, pc, pm, pn, ph, pf, qa, qc, qm, qn, qh, qf, t1, t2, hs⟩
theorem TT.swap {la lb : Int} (t : TT W L ta tb la lb l l' w) : TT W L tb ta lb la l' l w := by
  obtain ⟨pa, pc, pm, pn, ph, pf, qa, qc, qm, qn, qh, qf, t1, t2, hs⟩ := t
  exact ⟨qa, qc, qm, qn, qh, qf, pa, pc, pm, pn, ph, pf, t2, t1, Hs.flip.1 hs⟩
theorem TT.old {la lb : Int} (t : TT W L ta tb la lb l l' w) : Same W w := by
  obtain ⟨_, _, _, _, _, _, _, _, _, _, _, _, _, _, hs⟩ := t
  exact hs.old
theorem TT.perm {la lb : Int} {L' : List HP} (t : TT W L ta tb la lb l l' w) (p : L.Perm L') : TT W L' ta tb la lb l l' w := by
  obtain ⟨pa, pc, pm, pn, ph, pf, qa, qc, qm, qn, qh, qf, t1, t2, hs⟩ := t
  exact ⟨pa, pc, pm, pn, ph, pf, qa, qc, qm, qn, qh, qf, t1, t2, hs.perm (List.Perm.append_left _ (List.Perm.append_left _ p))⟩
/-- Set, on one of two -/
theorem TT.set {la lb : Int} (t : TT W L ta tb la lb l l' w) (d : Du) : Calls Try.prog 9 #[.pointer (some ⟨ta, 0, none⟩), .int .i64 d.1, .int .i64 d.2] w (rt fun v w' =>
    v = .int .i64 (if isI d.1 then (if isT d.2 then 0 else 80) else 1) ∧ TT W L ta tb la lb (if isI d.1 ∧ isT d.2 then ins d (del d.1 l) else l) l' w') := by
  obtain ⟨qa, qc, qm, qn, qh, qf, t2, t1⟩ := t.first
  refine rt_mono (c9 t1 d) ?_
  rintro _ w1 (⟨hn, rfl, t3⟩ | ⟨hi, hn, rfl, t3⟩ | ⟨hi, ht, rfl, t3⟩)
  · rw [if_neg hn, if_neg fun h => hn h.1]
    exact ⟨rfl, TT.of t2 t3⟩
  · rw [if_pos hi, if_neg hn, if_neg fun h => hn h.2]
    exact ⟨rfl, TT.of t2 t3⟩
  · rw [if_pos hi, if_pos ht, if_pos ⟨hi, ht⟩]
    exact ⟨rfl, TT.of t2 t3⟩
theorem TT.due {la lb : Int} (t : TT W L ta tb la lb l l' w) (n : Int) : Calls Try.prog 10 #[.pointer (some ⟨ta, 0, none⟩), .int .i64 n] w (rt fun v w' =>
    (¬ (isT n ∧ la ≤ n) ∧ v = .tuple #[.slice none 0 0, .int .i64 80] ∧ TT W L ta tb la lb l l' w') ∨
    (isT n ∧ la ≤ n ∧ ∃ a c, v = .tuple #[.slice a (l.take (dueN n l)).length c, .int .i64 0] ∧ TT W (slP 30 2 a (l.take (dueN n l)).length c (duV (l.take (dueN n l))) :: L) ta tb n lb (l.drop (dueN n l)) l' w')) := by
  obtain ⟨qa, qc, qm, qn, qh, qf, t2, t1⟩ := t.first
  refine rt_mono (c10 t1 n) ?_
  rintro _ w1 (⟨hn, rfl, t3⟩ | ⟨ht, hle, a, c, rfl, t3⟩)
  · exact .inl ⟨hn, rfl, TT.of t2 t3⟩
  · exact .inr ⟨ht, hle, a, c, rfl, TT.of t2 (t3.perm List.perm_middle.symm)⟩
theorem TT.all {la lb : Int} (t : TT W L ta tb la lb l l' w) : Calls Try.prog 13 #[.pointer (some ⟨ta, 0, none⟩)] w (rt fun v w' => ∃ a c, v = .slice a l.length c ∧ TT W (slP 30 2 a l.length c (duV l) :: L) ta tb la lb l l' w') := by
  obtain ⟨qa, qc, qm, qn, qh, qf, t2, t1⟩ := t.first
  refine rt_mono (c13 t1) ?_
  rintro _ w1 ⟨a, c, rfl, pa, pc, pm, pn, ph, pf, t3, hs⟩
  refine ⟨a, c, rfl, pa, pc, pm, pn, ph, pf, qa, qc, qm, qn, qh, qf, t3, t2, ?_⟩
  have hs : Hs W (slP 30 2 a l.length c (duV l) :: (tabL ta pa pc pm pn ph la pf ++ (tabL tb qa qc qm qn qh lb qf ++ L))) w1 := hs
  show Hs W (tabL ta pa pc pm pn ph la pf ++ (tabL tb qa qc qm qn qh lb qf ++ (slP 30 2 a l.length c (duV l) :: L))) w1
  have h1 := hs.perm List.perm_middle.symm
  exact h1.perm (List.Perm.append_left _ List.perm_middle.symm)
theorem TT.few {la lb : Int} (t : TT W L ta tb la lb l l' w) : l.length ≤ 4096 := by
  obtain ⟨_, _, _, _, _, _, _, _, _, _, _, _, t1, _, _⟩ := t
  exact t1.li.few
/-- the same timers are set on both -/
theorem c3_2 {K0 : Value → Value → Value → Value → World → Prop} {Kr : Value → World → Prop} {ln : Nat} (hX : Rd W xa (duV X)) (hl : X.length ≤ 9223372036854775807) {y : Value} (hy : ∃ b l c, y = .slice b l c)
    (hK : ∀ w' l, TT W [] ta tb 0 0 l l w' → K0 y (.int .i64 last) (.pointer (some ⟨ta, 0, none⟩)) (.pointer (some ⟨tb, 0, none⟩)) w') :
    ∀ (i j : Nat) (w : World) (k : Nat) (l : List Du), j + i = X.length → TT W [] ta tb 0 0 l l w → i < k → F3_2 K0 Kr k (.slice xa X.length xc) y (.int .i64 last) (.pointer (some ⟨ta, 0, none⟩)) (.pointer (some ⟨tb, 0, none⟩)) (.int .i64 (j : Int)) w := by
  obtain ⟨yb, yl, yc, rfl⟩ := hy
  intro i
  induction i with
  | zero =>
    intro j w k l hj t hk
    obtain ⟨k, rfl⟩ : ∃ j, k = j + 1 := ⟨k - 1, by omega⟩
    show F3_2B _ _ _ _ _ _ _ _ _ _
    unfold F3_2B
    simp only [rdP_mk, rdI_mk, rdC_mk]
    rw [br_dec]
    exact ⟨fun h => by exfalso; omega, fun _ => hK w l t⟩
  | succ i ih =>
    intro j w k l hj t hk
    obtain ⟨k, rfl⟩ : ∃ j, k = j + 1 := ⟨k - 1, by omega⟩
    show F3_2B _ _ _ _ _ _ _ _ _ _
    unfold F3_2B
    simp only [rdP_mk, rdI_mk, rdC_mk]
    rw [br_dec]
    refine ⟨fun _ => ?_, fun h => by exfalso; omega⟩
    obtain ⟨d, hd⟩ : ∃ d, X[j]? = some d := ⟨X[j]'(by omega), by simp⟩
    obtain ⟨pa, pc, pm, pn, ph, pf, qa, qc, qm, qn, qh, qf, t1, t2, hs⟩ := t
    refine hs.drw fun w1 h1 => ?_
    have t : TT W [] ta tb 0 0 l l w1 := ⟨pa, pc, pm, pn, ph, pf, qa, qc, qm, qn, qh, qf, t1, t2, h1⟩
    have sW := h1.old
    obtain ⟨ad, had, p1, p2⟩ := du_rd (hX.fr sW fun _ _ x => x) hd
    obtain ⟨ad', had', r1, r2⟩ := du_rd hX hd
    have ead : ad' = ad := Option.some.inj (had'.symm.trans had)
    subst ead
    rw [had]
    refine ⟨W, Pres.of_Same sW, ?_⟩
    refine ixS_to (p := j) rfl (by omega) ?_
    simp only [add_add]
    refine ldI_c p1 ?_
    refine ixS_to (p := j) rfl (by omega) ?_
    simp only [add_add]
    refine ldI_c p2 ?_
    refine ixS_to (p := j) rfl (by omega) ?_
    simp only [add_add]
    refine ldI_c r1 ?_
    refine ixS_to (p := j) rfl (by omega) ?_
    simp only [add_add]
    refine ldI_c r2 ?_
    refine cl (t.set d) ?_
    rintro _ w2 ⟨rfl, t2⟩
    refine ⟨_, rfl, Pres.of_Same t2.old, ?_⟩
    refine cl (t2.swap.set d) ?_
    rintro _ w3 ⟨rfl, t3⟩
    refine ⟨_, rfl, ?_⟩
    rw [bne_self_eq_false, br_false]
    have e1 : IntKind.wrap .i64 ((j : Int) + 1) = ((j + 1 : Nat) : Int) := by rw [wrap_i64 (by omega) (by omega)]; omega
    rw [e1, ← had]
    exact ih (j + 1) w3 k _ (by omega) t3.swap (by omega)
def iV (T : List Int) : List Value := T.map (Value.int .i64)
/-- Dues up to the last time -/
theorem c3_1 {K2 : Value → Value → Value → Value → World → Prop} (hT : Rd W ya (iV T)) (hl : T.length ≤ 9223372036854775807) {l0 : List Du}
    (hK : ∀ w' g l now oa oc, g ++ l = l0 → (∀ d ∈ g, d.2 ≤ last) → (now ≤ last ∨ now = 0) → TT W [slP 30 2 oa g.length oc (duV g)] ta tb now 0 l l0 w' → K2 (.int .i64 last) (.pointer (some ⟨ta, 0, none⟩)) (.pointer (some ⟨tb, 0, none⟩)) (.slice oa g.length oc) w') :
    ∀ (i j : Nat) (w : World) (k : Nat) (g l : List Du) (now : Int) (oa : Option Addr) (oc : Nat), j + i = T.length → g ++ l = l0 → (∀ d ∈ g, d.2 ≤ last) → (now ≤ last ∨ now = 0) → TT W [slP 30 2 oa g.length oc (duV g)] ta tb now 0 l l0 w → i < k →
      F3_1 K2 k (.slice ya T.length yc) (.int .i64 last) (.pointer (some ⟨ta, 0, none⟩)) (.pointer (some ⟨tb, 0, none⟩)) (.slice oa g.length oc) (.int .i64 (j : Int)) w := by
  intro i
  induction i with
  | zero =>
    intro j w k g l now oa oc hj hg hle hn t hk
    obtain ⟨k, rfl⟩ : ∃ j, k = j + 1 := ⟨k - 1, by omega⟩
    show F3_1B _ _ _ _ _ _ _ _ _
    unfold F3_1B
    simp only [rdP_mk, rdI_mk, rdC_mk]
    rw [br_dec]
    exact ⟨fun h => by exfalso; omega, fun _ => hK w g l now oa oc hg hle hn t⟩
  | succ i ih =>
    intro j w k g l now oa oc hj hg hle hn t hk
    obtain ⟨k, rfl⟩ : ∃ j, k = j + 1 := ⟨k - 1, by omega⟩
    show F3_1B _ _ _ _ _ _ _ _ _
    unfold F3_1B
    simp only [rdP_mk, rdI_mk, rdC_mk]
    rw [br_dec]
    refine ⟨fun _ => ?_, fun h => by exfalso; omega⟩
    obtain ⟨n, hd⟩ : ∃ n, T[j]? = some n := ⟨T[j]'(by omega), by simp⟩
    have m1 : Rd w ya (iV T) := hT.fr t.old fun _ _ x => x
    have hiv : (iV T)[j]? = some (.int .i64 n) := by simp [iV, hd]
    obtain ⟨ad, had⟩ := m1.some (by simp [iV]; omega)
    have e1 : IntKind.wrap .i64 ((j : Int) + 1) = ((j + 1 : Nat) : Int) := by rw [wrap_i64 (by omega) (by omega)]; omega
    have m2 := m1
    rw [had] at m2 ⊢
    refine ixS_to (p := j) rfl (by omega) ?_
    rw [Nat.mul_one]
    refine ldI_c (m2.at hiv) ?_
    rw [br_dec]
    refine ⟨fun hnl => ?_, fun _ => ?_⟩
    · refine ixS_to (p := j) rfl (by omega) ?_
      rw [Nat.mul_one]
      refine ldI_c (m2.at hiv) ?_
      refine cl (t.due n) ?_
      have hlen : g.length + l.length ≤ 4096 := by
        have := t.swap.few
        rw [← hg] at this
        simpa using this
      rintro _ w1 (⟨hno, rfl, t1⟩ | ⟨ht, hnow, a, c, rfl, t1⟩)
      · refine ⟨_, _, _, _, rfl, ?_⟩
        obtain ⟨pa, pc, pm, pn, ph, pf, qa, qc, qm, qn, qh, qf, u1, u2, hs⟩ := t1
        have hs' : Hs W (tabL ta pa pc pm pn ph now pf ++ (tabL tb qa qc qm qn qh 0 qf ++ [slP 30 2 oa g.length oc (duV g)])) w1 := hs
        refine hs'.appendA (ty := 22) E22 6 rfl (b := none) (m := 0) (d := 0) (news := []) rfl (Rd.nil _ _) (fun _ => rfl) (fun u hu => by cases hu) (by omega) (by omega) fun a' c' w2 h2 _ => ?_
        have h2 : Hs W (tabL ta pa pc pm pn ph now pf ++ (tabL tb qa qc qm qn qh 0 qf ++ [slP 30 2 a' (g.length + 0) c' (duV g ++ [])])) w2 := h2
        rw [List.append_nil, Nat.add_zero] at h2
        rw [e1, Nat.add_zero, ← had]
        exact ih (j + 1) w2 k g l now a' c' (by omega) hg hle hn ⟨pa, pc, pm, pn, ph, pf, qa, qc, qm, qn, qh, qf, u1, u2, h2⟩ (by omega)
      · refine ⟨_, _, _, _, rfl, ?_⟩
        obtain ⟨q, hq⟩ : ∃ q, q = l.take (dueN n l) := ⟨_, rfl⟩
        have hql : q.length ≤ l.length := by rw [hq, List.length_take]; omega
        have hqm : ∀ d ∈ q, d.2 ≤ n := fun d hd => by rw [hq] at hd; exact mem_due hd
        have hqs : q ++ l.drop (dueN n l) = l := by rw [hq]; exact List.take_append_drop _ _
        rw [← hq] at t1 ⊢
        obtain ⟨pa, pc, pm, pn, ph, pf, qa, qc, qm, qn, qh, qf, u1, u2, hs⟩ := t1
        have hs' : Hs W (tabL ta pa pc pm pn ph n pf ++ (tabL tb qa qc qm qn qh 0 qf ++ [slP 30 2 a q.length c (duV q), slP 30 2 oa g.length oc (duV g)])) w1 := hs
        refine hs'.appendA (ty := 22) E22 7 rfl (m := q.length) (d := c) (news := duV q) (duV_length q) (hs'.rd 6 rfl) (fun h => own_nilc (hs'.own 6 rfl) h) (duV_one q) (by omega) (by omega) fun a' c' w2 h2 _ => ?_
        have h2 : Hs W (tabL ta pa pc pm pn ph n pf ++ (tabL tb qa qc qm qn qh 0 qf ++ [slP 30 2 a q.length c (duV q), slP 30 2 a' (g.length + q.length) c' (duV g ++ duV q)])) w2 := h2
        have e3 : duV g ++ duV q = duV (g ++ q) := by unfold duV; simp
        have e4 : g.length + q.length = (g ++ q).length := by simp
        rw [e3, e4] at h2
        rw [e1, e4, ← had]
        have h3 := h2.erase 6
        have h3 : Hs W (tabL ta pa pc pm pn ph n pf ++ (tabL tb qa qc qm qn qh 0 qf ++ [slP 30 2 a' (g ++ q).length c' (duV (g ++ q))])) w2 := h3
        exact ih (j + 1) w2 k (g ++ q) (l.drop (dueN n l)) n a' c' (by omega) (by rw [List.append_assoc, hqs]; exact hg) (fun d hd => by
          rcases List.mem_append.1 hd with hd | hd
          · exact hle d hd
          · have := hqm d hd; omega) (.inl hnl) ⟨pa, pc, pm, pn, ph, pf, qa, qc, qm, qn, qh, qf, u1, u2, h3⟩ (by omega)
    · rw [e1, ← had]
      exact ih (j + 1) w k g l now oa oc (by omega) hg hle hn t (by omega)
theorem c3 (hX : Rd W xa (duV X)) (hxl : X.length ≤ 9223372036854775807) (hT : Rd W ya (iV T)) (htl : T.length ≤ 9223372036854775807) (last : Int) :
    Calls Try.prog 3 #[.slice xa X.length xc, .slice ya T.length yc, .int .i64 last] W (rt fun v w' => v = .bool true ∧ Same W w') := by
  refine F3_ok ?_
  unfold F3
  simp only [rdC_mk, rdI_mk]
  refine cl (c7 (Hs.start W)) ?_
  rintro _ w1 ⟨ta, rfl, pa, pc, pm, pn, ph, pf, u1, h1⟩
  have h1 : Hs W (tabL ta pa pc pm pn ph 0 pf ++ []) w1 := h1
  refine ⟨_, rfl, cl (c7 h1) ?_⟩
  rintro _ w2 ⟨tb, rfl, qa, qc, qm, qn, qh, qf, u2, h2⟩
  have h2 : Hs W (tabL tb qa qc qm qn qh 0 qf ++ (tabL ta pa pc pm pn ph 0 pf ++ [])) w2 := h2
  refine ⟨_, rfl, ?_⟩
  simp only [Option.isNone_some]
  rw [br_false, br_false]
  refine cl (c8 w2) ?_
  rintro _ w3 ⟨rfl, s3⟩
  refine ⟨_, rfl, ?_⟩
  rw [Bool.not_true, br_false]
  have t3 : TT W [] ta tb 0 0 [] [] w3 := ⟨pa, pc, pm, pn, ph, pf, qa, qc, qm, qn, qh, qf, u1, u2, Hs.flip.1 (h2.same s3)⟩
  unfold F3_3
  simp only [rdC_mk, rdI_mk, rdP_mk]
  refine ⟨X.length + 1, c3_2 (ln := 0) hX hxl ⟨_, _, _, rfl⟩ (fun w4 l0 t4 => ?_) X.length 0 w3 _ [] (Nat.zero_add _) t3 (by omega)⟩
  intro _g
  simp only [rdC_mk, rdI_mk, rdP_mk]
  have t5 : TT W [slP 30 2 none ([] : List Du).length 0 (duV [])] ta tb 0 0 l0 l0 w4 := by
    obtain ⟨pa, pc, pm, pn, ph, pf, qa, qc, qm, qn, qh, qf, u1, u2, hs⟩ := t4
    have hs : Hs W (tabL ta pa pc pm pn ph 0 pf ++ (tabL tb qa qc qm qn qh 0 qf ++ [])) w4 := hs
    refine ⟨pa, pc, pm, pn, ph, pf, qa, qc, qm, qn, qh, qf, u1, u2, ?_⟩
    have h6 := hs.nil 30 2
    refine h6.perm ?_
    show (slP 30 2 none 0 0 [] :: (tabL ta pa pc pm pn ph 0 pf ++ (tabL tb qa qc qm qn qh 0 qf ++ []))).Perm (tabL ta pa pc pm pn ph 0 pf ++ (tabL tb qa qc qm qn qh 0 qf ++ [slP 30 2 none 0 0 []]))
    exact List.perm_middle.symm.trans (List.Perm.append_left _ List.perm_middle.symm)
  refine ⟨T.length + 1, c3_1 hT htl (l0 := l0) (last := last) (fun w5 g l now oa oc hg hle hn t6 => ?_) T.length 0 w4 _ [] l0 0 none 0 (Nat.zero_add _) rfl (by simp) (.inr rfl) t5 (by omega)⟩
  intro _g
  simp only [rdC_mk, rdI_mk, rdP_mk]
  have hlen : g.length + l.length ≤ 4096 := by
    have := t6.swap.few
    rw [← hg] at this
    simpa using this
  have hlen0 : l0.length ≤ 4096 := t6.swap.few
  refine cl (t6.due last) ?_
  rintro _ w6 (⟨hno, rfl, t7⟩ | ⟨ht, hnow, a, c, rfl, t7⟩)
  · -- no time
    have hnt : ¬ isT last := fun h => hno ⟨h, by rcases hn with h' | h'; exact h'; rw [h']; exact h.1⟩
    refine ⟨_, _, _, _, rfl, ?_⟩
    obtain ⟨pa, pc, pm, pn, ph, pf, qa, qc, qm, qn, qh, qf, u1, u2, hs⟩ := t7
    have hs' : Hs W (tabL ta pa pc pm pn ph now pf ++ (tabL tb qa qc qm qn qh 0 qf ++ [slP 30 2 oa g.length oc (duV g)])) w6 := hs
    refine hs'.appendA (ty := 22) E22 6 rfl (b := none) (m := 0) (d := 0) (news := []) rfl (Rd.nil _ _) (fun _ => rfl) (fun u hu => by cases hu) (by omega) (by omega) fun a' c' w7 h7 _ => ?_
    have t8 : TT W [slP 30 2 a' (g.length + 0) c' (duV g ++ [])] ta tb now 0 l l0 w7 := ⟨pa, pc, pm, pn, ph, pf, qa, qc, qm, qn, qh, qf, u1, u2, h7⟩
    refine cl (t8.swap.due last) ?_
    rintro _ w8 (⟨_, rfl, t9⟩ | ⟨ht, _⟩)
    · refine ⟨_, _, _, _, rfl, ?_⟩
      refine clr (c11 last w8) ⟨_, rfl, ?_⟩
      rw [show decide (isT last) = false by simpa using hnt, Bool.not_false, br_true, show ((80 : Int) == 80) = true from rfl, br_true, br_true]
      exact fun _ => ⟨_, rfl, by first | rfl | trivial | decide, t9.old⟩
    · exact absurd ht hnt
  · refine ⟨_, _, _, _, rfl, ?_⟩
    obtain ⟨q, hq⟩ : ∃ q, q = l.take (dueN last l) := ⟨_, rfl⟩
    have hql : q.length ≤ l.length := by rw [hq, List.length_take]; omega
    rw [← hq] at t7 ⊢
    obtain ⟨pa, pc, pm, pn, ph, pf, qa, qc, qm, qn, qh, qf, u1, u2, hs⟩ := t7
    have hs' : Hs W (tabL ta pa pc pm pn ph last pf ++ (tabL tb qa qc qm qn qh 0 qf ++ [slP 30 2 a q.length c (duV q), slP 30 2 oa g.length oc (duV g)])) w6 := hs
    refine hs'.appendA (ty := 22) E22 7 rfl (m := q.length) (d := c) (news := duV q) (duV_length q) (hs'.rd 6 rfl) (fun h => own_nilc (hs'.own 6 rfl) h) (duV_one q) (by omega) (by omega) fun a' c' w7 h7 _ => ?_
    have e3 : duV g ++ duV q = duV (g ++ q) := by unfold duV; simp
    have e4 : g.length + q.length = (g ++ q).length := by simp
    have h8 := h7.erase 6
    have h8 : Hs W (tabL ta pa pc pm pn ph last pf ++ (tabL tb qa qc qm qn qh 0 qf ++ [slP 30 2 a' (g.length + q.length) c' (duV g ++ duV q)])) w7 := h8
    rw [e3, e4] at h8
    rw [e4]
    have t8 : TT W [slP 30 2 a' (g ++ q).length c' (duV (g ++ q))] ta tb last 0 (l.drop (dueN last l)) l0 w7 := ⟨pa, pc, pm, pn, ph, pf, qa, qc, qm, qn, qh, qf, u1, u2, h8⟩
    refine cl (t8.swap.due last) ?_
    rintro _ w8 (⟨hno, _⟩ | ⟨_, _, a2, c2, rfl, t9⟩)
    · exact absurd ⟨ht, ht.1⟩ hno
    refine ⟨_, _, _, _, rfl, ?_⟩
    refine clr (c11 last w8) ⟨_, rfl, ?_⟩
    rw [show decide (isT last) = true by simpa using ht, Bool.not_true, br_false, show ((0 : Int) == 0) = true from rfl, br_true, br_true]
    have en : dueN last l0 = g.length + dueN last l := by rw [← hg]; exact dueN_app hle
    have eq1 : l0.take (dueN last l0) = g ++ q := by
      rw [en, ← hg, List.take_append, List.take_of_length_le (by omega), Nat.add_sub_cancel_left, hq]
    have eq2 : l0.drop (dueN last l0) = l.drop (dueN last l) := by
      rw [en, ← hg, List.drop_append, List.drop_of_length_le (by omega), Nat.add_sub_cancel_left, List.nil_append]
    rw [eq1, eq2] at t9
    rw [eq1]
    have hgq : (g ++ q).length ≤ 4096 := by simp; omega
    obtain ⟨qa, qc, qm, qn, qh, qf, pa, pc, pm, pn, ph, pf, v1, v2, hs9⟩ := t9
    have hs9' : Hs W (tabL tb qa qc qm qn qh last qf ++ (tabL ta pa pc pm pn ph last pf ++ [slP 30 2 a2 (g ++ q).length c2 (duV (g ++ q)), slP 30 2 a' (g ++ q).length c' (duV (g ++ q))])) w8 := hs9
    refine cl (c12 (l1 := g ++ q) (l2 := g ++ q) (hs9'.rd 7 rfl) (hs9'.rd 6 rfl) (by omega)) ?_
    rintro _ w9 ⟨rfl, s9⟩
    refine ⟨_, rfl, ?_⟩
    rw [show decide (g ++ q = g ++ q) = true by simp, br_true]
    have t10 : TT W [slP 30 2 a2 (g ++ q).length c2 (duV (g ++ q)), slP 30 2 a' (g ++ q).length c' (duV (g ++ q))] ta tb last last (l.drop (dueN last l)) (l.drop (dueN last l)) w9 := ⟨pa, pc, pm, pn, ph, pf, qa, qc, qm, qn, qh, qf, v2, v1, Hs.flip.1 (hs9'.same s9)⟩
    obtain ⟨z, hz⟩ : ∃ z, z = l.drop (dueN last l) := ⟨_, rfl⟩
    rw [← hz] at t10
    have hzl : z.length ≤ 4096 := t10.few
    refine cl t10.all ?_
    rintro _ w10 ⟨a3, c3, rfl, t11⟩
    refine ⟨_, _, _, rfl, ?_⟩
    refine cl t11.swap.all ?_
    rintro _ w11 ⟨a4, c4, rfl, t12⟩
    refine ⟨_, _, _, rfl, ?_⟩
    obtain ⟨qa, qc, qm, qn, qh, qf, pa, pc, pm, pn, ph, pf, v1, v2, hs12⟩ := t12
    have hs12' : Hs W (tabL tb qa qc qm qn qh last qf ++ (tabL ta pa pc pm pn ph last pf ++ [slP 30 2 a4 z.length c4 (duV z), slP 30 2 a3 z.length c3 (duV z), slP 30 2 a2 (g ++ q).length c2 (duV (g ++ q)), slP 30 2 a' (g ++ q).length c' (duV (g ++ q))])) w11 := hs12
    refine cl (c12 (l1 := z) (l2 := z) (hs12'.rd 7 rfl) (hs12'.rd 6 rfl) (by omega)) ?_
    rintro _ w12 ⟨rfl, s12⟩
    refine ⟨_, rfl, ?_⟩
    rw [show decide (z = z) = true by simp]
    exact fun _ => ⟨_, rfl, by first | rfl | trivial, hs12'.old.trans s12 fun _ _ x => x⟩
end
end Go.Proofs.Ytdagfdejjfobhaa
