/-
  One step on both tables; TimersRuns.
-/
import Derived.Test.YtdagfdejjfobhaaTmL
namespace Go.Proofs.Ytdagfdejjfobhaa
open Go Go.Sh Go.Tm
section
variable {W w : World} {L M P : List HP} {tb rb j : Nat} {last : Int} {l l' : List Du} {d : Du} {o : R38} {os : List R38} {sa : Option Addr} {sc : Nat}
theorem BO.few (t : BO W P L tb rb last l w) : l.length ≤ 4096 := by
  obtain ⟨_, _, _, _, _, _, _, _, t, _⟩ := t
  exact t.li.few
/-- how a step ends -/
def StP (W : World) (L : List HP) (tb rb : Nat) (o : R38) (x : Int × List Du) (v : Value) (w' : World) : Prop := v = .bool true ∧ BO W [] L tb rb (actT o x).1 (actT o x).2 w'
theorem c17_end {b4 : Nat} (t : BO W [] (oP b4 o :: L) tb rb (actT o (last, l)).1 (actT o (last, l)).2 w) :
    F17_1 (fun y6 w20 => ∀ _g : Tm, rdB y6 fun b22 => StP W L tb rb o (last, l) (.bool b22) w20) (.pointer (some ⟨tb, 0, none⟩)) (.pointer (some ⟨rb, 0, none⟩)) (.pointer (some ⟨b4, 0, none⟩)) w := by
  refine c17_1 t.few t fun w' t' => ?_
  intro _g
  simp only [rdB_mk]
  obtain ⟨la, lc, m, n, h, f, a, c, ti, hs⟩ := t'
  refine ⟨rfl, la, lc, m, n, h, f, a, c, ti, ?_⟩
  have hs : Hs W (tabL tb la lc m n h (actT o (last, l)).1 f ++ (refL rb a c (actT o (last, l)).2 (actT o (last, l)).1 ++ (oP b4 o :: L))) w' := hs
  rw [← List.append_assoc] at hs
  have h2 := (hs.perm List.perm_middle).drop
  rw [List.append_assoc] at h2
  exact h2
theorem c17 (t : BO W [] L tb rb last l w) : Calls Try.prog 17 #[.pointer (some ⟨tb, 0, none⟩), .pointer (some ⟨rb, 0, none⟩), o.v] w (rt (StP W L tb rb o (last, l))) := by
  refine F17_ok ?_
  unfold F17
  simp only [rdP_mk]
  refine exR38_of o ⟨rfl, ?_⟩
  obtain ⟨la, lc, m, n, h, f, a, c, ti, hs⟩ := t
  have hs : Hs W (tabL tb la lc m n h last f ++ (refL rb a c l last ++ L)) w := hs
  refine hs.alc fun b4 w1 h1 => ?_
  simp only [add_mk]
  refine h1.ldI 0 rfl rfl ?_
  have h1 : Hs W (oP b4 o :: (tabL tb la lc m n h last f ++ (refL rb a c l last ++ L))) w1 := h1
  have perm : ∀ w', Hs W (oP b4 o :: (tabL tb la lc m n h last f ++ (refL rb a c l last ++ L))) w' → BO W [] (oP b4 o :: L) tb rb last l w' := fun w' hw => ⟨la, lc, m, n, h, f, a, c, ti, by
    rw [← List.append_assoc] at hw
    have h2 := hw.perm (List.perm_middle (l₁ := tabL tb la lc m n h last f ++ refL rb a c l last)).symm
    rw [List.append_assoc] at h2
    exact h2⟩
  have hfew := ti.li.few
  rw [br_iff]
  refine ⟨fun hk => ?_, fun hk1 => ?_⟩
  · have hk : o.f0 = 1 := by simpa using hk
    refine h1.drw fun w2 h2 => ⟨Sh.lone w2 b4 (.cells o.c 39 (0, 0)), Pres.lone (h2.at 0 rfl), ?_⟩
    refine h2.ldI 0 rfl rfl (h2.ldI 0 rfl rfl ?_)
    refine ldI_at (lone_at _ _ _) rfl (ldI_at (lone_at _ _ _) rfl ?_)
    obtain ⟨a1, c1, t2⟩ := (perm w2 h2).prg
    have fin : ∀ (w4 : World) (l' : List Du) (e : Int), l' = (actT o (last, l)).2 → last = (actT o (last, l)).1 → (∃ la lc m n h f, TI n h f l' ∧ RF W [] (tabL tb la lc m n h last f ++ (oP b4 o :: L)) rb last l' w4) →
        ∃ n18, Ending.returned (.int .i64 e) = .returned (.int .i64 n18) ∧ (br (e != n18) (StP W L tb rb o (last, l) (.bool false) w4) (F17_1 (fun y6 w20 => ∀ _g : Tm, rdB y6 fun b22 => StP W L tb rb o (last, l) (.bool b22) w20) (.pointer (some ⟨tb, 0, none⟩)) (.pointer (some ⟨rb, 0, none⟩)) (.pointer (some ⟨b4, 0, none⟩)) w4)) := by
      rintro w4 l' e e1 e2 ⟨la, lc, m, n, h, f, ti', r4⟩
      refine ⟨e, rfl, ?_⟩
      rw [show (e != e) = false by simp, br_false]
      refine c17_end ?_
      rw [← e1, ← e2]
      exact r4.bo ti'
    refine cl (c9 t2 (o.f1, o.f2)) ?_
    have tail : ∀ (w3 : World) (l' : List Du) (e : Int), l' = (actT o (last, l)).2 → last = (actT o (last, l)).1 → (e = if isI o.f1 then (if isT o.f2 then 0 else 80) else 1) → (isI o.f1 ∧ isT o.f2 → l' = ins (o.f1, o.f2) (del o.f1 l)) → (¬ (isI o.f1 ∧ isT o.f2) → l' = l) → TB W [] (refL rb a1 c1 l last ++ (oP b4 o :: L)) tb last l' w3 →
        Pres (Sh.lone w2 b4 (.cells o.c 39 (0, 0))) w3 ∧ (Calls Try.prog 31 #[.pointer (some ⟨rb, 0, none⟩), .int .i64 o.f1, .int .i64 o.f2] w3 fun e17 w16 => ∃ n18, e17 = .returned (.int .i64 n18) ∧ (br (e != n18) (StP W L tb rb o (last, l) (.bool false) w16) (F17_1 (fun y6 w20 => ∀ _g : Tm, rdB y6 fun b22 => StP W L tb rb o (last, l) (.bool b22) w20) (.pointer (some ⟨tb, 0, none⟩)) (.pointer (some ⟨rb, 0, none⟩)) (.pointer (some ⟨b4, 0, none⟩)) w16))) := by
      intro w3 l' e e1 e2 he hin hout t3
      obtain ⟨la, lc, m, n, h, f, ti', r3⟩ := t3.rf
      refine ⟨?_, cl (c31 r3 (by omega) (o.f1, o.f2)) ?_⟩
      · obtain ⟨a5, c5, h5⟩ := r3
        have h5 : Hs W (refL rb a5 c5 l last ++ (tabL tb la lc m n h last f ++ (oP b4 o :: L))) w3 := h5
        exact Pres.lone (h5.at 5 rfl)
      · rintro _ w4 (⟨hn, rfl, r4⟩ | ⟨hi, hn, rfl, r4⟩ | ⟨hi, ht, rfl, r4⟩)
        · rw [if_neg hn] at he
          subst he
          rw [← hout fun h => hn h.1] at r4
          exact fin w4 l' 1 e1 e2 ⟨la, lc, m, n, h, f, ti', r4⟩
        · rw [if_pos hi, if_neg hn] at he
          subst he
          rw [← hout fun h => hn h.2] at r4
          exact fin w4 l' 80 e1 e2 ⟨la, lc, m, n, h, f, ti', r4⟩
        · rw [if_pos hi, if_pos ht] at he
          subst he
          have hl' := hin ⟨hi, ht⟩
          rw [← hl'] at r4
          exact fin w4 l' 0 e1 e2 ⟨la, lc, m, n, h, f, ti', r4⟩
    rintro _ w3 (⟨hn, rfl, t3⟩ | ⟨hi, hn, rfl, t3⟩ | ⟨hi, ht, rfl, t3⟩)
    · have hn : ¬ isI o.f1 := hn
      have ea : actT o (last, l) = (last, l) := by unfold actT; rw [if_pos hk, if_neg fun h => hn h.1]
      exact ⟨_, rfl, tail w3 l 1 (by rw [ea]) (by rw [ea]) (by rw [if_neg hn]) (fun h => absurd h.1 hn) (fun _ => rfl) t3⟩
    · have hi : isI o.f1 := hi
      have hn : ¬ isT o.f2 := hn
      have ea : actT o (last, l) = (last, l) := by unfold actT; rw [if_pos hk, if_neg fun h => hn h.2]
      exact ⟨_, rfl, tail w3 l 80 (by rw [ea]) (by rw [ea]) (by rw [if_pos hi, if_neg hn]) (fun h => absurd h.2 hn) (fun _ => rfl) t3⟩
    · have hi : isI o.f1 := hi
      have ht : isT o.f2 := ht
      have ea : actT o (last, l) = (last, ins (o.f1, o.f2) (del o.f1 l)) := by unfold actT; rw [if_pos hk, if_pos ⟨hi, ht⟩]
      exact ⟨_, rfl, tail w3 _ 0 (by rw [ea]) (by rw [ea]) (by rw [if_pos hi, if_pos ht]) (fun _ => rfl) (fun h => absurd ⟨hi, ht⟩ h) t3⟩
  have hk1 : ¬ o.f0 = 1 := by
    have : (o.f0 == 1) = false := hk1
    simpa using this
  rw [br_iff]
  refine ⟨fun hk => ?_, fun hk2 => ?_⟩
  · have hk : (o.f0 == 2) = true := hk
    have hk : o.f0 = 2 := by simpa using hk
    refine h1.ldI 0 rfl rfl ?_
    obtain ⟨a1, c1, t2⟩ := (perm w1 h1).prg
    refine cl (c15 t2 o.f1) ?_
    have tail : ∀ (w3 : World) (l' : List Du) (B : Bool) (e : Int), l' = (actT o (last, l)).2 → last = (actT o (last, l)).1 → ((¬ isI o.f1 ∧ B = false ∧ e = 1 ∧ l' = l) ∨ (isI o.f1 ∧ B = (mval l o.f1).isSome ∧ e = 0 ∧ l' = del o.f1 l)) → TB W [] (refL rb a1 c1 l last ++ (oP b4 o :: L)) tb last l' w3 →
        ldI .i64 ⟨b4, 0 + 1, none⟩ w3 fun n28 => Calls Try.prog 32 #[.pointer (some ⟨rb, 0, none⟩), .int .i64 n28] w3 fun e30 w29 => ∃ b31, ∃ n32, e30 = .returned (.tuple #[.bool b31, .int .i64 n32]) ∧ (br (!(B == b31)) (StP W L tb rb o (last, l) (.bool false) w29) (br (e != n32) (StP W L tb rb o (last, l) (.bool false) w29) (F17_1 (fun y6 w20 => ∀ _g : Tm, rdB y6 fun b22 => StP W L tb rb o (last, l) (.bool b22) w20) (.pointer (some ⟨tb, 0, none⟩)) (.pointer (some ⟨rb, 0, none⟩)) (.pointer (some ⟨b4, 0, none⟩)) w29))) := by
      intro w3 l' B e e1 e2 hc t3
      obtain ⟨la, lc, m, n, h, f, ti', r3⟩ := t3.rf
      obtain ⟨a5, c5, h5⟩ := r3
      have h5' : Hs W (refL rb a5 c5 l last ++ (tabL tb la lc m n h last f ++ (oP b4 o :: L))) w3 := h5
      refine h5'.ldI 5 rfl rfl ?_
      have fin : ∀ w4, RF W [] (tabL tb la lc m n h last f ++ (oP b4 o :: L)) rb last l' w4 → br (!(B == B)) (StP W L tb rb o (last, l) (.bool false) w4) (br (e != e) (StP W L tb rb o (last, l) (.bool false) w4) (F17_1 (fun y6 w20 => ∀ _g : Tm, rdB y6 fun b22 => StP W L tb rb o (last, l) (.bool b22) w20) (.pointer (some ⟨tb, 0, none⟩)) (.pointer (some ⟨rb, 0, none⟩)) (.pointer (some ⟨b4, 0, none⟩)) w4)) := by
        intro w4 r4
        rw [beq_self_eq_true, Bool.not_true, br_false, show (e != e) = false by simp, br_false]
        refine c17_end ?_
        rw [← e1, ← e2]
        exact r4.bo ti'
      refine cl (c32 ⟨a5, c5, h5⟩ (by omega) o.f1) ?_
      rintro _ w4 (⟨hn, rfl, r4⟩ | ⟨hi, rfl, r4⟩)
      · rcases hc with ⟨_, rfl, rfl, hl'⟩ | ⟨hi, _⟩
        · rw [← hl'] at r4
          exact ⟨_, _, rfl, fin w4 r4⟩
        · exact absurd hi hn
      · rcases hc with ⟨hn, _⟩ | ⟨_, rfl, rfl, hl'⟩
        · exact absurd hi hn
        · rw [← hl'] at r4
          exact ⟨_, _, rfl, fin w4 r4⟩
    rintro _ w3 (⟨hn, rfl, t3⟩ | ⟨hi, rfl, t3⟩)
    · have ea : actT o (last, l) = (last, l) := by unfold actT; rw [if_neg hk1, if_pos hk, if_neg hn]
      exact ⟨_, _, rfl, tail w3 l _ _ (by rw [ea]) (by rw [ea]) (.inl ⟨hn, rfl, rfl, rfl⟩) t3⟩
    · have ea : actT o (last, l) = (last, del o.f1 l) := by unfold actT; rw [if_neg hk1, if_pos hk, if_pos hi]
      exact ⟨_, _, rfl, tail w3 _ _ _ (by rw [ea]) (by rw [ea]) (.inr ⟨hi, rfl, rfl, rfl⟩) t3⟩
  have hk2 : ¬ o.f0 = 2 := by
    have : (o.f0 == 2) = false := hk2
    simpa using this
  rw [br_iff]
  refine ⟨fun hk => ?_, fun hk3 => ?_⟩
  · have hk : (o.f0 == 3) = true := hk
    have hk : o.f0 = 3 := by simpa using hk
    refine h1.ldI 0 rfl rfl ?_
    obtain ⟨a1, c1, t2⟩ := (perm w1 h1).prg
    refine cl (c10 t2 o.f2) ?_
    rintro _ w3 (⟨hn, rfl, t3⟩ | ⟨ht, hle, a3, c3, rfl, t3⟩)
    · refine ⟨_, _, _, _, rfl, ?_⟩
      have ea : actT o (last, l) = (last, l) := by unfold actT; rw [if_neg hk1, if_neg hk2, if_pos hk, if_neg hn]
      obtain ⟨la, lc, m, n, h, f, ti', a5, c5, h5⟩ := t3.rf
      have h5' : Hs W (refL rb a5 c5 l last ++ (tabL tb la lc m n h last f ++ (oP b4 o :: L))) w3 := h5
      refine h5'.ldI 5 rfl rfl ?_
      refine cl (c33 ⟨a5, c5, h5⟩ (by omega) o.f2) ?_
      rintro _ w4 (⟨_, rfl, r4⟩ | ⟨ht, hle, _⟩)
      · refine ⟨_, _, _, _, rfl, ?_⟩
        refine cl (c12 (l1 := []) (l2 := []) (Rd.nil _ _) (Rd.nil _ _) (by simp)) ?_
        rintro _ w5 ⟨rfl, s5⟩
        refine ⟨_, rfl, ?_⟩
        rw [show (!(decide (([] : List Du) = []))) = false by simp, br_false, show ((80 : Int) != 80) = false from rfl, br_false]
        refine c17_end ?_
        rw [ea]
        exact (r4.bo ti').same s5
      · exact absurd ⟨ht, hle⟩ hn
    · refine ⟨_, _, _, _, rfl, ?_⟩
      have ea : actT o (last, l) = (o.f2, l.drop (dueN o.f2 l)) := by unfold actT; rw [if_neg hk1, if_neg hk2, if_pos hk, if_pos ⟨ht, hle⟩]
      obtain ⟨q, hq⟩ : ∃ q, q = l.take (dueN o.f2 l) := ⟨_, rfl⟩
      rw [← hq] at t3 ⊢
      have t4 : TB W [] (refL rb a1 c1 l last ++ (slP 30 2 a3 q.length c3 (duV q) :: oP b4 o :: L)) tb o.f2 (l.drop (dueN o.f2 l)) w3 := t3.perm List.perm_middle.symm
      obtain ⟨la, lc, m, n, h, f, ti', a5, c5, h5⟩ := t4.rf
      have h5' : Hs W (refL rb a5 c5 l last ++ (tabL tb la lc m n h o.f2 f ++ (slP 30 2 a3 q.length c3 (duV q) :: oP b4 o :: L))) w3 := h5
      refine h5'.ldI 6 rfl rfl ?_
      refine cl (c33 ⟨a5, c5, h5⟩ (by omega) o.f2) ?_
      rintro _ w4 (⟨hn, _⟩ | ⟨_, _, a6, c6, rfl, a7, c7, h7⟩)
      · exact absurd ⟨ht, hle⟩ hn
      refine ⟨_, _, _, _, rfl, ?_⟩
      rw [← hq] at h7 ⊢
      have h7' : Hs W (slP 30 2 a6 q.length c6 (duV q) :: (refL rb a7 c7 (l.drop (dueN o.f2 l)) o.f2 ++ (tabL tb la lc m n h o.f2 f ++ (slP 30 2 a3 q.length c3 (duV q) :: oP b4 o :: L)))) w4 := h7
      have hql : q.length ≤ 4096 := by rw [hq, List.length_take]; omega
      refine cl (c12 (l1 := q) (l2 := q) (h7'.rd 6 rfl) (h7'.rd 0 rfl) (by omega)) ?_
      rintro _ w5 ⟨rfl, s5⟩
      refine ⟨_, rfl, ?_⟩
      rw [show (!(decide (q = q))) = false by simp, br_false, show ((0 : Int) != 0) = false from rfl, br_false]
      refine c17_end ?_
      rw [ea]
      have h8 := (h7'.same s5).drop
      have h9 : Hs W (refL rb a7 c7 (l.drop (dueN o.f2 l)) o.f2 ++ ((tabL tb la lc m n h o.f2 f ++ [slP 30 2 a3 q.length c3 (duV q)]) ++ (oP b4 o :: L))) w5 := h8.cast (by simp)
      have h10 : Hs W (tabL tb la lc m n h o.f2 f ++ (refL rb a7 c7 (l.drop (dueN o.f2 l)) o.f2 ++ (slP 30 2 a3 q.length c3 (duV q) :: oP b4 o :: L))) w5 := Hs.flip.1 h8
      rw [← List.append_assoc] at h10
      have h11 := (h10.perm List.perm_middle).drop
      rw [List.append_assoc] at h11
      exact ⟨la, lc, m, n, h, f, a7, c7, ti', h11⟩
  · have hk3 : ¬ o.f0 = 3 := by
      have : (o.f0 == 3) = false := hk3
      simpa using this
    refine c17_end ?_
    have ea : actT o (last, l) = (last, l) := by unfold actT; rw [if_neg hk1, if_neg hk2, if_neg hk3]
    rw [ea]
    exact perm w1 h1
theorem R38_len (o : R38) : o.l.length = 3 := rfl
theorem c5_1 {K0 : World → Prop} {Kr : Value → World → Prop} (hr : Rd W sa (os.flatMap R38.l)) (hl : os.length ≤ 9223372036854775807) (hK : ∀ w', Same W w' → K0 w') :
    ∀ (i j : Nat) (w : World) (k : Nat) (x : Int × List Du), j + i = os.length → BO W [] L tb rb x.1 x.2 w → i < k → F5_1 K0 Kr k (.slice sa os.length sc) (.pointer (some ⟨tb, 0, none⟩)) (.pointer (some ⟨rb, 0, none⟩)) (.int .i64 (j : Int)) w := by
  intro i
  induction i with
  | zero =>
    intro j w k x hj t hk
    obtain ⟨k, rfl⟩ : ∃ j, k = j + 1 := ⟨k - 1, by omega⟩
    show F5_1B _ _ _ _ _ _ _ _
    unfold F5_1B
    simp only [rdP_mk, rdI_mk, rdC_mk]
    rw [br_dec]
    exact ⟨fun h => by exfalso; omega, fun _ => hK w t.old⟩
  | succ i ih =>
    intro j w k x hj t hk
    obtain ⟨k, rfl⟩ : ∃ j, k = j + 1 := ⟨k - 1, by omega⟩
    show F5_1B _ _ _ _ _ _ _ _
    unfold F5_1B
    simp only [rdP_mk, rdI_mk, rdC_mk]
    rw [br_dec]
    refine ⟨fun _ => ?_, fun h => by exfalso; omega⟩
    obtain ⟨o, ho⟩ : ∃ o, os[j]? = some o := ⟨os[j]'(by omega), by simp⟩
    have m1 : Rd w sa (os.flatMap R38.l) := hr.fr t.old fun _ _ x => x
    obtain ⟨ad, had⟩ := m1.some (by rw [flat_length (m := 3) R38_len]; omega)
    rw [had] at m1 ⊢
    refine ixS_to (p := j) rfl (by omega) (ldR38_of (s := o) (m1.atI R38_len ho) ?_)
    refine cl (c17 t) ?_
    rintro _ w1 ⟨rfl, t1⟩
    refine ⟨_, rfl, ?_⟩
    rw [Bool.not_true, br_false]
    have e1 : IntKind.wrap .i64 ((j : Int) + 1) = ((j + 1 : Nat) : Int) := by rw [wrap_i64 (by omega) (by omega)]; omega
    rw [e1, ← had]
    exact ih (j + 1) w1 k _ (by omega) t1 (by omega)
theorem c5 (hr : Rd W sa (os.flatMap R38.l)) (hl : os.length ≤ 9223372036854775807) : Calls Try.prog 5 #[.slice sa os.length sc] W (rt fun v w' => v = .bool true ∧ Same W w') := by
  refine F5_ok ?_
  unfold F5
  simp only [rdC_mk]
  refine cl (c7 (Hs.start W)) ?_
  rintro _ w1 ⟨tb, rfl, la, lc, m, n, h, f, ti, hs⟩
  refine ⟨_, rfl, ?_⟩
  have hs : Hs W (hpL tb la lc m n h 0 ++ (mapP .i64 .i64 m f :: [])) w1 := hs
  refine hs.alc fun b5 w2 h2 => ?_
  simp only [Option.isNone_some]
  rw [br_false]
  refine cl (c8 w2) ?_
  rintro _ w3 ⟨rfl, s3⟩
  refine ⟨_, rfl, ?_⟩
  rw [Bool.not_true, br_false]
  unfold F5_2
  simp only [rdP_mk, rdC_mk]
  have h3 := ((h2.same s3).nil 30 2).perm (List.Perm.swap _ _ _)
  have h4 : Hs W (refL b5 none 0 [] 0 ++ (tabL tb la lc m n h 0 f ++ [])) w3 := h3
  have t4 : BO W [] [] tb b5 0 [] w3 := ⟨la, lc, m, n, h, f, none, 0, ti, (show Hs W (tabL tb la lc m n h 0 f ++ (refL b5 none 0 [] 0 ++ [])) w3 from Hs.flip.1 h4)⟩
  refine ⟨os.length + 1, c5_1 hr hl (fun w4 s4 => ?_) os.length 0 w3 _ (0, []) (Nat.zero_add _) t4 (by omega)⟩
  intro _g
  simp only [rdB_mk]
  exact fun _ => ⟨by first | rfl | trivial, s4⟩
end
end Go.Proofs.Ytdagfdejjfobhaa
