/-
  A table: the first one, Next, Get, Stop, Len, New.
-/
import Derived.Test.YtdagfdejjfobhaaTmD
namespace Go.Proofs.Ytdagfdejjfobhaa
open Go Go.Sh Go.Tm
/-- a table that stands for a list, behind parts P -/
def TB (W : World) (P L : List HP) (tb : Nat) (last : Int) (l : List Du) (w : World) : Prop :=
  ∃ la lc m n h f, TI n h f l ∧ Hs W (P ++ (hpL tb la lc m n h last ++ (mapP .i64 .i64 m f :: L))) w
section
variable {W w : World} {L M P : List HP} {tb lc m n nn i j : Nat} {la : Option Addr} {h h0 : Nat → Du} {last : Int} {f : Int → Option Int} {l : List Du}
abbrev dP (b : Nat) (d : Du) : HP := pt b (.cells #[.int .i64 d.1, .int .i64 d.2] 30 (0, 0))
theorem TB.same {w' : World} (t : TB W P L tb last l w) (s : Same w w') : TB W P L tb last l w' := by
  obtain ⟨la, lc, m, n, h, f, a, b⟩ := t
  exact ⟨la, lc, m, n, h, f, a, b.same s⟩
theorem TB.old (t : TB W P L tb last l w) : Same W w := by
  obtain ⟨_, _, _, _, _, _, _, b⟩ := t
  exact b.old
theorem TB.drop (t : TB W P L tb last l w) : TB W [] L tb last l w := by
  obtain ⟨la, lc, m, n, h, f, a, b⟩ := t
  exact ⟨la, lc, m, n, h, f, a, Hs.dropL b⟩
theorem c23 (t : Int) (w : World) : Calls Try.prog 23 #[.int .i64 t] w (rt (KR (.bool (decide (isT t))) w)) := by
  refine F23_ok ?_
  unfold F23
  simp only [rdI_mk]
  rw [br_dec]
  refine ⟨fun h => ⟨?_, rfl⟩, fun h => ⟨?_, rfl⟩⟩
  · congr 1; congr 1; unfold isT; exact propext ⟨fun g => ⟨h, g⟩, fun g => g.2⟩
  · congr 1; symm; simp only [decide_eq_false_iff_not]; unfold isT; omega
theorem c27 (t : TB W P L tb last l w) : Calls Try.prog 27 #[.pointer (some ⟨tb, 0, none⟩)] w (rt (KR (.bool true) w)) := by
  obtain ⟨la, lc, m, n, h, f, a, b⟩ := t
  refine F27_ok ?_
  unfold F27
  simp only [rdP_mk, nn_some, add_mk, Option.isNone_some, Bool.not_false, br_true]
  have b2 := Hs.flip.1 b
  exact b2.ldM 0 rfl rfl ⟨rfl, rfl⟩
theorem c22 (t : TB W P L tb last l w) (id : Int) : Calls Try.prog 22 #[.pointer (some ⟨tb, 0, none⟩), .int .i64 id] w (rt (KR (.int .i64 (if isI id then 0 else 1)) w)) := by
  refine F22_ok ?_
  unfold F22
  simp only [rdP_mk, rdI_mk]
  refine clr (c27 t) ⟨_, rfl, ?_⟩
  rw [Bool.not_true, br_false, br_dec]
  refine ⟨fun h => ⟨by rw [if_neg (by unfold isI; omega)], rfl⟩, fun h => ?_⟩
  rw [br_dec]
  exact ⟨fun h2 => ⟨by rw [if_neg (by unfold isI; omega)], rfl⟩, fun h2 => ⟨by rw [if_pos (by unfold isI; omega)], rfl⟩⟩
/-- what is found first -/
def First (W : World) (L : List HP) (tb : Nat) (last : Int) (l : List Du) (v : Value) (w' : World) : Prop :=
  ∃ la lc m n h f, TI n h f l ∧ Hs W (hpL tb la lc m n h last ++ (mapP .i64 .i64 m f :: L)) w' ∧ ((l = [] ∧ v = .tuple #[.agg #[.int .i64 0, .int .i64 0], .bool false]) ∨ ∃ d r, l = d :: r ∧ v = .tuple #[.agg #[.int .i64 d.1, .int .i64 d.2], .bool true] ∧ 0 < n ∧ h 0 = d)
theorem c28_2 {b2 : Nat} {z : Du} {K0 : Value → World → Prop} {Kr : Value → Value → World → Prop}
    (hnone : ∀ w' la lc m n h f, l = [] → TI n h f l → Hs W (hpL tb la lc m n h last ++ (mapP .i64 .i64 m f :: dP b2 z :: L)) w' → K0 (.pointer (some ⟨b2, 0, none⟩)) w')
    (hsome : ∀ w' la lc m n h f d r, l = d :: r → 0 < n → h 0 = d → TI n h f l → Hs W (hpL tb la lc m n h last ++ (mapP .i64 .i64 m f :: dP b2 d :: L)) w' → Kr (.pointer (some ⟨b2, 0, none⟩)) (.bool true) w') :
    ∀ (n : Nat) (h : Nat → Du) (la : Option Addr) (lc m : Nat) (f : Int → Option Int) (w : World) (k : Nat), TI n h f l → Hs W (hpL tb la lc m n h last ++ (mapP .i64 .i64 m f :: dP b2 z :: L)) w → n < k →
      F28_2 K0 Kr k (.pointer (some ⟨tb, 0, none⟩)) (.pointer (some ⟨b2, 0, none⟩)) w := by
  intro n
  induction n with
  | zero =>
    intro h la lc m f w k t hs hk
    obtain ⟨k, rfl⟩ : ∃ j, k = j + 1 := ⟨k - 1, by omega⟩
    show F28_2B _ _ _ _ _ _
    unfold F28_2B
    simp only [rdP_mk, rdA_mk, nn_some, add_mk]
    refine clr (c25 hs) ⟨_, rfl, ?_⟩
    rw [br_dec]
    refine ⟨fun h => by exfalso; omega, fun _ => hnone w la lc m 0 h f t.nil_of t hs⟩
  | succ n ih =>
    intro h la lc m f w k t hs hk
    obtain ⟨k, rfl⟩ : ∃ j, k = j + 1 := ⟨k - 1, by omega⟩
    show F28_2B _ _ _ _ _ _
    unfold F28_2B
    simp only [rdP_mk, rdA_mk, nn_some, add_mk]
    refine clr (c25 hs) ⟨_, rfl, ?_⟩
    rw [br_dec]
    refine ⟨fun _ => ?_, fun h => by exfalso; omega⟩
    have hn := t.few
    refine hs.ldC 0 rfl rfl ?_
    have hr : Rd w la (duV (fl (n + 1) h)) := hs.rd 1 rfl
    obtain ⟨ad, had⟩ := hr.some (by rw [duV_length, fl_length]; omega)
    have hr' := hr
    rw [had] at hr' ⊢
    refine ixS_to (p := 0) rfl (by omega) ?_
    simp only [add_add]
    refine ldI_c (hr'.at (u := .int .i64 (h 0).1) (du_at (p := 0) (fl_at (by omega)) rfl)) (ldI_c (hr'.at (u := .int .i64 (h 0).2) (du_at (p := 0) (fl_at (by omega)) rfl)) ?_)
    refine hs.alc fun b12 w1 h1 => h1.stc 0 rfl (by simp) fun w2 h2 => h2.stc 0 rfl (by simp) fun w3 h3 => h3.drw fun w4 h4 => ?_
    have h4 : Hs W (dP b12 (h 0) :: (hpL tb la lc m (n + 1) h last ++ (mapP .i64 .i64 m f :: dP b2 z :: L))) w4 := h4
    refine h4.ldM 1 rfl rfl (h4.ldI 0 rfl rfl ?_)
    refine ⟨_, _, look_int_ok u3 z3v (h4.map 3 rfl), ?_⟩
    have pop : f (h 0).1 ≠ some (h 0).2 → ∀ w5, Hs W (hpL tb la lc m (n + 1) h last ++ (mapP .i64 .i64 m f :: dP b2 z :: L)) w5 → ∀ Kn : Value → Value → World → Prop, (∀ w6, F28_2 K0 Kr k (.pointer (some ⟨tb, 0, none⟩)) (.pointer (some ⟨b2, 0, none⟩)) w6 → Kn (.pointer (some ⟨tb, 0, none⟩)) (.pointer (some ⟨b2, 0, none⟩)) w6) →
        F28_1 Kn (.pointer (some ⟨tb, 0, none⟩)) (.pointer (some ⟨b2, 0, none⟩)) w5 := by
      intro hf w5 h5 Kn hKn
      unfold F28_1
      simp only [rdP_mk, rdA_mk, nn_some, add_mk]
      refine cl (c29 h5 (by omega) t.hp) ?_
      rintro _ w6 ⟨rfl, h', a1, a2, h6⟩
      refine ⟨_, rfl, hKn w6 ?_⟩
      exact ih h' la lc m f w6 k (t.pop hf a1 a2) h6 (by omega)
    have h5 : Hs W (hpL tb la lc m (n + 1) h last ++ (mapP .i64 .i64 m f :: dP b2 z :: L)) w4 := h4.drop
    cases hf : f (h 0).1 with
    | none =>
      rw [show (none : Option Int).isSome = false from rfl, br_false]
      refine pop (by rw [hf]; simp) w4 h5 _ fun w6 g _ => ?_
      simp only [rdP_mk, rdA_mk]
      exact g
    | some u =>
      rw [show (some u).isSome = true from rfl, br_true]
      refine h4.ldI 0 rfl rfl ?_
      show br (u == (h 0).2) _ _
      rw [br_iff]
      refine ⟨fun hu => ?_, fun hu => ?_⟩
      · have hu : u = (h 0).2 := by simpa using hu
        subst hu
        have hd := t.top hf
        obtain ⟨r, hl⟩ : ∃ r, l = h 0 :: r := by
          cases l with
          | nil => cases hd
          | cons d r => exact ⟨r, by rw [Option.some.inj hd]⟩
        refine h4.ldI 0 rfl rfl (h4.ldI 0 rfl rfl ?_)
        refine h4.stc 4 rfl (by simp) fun w5 h6 => h6.stc 4 rfl (by simp) fun w6 h7 => ?_
        exact hsome w6 la lc m (n + 1) h f (h 0) r hl (by omega) rfl t h7.drop
      · have hu : u ≠ (h 0).2 := by simpa using hu
        refine pop (by rw [hf]; simpa using hu) w4 h5 _ fun w6 g _ => ?_
        simp only [rdP_mk, rdA_mk]
        exact g
theorem c28 (t : TB W [] L tb last l w) : Calls Try.prog 28 #[.pointer (some ⟨tb, 0, none⟩)] w (rt (First W L tb last l)) := by
  obtain ⟨la, lc, m, n, h, f, a, hs⟩ := t
  refine F28_ok ?_
  unfold F28
  simp only [rdP_mk]
  refine hs.alc fun b2 w1 h1 => ?_
  have h2 : Hs W (hpL tb la lc m n h last ++ (mapP .i64 .i64 m f :: dP b2 (0, 0) :: L)) w1 := by
    have h1 : Hs W (dP b2 (0, 0) :: ((hpL tb la lc m n h last ++ [mapP .i64 .i64 m f]) ++ L)) w1 := h1.cast (by simp [dP])
    have h3 := h1.behind
    exact h3.cast (by simp)
  refine ⟨n + 1, c28_2 (fun w' la lc m n h f hl t h3 => ?_) (fun w' la lc m n h f d r hl hn hd t h3 => ?_) n h la lc m f w1 _ a h2 (by omega)⟩
  · intro _g
    simp only [rdA_mk, add_mk]
    refine h3.stc 3 rfl (by simp) fun w2 h4 => h4.stc 3 rfl (by simp) fun w3 h5 => h5.ldI 3 rfl rfl (h5.ldI 3 rfl rfl ?_)
    exact ⟨la, lc, m, n, h, f, t, h5.erase 3, .inl ⟨hl, rfl⟩⟩
  · intro _g
    simp only [rdA_mk, rdB_mk, add_mk]
    refine h3.ldI 3 rfl rfl (h3.ldI 3 rfl rfl ?_)
    exact ⟨la, lc, m, n, h, f, t, h3.erase 3, .inr ⟨d, r, hl, rfl, hn, hd⟩⟩
theorem c19 (t : TB W [] L tb last l w) : Calls Try.prog 19 #[.pointer (some ⟨tb, 0, none⟩)] w (rt fun v w' => TB W [] L tb last l w' ∧ v = .tuple #[.agg #[.int .i64 (l.head?.getD (0, 0)).1, .int .i64 (l.head?.getD (0, 0)).2], .bool (!l.isEmpty)]) := by
  refine F19_ok ?_
  unfold F19
  simp only [rdP_mk]
  obtain ⟨la, lc, m, n, h, f, a, hs⟩ := t
  refine hs.alc fun b2 w1 h1 => ?_
  have h2 : Hs W (hpL tb la lc m n h last ++ (mapP .i64 .i64 m f :: dP b2 (0, 0) :: L)) w1 := by
    have h1 : Hs W (dP b2 (0, 0) :: ((hpL tb la lc m n h last ++ [mapP .i64 .i64 m f]) ++ L)) w1 := h1.cast (by simp [dP])
    have h3 := h1.behind
    exact h3.cast (by simp)
  have t2 : TB W [] (dP b2 (0, 0) :: L) tb last l w1 := ⟨la, lc, m, n, h, f, a, h2⟩
  refine clr (c27 t2) ⟨_, rfl, ?_⟩
  rw [Bool.not_true, br_false]
  refine cl (c28 t2) ?_
  rintro _ w2 ⟨la, lc, m, n, h, f, t, h3, hv⟩
  simp only [add_mk]
  have fin : ∀ (d : Du) (B : Bool), d = l.head?.getD (0, 0) → B = !l.isEmpty → 
      stc ⟨b2, 0 + 0, none⟩ (.int .i64 d.1) w2 fun w16 => stc ⟨b2, 0 + 1, none⟩ (.int .i64 d.2) w16 fun w17 => ldI .i64 ⟨b2, 0 + 0, none⟩ w17 fun n18 => ldI .i64 ⟨b2, 0 + 1, none⟩ w17 fun n19 =>
        TB W [] L tb last l w17 ∧ Value.tuple #[.agg #[.int .i64 n18, .int .i64 n19], .bool B] = .tuple #[.agg #[.int .i64 (l.head?.getD (0, 0)).1, .int .i64 (l.head?.getD (0, 0)).2], .bool (!l.isEmpty)] := by
    intro d B hd hB
    subst hd; subst hB
    refine h3.stc 3 rfl (by simp) fun w3 h4 => h4.stc 3 rfl (by simp) fun w4 h5 => h5.ldI 3 rfl rfl (h5.ldI 3 rfl rfl ⟨⟨la, lc, m, n, h, f, t, h5.erase 3⟩, rfl⟩)
  rcases hv with ⟨rfl, rfl⟩ | ⟨d, r, rfl, rfl, _, _⟩
  · exact ⟨0, 0, false, rfl, fin (0, 0) false rfl rfl⟩
  · exact ⟨d.1, d.2, true, rfl, fin d true rfl rfl⟩
theorem c18 (t : TB W P L tb last l w) (id : Int) : Calls Try.prog 18 #[.pointer (some ⟨tb, 0, none⟩), .int .i64 id] w (rt (KR (.tuple #[.int .i64 ((mval l id).getD 0), .bool (mval l id).isSome]) w)) := by
  refine F18_ok ?_
  unfold F18
  simp only [rdP_mk, rdI_mk]
  refine clr (c27 t) ⟨_, rfl, ?_⟩
  rw [Bool.not_true, br_false]
  obtain ⟨la, lc, m, n, h, f, a, hs⟩ := t
  simp only [nn_some, add_mk]
  have hs : Hs W (P ++ ((hpL tb la lc m n h last ++ [mapP .i64 .i64 m f]) ++ L)) w := hs
  have h2 := Hs.flip.1 hs
  refine h2.ldM 0 rfl rfl ⟨_, _, look_int_ok u3 z3v (h2.map 2 rfl), ?_⟩
  exact ⟨by rw [a.map], rfl⟩
end
end Go.Proofs.Ytdagfdejjfobhaa
