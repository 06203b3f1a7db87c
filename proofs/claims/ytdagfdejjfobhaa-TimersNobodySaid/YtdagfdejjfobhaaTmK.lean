/-
  A table: tidying; Set; Due.
-/
import Derived.Test.YtdagfdejjfobhaaTmJ
namespace Go.Proofs.Ytdagfdejjfobhaa
open Go Go.Sh Go.Tm
/-! plain -/
def hOf (l : List Du) (k : Nat) : Du := l.getD k (0, 0)
theorem fl_hOf (l : List Du) : fl l.length (hOf l) = l := by
  apply List.ext_getElem?
  intro k
  by_cases hk : k < l.length
  · rw [fl_at hk]
    unfold hOf
    simp [List.getD, hk]
  · rw [List.getElem?_eq_none (by rw [fl_length]; omega), List.getElem?_eq_none (by omega)]
theorem hOf_at {l : List Du} {k : Nat} {d : Du} (h : l[k]? = some d) : hOf l k = d := by unfold hOf; simp [List.getD, h]
theorem Hp_srt {l : List Du} (h : l.Pairwise lt) : Hp l.length (hOf l) := fun k h0 hk => by
  have := List.pairwise_iff_getElem.1 h ((k - 1) / 2) k (by omega) hk (by omega)
  unfold hOf
  simp only [List.getD, List.getElem?_eq_getElem hk, List.getElem?_eq_getElem (show (k - 1) / 2 < l.length by omega), Option.getD_some]
  exact lt_asymm this
theorem TI.tidy {l : List Du} {f : Int → Option Int} (li : LI l) (hm : ∀ k, f k = mval l k) : TI l.length (hOf l) f l :=
  ⟨li, Hp_srt li.srt, fun d hd => by
    obtain ⟨k, hk⟩ := List.getElem?_of_mem hd
    exact ⟨k, (List.getElem?_eq_some_iff.1 hk).1, hOf_at hk⟩, by have := li.few; omega, hm⟩
theorem mem_ins {d x : Du} {l : List Du} : x ∈ ins d l ↔ x = d ∨ x ∈ l := by
  unfold ins
  have : x ∈ l ↔ x ∈ l.take (atI d l) ∨ x ∈ l.drop (atI d l) := by
    conv => lhs; rw [← List.take_append_drop (atI d l) l]
    exact List.mem_append
  rw [List.mem_append, List.mem_cons, this]
  constructor
  · rintro (h | h | h)
    · exact .inr (.inl h)
    · exact .inl h
    · exact .inr (.inr h)
  · rintro (h | h | h)
    · exact .inr (.inl h)
    · exact .inl h
    · exact .inr (.inr h)
theorem LI.ins {l : List Du} (li : LI l) {d : Du} (hd : isI d.1 ∧ isT d.2) (hn : ∀ x ∈ l, x.1 ≠ d.1) : LI (ins d l) := by
  have hsplit : l.take (atI d l) ++ l.drop (atI d l) = l := List.take_append_drop _ _
  have hs := li.srt
  have hi := li.ids
  rw [← hsplit] at hs hi
  rw [List.pairwise_append] at hs
  refine ⟨?_, ?_, fun x hx => ?_⟩
  · unfold Ytdagfdejjfobhaa.ins
    rw [List.pairwise_append, List.pairwise_cons]
    have hA : ∀ x ∈ l.take (atI d l), lt x d := fun x hx => by
      obtain ⟨k, hk⟩ := List.getElem?_of_mem hx
      rw [List.getElem?_take] at hk
      split at hk
      · have := tw_lt (p := fun x => decide (lt x d)) (l := l) (j := k) (by assumption) hk
        simpa using this
      · cases hk
    have hB : ∀ x ∈ l.drop (atI d l), lt d x := fun x hx => by
      have hxn := hn x (List.mem_of_mem_drop hx)
      have h1 : ¬ lt x d := by
        obtain ⟨k, hk⟩ := List.getElem?_of_mem hx
        rw [List.getElem?_drop] at hk
        obtain ⟨y, hy⟩ : ∃ y, l[atI d l]? = some y := ⟨l[atI d l]'(by have := (List.getElem?_eq_some_iff.1 hk).1; omega), by simp⟩
        have hny : ¬ lt y d := by simpa using tw_at hy
        cases k with
        | zero =>
          rw [Nat.add_zero, hy] at hk
          rw [← Option.some.inj hk]; exact hny
        | succ k =>
          have := (List.pairwise_iff_getElem.1 li.srt) (atI d l) (atI d l + (k + 1)) (by have := (List.getElem?_eq_some_iff.1 hk).1; omega) (List.getElem?_eq_some_iff.1 hk).1 (by omega)
          rw [(List.getElem?_eq_some_iff.1 hk).2, (List.getElem?_eq_some_iff.1 hy).2] at this
          intro hx
          unfold lt at *
          omega
      unfold lt at *
      omega
    exact ⟨hs.1, ⟨hB, hs.2.1⟩, fun x hx y hy => by
      rcases List.mem_cons.1 hy with rfl | hy
      · exact hA x hx
      · exact hs.2.2 x hx y hy⟩
  · unfold Ytdagfdejjfobhaa.ins
    rw [List.map_append, List.nodup_append] at hi ⊢
    obtain ⟨i1, i2, i3⟩ := hi
    refine ⟨i1, ?_, fun a ha b hb => ?_⟩
    · rw [List.map_cons, List.nodup_cons]
      refine ⟨fun h => ?_, i2⟩
      obtain ⟨x, hx, he⟩ := List.mem_map.1 h
      exact hn x (List.mem_of_mem_drop hx) he
    · rw [List.map_cons, List.mem_cons] at hb
      rcases hb with rfl | hb
      · intro e
        obtain ⟨x, hx, he⟩ := List.mem_map.1 ha
        exact hn x (List.mem_of_mem_take hx) (by rw [he, e])
      · exact i3 a ha b hb
  · rcases mem_ins.1 hx with rfl | hx
    · exact hd
    · exact li.rng x hx
theorem mval_ins {l : List Du} (li : LI l) {d : Du} (hd : isI d.1 ∧ isT d.2) (j : Int) : mval (ins d (del d.1 l)) j = if j = d.1 then some d.2 else mval l j := by
  have l1 := li.del d.1
  have l2 := l1.ins hd fun x hx => (mem_del.1 hx).2
  by_cases hj : j = d.1
  · rw [if_pos hj, hj]
    exact (mval_iff l2.ids).2 (mem_ins.2 (.inl rfl))
  · rw [if_neg hj]
    cases hm : mval l j with
    | some t => exact (mval_iff l2.ids).2 (mem_ins.2 (.inr (mem_del.2 ⟨(mval_iff li.ids).1 hm, hj⟩)))
    | none =>
      refine mval_none fun x hx e => ?_
      rcases mem_ins.1 hx with rfl | hx
      · exact hj e.symm
      · have := (mval_iff li.ids (k := x.1) (t := x.2)).2 (mem_del.1 hx).1
        rw [e, hm] at this
        cases this
section
variable {W w : World} {L M P : List HP} {tb lc m n nn i j : Nat} {la : Option Addr} {h h0 : Nat → Du} {last : Int} {f : Int → Option Int} {l : List Du} {d : Du}
theorem c26 (li : LI l) (hmv : ∀ k, f k = mval l k) (hs : Hs W (hpL tb la lc m n h last ++ (mapP .i64 .i64 m f :: L)) w) : Calls Try.prog 26 #[.pointer (some ⟨tb, 0, none⟩)] w (rt fun v w' => v = .tuple #[] ∧ TB W [] L tb last l w') := by
  refine F26_ok ?_
  unfold F26
  simp only [rdP_mk]
  refine cl (c30g li hmv hs) ?_
  rintro _ w1 ⟨a, c, rfl, h1⟩
  refine ⟨_, _, _, rfl, ?_⟩
  simp only [nn_some, add_mk]
  refine h1.stc 1 rfl (by simp) fun w2 h2 => ?_
  have h2 : Hs W (slP 30 2 a l.length c (duV l) :: pt tb (.cells #[.slice a l.length c, .func (.func 20) #[] #[], .map (some m), .int .i64 last] 53 (0, 0)) :: slP 30 2 la n lc (duV (fl n h)) :: mapP .i64 .i64 m f :: L) w2 := h2
  have h3 := (h2.erase 2).perm (List.Perm.swap _ _ _)
  have h4 : Hs W (hpL tb a c m l.length (hOf l) last ++ (mapP .i64 .i64 m f :: L)) w2 := by
    refine h3.cast ?_
    unfold hpL
    rw [fl_hOf]
    rfl
  have hl := li.few
  refine cl (c39 h4 (by omega) (Hp_srt li.srt)) ?_
  rintro _ w3 ⟨rfl, h5⟩
  exact ⟨rfl, (by first | rfl | trivial), a, c, m, l.length, hOf l, f, TI.tidy li hmv, h5⟩
theorem c9 (t : TB W [] L tb last l w) (d : Du) : Calls Try.prog 9 #[.pointer (some ⟨tb, 0, none⟩), .int .i64 d.1, .int .i64 d.2] w (rt fun v w' =>
    (¬ isI d.1 ∧ v = .int .i64 1 ∧ TB W [] L tb last l w') ∨ (isI d.1 ∧ ¬ isT d.2 ∧ v = .int .i64 80 ∧ TB W [] L tb last l w') ∨ (isI d.1 ∧ isT d.2 ∧ v = .int .i64 0 ∧ TB W [] L tb last (ins d (del d.1 l)) w')) := by
  refine F9_ok ?_
  unfold F9
  simp only [rdP_mk, rdI_mk]
  refine clr (c22 t d.1) ⟨_, rfl, ?_⟩
  by_cases hi : isI d.1
  rotate_left
  · rw [if_neg hi, show ((1 : Int) != 0) = true from rfl, br_true]
    exact .inl ⟨hi, (by first | rfl | trivial), t⟩
  rw [if_pos hi, show ((0 : Int) != 0) = false from rfl, br_false]
  refine clr (c23 d.2 w) ⟨_, rfl, ?_⟩
  by_cases ht : isT d.2
  rotate_left
  · rw [show decide (isT d.2) = false by simpa using ht, Bool.not_false, br_true]
    exact .inr (.inl ⟨hi, ht, (by first | rfl | trivial), t⟩)
  rw [show decide (isT d.2) = true by simpa using ht, Bool.not_true, br_false]
  obtain ⟨la, lc, m, n, h, f, t, hs⟩ := t
  have hs : Hs W (hpL tb la lc m n h last ++ (mapP .i64 .i64 m f :: L)) w := hs
  simp only [nn_some, add_mk]
  refine hs.ldM 0 rfl rfl ?_
  obtain ⟨o, hr, hm⟩ := store_int (P := Try.prog) (k := d.1) (v := d.2) u51 u3 (hs.map 2 rfl)
  refine ⟨_, hr, ?_⟩
  have h1 : Hs W (hpL tb la lc m n h last ++ (mapP .i64 .i64 m (updF f d.1 (some d.2)) :: L)) (sb w m o) := hs.map_turn 2 rfl (Fr.refl w |>.sb (fun _ => rfl)) hm
  have hn := t.few
  refine cl (c24 h1 (by omega) t.hp d) ?_
  rintro _ w2 ⟨rfl, la2, lc2, h', a1, a2, h2⟩
  refine ⟨rfl, clr (c25 h2) ⟨_, rfl, ?_⟩⟩
  have hmv : ∀ k, updF f d.1 (some d.2) k = mval (ins d (del d.1 l)) k := updF_mval t.map (mval_ins t.li ⟨hi, ht⟩)
  have li : LI (ins d (del d.1 l)) := (t.li.del d.1).ins ⟨hi, ht⟩ fun x hx => (mem_del.1 hx).2
  rw [br_dec]
  refine ⟨fun _ => ?_, fun hlt => ?_⟩
  · refine cl (c26 li hmv h2) ?_
    rintro _ w3 ⟨rfl, t3⟩
    exact ⟨rfl, .inr (.inr ⟨hi, ht, (by first | rfl | trivial), t3⟩)⟩
  · refine .inr (.inr ⟨hi, ht, (by first | rfl | trivial), la2, lc2, m, n + 1, h', _, ⟨li, a1, fun x hx => (a2 x).2 ?_, by omega, hmv⟩, h2⟩)
    rcases mem_ins.1 hx with rfl | hx
    · exact .inr rfl
    · exact .inl (t.has x (mem_del.1 hx).1)
theorem dueN_cons {t : Int} {d : Du} {l : List Du} : dueN t (d :: l) = if d.2 ≤ t then dueN t l + 1 else 0 := by
  unfold dueN
  rw [List.takeWhile_cons]
  by_cases h : d.2 ≤ t <;> simp [h]
theorem c10_2 {t : Int} {Kr : Value → Value → World → Prop} : ∀ (l g : List Du) (w : World) (k : Nat) (oa : Option Addr) (oc : Nat), g.length + l.length ≤ 4096 → TB W [] (slP 30 2 oa g.length oc (duV g) :: L) tb t l w → l.length < k →
    (∀ w' oa oc, TB W [] (slP 30 2 oa (g ++ l.take (dueN t l)).length oc (duV (g ++ l.take (dueN t l))) :: L) tb t (l.drop (dueN t l)) w' → Kr (.slice oa (g ++ l.take (dueN t l)).length oc) (.int .i64 0) w') →
    F10_2 Kr k (.pointer (some ⟨tb, 0, none⟩)) (.int .i64 t) (.slice oa g.length oc) w := by
  intro l
  induction l with
  | nil =>
    intro g w k oa oc hb tt hk hK
    obtain ⟨k, rfl⟩ : ∃ j, k = j + 1 := ⟨k - 1, by omega⟩
    show F10_2B _ _ _ _ _ _
    unfold F10_2B
    simp only [rdP_mk, rdI_mk, rdC_mk]
    refine cl (c28 tt) ?_
    rintro _ w1 ⟨la, lc, m, n, h, f, t1, h1, ⟨_, rfl⟩ | ⟨d, r, hl, _⟩⟩
    · refine ⟨0, 0, false, rfl, ?_⟩
      refine h1.alc fun b9 w2 h2 => ?_
      simp only [add_mk]
      refine h2.stc 0 rfl (by simp) fun w3 h3 => h3.stc 0 rfl (by simp) fun w4 h4 => ?_
      rw [Bool.not_false, br_true]
      have e : g ++ ([] : List Du).take (dueN t []) = g := by simp
      have := hK w4 oa oc
      rw [e] at this
      exact this ⟨la, lc, m, n, h, f, t1, h4.drop⟩
    · cases hl
  | cons d l ih =>
    intro g w k oa oc hb tt hk hK
    obtain ⟨k, rfl⟩ : ∃ j, k = j + 1 := ⟨k - 1, by omega⟩
    show F10_2B _ _ _ _ _ _
    unfold F10_2B
    simp only [rdP_mk, rdI_mk, rdC_mk]
    refine cl (c28 tt) ?_
    rintro _ w1 ⟨la, lc, m, n, h, f, t1, h1, ⟨hl, _⟩ | ⟨d', r, hl, rfl, hn, hd⟩⟩
    · cases hl
    cases hl
    refine ⟨d.1, d.2, true, rfl, ?_⟩
    refine h1.alc fun b9 w2 h2 => ?_
    simp only [add_mk]
    refine h2.stc 0 rfl (by simp) fun w3 h3 => h3.stc 0 rfl (by simp) fun w4 h4 => ?_
    have h4 : Hs W (dP b9 d :: (hpL tb la lc m n h t ++ (mapP .i64 .i64 m f :: slP 30 2 oa g.length oc (duV g) :: L))) w4 := h4
    rw [Bool.not_true, br_false]
    refine h4.ldI 0 rfl rfl ?_
    show br (decide (d.2 > t)) _ _
    rw [br_dec]
    refine ⟨fun hgt => ?_, fun hle => ?_⟩
    · have e0 : dueN t (d :: l) = 0 := by rw [dueN_cons, if_neg (by omega)]
      have e : g ++ (d :: l).take (dueN t (d :: l)) = g := by rw [e0]; simp
      have := hK w4 oa oc
      rw [e, e0] at this
      exact this ⟨la, lc, m, n, h, f, t1, h4.drop⟩
    · have e0 : dueN t (d :: l) = dueN t l + 1 := by rw [dueN_cons, if_pos (by omega)]
      obtain ⟨n, rfl⟩ : ∃ n', n = n' + 1 := ⟨n - 1, by omega⟩
      unfold F10_1
      simp only [rdP_mk, rdI_mk, rdC_mk, rdA_mk, nn_some, add_mk]
      have hfew := t1.few
      have h5 : Hs W (hpL tb la lc m (n + 1) h t ++ (mapP .i64 .i64 m f :: slP 30 2 oa g.length oc (duV g) :: dP b9 d :: L)) w4 := by
        have h4 : Hs W (dP b9 d :: ((hpL tb la lc m (n + 1) h t ++ [mapP .i64 .i64 m f, slP 30 2 oa g.length oc (duV g)]) ++ L)) w4 := h4
        have h6 := h4.behind
        exact h6.cast (by simp)
      refine cl (c29 h5 (by omega) t1.hp) ?_
      rintro _ w5 ⟨rfl, h', a1, a2, h6⟩
      refine ⟨_, rfl, h6.drw fun w6 h7 => ?_⟩
      refine h7.ldM 0 rfl rfl (h7.ldI 4 rfl rfl ?_)
      obtain ⟨o, hr, hm⟩ := delete_int (P := Try.prog) (ats := #[51, 3]) (ty := 0) (k := d.1) rfl u51 u3 (h7.map 2 rfl)
      refine ⟨_, hr, ?_⟩
      have h8 : Hs W (hpL tb la lc m n h' t ++ (mapP .i64 .i64 m (updF f d.1 none) :: slP 30 2 oa g.length oc (duV g) :: dP b9 d :: L)) (sb w6 m o) := h7.map_turn 2 rfl (Fr.refl w6 |>.sb (fun _ => rfl)) hm
      refine h8.ldI 4 rfl rfl (h8.ldI 4 rfl rfl ?_)
      have hb' : g.length + (l.length + 1) ≤ 4096 := by simpa using hb
      refine h8.push (ty := 22) E22 3 rfl (news := #[.int .i64 d.1, .int .i64 d.2]) rfl (du_one d) (by omega) (by omega) fun a' c' w7 h9 => ?_
      have h9 : Hs W (hpL tb la lc m n h' t ++ (mapP .i64 .i64 m (updF f d.1 none) :: slP 30 2 a' (g.length + 1) c' (duV g ++ du d) :: dP b9 d :: L)) w7 := h9
      rw [← duV_snoc] at h9
      have e5 : g.length + 1 = (g ++ [d]).length := by simp
      rw [e5] at h9 ⊢
      intro _g
      try simp only [rdP_mk, rdI_mk, rdC_mk]
      refine ih (g ++ [d]) w7 k a' c' (by simp; omega) ⟨la, lc, m, n, h', _, t1.due hd a1 a2, h9.erase 4⟩ (by simpa using hk) fun w8 oa' oc' t8 => ?_
      have e6 : g ++ (d :: l).take (dueN t (d :: l)) = g ++ [d] ++ l.take (dueN t l) := by rw [e0]; simp
      have e7 : (d :: l).drop (dueN t (d :: l)) = l.drop (dueN t l) := by rw [e0]; rfl
      have := hK w8 oa' oc'
      rw [e6, e7] at this
      exact this t8
theorem c10 (t : TB W [] L tb last l w) (n : Int) : Calls Try.prog 10 #[.pointer (some ⟨tb, 0, none⟩), .int .i64 n] w (rt fun v w' =>
    (¬ (isT n ∧ last ≤ n) ∧ v = .tuple #[.slice none 0 0, .int .i64 80] ∧ TB W [] L tb last l w') ∨
    (isT n ∧ last ≤ n ∧ ∃ a c, v = .tuple #[.slice a (l.take (dueN n l)).length c, .int .i64 0] ∧ TB W [] (slP 30 2 a (l.take (dueN n l)).length c (duV (l.take (dueN n l))) :: L) tb n (l.drop (dueN n l)) w')) := by
  refine F10_ok ?_
  unfold F10
  simp only [rdP_mk, rdI_mk]
  refine clr (c27 t) ⟨_, rfl, ?_⟩
  rw [Bool.not_true, br_false]
  refine clr (c23 n w) ⟨_, rfl, ?_⟩
  by_cases ht : isT n
  rotate_left
  · rw [show decide (isT n) = false by simpa using ht, Bool.not_false, br_true]
    exact .inl ⟨fun h => ht h.1, (by first | rfl | trivial), t⟩
  rw [show decide (isT n) = true by simpa using ht, Bool.not_true, br_false]
  obtain ⟨la, lc, m, k, h, f, t, hs⟩ := t
  have hs : Hs W (hpL tb la lc m k h last ++ (mapP .i64 .i64 m f :: L)) w := hs
  simp only [nn_some, add_mk]
  refine hs.ldI 0 rfl rfl ?_
  rw [br_dec]
  refine ⟨fun hlt => .inl ⟨fun h => by omega, (by first | rfl | trivial), la, lc, m, k, h, f, t, hs⟩, fun hlt => ?_⟩
  unfold F10_3
  simp only [rdP_mk, rdI_mk, nn_some, add_mk]
  refine hs.stc 0 rfl (by simp) fun w1 h1 => ?_
  have h1 : Hs W (hpL tb la lc m k h n ++ (mapP .i64 .i64 m f :: L)) w1 := h1
  have h2 := h1.nil 30 2
  have h3 : Hs W (hpL tb la lc m k h n ++ (mapP .i64 .i64 m f :: slP 30 2 none 0 0 [] :: L)) w1 := by
    have h2 : Hs W (slP 30 2 none 0 0 [] :: ((hpL tb la lc m k h n ++ [mapP .i64 .i64 m f]) ++ L)) w1 := h2.cast (by simp)
    have h6 := h2.behind
    exact h6.cast (by simp)
  have hl := t.li.few
  refine ⟨l.length + 1, c10_2 l [] w1 _ none 0 (by simpa using hl) ⟨la, lc, m, k, h, f, t, h3⟩ (by omega) fun w' oa oc t' => ?_⟩
  intro _g
  simp only [rdC_mk, rdI_mk]
  exact fun _ => Or.inr ⟨ht, by omega, oa, oc, rfl, t'⟩
end
end Go.Proofs.Ytdagfdejjfobhaa
