/-
  The document's table: Stop, Set, Due.
-/
import Derived.Test.YtdagfdejjfobhaaTmH
namespace Go.Proofs.Ytdagfdejjfobhaa
open Go Go.Sh Go.Tm
theorem del_take {k : Int} {l : List Du} {j : Nat} {d : Du} (h : l[j]? = some d) : del k (l.take (j + 1)) = del k (l.take j) ++ (if d.1 ≠ k then [d] else []) := by
  unfold del
  rw [List.take_add_one, h, List.filter_append]
  by_cases hk : d.1 = k <;> simp [hk]
theorem del_len {k : Int} {l : List Du} : (del k l).length ≤ l.length := List.length_filter_le _ _
theorem del_was {l : List Du} {k : Int} : decide ((del k l).length < l.length) = (mval l k).isSome := by
  induction l with
  | nil => rfl
  | cons p l ih =>
    have h1 := del_len (k := k) (l := l)
    by_cases hk : p.1 = k
    · have e1 : del k (p :: l) = del k l := by unfold del; rw [List.filter_cons, if_neg (by simp [hk])]
      rw [e1]
      simp only [mval, if_pos hk.symm, List.length_cons, Option.isSome_some, decide_eq_true_eq]
      omega
    · have e1 : del k (p :: l) = p :: del k l := by unfold del; rw [List.filter_cons, if_pos (by simp [hk])]
      rw [e1]
      simp only [mval, if_neg fun e => hk (Eq.symm e), List.length_cons]
      rw [← ih]
      congr 1
      exact propext ⟨fun h => by omega, fun h => by omega⟩
section
variable {W w : World} {L M P : List HP} {rb j : Nat} {a : Option Addr} {c : Nat} {l : List Du} {now : Int} {d : Du}
theorem c32 (t : RF W [] L rb now l w) (hl : l.length ≤ 1000000) (id : Int) : Calls Try.prog 32 #[.pointer (some ⟨rb, 0, none⟩), .int .i64 id] w (rt fun v w' =>
    (¬ isI id ∧ v = .tuple #[.bool false, .int .i64 1] ∧ RF W [] L rb now l w') ∨ (isI id ∧ v = .tuple #[.bool (mval l id).isSome, .int .i64 0] ∧ RF W [] L rb now (del id l) w')) := by
  refine F32_ok ?_
  unfold F32
  simp only [rdP_mk, rdI_mk]
  refine clr (c14 id w) ⟨_, rfl, ?_⟩
  by_cases hi : isI id
  rotate_left
  · rw [show decide (isI id) = false by simpa using hi, Bool.not_false, br_true]
    exact .inl ⟨hi, trivial, t⟩
  rw [show decide (isI id) = true by simpa using hi, Bool.not_true, br_false]
  obtain ⟨a, c, hs⟩ := t
  have hs : Hs W (refL rb a c l now ++ L) w := hs
  have loop : ∀ (K0 : Value → Value → World → Prop), (∀ w' oa oc, Hs W (slP 30 2 oa (del id l).length oc (duV (del id l)) :: (refL rb a c l now ++ L)) w' → K0 (.pointer (some ⟨rb, 0, none⟩)) (.slice oa (del id l).length oc) w') → ∀ (i j : Nat) (w' : World) (k : Nat) (oa : Option Addr) (oc : Nat), j + i = l.length →
      Hs W (slP 30 2 oa (del id (l.take j)).length oc (duV (del id (l.take j))) :: (refL rb a c l now ++ L)) w' → i < k →
      F32_1 K0 k (.pointer (some ⟨rb, 0, none⟩)) (.int .i64 id) (.slice oa (del id (l.take j)).length oc) (.int .i64 (j : Int)) w' := by
    intro K0 hK0 i
    induction i with
    | zero =>
      intro j w' k oa oc hj h hk
      obtain ⟨k, rfl⟩ : ∃ j, k = j + 1 := ⟨k - 1, by omega⟩
      show F32_1B _ _ _ _ _ _ _
      unfold F32_1B
      simp only [rdP_mk, rdI_mk, rdC_mk, nn_some, add_mk]
      refine h.ldC 1 rfl rfl ?_
      rw [br_dec]
      refine ⟨fun h => by exfalso; omega, fun _ => ?_⟩
      rw [List.take_of_length_le (by omega)] at h ⊢
      exact hK0 w' oa oc h
    | succ i ih =>
      intro j w' k oa oc hj h hk
      obtain ⟨k, rfl⟩ : ∃ j, k = j + 1 := ⟨k - 1, by omega⟩
      show F32_1B _ _ _ _ _ _ _
      unfold F32_1B
      simp only [rdP_mk, rdI_mk, rdC_mk, nn_some, add_mk]
      refine h.ldC 1 rfl rfl ?_
      rw [br_dec]
      refine ⟨fun _ => ?_, fun h => by exfalso; omega⟩
      obtain ⟨d, hd⟩ : ∃ d, l[j]? = some d := ⟨l[j]'(by omega), by simp⟩
      obtain ⟨ad, had, p1, p2⟩ := du_rd (h.rd 2 rfl) hd
      have e3 : IntKind.wrap .i64 ((j : Int) + 1) = ((j + 1 : Nat) : Int) := by rw [wrap_i64 (by omega) (by omega)]; omega
      rw [e3]
      have hdt := del_take (k := id) hd
      refine h.ldC 1 rfl rfl ?_
      rw [had]
      refine ixS_to (p := j) rfl (by omega) ?_
      simp only [add_add]
      refine ldI_c p1 ?_
      rw [br_iff]
      refine ⟨fun hn => ?_, fun hn => ?_⟩
      · have hn : d.1 ≠ id := by simpa using hn
        rw [if_pos hn] at hdt
        refine h.ldC 1 rfl rfl ?_
        rw [had]
        refine ixS_to (p := j) rfl (by omega) ?_
        simp only [add_add]
        refine ldI_c p1 (ldI_c p2 ?_)
        have hle := del_len (k := id) (l := l.take j)
        rw [List.length_take] at hle
        refine h.push (ty := 22) E22 0 rfl (news := #[.int .i64 d.1, .int .i64 d.2]) rfl (du_one d) (by omega) (by omega) fun a' c' w2 h2 => ?_
        have h2 : Hs W (slP 30 2 a' ((del id (l.take j)).length + 1) c' (duV (del id (l.take j)) ++ du d) :: (refL rb a c l now ++ L)) w2 := h2
        rw [← duV_snoc, ← hdt] at h2
        have e4 : (del id (l.take j)).length + 1 = (del id (l.take (j + 1))).length := by rw [hdt]; simp
        rw [e4] at h2 ⊢
        exact ih (j + 1) w2 k a' c' (by omega) h2 (by omega)
      · have hn : d.1 = id := by simpa using hn
        rw [if_neg (by simpa using hn), List.append_nil] at hdt
        rw [← hdt] at h ⊢
        exact ih (j + 1) w' k oa oc (by omega) h (by omega)
  refine ⟨l.length + 1, loop _ (fun w' oa oc h => ?_) l.length 0 w _ none 0 (Nat.zero_add _) (hs.nil 30 2) (by omega)⟩
  intro _g
  simp only [rdP_mk, rdC_mk, nn_some, add_mk]
  refine h.ldC 1 rfl rfl (h.stc 1 rfl (by simp) fun w2 h2 => ?_)
  refine .inr ⟨hi, ?_, oa, oc, ?_⟩
  · rw [← del_was]
    congr 4
    simp
  · have h2 : Hs W (slP 30 2 oa (del id l).length oc (duV (del id l)) :: pt rb (.cells #[.slice oa (del id l).length oc, .int .i64 now] 46 (0, 0)) :: slP 30 2 a l.length c (duV l) :: L) w2 := h2
    have h3 := h2.erase 2
    have h4 := h3.perm (List.Perm.swap _ _ _)
    exact h4
/-- where a timer goes -/
theorem c31_1 {K0 : Value → Value → Value → Value → World → Prop} (h : Hs W (refL rb a c l now ++ L) w) (hl : l.length ≤ 1000000)
    (hK : K0 (.pointer (some ⟨rb, 0, none⟩)) (.int .i64 d.1) (.int .i64 d.2) (.int .i64 (atI d l : Int)) w) :
    ∀ (i j : Nat) (k : Nat), j + i = atI d l → i < k → F31_1 K0 k (.pointer (some ⟨rb, 0, none⟩)) (.int .i64 d.1) (.int .i64 d.2) (.int .i64 (j : Int)) w := by
  have hat : atI d l ≤ l.length := tw_len_le _ _
  intro i
  induction i with
  | zero =>
    intro j k hj hk
    obtain ⟨k, rfl⟩ : ∃ j, k = j + 1 := ⟨k - 1, by omega⟩
    show F31_1B _ _ _ _ _ _ _
    unfold F31_1B
    simp only [rdP_mk, rdI_mk, nn_some, add_mk]
    refine h.ldC 0 rfl rfl ?_
    have hja : j = atI d l := by omega
    rw [hja]
    rw [br_dec]
    refine ⟨fun hlt => ?_, fun _ => hK⟩
    obtain ⟨x, hx⟩ : ∃ x, l[atI d l]? = some x := ⟨l[atI d l]'(by omega), by simp⟩
    have hn : ¬ lt x d := by simpa using tw_at hx
    obtain ⟨ad, had, p1, p2⟩ := du_rd (h.rd 1 rfl) hx
    refine h.ldC 0 rfl rfl ?_
    rw [had]
    refine ixS_to (p := atI d l) rfl (by omega) ?_
    simp only [add_add]
    refine ldI_c p2 ?_
    unfold lt at hn
    rw [br_dec]
    refine ⟨fun h => by exfalso; omega, fun h2 => ?_⟩
    refine h.ldC 0 rfl rfl ?_
    rw [had]
    refine ixS_to (p := atI d l) rfl (by omega) ?_
    simp only [add_add]
    refine ldI_c p2 ?_
    rw [br_iff]
    refine ⟨fun he => ?_, fun _ => hK⟩
    have he : x.2 = d.2 := by simpa using he
    refine h.ldC 0 rfl rfl ?_
    rw [had]
    refine ixS_to (p := atI d l) rfl (by omega) ?_
    simp only [add_add]
    refine ldI_c p1 ?_
    rw [br_dec]
    exact ⟨fun h => by exfalso; omega, fun _ => hK⟩
  | succ i ih =>
    intro j k hj hk
    obtain ⟨k, rfl⟩ : ∃ j, k = j + 1 := ⟨k - 1, by omega⟩
    show F31_1B _ _ _ _ _ _ _
    unfold F31_1B
    simp only [rdP_mk, rdI_mk, nn_some, add_mk]
    refine h.ldC 0 rfl rfl ?_
    rw [br_dec]
    refine ⟨fun _ => ?_, fun hn => by exfalso; omega⟩
    obtain ⟨x, hx⟩ : ∃ x, l[j]? = some x := ⟨l[j]'(by omega), by simp⟩
    have hn : lt x d := by
      have := tw_lt (p := fun x => decide (lt x d)) (l := l) (j := j) (by unfold atI at hj; omega) hx
      simpa using this
    obtain ⟨ad, had, p1, p2⟩ := du_rd (h.rd 1 rfl) hx
    have e3 : IntKind.wrap .i64 ((j : Int) + 1) = ((j + 1 : Nat) : Int) := by rw [wrap_i64 (by omega) (by omega)]; omega
    rw [e3]
    have go := ih (j + 1) k (by omega) (by omega)
    refine h.ldC 0 rfl rfl ?_
    rw [had]
    refine ixS_to (p := j) rfl (by omega) ?_
    simp only [add_add]
    refine ldI_c p2 ?_
    unfold lt at hn
    rw [br_dec]
    refine ⟨fun _ => go, fun h2 => ?_⟩
    refine h.ldC 0 rfl rfl ?_
    rw [had]
    refine ixS_to (p := j) rfl (by omega) ?_
    simp only [add_add]
    refine ldI_c p2 ?_
    rw [br_iff]
    refine ⟨fun he => ?_, fun he => ?_⟩
    · have he : x.2 = d.2 := by simpa using he
      refine h.ldC 0 rfl rfl ?_
      rw [had]
      refine ixS_to (p := j) rfl (by omega) ?_
      simp only [add_add]
      refine ldI_c p1 ?_
      rw [br_dec]
      exact ⟨fun _ => go, fun hx => by exfalso; omega⟩
    · have he : x.2 ≠ d.2 := by simpa using he
      exfalso
      omega
theorem ins_len (d : Du) (l : List Du) : (ins d l).length = l.length + 1 := by
  have : atI d l ≤ l.length := tw_len_le _ _
  unfold ins
  rw [List.length_append, List.length_cons, List.length_take, List.length_drop]
  omega
theorem c31 (t : RF W [] L rb now l w) (hl : l.length ≤ 900000) (d : Du) : Calls Try.prog 31 #[.pointer (some ⟨rb, 0, none⟩), .int .i64 d.1, .int .i64 d.2] w (rt fun v w' =>
    (¬ isI d.1 ∧ v = .int .i64 1 ∧ RF W [] L rb now l w') ∨ (isI d.1 ∧ ¬ isT d.2 ∧ v = .int .i64 80 ∧ RF W [] L rb now l w') ∨ (isI d.1 ∧ isT d.2 ∧ v = .int .i64 0 ∧ RF W [] L rb now (ins d (del d.1 l)) w')) := by
  refine F31_ok ?_
  unfold F31
  simp only [rdP_mk, rdI_mk]
  refine clr (c14 d.1 w) ⟨_, rfl, ?_⟩
  by_cases hi : isI d.1
  rotate_left
  · rw [show decide (isI d.1) = false by simpa using hi, Bool.not_false, br_true]
    exact .inl ⟨hi, trivial, t⟩
  rw [show decide (isI d.1) = true by simpa using hi, Bool.not_true, br_false]
  refine clr (c11 d.2 w) ⟨_, rfl, ?_⟩
  by_cases ht : isT d.2
  rotate_left
  · rw [show decide (isT d.2) = false by simpa using ht, Bool.not_false, br_true]
    exact .inr (.inl ⟨hi, ht, trivial, t⟩)
  rw [show decide (isT d.2) = true by simpa using ht, Bool.not_true, br_false]
  refine cl (c32 t (by omega) d.1) ?_
  rintro _ w1 (⟨hn, _⟩ | ⟨_, rfl, t1⟩)
  · exact absurd hi hn
  refine ⟨_, _, rfl, ?_⟩
  obtain ⟨a1, c1, h1⟩ := t1
  have h1 : Hs W (refL rb a1 c1 (del d.1 l) now ++ L) w1 := h1
  have hle := del_len (k := d.1) (l := l)
  obtain ⟨m, hm⟩ : ∃ m, m = del d.1 l := ⟨_, rfl⟩
  rw [← hm] at h1 hle ⊢
  have hat : atI d m ≤ m.length := tw_len_le _ _
  refine ⟨atI d m + 1, c31_1 h1 (by omega) ?_ (atI d m) 0 _ (Nat.zero_add _) (by omega)⟩
  intro _g
  simp only [rdP_mk, rdI_mk, nn_some, add_mk]
  refine ⟨_, _, _, _, run_b0 w1, ?_⟩
  have h2 := h1.void 30 2
  generalize w1.alloc (.cells #[] 30) = w2 at h2 ⊢
  have h2 : Hs W (slP 30 2 (some ⟨w1.heap.size, 0, none⟩) 0 0 [] :: (refL rb a1 c1 m now ++ L)) w2 := h2
  generalize w1.heap.size = b0 at h2 ⊢
  refine h2.ldC 1 rfl rfl ?_
  refine h2.appHi (ty := 22) E22 0 2 rfl rfl hat (duV_one m) (by omega) (by omega) fun a3 c3 w3 h3 => ?_
  have h3 : Hs W (slP 30 2 a3 (0 + atI d m) c3 ([] ++ (duV m).take (atI d m * 2)) :: (refL rb a1 c1 m now ++ L)) w3 := h3
  rw [List.nil_append, duV_take] at h3
  refine h3.push (ty := 22) E22 0 rfl (news := #[.int .i64 d.1, .int .i64 d.2]) rfl (du_one d) (by omega) (by omega) fun a4 c4 w4 h4 => ?_
  have h4 : Hs W (slP 30 2 a4 (0 + atI d m + 1) c4 (duV (m.take (atI d m)) ++ du d) :: (refL rb a1 c1 m now ++ L)) w4 := h4
  rw [← duV_snoc] at h4
  refine h4.ldC 1 rfl rfl ?_
  refine h4.appLo (ty := 22) E22 0 2 rfl rfl hat (duV_one m) (by omega) (by omega) fun a5 c5 w5 h5 => ?_
  have h5 : Hs W (slP 30 2 a5 (0 + atI d m + 1 + (m.length - atI d m)) c5 (duV (m.take (atI d m) ++ [d]) ++ (duV m).drop (atI d m * 2)) :: (refL rb a1 c1 m now ++ L)) w5 := h5
  have e1 : duV (m.take (atI d m) ++ [d]) ++ (duV m).drop (atI d m * 2) = duV (ins d m) := by
    have : (duV m).drop (atI d m * 2) = duV (m.drop (atI d m)) := flat_drop du_len m _
    rw [this]
    unfold ins duV
    simp
  have e2 : 0 + atI d m + 1 + (m.length - atI d m) = (ins d m).length := by rw [ins_len]; omega
  rw [e1, e2] at h5
  rw [e2]
  refine h5.stc 1 rfl (by simp) fun w6 h6 => .inr (.inr ⟨hi, ht, trivial, a5, c5, ?_⟩)
  have h6 : Hs W (slP 30 2 a5 (ins d m).length c5 (duV (ins d m)) :: pt rb (.cells #[.slice a5 (ins d m).length c5, .int .i64 now] 46 (0, 0)) :: slP 30 2 a1 m.length c1 (duV m) :: L) w6 := h6
  have h7 := h6.erase 2
  exact h7.perm (List.Perm.swap _ _ _)
theorem c33_1 {K0 : Value → Value → World → Prop} {t : Int} (h : Hs W (refL rb a c l now ++ L) w) (hl : l.length ≤ 1000000)
    (hK : K0 (.pointer (some ⟨rb, 0, none⟩)) (.int .i64 (dueN t l : Int)) w) :
    ∀ (i j : Nat) (k : Nat), j + i = dueN t l → i < k → F33_1 K0 k (.pointer (some ⟨rb, 0, none⟩)) (.int .i64 t) (.int .i64 (j : Int)) w := by
  have hat : dueN t l ≤ l.length := tw_len_le _ _
  intro i
  induction i with
  | zero =>
    intro j k hj hk
    obtain ⟨k, rfl⟩ : ∃ j, k = j + 1 := ⟨k - 1, by omega⟩
    show F33_1B _ _ _ _ _ _
    unfold F33_1B
    simp only [rdP_mk, rdI_mk, nn_some, add_mk]
    refine h.ldC 0 rfl rfl ?_
    have hja : j = dueN t l := by omega
    rw [hja, br_dec]
    refine ⟨fun hlt => ?_, fun _ => hK⟩
    obtain ⟨x, hx⟩ : ∃ x, l[dueN t l]? = some x := ⟨l[dueN t l]'(by omega), by simp⟩
    have hn : ¬ x.2 ≤ t := by simpa using tw_at hx
    obtain ⟨ad, had, p1, p2⟩ := du_rd (h.rd 1 rfl) hx
    refine h.ldC 0 rfl rfl ?_
    rw [had]
    refine ixS_to (p := dueN t l) rfl (by omega) ?_
    simp only [add_add]
    refine ldI_c p2 ?_
    rw [br_dec]
    exact ⟨fun h => absurd h hn, fun _ => hK⟩
  | succ i ih =>
    intro j k hj hk
    obtain ⟨k, rfl⟩ : ∃ j, k = j + 1 := ⟨k - 1, by omega⟩
    show F33_1B _ _ _ _ _ _
    unfold F33_1B
    simp only [rdP_mk, rdI_mk, nn_some, add_mk]
    refine h.ldC 0 rfl rfl ?_
    rw [br_dec]
    refine ⟨fun _ => ?_, fun hn => by exfalso; omega⟩
    obtain ⟨x, hx⟩ : ∃ x, l[j]? = some x := ⟨l[j]'(by omega), by simp⟩
    have hn : x.2 ≤ t := by
      have := tw_lt (p := fun x => decide (x.2 ≤ t)) (l := l) (j := j) (by unfold dueN at hj; omega) hx
      simpa using this
    obtain ⟨ad, had, p1, p2⟩ := du_rd (h.rd 1 rfl) hx
    have e3 : IntKind.wrap .i64 ((j : Int) + 1) = ((j + 1 : Nat) : Int) := by rw [wrap_i64 (by omega) (by omega)]; omega
    rw [e3]
    refine h.ldC 0 rfl rfl ?_
    rw [had]
    refine ixS_to (p := j) rfl (by omega) ?_
    simp only [add_add]
    refine ldI_c p2 ?_
    rw [br_dec]
    exact ⟨fun _ => ih (j + 1) k (by omega) (by omega), fun h => absurd hn h⟩
theorem c33 (t : RF W [] L rb now l w) (hl : l.length ≤ 1000000) (n : Int) : Calls Try.prog 33 #[.pointer (some ⟨rb, 0, none⟩), .int .i64 n] w (rt fun v w' =>
    (¬ (isT n ∧ now ≤ n) ∧ v = .tuple #[.slice none 0 0, .int .i64 80] ∧ RF W [] L rb now l w') ∨
    (isT n ∧ now ≤ n ∧ ∃ a c, v = .tuple #[.slice a (l.take (dueN n l)).length c, .int .i64 0] ∧ RF W [slP 30 2 a (l.take (dueN n l)).length c (duV (l.take (dueN n l)))] L rb n (l.drop (dueN n l)) w')) := by
  refine F33_ok ?_
  unfold F33
  simp only [rdP_mk, rdI_mk]
  refine clr (c11 n w) ⟨_, rfl, ?_⟩
  by_cases ht : isT n
  rotate_left
  · rw [show decide (isT n) = false by simpa using ht, Bool.not_false, br_true]
    exact .inl ⟨fun h => ht h.1, trivial, t⟩
  rw [show decide (isT n) = true by simpa using ht, Bool.not_true, br_false]
  obtain ⟨a, c, h⟩ := t
  have h : Hs W (refL rb a c l now ++ L) w := h
  simp only [nn_some, add_mk]
  refine h.ldI 0 rfl rfl ?_
  rw [br_dec]
  refine ⟨fun hlt => .inl ⟨fun h => by omega, trivial, a, c, h⟩, fun hlt => ?_⟩
  unfold F33_2
  simp only [rdP_mk, rdI_mk, nn_some, add_mk]
  refine h.stc 0 rfl (by simp) fun w1 h1 => ?_
  have h1 : Hs W (refL rb a c l n ++ L) w1 := h1
  have hat : dueN n l ≤ l.length := tw_len_le _ _
  refine ⟨dueN n l + 1, c33_1 h1 hl ?_ (dueN n l) 0 _ (Nat.zero_add _) (by omega)⟩
  intro _g
  simp only [rdP_mk, rdI_mk, nn_some, add_mk]
  refine ⟨_, _, _, _, run_b0 w1, ?_⟩
  have h2 := h1.void 30 2
  generalize w1.alloc (.cells #[] 30) = w2 at h2 ⊢
  have h2 : Hs W (slP 30 2 (some ⟨w1.heap.size, 0, none⟩) 0 0 [] :: (refL rb a c l n ++ L)) w2 := h2
  generalize w1.heap.size = b0 at h2 ⊢
  refine h2.ldC 1 rfl rfl ?_
  refine h2.appHi (ty := 22) E22 0 2 rfl rfl hat (duV_one l) (by omega) (by omega) fun a3 c3 w3 h3 => ?_
  have h3 : Hs W (slP 30 2 a3 (0 + dueN n l) c3 ([] ++ (duV l).take (dueN n l * 2)) :: (refL rb a c l n ++ L)) w3 := h3
  rw [List.nil_append, duV_take] at h3
  refine ⟨_, _, _, _, run_b0 w3, ?_⟩
  have h4 := h3.void 30 2
  generalize w3.alloc (.cells #[] 30) = w4 at h4 ⊢
  have h4 : Hs W (slP 30 2 (some ⟨w3.heap.size, 0, none⟩) 0 0 [] :: slP 30 2 a3 (0 + dueN n l) c3 (duV (l.take (dueN n l))) :: (refL rb a c l n ++ L)) w4 := h4
  generalize w3.heap.size = b1 at h4 ⊢
  refine h4.ldC 2 rfl rfl ?_
  refine h4.appLo (ty := 22) E22 0 3 rfl rfl hat (duV_one l) (by omega) (by omega) fun a5 c5 w5 h5 => ?_
  have h5 : Hs W (slP 30 2 a5 (0 + (l.length - dueN n l)) c5 ([] ++ (duV l).drop (dueN n l * 2)) :: slP 30 2 a3 (0 + dueN n l) c3 (duV (l.take (dueN n l))) :: (refL rb a c l n ++ L)) w5 := h5
  have e1 : (duV l).drop (dueN n l * 2) = duV (l.drop (dueN n l)) := flat_drop du_len l _
  have e2 : 0 + (l.length - dueN n l) = (l.drop (dueN n l)).length := by rw [List.length_drop]; omega
  have e3 : 0 + dueN n l = (l.take (dueN n l)).length := by rw [List.length_take]; omega
  rw [List.nil_append, e1, e2, e3] at h5
  rw [e2, e3]
  refine h5.stc 2 rfl (by simp) fun w6 h6 _ => ?_
  simp only [rdC_mk]
  refine .inr ⟨ht, by omega, a3, c3, rfl, a5, c5, ?_⟩
  have h6 : Hs W (slP 30 2 a5 (l.drop (dueN n l)).length c5 (duV (l.drop (dueN n l))) :: slP 30 2 a3 (l.take (dueN n l)).length c3 (duV (l.take (dueN n l))) :: pt rb (.cells #[.slice a5 (l.drop (dueN n l)).length c5, .int .i64 n] 46 (0, 0)) :: slP 30 2 a l.length c (duV l) :: L) w6 := h6
  have h7 := h6.erase 3
  have h7 : Hs W (slP 30 2 a5 (l.drop (dueN n l)).length c5 (duV (l.drop (dueN n l))) :: ([slP 30 2 a3 (l.take (dueN n l)).length c3 (duV (l.take (dueN n l))), pt rb (.cells #[.slice a5 (l.drop (dueN n l)).length c5, .int .i64 n] 46 (0, 0))] ++ L)) w6 := h7
  exact h7.behind
end
end Go.Proofs.Ytdagfdejjfobhaa
