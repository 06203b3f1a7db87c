/- Own text: part of the shallow reading of the code and of the contracts that are proved over it. -/
import Derived.Test.YtjcigidbnpmeaaaDoorSpB
namespace Go.Proofs.YtjcigidbnpmeaaaDoor
open Go Go.Sh Go.Sp

theorem pow_lt64 (d : Nat) : (2 : Nat) ^ (d % 64) < 18446744073709551616 := by
  have : (2 : Nat) ^ (d % 64) < 2 ^ 64 := Nat.pow_lt_pow_right (by omega) (Nat.mod_lt _ (by omega))
  simpa using this
section
variable {w : World} {b m d : Nat} {cs : Array Value} {T : TypeId} {S : List Nat}
theorem c38_old (h : Fld w b m cs T S) (hd : d < 9223372036854775808) (hm : d ∈ S) :
    Calls Tryd.prog 38 #[.pointer (some ⟨b, 0, none⟩), .int .i64 (d : Int)] w (rt (KR (.bool false) w.drew)) := by
  refine F38_ok ?_
  unfold F38
  simp only [rdP_mk, rdI_mk, nn_some]
  refine clr (c47 h hd) ⟨_, rfl, ?_⟩
  simp only [hm, decide_true, br_true]
  exact KR.mk _ _
theorem c38_new (h : Fld w b m cs T S) (hd : d < 9223372036854775808) (hm : d ∉ S) (hl : S.length < 4611686018427387904) :
    Calls Tryd.prog 38 #[.pointer (some ⟨b, 0, none⟩), .int .i64 (d : Int)] w (rt fun v w' => v = .bool true ∧
      Fld w' b m (cs.setIfInBounds 1 (.int .i64 ((ins d S).length : Int))) T (ins d S) ∧ Fr (fun k => k = b ∨ k = m) w w') := by
  refine F38_ok ?_
  unfold F38
  simp only [rdP_mk, rdI_mk, nn_some]
  refine clr (c47 h hd) ⟨_, rfl, ?_⟩
  simp only [hm, decide_false, br_false]
  refine clr (c52 _ d hd _) ⟨_, _, rfl, ?_⟩
  have hne := h.ne
  obtain ⟨h1, h2, h3, f, h4, h5⟩ := h.drew.drew
  rw [add_mk, add_mk]
  refine ldM_at h1 h2 ⟨_, look_int u3 z78 h4, ?_⟩
  rw [h5, bit_or (word_lt S _) (pow_lt64 d)]
  obtain ⟨o, ho, h6⟩ := store_int (v := ((word S (d / 64) ||| 2 ^ (d % 64) : Nat) : Int)) (k := ((d / 64 : Nat) : Int)) u63 u3 h4
  refine ⟨_, ho, ?_⟩
  have g1 : (sb w.drew.drew m o).heap[b]? = some (.cells cs T (0, 0)) := by rw [sb_other hne.symm]; exact h1
  have hsz : 1 < cs.size := (Array.getElem?_eq_some_iff.1 h3).1
  refine ldI_at g1 h3 (stc_at g1 (by simpa using hsz) ?_)
  have hw : IntKind.wrap .i64 ((S.length : Int) + 1) = ((ins d S).length : Int) := by rw [ins_length hm, wrap_i64 (by omega) (by omega)]; simp
  rw [hw]
  refine ⟨trivial, ⟨sb_same g1, ?_, ?_, _, h6.of_blk (sb_other hne), fun i => ?_⟩, ?_⟩
  · rw [Array.getElem?_setIfInBounds_ne (by omega)]; exact h2
  · simp [hsz]
  · unfold updF
    rw [word_ins]
    by_cases hi : i = d / 64
    · subst hi; simp
    · rw [if_neg (by omega), if_neg hi]; exact h5 i
  · exact ((Fr.refl w).drew.drew.sb (fun _ => .inr rfl)).sb (fun _ => .inl rfl)
theorem c49_old (h : Fld w b m cs T S) (hd : d < 9223372036854775808) (hm : d ∉ S) :
    Calls Tryd.prog 49 #[.pointer (some ⟨b, 0, none⟩), .int .i64 (d : Int)] w (rt (KR (.bool false) w.drew)) := by
  refine F49_ok ?_
  unfold F49
  simp only [rdP_mk, rdI_mk, nn_some]
  refine clr (c47 h hd) ⟨_, rfl, ?_⟩
  simp only [hm, decide_false, Bool.not_false, br_true]
  exact KR.mk _ _
theorem c49_new (h : Fld w b m cs T S) (hd : d < 9223372036854775808) (hm : d ∈ S) (hS : S.Pairwise (· < ·)) (hl : S.length < 4611686018427387904) :
    Calls Tryd.prog 49 #[.pointer (some ⟨b, 0, none⟩), .int .i64 (d : Int)] w (rt fun v w' => v = .bool true ∧
      Fld w' b m (cs.setIfInBounds 1 (.int .i64 ((del d S).length : Int))) T (del d S) ∧ Fr (fun k => k = b ∨ k = m) w w') := by
  refine F49_ok ?_
  unfold F49
  simp only [rdP_mk, rdI_mk, nn_some]
  refine clr (c47 h hd) ⟨_, rfl, ?_⟩
  simp only [hm, decide_true, Bool.not_true, br_false]
  refine clr (c52 _ d hd _) ⟨_, _, rfl, ?_⟩
  have hne := h.ne
  obtain ⟨h1, h2, h3, f, h4, h5⟩ := h.drew.drew
  simp only [add_mk]
  refine ldM_at h1 h2 ⟨_, look_int u3 z78 h4, ?_⟩
  obtain ⟨r, hr, hrl, hrb⟩ := bit_andNot (word_lt S (d / 64)) (pow_lt64 d)
  rw [h5, hr]
  obtain ⟨o, ho, h6⟩ := store_int (v := (r : Int)) (k := ((d / 64 : Nat) : Int)) u63 u3 h4
  refine ⟨_, ho, ?_⟩
  have g1 : (sb w.drew.drew m o).heap[b]? = some (.cells cs T (0, 0)) := by rw [sb_other hne.symm]; exact h1
  have hsz : 1 < cs.size := (Array.getElem?_eq_some_iff.1 h3).1
  have hlen := del_length hS hm
  have hw : IntKind.wrap .i64 ((S.length : Int) - 1) = ((del d S).length : Int) := by rw [wrap_i64 (by omega) (by omega)]; omega
  have f1 : Fr (fun k => k = b ∨ k = m) w (sb w.drew.drew m o) := (Fr.refl w).drew.drew.sb (fun _ => .inr rfl)
  have hv : (updF f ((d / 64 : Nat) : Int) (some (r : Int)) ((d / 64 : Nat) : Int)).getD 0 = (r : Int) := by simp [updF]
  refine ldM_at g1 h2 ⟨_, look_int u3 z78 h6, ?_⟩
  rw [hv, br_iff]
  refine ⟨fun h0 => ?_, fun _ => ?_⟩
  · refine ldM_at g1 h2 ?_
    obtain ⟨o', ho', h7⟩ := delete_int (ats := #[63, 3]) (ty := 0) (k := ((d / 64 : Nat) : Int)) rfl u63 u3 h6
    refine ⟨_, ho', ?_⟩
    have g2 : (sb (sb w.drew.drew m o) m o').heap[b]? = some (.cells cs T (0, 0)) := by rw [sb_other hne.symm]; exact g1
    unfold F49_1
    simp only [rdP_mk, nn_some, add_mk, rdB_mk]
    refine ldI_at g2 h3 (stc_at g2 (by simpa using hsz) fun _ => ?_)
    rw [hw]
    refine ⟨trivial, ⟨sb_same g2, ?_, ?_, _, h7.of_blk (sb_other hne), fun i => ?_⟩, ?_⟩
    · rw [Array.getElem?_setIfInBounds_ne (by omega)]; exact h2
    · simp [hsz]
    · have hr0 : r = 0 := by simpa using h0
      rw [word_del S d i hrb]
      unfold updF
      by_cases hi : i = d / 64
      · subst hi; simp [hr0]
      · rw [if_neg (by omega), if_neg (by omega), if_neg hi]; exact h5 i
    · exact (f1.sb (fun _ => .inr rfl)).sb (fun _ => .inl rfl)
  · unfold F49_1
    simp only [rdP_mk, nn_some, add_mk, rdB_mk]
    refine ldI_at g1 h3 (stc_at g1 (by simpa using hsz) fun _ => ?_)
    rw [hw]
    refine ⟨trivial, ⟨sb_same g1, ?_, ?_, _, h6.of_blk (sb_other hne), fun i => ?_⟩, ?_⟩
    · rw [Array.getElem?_setIfInBounds_ne (by omega)]; exact h2
    · simp [hsz]
    · rw [word_del S d i hrb]
      unfold updF
      by_cases hi : i = d / 64
      · subst hi; simp
      · rw [if_neg (by omega), if_neg hi]; exact h5 i
    · exact f1.sb (fun _ => .inl rfl)
end

/-! each: the closure is called at each distance, rising -/
theorem word_low {d : Nat} {R : List Nat} {i : Nat} (hS : (d :: R).Pairwise (· < ·)) (hi : ∀ e ∈ d :: R, e / 64 = i) :
    Nat.testBit (word (d :: R) i) (d % 64) = true ∧ (∀ k, k < d % 64 → Nat.testBit (word (d :: R) i) k = false) ∧ word (d :: R) i &&& (word (d :: R) i - 1) = word R i := by
  rw [List.pairwise_cons] at hS
  have hd := hi d List.mem_cons_self
  have h1 : Nat.testBit (word (d :: R) i) (d % 64) = true := (testBit_word _ _ _).2 ⟨d, List.mem_cons_self, hd, rfl⟩
  have h2 : ∀ k, k < d % 64 → Nat.testBit (word (d :: R) i) k = false := by
    intro k hk
    cases hb : Nat.testBit (word (d :: R) i) k with
    | false => rfl
    | true =>
      obtain ⟨e, he, h3, h4⟩ := (testBit_word _ _ _).1 hb
      rcases List.mem_cons.1 he with rfl | he
      · omega
      · have := hS.1 e he; omega
  refine ⟨h1, h2, ?_⟩
  apply Nat.eq_of_testBit_eq
  intro k
  rw [and_pred h1 h2, Bool.eq_iff_iff]
  simp only [Bool.and_eq_true, Bool.not_eq_true', decide_eq_false_iff_not, testBit_word, List.mem_cons]
  constructor
  · rintro ⟨⟨e, rfl | he, h3, h4⟩, hk⟩
    · exact absurd h4.symm hk
    · exact ⟨e, he, h3, h4⟩
  · rintro ⟨e, he, h3, h4⟩
    refine ⟨⟨e, .inr he, h3, h4⟩, fun hk => ?_⟩
    have := hS.1 e he
    have := hi e (List.mem_cons_of_mem _ he)
    omega

section
variable {b m : Nat} {S : List Nat} {fv : Value} {I : List Nat → World → Prop}
/-- what the loop asks of the closure -/
structure Each (b m : Nat) (S : List Nat) (fv : Value) (I : List Nat → World → Prop) : Prop where
  rising : S.Pairwise (· < ·)
  bound : ∀ d ∈ S, d < 65536
  tab : ∀ pre w, I pre w → TB w
  fld : ∀ pre w, I pre w → ∃ cs T f, w.heap[b]? = some (.cells cs T (0, 0)) ∧ cs[0]? = some (.map (some m)) ∧ MapI .i64 .u64 w m f ∧ ∀ i : Nat, (f (i : Int)).getD 0 = ((word S i : Nat) : Int)
  step : ∀ (pre : List Nat) (d : Nat) (rest : List Nat) (w : World), S = pre ++ d :: rest → I pre w → callV Tryd.prog fv #[.int .i64 (d : Int)] w (.tup []) fun r w' => r = .tuple #[] ∧ I (pre ++ [d]) w'
theorem each_in (E : Each b m S fv I) {K : Value → Value → Value → Value → World → Prop} {p : Option Addr} {i : Nat} : ∀ (R pre post : List Nat) (w : World) (k : Nat), S = pre ++ R ++ post → (∀ d ∈ R, d / 64 = i) → I pre w → R.length < k →
    (∀ w', I (pre ++ R) w' → K (.pointer p) fv (.int .i64 (post.length : Int)) (.int .i64 (i : Int)) w') →
    F36_1 K k (.pointer p) fv (.int .i64 ((R.length + post.length : Nat) : Int)) (.int .i64 (i : Int)) (.int .u64 ((word R i : Nat) : Int)) w := by
  intro R
  induction R with
  | nil =>
    intro pre post w k hS _ hI hk hK
    obtain ⟨k, rfl⟩ : ∃ j, k = j + 1 := ⟨k - 1, by omega⟩
    show F36_1B _ _ _ _ _ _ _ _
    unfold F36_1B
    simp only [rdP_mk, rdI_mk, word]
    have : (((0 : Nat) : Int) != 0) = false := by decide
    rw [this, br_false]
    simpa using hK w (by simpa using hI)
  | cons d R ih =>
    intro pre post w k hS hi hI hk hK
    obtain ⟨k, rfl⟩ : ∃ j, k = j + 1 := ⟨k - 1, by omega⟩
    have hri : (d :: R).Pairwise (· < ·) := (List.pairwise_append.1 (List.pairwise_append.1 (by rw [← hS]; exact E.rising : (pre ++ d :: R ++ post).Pairwise (· < ·))).1).2.1
    obtain ⟨l1, l2, l3⟩ := word_low hri hi
    have hdS : d ∈ S := by rw [hS]; simp
    have hdb := E.bound d hdS
    have hd := hi d List.mem_cons_self
    have hlen : S.length ≤ 65536 := by have := rising_length E.rising (a := 0) (b := 65536) (fun d hd => ⟨Nat.zero_le _, E.bound d hd⟩); omega
    have hlen2 : (d :: R).length + post.length ≤ 65536 := by rw [hS] at hlen; simp at hlen ⊢; omega
    show F36_1B _ _ _ _ _ _ _ _
    unfold F36_1B
    simp only [rdP_mk, rdI_mk]
    have hwn : word (d :: R) i ≠ 0 := by intro e; rw [e] at l1; simp at l1
    have hne : (((word (d :: R) i : Nat) : Int) != 0) = true := by simp; omega
    rw [hne, br_true]
    refine clr (c51 (word_lt _ _) l1 l2 (E.tab pre w hI)) ⟨_, rfl, ?_⟩
    have e1 : IntKind.wrap .i64 (IntKind.wrap .i64 (64 * (i : Int)) + ((d % 64 : Nat) : Int)) = (d : Int) := by
      rw [wrap_i64 (n := 64 * (i : Int)) (by omega) (by omega), wrap_i64 (by omega) (by omega)]; omega
    rw [e1]
    refine callV_mono ?_ (E.step pre d (R ++ post) w (by rw [hS]; simp) hI)
    rintro r w' ⟨rfl, hI'⟩
    refine ⟨rfl, ?_⟩
    have e2 : IntKind.wrap .i64 ((((d :: R).length + post.length : Nat) : Int) - 1) = ((R.length + post.length : Nat) : Int) := by
      simp only [List.length_cons] at hlen2 ⊢
      rw [wrap_i64 (by omega) (by omega)]; omega
    have e3 : IntKind.wrap .u64 (((word (d :: R) i : Nat) : Int) - 1) = ((word (d :: R) i - 1 : Nat) : Int) := by
      have := word_lt (d :: R) i
      rw [wrap_u64 (by omega) (by omega)]; omega
    rw [e2, e3, bit_and (word_lt _ _) (by have := word_lt (d :: R) i; omega), l3]
    refine ih (pre ++ [d]) post w' k (by rw [hS]; simp) (fun e he => hi e (List.mem_cons_of_mem _ he)) hI' (by simp at hk; omega) fun w'' h => hK w'' (by simpa using h)
theorem takeDrop (i : Nat) : ∀ (l : List Nat), l.Pairwise (· < ·) → (∀ d ∈ l, i ≤ d / 64) → ∃ R post, l = R ++ post ∧ (∀ d ∈ R, d / 64 = i) ∧ (∀ d ∈ post, i + 1 ≤ d / 64)
  | [], _, _ => ⟨[], [], rfl, by simp, by simp⟩
  | d :: l, h, hi => by
    rw [List.pairwise_cons] at h
    by_cases hd : d / 64 = i
    · obtain ⟨R, post, e, h1, h2⟩ := takeDrop i l h.2 (fun e he => hi e (List.mem_cons_of_mem _ he))
      exact ⟨d :: R, post, by rw [e]; rfl, fun e he => by rcases List.mem_cons.1 he with rfl | he; exact hd; exact h1 e he, h2⟩
    · refine ⟨[], d :: l, rfl, by simp, fun e he => ?_⟩
      have h1 := hi d List.mem_cons_self
      rcases List.mem_cons.1 he with rfl | he
      · omega
      · have := h.1 e he; omega
theorem each_out (E : Each b m S fv I) {K : World → Prop} : ∀ (n : Nat) (rest pre : List Nat) (i : Nat) (w : World) (k : Nat), S = pre ++ rest → (∀ d ∈ pre, d / 64 < i) → (∀ d ∈ rest, i ≤ d / 64) → i + n = 1025 → I pre w → n < k →
    (∀ w', I S w' → K w') → F36_2 K k (.pointer (some ⟨b, 0, none⟩)) fv (.int .i64 (rest.length : Int)) (.int .i64 (i : Int)) w := by
  intro n
  induction n with
  | zero =>
    intro rest pre i w k hS hpre hi hn hI hk hK
    obtain ⟨k, rfl⟩ : ∃ j, k = j + 1 := ⟨k - 1, by omega⟩
    have : rest = [] := by
      cases rest with
      | nil => rfl
      | cons d r =>
        exfalso
        have h1 := hi d List.mem_cons_self
        have h2 := E.bound d (by rw [hS]; simp)
        omega
    subst this
    show F36_2B _ _ _ _ _ _ _
    unfold F36_2B
    simp only [rdP_mk, rdI_mk, br_dec]
    refine ⟨fun h => by simp at h, fun _ => hK w ?_⟩
    rw [hS]; simpa using hI
  | succ n ih =>
    intro rest pre i w k hS hpre hi hn hI hk hK
    obtain ⟨k, rfl⟩ : ∃ j, k = j + 1 := ⟨k - 1, by omega⟩
    have hlen : S.length ≤ 65536 := by have := rising_length E.rising (a := 0) (b := 65536) (fun d hd => ⟨Nat.zero_le _, E.bound d hd⟩); omega
    show F36_2B _ _ _ _ _ _ _
    unfold F36_2B
    simp only [rdP_mk, rdI_mk, br_dec]
    refine ⟨fun h0 => ?_, fun h0 => ?_⟩
    · obtain ⟨R, post, hRp, hR, hpost⟩ := takeDrop i rest (List.pairwise_append.1 (by rw [← hS]; exact E.rising : (pre ++ rest).Pairwise (· < ·))).2.1 hi
      obtain ⟨cs, T, f, h1, h2, h3, h4⟩ := E.fld pre w hI
      refine nn_some.2 ?_
      rw [add_mk]
      refine ldM_at h1 h2 ⟨_, look_int u3 z78 h3, R.length + 1, ?_⟩
      have hword : word S i = word R i := word_congr fun d hd => by
        rw [hS, hRp]
        simp only [List.mem_append]
        constructor
        · rintro (h | h | h)
          · have := hpre d h; omega
          · exact h
          · have := hpost d h; omega
        · intro h; exact .inr (.inl h)
      rw [h4, hword]
      have hl2 : rest.length = R.length + post.length := by rw [hRp]; simp
      rw [hl2]
      refine each_in E R pre post w _ (by rw [hS, hRp]; simp) hR hI (by omega) fun w' hI' _g => ?_
      simp only [rdP_mk, rdI_mk]
      have hi1 : i ≤ 1025 := by omega
      rw [wrap_i64 (by omega) (by omega)]
      exact ih post (pre ++ R) (i + 1) w' k (by rw [hS, hRp]; simp) (fun d hd => by rcases List.mem_append.1 hd with h | h; have := hpre d h; omega; have := hR d h; omega) hpost (by omega) hI' (by omega) hK
    · have : rest = [] := by
        cases rest with
        | nil => rfl
        | cons d r => simp at h0
      subst this
      refine hK w ?_
      rw [hS]; simpa using hI
theorem c36 (E : Each b m S fv I) {w : World} {cs : Array Value} {T : TypeId} (hb : w.heap[b]? = some (.cells cs T (0, 0))) (hm : cs[1]? = some (.int .i64 (S.length : Int))) (hI : I [] w) :
    Calls Tryd.prog 36 #[.pointer (some ⟨b, 0, none⟩), fv] w (rt fun v w' => v = .tuple #[] ∧ I S w') := by
  refine F36_ok ?_
  unfold F36
  simp only [rdP_mk, nn_some, add_mk]
  refine ldI_at hb hm ⟨1026, ?_⟩
  exact each_out E 1025 S [] 0 w 1026 (by simp) (by simp) (fun _ _ => Nat.zero_le _) (by omega) hI (by omega) fun w' h _ => ⟨trivial, h⟩
end
end Go.Proofs.YtjcigidbnpmeaaaDoor
