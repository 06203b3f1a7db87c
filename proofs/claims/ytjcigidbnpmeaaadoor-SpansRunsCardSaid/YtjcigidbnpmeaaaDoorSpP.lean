/-
  Plain: words of 64 bits that hold a set of distances. No program here.
-/
import Derived.Test.YtjcigidbnpmeaaaDoorShI
namespace Go.Sp
open Go Go.Sh

/-- the word number i of a set -/
def word : List Nat → Nat → Nat
  | [], _ => 0
  | d :: r, i => if d / 64 = i then word r i ||| 2 ^ (d % 64) else word r i
theorem testBit_word (S : List Nat) (i j : Nat) : Nat.testBit (word S i) j = true ↔ ∃ d ∈ S, d / 64 = i ∧ d % 64 = j := by
  induction S with
  | nil => simp [word]
  | cons d r ih =>
    unfold word
    by_cases h : d / 64 = i
    · rw [if_pos h, Nat.testBit_or, Nat.testBit_two_pow]
      simp only [Bool.or_eq_true, decide_eq_true_eq, ih, List.mem_cons]
      constructor
      · rintro (⟨e, he, h1⟩ | h1)
        · exact ⟨e, .inr he, h1⟩
        · exact ⟨d, .inl rfl, h, h1⟩
      · rintro ⟨e, rfl | he, h1⟩
        · exact .inr h1.2
        · exact .inl ⟨e, he, h1⟩
    · rw [if_neg h, ih]
      simp only [List.mem_cons]
      constructor
      · rintro ⟨e, he, h1⟩; exact ⟨e, .inr he, h1⟩
      · rintro ⟨e, rfl | he, h1⟩
        · exact absurd h1.1 h
        · exact ⟨e, he, h1⟩
theorem word_lt (S : List Nat) (i : Nat) : word S i < 18446744073709551616 := by
  have : word S i < 2 ^ 64 := by
    induction S with
    | nil => simp [word]
    | cons d r ih =>
      unfold word
      split
      · exact Nat.or_lt_two_pow ih (Nat.pow_lt_pow_right (by omega) (Nat.mod_lt _ (by omega)))
      · exact ih
  simpa using this
theorem word_bit (S : List Nat) (d : Nat) : Nat.testBit (word S (d / 64)) (d % 64) = true ↔ d ∈ S := by
  rw [testBit_word]
  constructor
  · rintro ⟨e, he, h1, h2⟩
    have : e = d := by omega
    exact this ▸ he
  · intro h; exact ⟨d, h, rfl, rfl⟩
/-- words of sets with the same members are the same -/
theorem word_congr {S S' : List Nat} {i : Nat} (h : ∀ d, d / 64 = i → (d ∈ S ↔ d ∈ S')) : word S i = word S' i := by
  apply Nat.eq_of_testBit_eq
  intro j
  rw [Bool.eq_iff_iff, testBit_word, testBit_word]
  constructor
  · rintro ⟨d, hd, h1, h2⟩; exact ⟨d, (h d h1).1 hd, h1, h2⟩
  · rintro ⟨d, hd, h1, h2⟩; exact ⟨d, (h d h1).2 hd, h1, h2⟩
theorem word_zero {S : List Nat} {i : Nat} (h : ∀ d ∈ S, d / 64 ≠ i) : word S i = 0 := by
  rw [word_congr (S' := []) (fun d hd => ⟨fun hm => absurd hd (h d hm), fun hm => by simp at hm⟩)]
  rfl

/-! the lowest bit -/
theorem low_split {x j : Nat} (h : Nat.testBit x j = true) (hl : ∀ k, k < j → Nat.testBit x k = false) : x = 2 ^ j * (2 * (x / 2 ^ (j + 1)) + 1) := by
  have h0 : x % 2 ^ j = 0 := by
    apply Nat.eq_of_testBit_eq
    intro k
    rw [Nat.testBit_mod_two_pow, Nat.zero_testBit]
    by_cases hk : k < j
    · simp [hl k hk]
    · simp [hk]
  have h1 : x / 2 ^ j % 2 = 1 := by
    have := Nat.testBit_eq_decide_div_mod_eq (x := x) (i := j)
    rw [h] at this
    simpa using this.symm
  have h2 : x / 2 ^ (j + 1) = x / 2 ^ j / 2 := by rw [Nat.pow_succ, Nat.div_div_eq_div_mul]
  have h3 := Nat.div_add_mod x (2 ^ j)
  rw [h2]
  have h4 : 2 * (x / 2 ^ j / 2) + 1 = x / 2 ^ j := by omega
  rw [h4]
  omega
theorem and_pred {x j : Nat} (h : Nat.testBit x j = true) (hl : ∀ k, k < j → Nat.testBit x k = false) (k : Nat) : Nat.testBit (x &&& (x - 1)) k = (Nat.testBit x k && !decide (k = j)) := by
  have hx := low_split h hl
  generalize x / 2 ^ (j + 1) = q at hx
  have hp : 0 < 2 ^ j := Nat.pow_pos (by omega)
  have h1 : x - 1 = 2 ^ j * (2 * q) + (2 ^ j - 1) := by
    rw [hx, Nat.mul_add, Nat.mul_one]
    omega
  rw [Nat.testBit_and, h1, Nat.testBit_two_pow_mul_add _ (by omega)]
  by_cases hk : k < j
  · rw [hl k hk]; simp
  · rw [if_neg hk]
    by_cases hkj : k = j
    · subst hkj
      simp [Nat.testBit_zero]
    · have hx2 : Nat.testBit x k = Nat.testBit (2 * q + 1) (k - j) := by
        conv => lhs; rw [hx, ← Nat.add_zero (2 ^ j * (2 * q + 1))]
        rw [Nat.testBit_two_pow_mul_add _ hp, if_neg hk]
      rw [hx2]
      obtain ⟨t, ht⟩ : ∃ t, k - j = t + 1 := ⟨k - j - 1, by omega⟩
      rw [ht, Nat.testBit_succ, Nat.testBit_succ]
      have e1 : (2 * q + 1) / 2 = q := by omega
      have e2 : 2 * q / 2 = q := by omega
      rw [e1, e2]
      simp [hkj]
theorem and_neg {x j : Nat} (hlt : x < 2 ^ 64) (h : Nat.testBit x j = true) (hl : ∀ k, k < j → Nat.testBit x k = false) : x &&& (2 ^ 64 - x) = 2 ^ j := by
  have hx := low_split h hl
  have hj : j < 64 := by
    rcases Nat.lt_or_ge j 64 with h' | h'
    · exact h'
    · have := Nat.testBit_lt_two_pow (Nat.lt_of_lt_of_le hlt (Nat.pow_le_pow_right (by omega) h'))
      rw [h] at this
      cases this
  generalize hq : x / 2 ^ (j + 1) = q at hx
  have hp : 0 < 2 ^ j := Nat.pow_pos (by omega)
  have hqlt : q < 2 ^ (63 - j) := by
    rw [← hq, Nat.div_lt_iff_lt_mul (Nat.pow_pos (by omega)), ← Nat.pow_add]
    have : 63 - j + (j + 1) = 64 := by omega
    rw [this]
    exact hlt
  have h64 : 2 ^ 64 = 2 ^ j * (2 * 2 ^ (63 - j)) := by
    rw [← Nat.pow_succ', ← Nat.pow_add]
    congr 1
    omega
  have h1 : 2 ^ 64 - x = 2 ^ j * (2 * (2 ^ (63 - j) - (q + 1)) + 1) := by
    conv => lhs; rw [hx, h64, ← Nat.mul_sub]
    congr 1
    omega
  apply Nat.eq_of_testBit_eq
  intro k
  rw [Nat.testBit_and, h1, Nat.testBit_two_pow]
  conv => lhs; lhs; rw [hx]
  rw [← Nat.add_zero (2 ^ j * (2 * q + 1)), Nat.testBit_two_pow_mul_add _ hp, ← Nat.add_zero (2 ^ j * (2 * (2 ^ (63 - j) - (q + 1)) + 1)), Nat.testBit_two_pow_mul_add _ hp]
  by_cases hk : k < j
  · have : j ≠ k := by omega
    simp [hk, this]
  · rw [if_neg hk, if_neg hk]
    by_cases hkj : k = j
    · subst hkj; simp [Nat.testBit_zero]
    · obtain ⟨t, ht⟩ : ∃ t, k - j = t + 1 := ⟨k - j - 1, by omega⟩
      rw [ht, Nat.testBit_succ, Nat.testBit_succ]
      have e1 : (2 * q + 1) / 2 = q := by omega
      have e2 : (2 * (2 ^ (63 - j) - (q + 1)) + 1) / 2 = 2 ^ (63 - j) - (q + 1) := by omega
      rw [e1, e2, Nat.testBit_two_pow_sub_succ hqlt]
      have : j ≠ k := fun e => hkj e.symm
      simp only [this, decide_false]
      cases Nat.testBit q t <;> simp

/-! the program's operations on such words -/
theorem toNat_ofInt (n : Nat) (h : n < 18446744073709551616) : (BitVec.ofInt 64 (n : Int)).toNat = n := by
  rw [BitVec.toNat_ofInt]
  have : ((n : Int) % ((2 ^ 64 : Nat) : Int)).toNat = n % 2 ^ 64 := by
    simp only [Nat.reducePow]; omega
  rw [this]
  exact Nat.mod_eq_of_lt (by simpa using h)
theorem bit_and {n m : Nat} (hn : n < 18446744073709551616) (hm : m < 18446744073709551616) : bitI .and .u64 (n : Int) (m : Int) = ((n &&& m : Nat) : Int) := by
  show IntKind.wrap .u64 (((BitVec.ofInt 64 (n : Int) &&& BitVec.ofInt 64 (m : Int) : BitVec 64).toNat : Nat) : Int) = _
  rw [BitVec.toNat_and, toNat_ofInt n hn, toNat_ofInt m hm]
  refine wrap_u64 (by omega) ?_
  have : n &&& m ≤ n := Nat.and_le_left
  omega
theorem bit_or {n m : Nat} (hn : n < 18446744073709551616) (hm : m < 18446744073709551616) : bitI .or .u64 (n : Int) (m : Int) = ((n ||| m : Nat) : Int) := by
  show IntKind.wrap .u64 (((BitVec.ofInt 64 (n : Int) ||| BitVec.ofInt 64 (m : Int) : BitVec 64).toNat : Nat) : Int) = _
  rw [BitVec.toNat_or, toNat_ofInt n hn, toNat_ofInt m hm]
  refine wrap_u64 (by omega) ?_
  have : n ||| m < 2 ^ 64 := Nat.or_lt_two_pow (by simpa using hn) (by simpa using hm)
  omega
theorem bit_andNot {n m : Nat} (hn : n < 18446744073709551616) (hm : m < 18446744073709551616) : ∃ r : Nat, bitI .andNot .u64 (n : Int) (m : Int) = (r : Int) ∧ r < 18446744073709551616 ∧ ∀ j, Nat.testBit r j = (Nat.testBit n j && !Nat.testBit m j) := by
  refine ⟨(BitVec.ofInt 64 (n : Int) &&& ~~~(BitVec.ofInt 64 (m : Int))).toNat, ?_, ?_, fun j => ?_⟩
  · refine wrap_u64 (n := (((BitVec.ofInt 64 (n : Int) &&& ~~~(BitVec.ofInt 64 (m : Int)) : BitVec 64).toNat : Nat) : Int)) (by omega) ?_
    have := (BitVec.ofInt 64 (n : Int) &&& ~~~(BitVec.ofInt 64 (m : Int))).isLt
    omega
  · have := (BitVec.ofInt 64 (n : Int) &&& ~~~(BitVec.ofInt 64 (m : Int))).isLt
    omega
  · rw [BitVec.toNat_and, BitVec.toNat_not, toNat_ofInt n hn, toNat_ofInt m hm, Nat.testBit_and]
    have : 2 ^ 64 - 1 - m = 2 ^ 64 - (m + 1) := by omega
    rw [this, Nat.testBit_two_pow_sub_succ (by simpa using hm)]
    by_cases hj : j < 64
    · simp [hj]
    · have : Nat.testBit n j = false := Nat.testBit_lt_two_pow (Nat.lt_of_lt_of_le (by simpa using hn) (Nat.pow_le_pow_right (by omega) (by omega : 64 ≤ j)))
      simp [this]
theorem and_pow_ne (x j : Nat) : x &&& 2 ^ j ≠ 0 ↔ Nat.testBit x j = true := by
  constructor
  · intro h
    cases hb : Nat.testBit x j with
    | true => rfl
    | false =>
      exfalso
      apply h
      apply Nat.eq_of_testBit_eq
      intro k
      rw [Nat.testBit_and, Nat.testBit_two_pow, Nat.zero_testBit]
      by_cases hk : j = k
      · subst hk; simp [hb]
      · simp [hk]
  · intro h e
    have := congrArg (Nat.testBit · j) e
    simp [Nat.testBit_and, h] at this
end Go.Sp
namespace Go.Sp
/-! rising lists -/
def ins (d : Nat) : List Nat → List Nat
  | [] => [d]
  | x :: r => if d < x then d :: x :: r else if d = x then x :: r else x :: ins d r
theorem mem_ins {d e : Nat} {S : List Nat} : e ∈ ins d S ↔ e = d ∨ e ∈ S := by
  induction S with
  | nil => simp [ins]
  | cons x r ih =>
    unfold ins
    split
    · simp
    · split
      · rename_i h; subst h; simp
      · simp only [List.mem_cons, ih]
        constructor
        · rintro (h | h | h)
          · exact .inr (.inl h)
          · exact .inl h
          · exact .inr (.inr h)
        · rintro (h | h | h)
          · exact .inr (.inl h)
          · exact .inl h
          · exact .inr (.inr h)
theorem ins_rising {d : Nat} {S : List Nat} (h : S.Pairwise (· < ·)) : (ins d S).Pairwise (· < ·) := by
  induction S with
  | nil => simp [ins]
  | cons x r ih =>
    rw [List.pairwise_cons] at h
    unfold ins
    split
    · rename_i hd
      rw [List.pairwise_cons]
      refine ⟨fun y hy => ?_, by rw [List.pairwise_cons]; exact h⟩
      rcases List.mem_cons.1 hy with rfl | hy
      · exact hd
      · have := h.1 y hy; omega
    · split
      · rw [List.pairwise_cons]; exact h
      · rw [List.pairwise_cons]
        refine ⟨fun y hy => ?_, ih h.2⟩
        rcases mem_ins.1 hy with rfl | hy
        · omega
        · exact h.1 y hy
theorem ins_length {d : Nat} {S : List Nat} (h : d ∉ S) : (ins d S).length = S.length + 1 := by
  induction S with
  | nil => rfl
  | cons x r ih =>
    simp only [List.mem_cons, not_or] at h
    unfold ins
    split
    · simp
    · rw [if_neg h.1]
      simp [ih h.2]
theorem ins_same {d : Nat} {S : List Nat} (hS : S.Pairwise (· < ·)) (h : d ∈ S) : ins d S = S := by
  induction S with
  | nil => simp at h
  | cons x r ih =>
    rw [List.pairwise_cons] at hS
    unfold ins
    by_cases hd : d = x
    · subst hd; simp
    · have hm : d ∈ r := (List.mem_cons.1 h).resolve_left hd
      have := hS.1 d hm
      rw [if_neg (by omega), if_neg hd, ih hS.2 hm]
theorem rising_ext {S S' : List Nat} (h : S.Pairwise (· < ·)) (h' : S'.Pairwise (· < ·)) (he : ∀ d, d ∈ S ↔ d ∈ S') : S = S' := by
  induction S generalizing S' with
  | nil =>
    cases S' with
    | nil => rfl
    | cons x r => exact absurd ((he x).2 List.mem_cons_self) (by simp)
  | cons x r ih =>
    cases S' with
    | nil => exact absurd ((he x).1 List.mem_cons_self) (by simp)
    | cons y s =>
      rw [List.pairwise_cons] at h h'
      have hxy : x = y := by
        rcases List.mem_cons.1 ((he x).1 List.mem_cons_self) with h1 | h1
        · exact h1
        · rcases List.mem_cons.1 ((he y).2 List.mem_cons_self) with h2 | h2
          · exact h2.symm
          · have := h'.1 x h1; have := h.1 y h2; omega
      subst hxy
      congr 1
      refine ih h.2 h'.2 fun d => ?_
      have := he d
      simp only [List.mem_cons] at this
      constructor
      · intro hd
        rcases this.1 (.inr hd) with rfl | h3
        · have := h.1 d hd; omega
        · exact h3
      · intro hd
        rcases this.2 (.inr hd) with rfl | h3
        · have := h'.1 d hd; omega
        · exact h3
/-- a rising list within bounds is not long -/
theorem rising_length {S : List Nat} (h : S.Pairwise (· < ·)) {a b : Nat} (hb : ∀ d ∈ S, a ≤ d ∧ d < b) : S.length ≤ b - a := by
  induction S generalizing a with
  | nil => simp
  | cons x r ih =>
    rw [List.pairwise_cons] at h
    have h1 := hb x List.mem_cons_self
    have := ih h.2 (a := x + 1) (fun d hd => ⟨h.1 d hd, (hb d (List.mem_cons_of_mem _ hd)).2⟩)
    simp only [List.length_cons]
    omega
theorem word_ins (S : List Nat) (d : Nat) (i : Nat) : word (ins d S) i = if i = d / 64 then word S i ||| 2 ^ (d % 64) else word S i := by
  apply Nat.eq_of_testBit_eq
  intro j
  split
  · rename_i hi
    subst hi
    rw [Bool.eq_iff_iff, Nat.testBit_or, Nat.testBit_two_pow]
    simp only [Bool.or_eq_true, decide_eq_true_eq, testBit_word, mem_ins]
    constructor
    · rintro ⟨e, rfl | he, h1, h2⟩
      · exact .inr h2
      · exact .inl ⟨e, he, h1, h2⟩
    · rintro (⟨e, he, h1, h2⟩ | h)
      · exact ⟨e, .inr he, h1, h2⟩
      · exact ⟨d, .inl rfl, rfl, h⟩
  · rename_i hi
    rw [Bool.eq_iff_iff, testBit_word, testBit_word]
    constructor
    · rintro ⟨e, he, h1, h2⟩
      rcases mem_ins.1 he with rfl | he
      · exact absurd h1.symm hi
      · exact ⟨e, he, h1, h2⟩
    · rintro ⟨e, he, h1, h2⟩
      exact ⟨e, mem_ins.2 (.inr he), h1, h2⟩
def del (d : Nat) (S : List Nat) : List Nat := S.filter (· != d)
theorem mem_del {d e : Nat} {S : List Nat} : e ∈ del d S ↔ e ∈ S ∧ e ≠ d := by simp [del]
theorem del_rising {d : Nat} {S : List Nat} (h : S.Pairwise (· < ·)) : (del d S).Pairwise (· < ·) := h.sublist List.filter_sublist
theorem del_length {d : Nat} {S : List Nat} (hS : S.Pairwise (· < ·)) (h : d ∈ S) : (del d S).length + 1 = S.length := by
  induction S with
  | nil => simp at h
  | cons x r ih =>
    rw [List.pairwise_cons] at hS
    unfold del
    by_cases hd : x = d
    · subst hd
      have : r.filter (· != x) = r := by
        rw [List.filter_eq_self]
        intro a ha
        have := hS.1 a ha
        simp; omega
      simp [this]
    · have hm : d ∈ r := (List.mem_cons.1 h).resolve_left (fun e => hd e.symm)
      have := ih hS.2 hm
      unfold del at this
      simp [hd, this]
theorem word_del (S : List Nat) (d : Nat) (i : Nat) {r : Nat} (hr : ∀ j, Nat.testBit r j = (Nat.testBit (word S (d / 64)) j && !Nat.testBit (2 ^ (d % 64)) j)) : word (del d S) i = if i = d / 64 then r else word S i := by
  apply Nat.eq_of_testBit_eq
  intro j
  split
  · rename_i hi
    subst hi
    rw [Bool.eq_iff_iff, hr, Nat.testBit_two_pow]
    simp only [Bool.and_eq_true, Bool.not_eq_true', decide_eq_false_iff_not, testBit_word, mem_del]
    constructor
    · rintro ⟨e, ⟨he, hne⟩, h1, h2⟩
      exact ⟨⟨e, he, h1, h2⟩, by omega⟩
    · rintro ⟨⟨e, he, h1, h2⟩, hne⟩
      exact ⟨e, ⟨he, by omega⟩, h1, h2⟩
  · rename_i hi
    rw [Bool.eq_iff_iff, testBit_word, testBit_word]
    constructor
    · rintro ⟨e, he, h1, h2⟩
      exact ⟨e, (mem_del.1 he).1, h1, h2⟩
    · rintro ⟨e, he, h1, h2⟩
      exact ⟨e, mem_del.2 ⟨he, by intro h; subst h; exact hi h1.symm⟩, h1, h2⟩
end Go.Sp
