/- Own text: part of the shallow reading of the code and of the contracts that are proved over it. -/
import Derived.Test.YtccffjlahpfdaaaDoorIbF
import Derived.Test.YtccffjlahpfdaaaDoorShI
import Derived.Test.YtccffjlahpfdaaaDoorShK
import Derived.Test.YtccffjlahpfdaaaDoorShL
/-
  Plain: words of 64 bits that hold a set of distances. No program here.
-/
namespace Go.Sp
open Go Go.Sh

/-- the word number i of a set -/
def word : List Nat → Nat → Nat
  | [], _ => 0
  | d :: r, i => if d / 64 = i then word r i ||| 2 ^ (d % 64) else word r i
theorem testBit_word (S : List Nat) (i j : Nat) : Nat.testBit (word S i) j = true ↔ ∃ d ∈ S, d / 64 = i ∧ d % 64 = j := by
  induction S with
  | nil => simp [word]
  | cons d r ih =>
    unfold word
    by_cases h : d / 64 = i
    · rw [if_pos h, Nat.testBit_or, Nat.testBit_two_pow]
      simp only [Bool.or_eq_true, decide_eq_true_eq, ih, List.mem_cons]
      constructor
      · rintro (⟨e, he, h1⟩ | h1)
        · exact ⟨e, .inr he, h1⟩
        · exact ⟨d, .inl rfl, h, h1⟩
      · rintro ⟨e, rfl | he, h1⟩
        · exact .inr h1.2
        · exact .inl ⟨e, he, h1⟩
    · rw [if_neg h, ih]
      simp only [List.mem_cons]
      constructor
      · rintro ⟨e, he, h1⟩; exact ⟨e, .inr he, h1⟩
      · rintro ⟨e, rfl | he, h1⟩
        · exact absurd h1.1 h
        · exact ⟨e, he, h1⟩
theorem word_lt (S : List Nat) (i : Nat) : word S i < 18446744073709551616 := by
  have : word S i < 2 ^ 64 := by
    induction S with
    | nil => simp [word]
    | cons d r ih =>
      unfold word
      split
      · exact Nat.or_lt_two_pow ih (Nat.pow_lt_pow_right (by omega) (Nat.mod_lt _ (by omega)))
      · exact ih
  simpa using this
theorem word_bit (S : List Nat) (d : Nat) : Nat.testBit (word S (d / 64)) (d % 64) = true ↔ d ∈ S := by
  rw [testBit_word]
  constructor
  · rintro ⟨e, he, h1, h2⟩
    have : e = d := by omega
    exact this ▸ he
  · intro h; exact ⟨d, h, rfl, rfl⟩
/-- words of sets with the same members are the same -/
theorem word_congr {S S' : List Nat} {i : Nat} (h : ∀ d, d / 64 = i → (d ∈ S ↔ d ∈ S')) : word S i = word S' i := by
  apply Nat.eq_of_testBit_eq
  intro j
  rw [Bool.eq_iff_iff, testBit_word, testBit_word]
  constructor
  · rintro ⟨d, hd, h1, h2⟩; exact ⟨d, (h d h1).1 hd, h1, h2⟩
  · rintro ⟨d, hd, h1, h2⟩; exact ⟨d, (h d h1).2 hd, h1, h2⟩
theorem word_zero {S : List Nat} {i : Nat} (h : ∀ d ∈ S, d / 64 ≠ i) : word S i = 0 := by
  rw [word_congr (S' := []) (fun d hd => ⟨fun hm => absurd hd (h d hm), fun hm => by simp at hm⟩)]
  rfl

/-! the lowest bit -/
theorem low_split {x j : Nat} (h : Nat.testBit x j = true) (hl : ∀ k, k < j → Nat.testBit x k = false) : x = 2 ^ j * (2 * (x / 2 ^ (j + 1)) + 1) := by
  have h0 : x % 2 ^ j = 0 := by
    apply Nat.eq_of_testBit_eq
    intro k
    rw [Nat.testBit_mod_two_pow, Nat.zero_testBit]
    by_cases hk : k < j
    · simp [hl k hk]
    · simp [hk]
  have h1 : x / 2 ^ j % 2 = 1 := by
    have := Nat.testBit_eq_decide_div_mod_eq (x := x) (i := j)
    rw [h] at this
    simpa using this.symm
  have h2 : x / 2 ^ (j + 1) = x / 2 ^ j / 2 := by rw [Nat.pow_succ, Nat.div_div_eq_div_mul]
  have h3 := Nat.div_add_mod x (2 ^ j)
  rw [h2]
  have h4 : 2 * (x / 2 ^ j / 2) + 1 = x / 2 ^ j := by omega
  rw [h4]
  omega
theorem and_pred {x j : Nat} (h : Nat.testBit x j = true) (hl : ∀ k, k < j → Nat.testBit x k = false) (k : Nat) : Nat.testBit (x &&& (x - 1)) k = (Nat.testBit x k && !decide (k = j)) := by
  have hx := low_split h hl
  generalize x / 2 ^ (j + 1) = q at hx
  have hp : 0 < 2 ^ j := Nat.pow_pos (by omega)
  have h1 : x - 1 = 2 ^ j * (2 * q) + (2 ^ j - 1) := by
    rw [hx, Nat.mul_add, Nat.mul_one]
    omega
  rw [Nat.testBit_and, h1, Nat.testBit_two_pow_mul_add _ (by omega)]
  by_cases hk : k < j
  · rw [hl k hk]; simp
  · rw [if_neg hk]
    by_cases hkj : k = j
    · subst hkj
      simp [Nat.testBit_zero]
    · have hx2 : Nat.testBit x k = Nat.testBit (2 * q + 1) (k - j) := by
        conv => lhs; rw [hx, ← Nat.add_zero (2 ^ j * (2 * q + 1))]
        rw [Nat.testBit_two_pow_mul_add _ hp, if_neg hk]
      rw [hx2]
      obtain ⟨t, ht⟩ : ∃ t, k - j = t + 1 := ⟨k - j - 1, by omega⟩
      rw [ht, Nat.testBit_succ, Nat.testBit_succ]
      have e1 : (2 * q + 1) / 2 = q := by omega
      have e2 : 2 * q / 2 = q := by omega
      rw [e1, e2]
      simp [hkj]
theorem and_neg {x j : Nat} (hlt : x < 2 ^ 64) (h : Nat.testBit x j = true) (hl : ∀ k, k < j → Nat.testBit x k = false) : x &&& (2 ^ 64 - x) = 2 ^ j := by
  have hx := low_split h hl
  have hj : j < 64 := by
    rcases Nat.lt_or_ge j 64 with h' | h'
    · exact h'
    · have := Nat.testBit_lt_two_pow (Nat.lt_of_lt_of_le hlt (Nat.pow_le_pow_right (by omega) h'))
      rw [h] at this
      cases this
  generalize hq : x / 2 ^ (j + 1) = q at hx
  have hp : 0 < 2 ^ j := Nat.pow_pos (by omega)
  have hqlt : q < 2 ^ (63 - j) := by
    rw [← hq, Nat.div_lt_iff_lt_mul (Nat.pow_pos (by omega)), ← Nat.pow_add]
    have : 63 - j + (j + 1) = 64 := by omega
    rw [this]
    exact hlt
  have h64 : 2 ^ 64 = 2 ^ j * (2 * 2 ^ (63 - j)) := by
    rw [← Nat.pow_succ', ← Nat.pow_add]
    congr 1
    omega
  have h1 : 2 ^ 64 - x = 2 ^ j * (2 * (2 ^ (63 - j) - (q + 1)) + 1) := by
    conv => lhs; rw [hx, h64, ← Nat.mul_sub]
    congr 1
    omega
  apply Nat.eq_of_testBit_eq
  intro k
  rw [Nat.testBit_and, h1, Nat.testBit_two_pow]
  conv => lhs; lhs; rw [hx]
  rw [← Nat.add_zero (2 ^ j * (2 * q + 1)), Nat.testBit_two_pow_mul_add _ hp, ← Nat.add_zero (2 ^ j * (2 * (2 ^ (63 - j) - (q + 1)) + 1)), Nat.testBit_two_pow_mul_add _ hp]
  by_cases hk : k < j
  · have : j ≠ k := by omega
    simp [hk, this]
  · rw [if_neg hk, if_neg hk]
    by_cases hkj : k = j
    · subst hkj; simp [Nat.testBit_zero]
    · obtain ⟨t, ht⟩ : ∃ t, k - j = t + 1 := ⟨k - j - 1, by omega⟩
      rw [ht, Nat.testBit_succ, Nat.testBit_succ]
      have e1 : (2 * q + 1) / 2 = q := by omega
      have e2 : (2 * (2 ^ (63 - j) - (q + 1)) + 1) / 2 = 2 ^ (63 - j) - (q + 1) := by omega
      rw [e1, e2, Nat.testBit_two_pow_sub_succ hqlt]
      have : j ≠ k := fun e => hkj e.symm
      simp only [this, decide_false]
      cases Nat.testBit q t <;> simp

/-! the program's operations on such words -/
theorem toNat_ofInt (n : Nat) (h : n < 18446744073709551616) : (BitVec.ofInt 64 (n : Int)).toNat = n := by
  rw [BitVec.toNat_ofInt]
  have : ((n : Int) % ((2 ^ 64 : Nat) : Int)).toNat = n % 2 ^ 64 := by
    simp only [Nat.reducePow]; omega
  rw [this]
  exact Nat.mod_eq_of_lt (by simpa using h)
theorem bit_and {n m : Nat} (hn : n < 18446744073709551616) (hm : m < 18446744073709551616) : bitI .and .u64 (n : Int) (m : Int) = ((n &&& m : Nat) : Int) := by
  show IntKind.wrap .u64 (((BitVec.ofInt 64 (n : Int) &&& BitVec.ofInt 64 (m : Int) : BitVec 64).toNat : Nat) : Int) = _
  rw [BitVec.toNat_and, toNat_ofInt n hn, toNat_ofInt m hm]
  refine wrap_u64 (by omega) ?_
  have : n &&& m ≤ n := Nat.and_le_left
  omega
theorem bit_or {n m : Nat} (hn : n < 18446744073709551616) (hm : m < 18446744073709551616) : bitI .or .u64 (n : Int) (m : Int) = ((n ||| m : Nat) : Int) := by
  show IntKind.wrap .u64 (((BitVec.ofInt 64 (n : Int) ||| BitVec.ofInt 64 (m : Int) : BitVec 64).toNat : Nat) : Int) = _
  rw [BitVec.toNat_or, toNat_ofInt n hn, toNat_ofInt m hm]
  refine wrap_u64 (by omega) ?_
  have : n ||| m < 2 ^ 64 := Nat.or_lt_two_pow (by simpa using hn) (by simpa using hm)
  omega
theorem bit_andNot {n m : Nat} (hn : n < 18446744073709551616) (hm : m < 18446744073709551616) : ∃ r : Nat, bitI .andNot .u64 (n : Int) (m : Int) = (r : Int) ∧ r < 18446744073709551616 ∧ ∀ j, Nat.testBit r j = (Nat.testBit n j && !Nat.testBit m j) := by
  refine ⟨(BitVec.ofInt 64 (n : Int) &&& ~~~(BitVec.ofInt 64 (m : Int))).toNat, ?_, ?_, fun j => ?_⟩
  · refine wrap_u64 (n := (((BitVec.ofInt 64 (n : Int) &&& ~~~(BitVec.ofInt 64 (m : Int)) : BitVec 64).toNat : Nat) : Int)) (by omega) ?_
    have := (BitVec.ofInt 64 (n : Int) &&& ~~~(BitVec.ofInt 64 (m : Int))).isLt
    omega
  · have := (BitVec.ofInt 64 (n : Int) &&& ~~~(BitVec.ofInt 64 (m : Int))).isLt
    omega
  · rw [BitVec.toNat_and, BitVec.toNat_not, toNat_ofInt n hn, toNat_ofInt m hm, Nat.testBit_and]
    have : 2 ^ 64 - 1 - m = 2 ^ 64 - (m + 1) := by omega
    rw [this, Nat.testBit_two_pow_sub_succ (by simpa using hm)]
    by_cases hj : j < 64
    · simp [hj]
    · have : Nat.testBit n j = false := Nat.testBit_lt_two_pow (Nat.lt_of_lt_of_le (by simpa using hn) (Nat.pow_le_pow_right (by omega) (by omega : 64 ≤ j)))
      simp [this]
theorem and_pow_ne (x j : Nat) : x &&& 2 ^ j ≠ 0 ↔ Nat.testBit x j = true := by
  constructor
  · intro h
    cases hb : Nat.testBit x j with
    | true => rfl
    | false =>
      exfalso
      apply h
      apply Nat.eq_of_testBit_eq
      intro k
      rw [Nat.testBit_and, Nat.testBit_two_pow, Nat.zero_testBit]
      by_cases hk : j = k
      · subst hk; simp [hb]
      · simp [hk]
  · intro h e
    have := congrArg (Nat.testBit · j) e
    simp [Nat.testBit_and, h] at this
end Go.Sp
namespace Go.Sp
/-! rising lists -/
def ins (d : Nat) : List Nat → List Nat
  | [] => [d]
  | x :: r => if d < x then d :: x :: r else if d = x then x :: r else x :: ins d r
theorem mem_ins {d e : Nat} {S : List Nat} : e ∈ ins d S ↔ e = d ∨ e ∈ S := by
  induction S with
  | nil => simp [ins]
  | cons x r ih =>
    unfold ins
    split
    · simp
    · split
      · rename_i h; subst h; simp
      · simp only [List.mem_cons, ih]
        constructor
        · rintro (h | h | h)
          · exact .inr (.inl h)
          · exact .inl h
          · exact .inr (.inr h)
        · rintro (h | h | h)
          · exact .inr (.inl h)
          · exact .inl h
          · exact .inr (.inr h)
theorem ins_rising {d : Nat} {S : List Nat} (h : S.Pairwise (· < ·)) : (ins d S).Pairwise (· < ·) := by
  induction S with
  | nil => simp [ins]
  | cons x r ih =>
    rw [List.pairwise_cons] at h
    unfold ins
    split
    · rename_i hd
      rw [List.pairwise_cons]
      refine ⟨fun y hy => ?_, by rw [List.pairwise_cons]; exact h⟩
      rcases List.mem_cons.1 hy with rfl | hy
      · exact hd
      · have := h.1 y hy; omega
    · split
      · rw [List.pairwise_cons]; exact h
      · rw [List.pairwise_cons]
        refine ⟨fun y hy => ?_, ih h.2⟩
        rcases mem_ins.1 hy with rfl | hy
        · omega
        · exact h.1 y hy
theorem ins_length {d : Nat} {S : List Nat} (h : d ∉ S) : (ins d S).length = S.length + 1 := by
  induction S with
  | nil => rfl
  | cons x r ih =>
    simp only [List.mem_cons, not_or] at h
    unfold ins
    split
    · simp
    · rw [if_neg h.1]
      simp [ih h.2]
theorem ins_same {d : Nat} {S : List Nat} (hS : S.Pairwise (· < ·)) (h : d ∈ S) : ins d S = S := by
  induction S with
  | nil => simp at h
  | cons x r ih =>
    rw [List.pairwise_cons] at hS
    unfold ins
    by_cases hd : d = x
    · subst hd; simp
    · have hm : d ∈ r := (List.mem_cons.1 h).resolve_left hd
      have := hS.1 d hm
      rw [if_neg (by omega), if_neg hd, ih hS.2 hm]
theorem rising_ext {S S' : List Nat} (h : S.Pairwise (· < ·)) (h' : S'.Pairwise (· < ·)) (he : ∀ d, d ∈ S ↔ d ∈ S') : S = S' := by
  induction S generalizing S' with
  | nil =>
    cases S' with
    | nil => rfl
    | cons x r => exact absurd ((he x).2 List.mem_cons_self) (by simp)
  | cons x r ih =>
    cases S' with
    | nil => exact absurd ((he x).1 List.mem_cons_self) (by simp)
    | cons y s =>
      rw [List.pairwise_cons] at h h'
      have hxy : x = y := by
        rcases List.mem_cons.1 ((he x).1 List.mem_cons_self) with h1 | h1
        · exact h1
        · rcases List.mem_cons.1 ((he y).2 List.mem_cons_self) with h2 | h2
          · exact h2.symm
          · have := h'.1 x h1; have := h.1 y h2; omega
      subst hxy
      congr 1
      refine ih h.2 h'.2 fun d => ?_
      have := he d
      simp only [List.mem_cons] at this
      constructor
      · intro hd
        rcases this.1 (.inr hd) with rfl | h3
        · have := h.1 d hd; omega
        · exact h3
      · intro hd
        rcases this.2 (.inr hd) with rfl | h3
        · have := h'.1 d hd; omega
        · exact h3
/-- a rising list within bounds is not long -/
theorem rising_length {S : List Nat} (h : S.Pairwise (· < ·)) {a b : Nat} (hb : ∀ d ∈ S, a ≤ d ∧ d < b) : S.length ≤ b - a := by
  induction S generalizing a with
  | nil => simp
  | cons x r ih =>
    rw [List.pairwise_cons] at h
    have h1 := hb x List.mem_cons_self
    have := ih h.2 (a := x + 1) (fun d hd => ⟨h.1 d hd, (hb d (List.mem_cons_of_mem _ hd)).2⟩)
    simp only [List.length_cons]
    omega
theorem word_ins (S : List Nat) (d : Nat) (i : Nat) : word (ins d S) i = if i = d / 64 then word S i ||| 2 ^ (d % 64) else word S i := by
  apply Nat.eq_of_testBit_eq
  intro j
  split
  · rename_i hi
    subst hi
    rw [Bool.eq_iff_iff, Nat.testBit_or, Nat.testBit_two_pow]
    simp only [Bool.or_eq_true, decide_eq_true_eq, testBit_word, mem_ins]
    constructor
    · rintro ⟨e, rfl | he, h1, h2⟩
      · exact .inr h2
      · exact .inl ⟨e, he, h1, h2⟩
    · rintro (⟨e, he, h1, h2⟩ | h)
      · exact ⟨e, .inr he, h1, h2⟩
      · exact ⟨d, .inl rfl, rfl, h⟩
  · rename_i hi
    rw [Bool.eq_iff_iff, testBit_word, testBit_word]
    constructor
    · rintro ⟨e, he, h1, h2⟩
      rcases mem_ins.1 he with rfl | he
      · exact absurd h1.symm hi
      · exact ⟨e, he, h1, h2⟩
    · rintro ⟨e, he, h1, h2⟩
      exact ⟨e, mem_ins.2 (.inr he), h1, h2⟩
def del (d : Nat) (S : List Nat) : List Nat := S.filter (· != d)
theorem mem_del {d e : Nat} {S : List Nat} : e ∈ del d S ↔ e ∈ S ∧ e ≠ d := by simp [del]
theorem del_rising {d : Nat} {S : List Nat} (h : S.Pairwise (· < ·)) : (del d S).Pairwise (· < ·) := h.sublist List.filter_sublist
theorem del_length {d : Nat} {S : List Nat} (hS : S.Pairwise (· < ·)) (h : d ∈ S) : (del d S).length + 1 = S.length := by
  induction S with
  | nil => simp at h
  | cons x r ih =>
    rw [List.pairwise_cons] at hS
    unfold del
    by_cases hd : x = d
    · subst hd
      have : r.filter (· != x) = r := by
        rw [List.filter_eq_self]
        intro a ha
        have := hS.1 a ha
        simp; omega
      simp [this]
    · have hm : d ∈ r := (List.mem_cons.1 h).resolve_left (fun e => hd e.symm)
      have := ih hS.2 hm
      unfold del at this
      simp [hd, this]
theorem word_del (S : List Nat) (d : Nat) (i : Nat) {r : Nat} (hr : ∀ j, Nat.testBit r j = (Nat.testBit (word S (d / 64)) j && !Nat.testBit (2 ^ (d % 64)) j)) : word (del d S) i = if i = d / 64 then r else word S i := by
  apply Nat.eq_of_testBit_eq
  intro j
  split
  · rename_i hi
    subst hi
    rw [Bool.eq_iff_iff, hr, Nat.testBit_two_pow]
    simp only [Bool.and_eq_true, Bool.not_eq_true', decide_eq_false_iff_not, testBit_word, mem_del]
    constructor
    · rintro ⟨e, ⟨he, hne⟩, h1, h2⟩
      exact ⟨⟨e, he, h1, h2⟩, by omega⟩
    · rintro ⟨⟨e, he, h1, h2⟩, hne⟩
      exact ⟨e, ⟨he, by omega⟩, h1, h2⟩
  · rename_i hi
    rw [Bool.eq_iff_iff, testBit_word, testBit_word]
    constructor
    · rintro ⟨e, he, h1, h2⟩
      exact ⟨e, (mem_del.1 he).1, h1, h2⟩
    · rintro ⟨e, he, h1, h2⟩
      exact ⟨e, mem_del.2 ⟨he, by intro h; subst h; exact hi h1.symm⟩, h1, h2⟩
end Go.Sp

namespace Go.Proofs.YtccffjlahpfdaaaDoor
open Go Go.Sh

/-- the distance of two numbers that wrap -/
def sd (a b : Int) : Int := if (b - a) % 4294967296 ≥ 2147483648 then (b - a) % 4294967296 - 4294967296 else (b - a) % 4294967296
theorem sd_range (a b : Int) : -2147483648 ≤ sd a b ∧ sd a b < 2147483648 := by unfold sd; split <;> omega
theorem c75 (a b : Int) (w : World) : Calls Tryd.prog 75 #[.int .u32 a, .int .u32 b] w (rt (KR (.int .i64 (sd a b)) w)) := by
  refine F75_ok ?_
  have hc : bitI .xor .u32 (if IntKind.signed .u32 = true then -1 else IntKind.max .u32) (IntKind.wrap .u32 0) = 4294967295 := by decide +kernel
  have h1 : IntKind.wrap .u32 (Int.tdiv 4294967295 2) = 2147483647 := by decide +kernel
  have h2 : IntKind.wrap .i64 (IntKind.wrap .i64 2147483647 + 1) = 2147483648 := by decide +kernel
  have h3 : IntKind.wrap .i64 (2 * 2147483648) = 4294967296 := by decide +kernel
  have h4 : IntKind.wrap .i64 (IntKind.wrap .u32 (b - a)) = (b - a) % 4294967296 := by rw [wrap_u32_mod]; exact wrap_i64 (by omega) (by omega)
  unfold F75
  simp only [rdI_mk, hc, h1, h2, h3, h4, br_dec]
  unfold sd
  refine ⟨fun h => ?_, fun h => ?_⟩
  · rw [wrap_i64 (by omega) (by omega), if_pos h]; exact KR.mk _ _
  · rw [if_neg h]; exact KR.mk _ _
theorem c61 (a b : Int) (w : World) : Calls Tryd.prog 61 #[.int .u32 a, .int .u32 b] w (rt (KR (.int .i64 (sd a b)) w)) := by
  refine F61_ok ?_
  unfold F61
  simp only [rdI_mk]
  exact clr (c75 a b w) ⟨_, rfl, KR.mk _ _⟩
theorem c52 (a b : Int) (w : World) (ha : 0 ≤ a) (ha' : a < 4294967296) (hb : 0 ≤ b) (hb' : b < 4294967296) : Calls Tryd.prog 52 #[.int .i64 a, .int .i64 b, .int .i64 4294967296] w (rt (KR (.int .i64 (sd a b)) w)) := by
  refine F52_ok ?_
  have h1 : IntKind.wrap .i64 (b - a) = b - a := wrap_i64 (by omega) (by omega)
  have h2 : IntKind.wrap .i64 (Int.tdiv 4294967296 2) = 2147483648 := by decide +kernel
  have h3 : (b - a).tmod 4294967296 = if 0 ≤ b - a then (b - a) % 4294967296 else -((-(b - a)) % 4294967296) := by
    split
    · exact Int.tmod_eq_emod_of_nonneg ‹_›
    · have : (b - a) = -(-(b - a)) := by omega
      rw [this, Int.neg_tmod, Int.tmod_eq_emod_of_nonneg (by omega)]; simp
  unfold F52
  simp only [rdI_mk, h1, h2, br_dec]
  refine nz_of (by decide) ?_
  unfold sd
  rw [h3]
  by_cases h0 : 0 ≤ b - a
  · rw [if_pos h0]
    refine ⟨fun h => by omega, fun _ => ⟨fun h => ?_, fun h => ?_⟩⟩
    · rw [wrap_i64 (by omega) (by omega), if_pos h]; exact KR.mk _ _
    · rw [if_neg h]; exact KR.mk _ _
  · rw [if_neg h0]
    have h5 : (b - a) % 4294967296 = b - a + 4294967296 := by omega
    have h6 : (-(b - a)) % 4294967296 = -(b - a) := by omega
    rw [h5, h6, wrap_i64 (n := -(-(b - a)) + 4294967296) (by omega) (by omega)]
    refine ⟨fun _ => ⟨fun h => ?_, fun h => ?_⟩, fun h => by omega⟩
    · rw [wrap_i64 (by omega) (by omega), if_pos (by omega)]; rw [show -(-(b - a)) + 4294967296 - 4294967296 = b - a + 4294967296 - 4294967296 by omega]; exact KR.mk _ _
    · rw [if_neg (by omega)]; rw [show -(-(b - a)) + 4294967296 = b - a + 4294967296 by omega]; exact KR.mk _ _
theorem c18 (a b : Int) (w : World) (ha : 0 ≤ a) (ha' : a < 4294967296) (hb : 0 ≤ b) (hb' : b < 4294967296) : Calls Tryd.prog 18 #[.int .u32 a, .int .u32 b] w (rt (KR (.int .i64 (sd a b)) w)) := by
  refine F18_ok ?_
  unfold F18
  simp only [rdI_mk]
  rw [wrap_i64 (by omega) (by omega), wrap_i64 (by omega) (by omega)]
  exact clr (c52 a b w ha ha' hb hb') ⟨_, rfl, KR.mk _ _⟩
theorem c15 (a b : Int) (w : World) (ha : 0 ≤ a) (ha' : a < 4294967296) (hb : 0 ≤ b) (hb' : b < 4294967296) : Calls Tryd.prog 15 #[.int .u32 a, .int .u32 b] w (rt (KR (.bool (decide (sd a b > 0))) w)) := by
  refine F15_ok ?_
  unfold F15
  simp only [rdI_mk]
  exact clr (c18 a b w ha ha' hb hb') ⟨_, rfl, KR.mk _ _⟩
theorem c9 (a b : Int) (w : World) (ha : 0 ≤ a) (ha' : a < 4294967296) (hb : 0 ≤ b) (hb' : b < 4294967296) : Calls Tryd.prog 9 #[.int .u32 a, .int .u32 b] w (rt (KR (.int .u32 ((a + b) % 4294967296)) w)) := by
  refine F9_ok ?_
  unfold F9
  simp only [rdI_mk]
  rw [wrap_u64 (n := a) (by omega) (by omega), wrap_u64 (n := b) (by omega) (by omega), wrap_u64 (by omega) (by omega), Int.tmod_eq_emod_of_nonneg (by omega), wrap_u32 (by omega) (by omega)]
  exact KR.mk _ _
end Go.Proofs.YtccffjlahpfdaaaDoor

namespace Go.Proofs.YtccffjlahpfdaaaDoor
open Go Go.Sh Go.Sp

def tabL : List Nat := [0, 1, 56, 2, 57, 49, 28, 3, 61, 58, 42, 50, 38, 29, 17, 4, 62, 47, 59, 36, 45, 43, 51, 22, 53, 39, 33, 30, 24, 18, 12, 5, 63, 55, 48, 27, 60, 41, 37, 16, 46, 35, 44, 21, 52, 32, 23, 11, 54, 26, 40, 15, 34, 20, 31, 10, 25, 14, 19, 9, 13, 8, 7, 6]
def tabV : Array Value := (tabL.map fun (n : Nat) => Value.int .u8 (n : Int)).toArray
/-- the library's table lies where it lies -/
def TB (w : World) : Prop := ∃ T z, w.heap[0]? = some (.cells tabV T z)
theorem TB.fr {w w' : World} {S : Nat → Prop} (h : TB w) (hf : Fr S w w') (hn : ¬ S 0) : TB w' := by
  obtain ⟨T, z, h⟩ := h
  exact ⟨T, z, hf.blk h hn⟩
theorem TB.ne {w : World} {b : Nat} {cs : Array Value} {T : TypeId} {z : Nat × Nat} (h : TB w) (hb : w.heap[b]? = some (.cells cs T z)) (hs : cs.size ≠ 64) : b ≠ 0 := by
  intro e
  subst e
  obtain ⟨T', z', h⟩ := h
  rw [h] at hb
  cases hb
  exact hs (by decide +kernel)
theorem TB.ne_map {w : World} {m : Nat} {kk kv : IntKind} {f : Int → Option Int} (h : TB w) (hm : MapI kk kv w m f) : m ≠ 0 := by
  obtain ⟨T', z', h⟩ := h
  exact hm.ne_cells h
def tabE (j : Nat) : Int := Int.fdiv (((2 ^ j : Nat) : Int) * 285870213051353865 % 18446744073709551616) (2 ^ 58)
theorem tab_all : ∀ j, j < 64 → 0 ≤ tabE j ∧ tabE j < 64 ∧ tabL[(tabE j).toNat]? = some j := by decide +kernel
theorem c80 {x j : Nat} (hx : x < 18446744073709551616) (h : Nat.testBit x j = true) (hl : ∀ k, k < j → Nat.testBit x k = false) {w : World} (ht : TB w) :
    Calls Tryd.prog 80 #[.int .u64 (x : Int)] w (rt (KR (.int .i64 (j : Int)) w)) := by
  refine F80_ok ?_
  have hx0 : x ≠ 0 := by intro e; subst e; simp at h
  have hj : j < 64 := by
    rcases Nat.lt_or_ge j 64 with h' | h'
    · exact h'
    · have := Nat.testBit_lt_two_pow (Nat.lt_of_lt_of_le (by simpa using hx : x < 2 ^ 64) (Nat.pow_le_pow_right (by omega) h'))
      rw [h] at this
      cases this
  have h1 : IntKind.wrap .u64 (0 - (x : Int)) = ((2 ^ 64 - x : Nat) : Int) := by rw [wrap_u64_mod]; simp only [Nat.reducePow]; omega
  have h2 : bitI .and .u64 (x : Int) ((2 ^ 64 - x : Nat) : Int) = ((2 ^ j : Nat) : Int) := by
    rw [bit_and hx (by simp only [Nat.reducePow]; omega), and_neg (by simpa using hx) h hl]
  have h3 : (min 58 (IntKind.bits .u64)) = 58 := by decide
  obtain ⟨k0, k1, k2⟩ := tab_all j hj
  have he : Int.fdiv (IntKind.wrap .u64 (((2 ^ j : Nat) : Int) * 285870213051353865)) (2 ^ 58) = tabE j := by rw [wrap_u64_mod]; rfl
  obtain ⟨T, z, ht⟩ := ht
  unfold F80
  simp only [rdI_mk, h1, h2, h3, he, br_iff]
  refine ⟨fun h0 => ?_, fun _ => ⟨⟨k0, k1⟩, ?_⟩⟩
  · simp at h0; omega
  · rw [add_mk]
    refine ldI_at ht (n := (j : Int)) ?_ ?_
    · unfold tabV
      simp only [Nat.zero_add, Nat.mul_one, List.getElem?_toArray, List.getElem?_map, k2, Option.map_some]
    · rw [wrap_i64 (by omega) (by omega)]; exact KR.mk _ _
theorem c76 (p : Value) (d : Nat) (hd : d < 9223372036854775808) (w : World) : Calls Tryd.prog 76 #[p, .int .i64 (d : Int)] w (rt (KR (.tuple #[.int .i64 ((d / 64 : Nat) : Int), .int .u64 ((2 ^ (d % 64) : Nat) : Int)]) w.drew)) := by
  refine F76_ok ?_
  have h1 : Int.tdiv (d : Int) 64 = ((d / 64 : Nat) : Int) := by rw [Int.tdiv_eq_ediv_of_nonneg (by omega)]; omega
  have h2 : Int.tmod (d : Int) 64 = ((d % 64 : Nat) : Int) := by rw [Int.tmod_eq_emod_of_nonneg (by omega)]; omega
  have h3 : min (d % 64) (IntKind.bits .u64) = d % 64 := by simp only [IntKind.bits]; omega
  have h4 : (2 : Nat) ^ (d % 64) < 18446744073709551616 := by
    have : (2 : Nat) ^ (d % 64) < 2 ^ 64 := Nat.pow_lt_pow_right (by omega) (Nat.mod_lt _ (by omega))
    simpa using this
  unfold F76 drw
  simp only [rdI_mk, h1, h2, shc_nat, h3]
  rw [wrap_i64 (by omega) (by omega), show (1 : Int) * 2 ^ (d % 64) = ((2 ^ (d % 64) : Nat) : Int) by simp, wrap_u64_nat _ h4]
  exact KR.mk _ _

/-- a field of a set: the block of cells (whatever lies behind the two), the map's block, the distances -/
structure Fld (w : World) (b m : Nat) (cs : Array Value) (T : TypeId) (S : List Nat) : Prop where
  blk : w.heap[b]? = some (.cells cs T (0, 0))
  words : cs[0]? = some (.map (some m))
  many : cs[1]? = some (.int .i64 (S.length : Int))
  map : ∃ f, MapI .i64 .u64 w m f ∧ ∀ i : Nat, (f (i : Int)).getD 0 = ((word S i : Nat) : Int)
theorem Fld.fr {w w' : World} {b m : Nat} {cs : Array Value} {T : TypeId} {S : List Nat} {X : Nat → Prop} (h : Fld w b m cs T S) (hf : Fr X w w') (hb : ¬ X b) (hm : ¬ X m) : Fld w' b m cs T S := by
  obtain ⟨h1, h2, h3, f, h4, h5⟩ := h
  exact ⟨hf.blk h1 hb, h2, h3, f, h4.fr hf hm, h5⟩
theorem Fld.drew {w : World} {b m : Nat} {cs : Array Value} {T : TypeId} {S : List Nat} (h : Fld w b m cs T S) : Fld w.drew b m cs T S := h.fr (X := fun _ => False) (Fr.refl w).drew (fun h => h) (fun h => h)
theorem Fld.ne {w : World} {b m : Nat} {cs : Array Value} {T : TypeId} {S : List Nat} (h : Fld w b m cs T S) : m ≠ b := by
  obtain ⟨h1, h2, h3, f, h4, h5⟩ := h
  exact h4.ne_cells h1
theorem u3 : Tryd.prog.underlying 3 = some (.int .i64) := by kernel_rfl
theorem u63 : Tryd.prog.underlying 95 = some (.map 3 83) := by kernel_rfl
theorem z78 : (Tryd.prog.info? 83).bind (·.zero) = some (.int .u64 0) := by kernel_rfl

theorem c63 {w : World} {b m d : Nat} {cs : Array Value} {T : TypeId} {S : List Nat} (h : Fld w b m cs T S) (hd : d < 9223372036854775808) :
    Calls Tryd.prog 63 #[.pointer (some ⟨b, 0, none⟩), .int .i64 (d : Int)] w (rt (KR (.bool (decide (d ∈ S))) w.drew)) := by
  refine F63_ok ?_
  unfold F63
  simp only [rdP_mk, rdI_mk, nn_some]
  refine clr (c76 _ d hd w) ⟨_, _, rfl, ?_⟩
  obtain ⟨h1, h2, h3, f, h4, h5⟩ := h.drew
  rw [add_mk]
  refine ldM_at h1 h2 ⟨_, look_int u3 z78 h4, ?_⟩
  have h4 : (2 : Nat) ^ (d % 64) < 18446744073709551616 := by
    have : (2 : Nat) ^ (d % 64) < 2 ^ 64 := Nat.pow_lt_pow_right (by omega) (Nat.mod_lt _ (by omega))
    simpa using this
  rw [h5, bit_and (word_lt S _) h4]
  have he : (((word S (d / 64) &&& 2 ^ (d % 64) : Nat) : Int) != 0) = decide (d ∈ S) := by
    rw [Bool.eq_iff_iff]
    simp only [bne_iff_ne, ne_eq, decide_eq_true_eq]
    rw [← word_bit S d, ← and_pow_ne]
    omega
  rw [he]
  exact KR.mk _ _
end Go.Proofs.YtccffjlahpfdaaaDoor

namespace Go.Proofs.YtccffjlahpfdaaaDoor
open Go Go.Sh Go.Sp

theorem pow_lt64 (d : Nat) : (2 : Nat) ^ (d % 64) < 18446744073709551616 := by
  have : (2 : Nat) ^ (d % 64) < 2 ^ 64 := Nat.pow_lt_pow_right (by omega) (Nat.mod_lt _ (by omega))
  simpa using this
section
variable {w : World} {b m d : Nat} {cs : Array Value} {T : TypeId} {S : List Nat}
theorem c62_old (h : Fld w b m cs T S) (hd : d < 9223372036854775808) (hm : d ∈ S) :
    Calls Tryd.prog 62 #[.pointer (some ⟨b, 0, none⟩), .int .i64 (d : Int)] w (rt (KR (.bool false) w.drew)) := by
  refine F62_ok ?_
  unfold F62
  simp only [rdP_mk, rdI_mk, nn_some]
  refine clr (c63 h hd) ⟨_, rfl, ?_⟩
  simp only [hm, decide_true, br_true]
  exact KR.mk _ _
theorem c62_new (h : Fld w b m cs T S) (hd : d < 9223372036854775808) (hm : d ∉ S) (hl : S.length < 4611686018427387904) :
    Calls Tryd.prog 62 #[.pointer (some ⟨b, 0, none⟩), .int .i64 (d : Int)] w (rt fun v w' => v = .bool true ∧
      Fld w' b m (cs.setIfInBounds 1 (.int .i64 ((ins d S).length : Int))) T (ins d S) ∧ Fr (fun k => k = b ∨ k = m) w w') := by
  refine F62_ok ?_
  unfold F62
  simp only [rdP_mk, rdI_mk, nn_some]
  refine clr (c63 h hd) ⟨_, rfl, ?_⟩
  simp only [hm, decide_false, br_false]
  refine clr (c76 _ d hd _) ⟨_, _, rfl, ?_⟩
  have hne := h.ne
  obtain ⟨h1, h2, h3, f, h4, h5⟩ := h.drew.drew
  rw [add_mk, add_mk]
  refine ldM_at h1 h2 ⟨_, look_int u3 z78 h4, ?_⟩
  rw [h5, bit_or (word_lt S _) (pow_lt64 d)]
  obtain ⟨o, ho, h6⟩ := store_int (v := ((word S (d / 64) ||| 2 ^ (d % 64) : Nat) : Int)) (k := ((d / 64 : Nat) : Int)) u63 u3 h4
  refine ⟨_, ho, ?_⟩
  have g1 : (sb w.drew.drew m o).heap[b]? = some (.cells cs T (0, 0)) := by rw [sb_other hne.symm]; exact h1
  have hsz : 1 < cs.size := (Array.getElem?_eq_some_iff.1 h3).1
  refine ldI_at g1 h3 (stc_at g1 (by simpa using hsz) ?_)
  have hw : IntKind.wrap .i64 ((S.length : Int) + 1) = ((ins d S).length : Int) := by rw [ins_length hm, wrap_i64 (by omega) (by omega)]; simp
  rw [hw]
  refine ⟨trivial, ⟨sb_same g1, ?_, ?_, _, h6.of_blk (sb_other hne), fun i => ?_⟩, ?_⟩
  · rw [Array.getElem?_setIfInBounds_ne (by omega)]; exact h2
  · simp [hsz]
  · unfold updF
    rw [word_ins]
    by_cases hi : i = d / 64
    · subst hi; simp
    · rw [if_neg (by omega), if_neg hi]; exact h5 i
  · exact ((Fr.refl w).drew.drew.sb (fun _ => .inr rfl)).sb (fun _ => .inl rfl)
theorem c73_old (h : Fld w b m cs T S) (hd : d < 9223372036854775808) (hm : d ∉ S) :
    Calls Tryd.prog 73 #[.pointer (some ⟨b, 0, none⟩), .int .i64 (d : Int)] w (rt (KR (.bool false) w.drew)) := by
  refine F73_ok ?_
  unfold F73
  simp only [rdP_mk, rdI_mk, nn_some]
  refine clr (c63 h hd) ⟨_, rfl, ?_⟩
  simp only [hm, decide_false, Bool.not_false, br_true]
  exact KR.mk _ _
theorem c73_new (h : Fld w b m cs T S) (hd : d < 9223372036854775808) (hm : d ∈ S) (hS : S.Pairwise (· < ·)) (hl : S.length < 4611686018427387904) :
    Calls Tryd.prog 73 #[.pointer (some ⟨b, 0, none⟩), .int .i64 (d : Int)] w (rt fun v w' => v = .bool true ∧
      Fld w' b m (cs.setIfInBounds 1 (.int .i64 ((del d S).length : Int))) T (del d S) ∧ Fr (fun k => k = b ∨ k = m) w w') := by
  refine F73_ok ?_
  unfold F73
  simp only [rdP_mk, rdI_mk, nn_some]
  refine clr (c63 h hd) ⟨_, rfl, ?_⟩
  simp only [hm, decide_true, Bool.not_true, br_false]
  refine clr (c76 _ d hd _) ⟨_, _, rfl, ?_⟩
  have hne := h.ne
  obtain ⟨h1, h2, h3, f, h4, h5⟩ := h.drew.drew
  simp only [add_mk]
  refine ldM_at h1 h2 ⟨_, look_int u3 z78 h4, ?_⟩
  obtain ⟨r, hr, hrl, hrb⟩ := bit_andNot (word_lt S (d / 64)) (pow_lt64 d)
  rw [h5, hr]
  obtain ⟨o, ho, h6⟩ := store_int (v := (r : Int)) (k := ((d / 64 : Nat) : Int)) u63 u3 h4
  refine ⟨_, ho, ?_⟩
  have g1 : (sb w.drew.drew m o).heap[b]? = some (.cells cs T (0, 0)) := by rw [sb_other hne.symm]; exact h1
  have hsz : 1 < cs.size := (Array.getElem?_eq_some_iff.1 h3).1
  have hlen := del_length hS hm
  have hw : IntKind.wrap .i64 ((S.length : Int) - 1) = ((del d S).length : Int) := by rw [wrap_i64 (by omega) (by omega)]; omega
  have f1 : Fr (fun k => k = b ∨ k = m) w (sb w.drew.drew m o) := (Fr.refl w).drew.drew.sb (fun _ => .inr rfl)
  have hv : (updF f ((d / 64 : Nat) : Int) (some (r : Int)) ((d / 64 : Nat) : Int)).getD 0 = (r : Int) := by simp [updF]
  refine ldM_at g1 h2 ⟨_, look_int u3 z78 h6, ?_⟩
  rw [hv, br_iff]
  refine ⟨fun h0 => ?_, fun _ => ?_⟩
  · refine ldM_at g1 h2 ?_
    obtain ⟨o', ho', h7⟩ := delete_int (ats := #[95, 3]) (ty := 0) (k := ((d / 64 : Nat) : Int)) rfl u63 u3 h6
    refine ⟨_, ho', ?_⟩
    have g2 : (sb (sb w.drew.drew m o) m o').heap[b]? = some (.cells cs T (0, 0)) := by rw [sb_other hne.symm]; exact g1
    unfold F73_1
    simp only [rdP_mk, nn_some, add_mk, rdB_mk]
    refine ldI_at g2 h3 (stc_at g2 (by simpa using hsz) fun _ => ?_)
    rw [hw]
    refine ⟨trivial, ⟨sb_same g2, ?_, ?_, _, h7.of_blk (sb_other hne), fun i => ?_⟩, ?_⟩
    · rw [Array.getElem?_setIfInBounds_ne (by omega)]; exact h2
    · simp [hsz]
    · have hr0 : r = 0 := by simpa using h0
      rw [word_del S d i hrb]
      unfold updF
      by_cases hi : i = d / 64
      · subst hi; simp [hr0]
      · rw [if_neg (by omega), if_neg (by omega), if_neg hi]; exact h5 i
    · exact (f1.sb (fun _ => .inr rfl)).sb (fun _ => .inl rfl)
  · unfold F73_1
    simp only [rdP_mk, nn_some, add_mk, rdB_mk]
    refine ldI_at g1 h3 (stc_at g1 (by simpa using hsz) fun _ => ?_)
    rw [hw]
    refine ⟨trivial, ⟨sb_same g1, ?_, ?_, _, h6.of_blk (sb_other hne), fun i => ?_⟩, ?_⟩
    · rw [Array.getElem?_setIfInBounds_ne (by omega)]; exact h2
    · simp [hsz]
    · rw [word_del S d i hrb]
      unfold updF
      by_cases hi : i = d / 64
      · subst hi; simp
      · rw [if_neg (by omega), if_neg hi]; exact h5 i
    · exact f1.sb (fun _ => .inl rfl)
end

/-! each: the closure is called at each distance, rising -/
theorem word_low {d : Nat} {R : List Nat} {i : Nat} (hS : (d :: R).Pairwise (· < ·)) (hi : ∀ e ∈ d :: R, e / 64 = i) :
    Nat.testBit (word (d :: R) i) (d % 64) = true ∧ (∀ k, k < d % 64 → Nat.testBit (word (d :: R) i) k = false) ∧ word (d :: R) i &&& (word (d :: R) i - 1) = word R i := by
  rw [List.pairwise_cons] at hS
  have hd := hi d List.mem_cons_self
  have h1 : Nat.testBit (word (d :: R) i) (d % 64) = true := (testBit_word _ _ _).2 ⟨d, List.mem_cons_self, hd, rfl⟩
  have h2 : ∀ k, k < d % 64 → Nat.testBit (word (d :: R) i) k = false := by
    intro k hk
    cases hb : Nat.testBit (word (d :: R) i) k with
    | false => rfl
    | true =>
      obtain ⟨e, he, h3, h4⟩ := (testBit_word _ _ _).1 hb
      rcases List.mem_cons.1 he with rfl | he
      · omega
      · have := hS.1 e he; omega
  refine ⟨h1, h2, ?_⟩
  apply Nat.eq_of_testBit_eq
  intro k
  rw [and_pred h1 h2, Bool.eq_iff_iff]
  simp only [Bool.and_eq_true, Bool.not_eq_true', decide_eq_false_iff_not, testBit_word, List.mem_cons]
  constructor
  · rintro ⟨⟨e, rfl | he, h3, h4⟩, hk⟩
    · exact absurd h4.symm hk
    · exact ⟨e, he, h3, h4⟩
  · rintro ⟨e, he, h3, h4⟩
    refine ⟨⟨e, .inr he, h3, h4⟩, fun hk => ?_⟩
    have := hS.1 e he
    have := hi e (List.mem_cons_of_mem _ he)
    omega

section
variable {b m : Nat} {S : List Nat} {fv : Value} {I : List Nat → World → Prop}
/-- what the loop asks of the closure -/
structure Each (b m : Nat) (S : List Nat) (fv : Value) (I : List Nat → World → Prop) : Prop where
  rising : S.Pairwise (· < ·)
  bound : ∀ d ∈ S, d < 65536
  tab : ∀ pre w, I pre w → TB w
  fld : ∀ pre w, I pre w → ∃ cs T f, w.heap[b]? = some (.cells cs T (0, 0)) ∧ cs[0]? = some (.map (some m)) ∧ MapI .i64 .u64 w m f ∧ ∀ i : Nat, (f (i : Int)).getD 0 = ((word S i : Nat) : Int)
  step : ∀ (pre : List Nat) (d : Nat) (rest : List Nat) (w : World), S = pre ++ d :: rest → I pre w → callV Tryd.prog fv #[.int .i64 (d : Int)] w (.tup []) fun r w' => r = .tuple #[] ∧ I (pre ++ [d]) w'
theorem each_in (E : Each b m S fv I) {K : Value → Value → Value → Value → World → Prop} {p : Option Addr} {i : Nat} : ∀ (R pre post : List Nat) (w : World) (k : Nat), S = pre ++ R ++ post → (∀ d ∈ R, d / 64 = i) → I pre w → R.length < k →
    (∀ w', I (pre ++ R) w' → K (.pointer p) fv (.int .i64 (post.length : Int)) (.int .i64 (i : Int)) w') →
    F71_1 K k (.pointer p) fv (.int .i64 ((R.length + post.length : Nat) : Int)) (.int .i64 (i : Int)) (.int .u64 ((word R i : Nat) : Int)) w := by
  intro R
  induction R with
  | nil =>
    intro pre post w k hS _ hI hk hK
    obtain ⟨k, rfl⟩ : ∃ j, k = j + 1 := ⟨k - 1, by omega⟩
    show F71_1B _ _ _ _ _ _ _ _
    unfold F71_1B
    simp only [rdP_mk, rdI_mk, word]
    have : (((0 : Nat) : Int) != 0) = false := by decide
    rw [this, br_false]
    simpa using hK w (by simpa using hI)
  | cons d R ih =>
    intro pre post w k hS hi hI hk hK
    obtain ⟨k, rfl⟩ : ∃ j, k = j + 1 := ⟨k - 1, by omega⟩
    have hri : (d :: R).Pairwise (· < ·) := (List.pairwise_append.1 (List.pairwise_append.1 (by rw [← hS]; exact E.rising : (pre ++ d :: R ++ post).Pairwise (· < ·))).1).2.1
    obtain ⟨l1, l2, l3⟩ := word_low hri hi
    have hdS : d ∈ S := by rw [hS]; simp
    have hdb := E.bound d hdS
    have hd := hi d List.mem_cons_self
    have hlen : S.length ≤ 65536 := by have := rising_length E.rising (a := 0) (b := 65536) (fun d hd => ⟨Nat.zero_le _, E.bound d hd⟩); omega
    have hlen2 : (d :: R).length + post.length ≤ 65536 := by rw [hS] at hlen; simp at hlen ⊢; omega
    show F71_1B _ _ _ _ _ _ _ _
    unfold F71_1B
    simp only [rdP_mk, rdI_mk]
    have hwn : word (d :: R) i ≠ 0 := by intro e; rw [e] at l1; simp at l1
    have hne : (((word (d :: R) i : Nat) : Int) != 0) = true := by simp; omega
    rw [hne, br_true]
    refine clr (c80 (word_lt _ _) l1 l2 (E.tab pre w hI)) ⟨_, rfl, ?_⟩
    have e1 : IntKind.wrap .i64 (IntKind.wrap .i64 (64 * (i : Int)) + ((d % 64 : Nat) : Int)) = (d : Int) := by
      rw [wrap_i64 (n := 64 * (i : Int)) (by omega) (by omega), wrap_i64 (by omega) (by omega)]; omega
    rw [e1]
    refine callV_mono ?_ (E.step pre d (R ++ post) w (by rw [hS]; simp) hI)
    rintro r w' ⟨rfl, hI'⟩
    refine ⟨rfl, ?_⟩
    have e2 : IntKind.wrap .i64 ((((d :: R).length + post.length : Nat) : Int) - 1) = ((R.length + post.length : Nat) : Int) := by
      simp only [List.length_cons] at hlen2 ⊢
      rw [wrap_i64 (by omega) (by omega)]; omega
    have e3 : IntKind.wrap .u64 (((word (d :: R) i : Nat) : Int) - 1) = ((word (d :: R) i - 1 : Nat) : Int) := by
      have := word_lt (d :: R) i
      rw [wrap_u64 (by omega) (by omega)]; omega
    rw [e2, e3, bit_and (word_lt _ _) (by have := word_lt (d :: R) i; omega), l3]
    refine ih (pre ++ [d]) post w' k (by rw [hS]; simp) (fun e he => hi e (List.mem_cons_of_mem _ he)) hI' (by simp at hk; omega) fun w'' h => hK w'' (by simpa using h)
theorem takeDrop (i : Nat) : ∀ (l : List Nat), l.Pairwise (· < ·) → (∀ d ∈ l, i ≤ d / 64) → ∃ R post, l = R ++ post ∧ (∀ d ∈ R, d / 64 = i) ∧ (∀ d ∈ post, i + 1 ≤ d / 64)
  | [], _, _ => ⟨[], [], rfl, by simp, by simp⟩
  | d :: l, h, hi => by
    rw [List.pairwise_cons] at h
    by_cases hd : d / 64 = i
    · obtain ⟨R, post, e, h1, h2⟩ := takeDrop i l h.2 (fun e he => hi e (List.mem_cons_of_mem _ he))
      exact ⟨d :: R, post, by rw [e]; rfl, fun e he => by rcases List.mem_cons.1 he with rfl | he; exact hd; exact h1 e he, h2⟩
    · refine ⟨[], d :: l, rfl, by simp, fun e he => ?_⟩
      have h1 := hi d List.mem_cons_self
      rcases List.mem_cons.1 he with rfl | he
      · omega
      · have := h.1 e he; omega
theorem each_out (E : Each b m S fv I) {K : World → Prop} : ∀ (n : Nat) (rest pre : List Nat) (i : Nat) (w : World) (k : Nat), S = pre ++ rest → (∀ d ∈ pre, d / 64 < i) → (∀ d ∈ rest, i ≤ d / 64) → i + n = 1025 → I pre w → n < k →
    (∀ w', I S w' → K w') → F71_2 K k (.pointer (some ⟨b, 0, none⟩)) fv (.int .i64 (rest.length : Int)) (.int .i64 (i : Int)) w := by
  intro n
  induction n with
  | zero =>
    intro rest pre i w k hS hpre hi hn hI hk hK
    obtain ⟨k, rfl⟩ : ∃ j, k = j + 1 := ⟨k - 1, by omega⟩
    have : rest = [] := by
      cases rest with
      | nil => rfl
      | cons d r =>
        exfalso
        have h1 := hi d List.mem_cons_self
        have h2 := E.bound d (by rw [hS]; simp)
        omega
    subst this
    show F71_2B _ _ _ _ _ _ _
    unfold F71_2B
    simp only [rdP_mk, rdI_mk, br_dec]
    refine ⟨fun h => by simp at h, fun _ => hK w ?_⟩
    rw [hS]; simpa using hI
  | succ n ih =>
    intro rest pre i w k hS hpre hi hn hI hk hK
    obtain ⟨k, rfl⟩ : ∃ j, k = j + 1 := ⟨k - 1, by omega⟩
    have hlen : S.length ≤ 65536 := by have := rising_length E.rising (a := 0) (b := 65536) (fun d hd => ⟨Nat.zero_le _, E.bound d hd⟩); omega
    show F71_2B _ _ _ _ _ _ _
    unfold F71_2B
    simp only [rdP_mk, rdI_mk, br_dec]
    refine ⟨fun h0 => ?_, fun h0 => ?_⟩
    · obtain ⟨R, post, hRp, hR, hpost⟩ := takeDrop i rest (List.pairwise_append.1 (by rw [← hS]; exact E.rising : (pre ++ rest).Pairwise (· < ·))).2.1 hi
      obtain ⟨cs, T, f, h1, h2, h3, h4⟩ := E.fld pre w hI
      refine nn_some.2 ?_
      rw [add_mk]
      refine ldM_at h1 h2 ⟨_, look_int u3 z78 h3, R.length + 1, ?_⟩
      have hword : word S i = word R i := word_congr fun d hd => by
        rw [hS, hRp]
        simp only [List.mem_append]
        constructor
        · rintro (h | h | h)
          · have := hpre d h; omega
          · exact h
          · have := hpost d h; omega
        · intro h; exact .inr (.inl h)
      rw [h4, hword]
      have hl2 : rest.length = R.length + post.length := by rw [hRp]; simp
      rw [hl2]
      refine each_in E R pre post w _ (by rw [hS, hRp]; simp) hR hI (by omega) fun w' hI' _g => ?_
      simp only [rdP_mk, rdI_mk]
      have hi1 : i ≤ 1025 := by omega
      rw [wrap_i64 (by omega) (by omega)]
      exact ih post (pre ++ R) (i + 1) w' k (by rw [hS, hRp]; simp) (fun d hd => by rcases List.mem_append.1 hd with h | h; have := hpre d h; omega; have := hR d h; omega) hpost (by omega) hI' (by omega) hK
    · have : rest = [] := by
        cases rest with
        | nil => rfl
        | cons d r => simp at h0
      subst this
      refine hK w ?_
      rw [hS]; simpa using hI
theorem c71 (E : Each b m S fv I) {w : World} {cs : Array Value} {T : TypeId} (hb : w.heap[b]? = some (.cells cs T (0, 0))) (hm : cs[1]? = some (.int .i64 (S.length : Int))) (hI : I [] w) :
    Calls Tryd.prog 71 #[.pointer (some ⟨b, 0, none⟩), fv] w (rt fun v w' => v = .tuple #[] ∧ I S w') := by
  refine F71_ok ?_
  unfold F71
  simp only [rdP_mk, nn_some, add_mk]
  refine ldI_at hb hm ⟨1026, ?_⟩
  exact each_out E 1025 S [] 0 w 1026 (by simp) (by simp) (fun _ _ => Nat.zero_le _) (by omega) hI (by omega) fun w' h _ => ⟨trivial, h⟩
end
end Go.Proofs.YtccffjlahpfdaaaDoor

namespace Go.Proofs.YtccffjlahpfdaaaDoor
open Go Go.Sh Go.Sp

/-- a set: its block, its map's block, the cumulative number, the distances -/
structure SetR (w : World) (b m : Nat) (cum : Int) (S : List Nat) : Prop where
  fld : Fld w b m #[.map (some m), .int .i64 (S.length : Int), .int .u32 cum] 99 S
  rising : S.Pairwise (· < ·)
  rng : ∀ d ∈ S, 2 ≤ d ∧ d ≤ 65535
  c0 : 0 ≤ cum
  c1 : cum < 4294967296
abbrev Same (w w' : World) : Prop := Fr (fun _ => False) w w'
abbrev Bm (b m : Nat) : Nat → Prop := fun k => k = b ∨ k = m
theorem SetR.fr {w w' : World} {b m : Nat} {cum : Int} {S : List Nat} {X : Nat → Prop} (h : SetR w b m cum S) (hf : Fr X w w') (hb : ¬ X b) (hm : ¬ X m) : SetR w' b m cum S :=
  ⟨h.fld.fr hf hb hm, h.rising, h.rng, h.c0, h.c1⟩
theorem SetR.same {w w' : World} {b m : Nat} {cum : Int} {S : List Nat} (h : SetR w b m cum S) (hf : Same w w') : SetR w' b m cum S := h.fr hf (fun h => h) (fun h => h)
theorem SetR.len {w : World} {b m : Nat} {cum : Int} {S : List Nat} (h : SetR w b m cum S) : S.length ≤ 65534 := by
  have := rising_length h.rising (a := 2) (b := 65536) (fun d hd => by have := h.rng d hd; omega)
  omega
theorem SetR.blt {w : World} {b m : Nat} {cum : Int} {S : List Nat} (h : SetR w b m cum S) : b < w.heap.size := lt_of_blk h.fld.blk
theorem SetR.mlt {w : World} {b m : Nat} {cum : Int} {S : List Nat} (h : SetR w b m cum S) : m < w.heap.size := by obtain ⟨f, hf, _⟩ := h.fld.map; exact hf.lt
theorem word_nil (i : Nat) : word [] i = 0 := rfl

theorem c56 {cum : Int} (h0 : 0 ≤ cum) (h1 : cum < 4294967296) (w : World) : Calls Tryd.prog 56 #[.int .u32 cum] w (rt fun v w' => ∃ b m, v = .pointer (some ⟨b, 0, none⟩) ∧ SetR w' b m cum [] ∧ w.heap.size ≤ b ∧ w.heap.size ≤ m ∧ Same w w') := by
  refine F56_ok ?_
  unfold F56 alc
  simp only [rdI_mk]
  refine ⟨_, w.heap.size, rfl, ⟨⟨alloc_new _ _, rfl, rfl, fun _ => none, (MapI.new .i64 .u64 w).of_blk (alloc_old (by simp)), fun _ => rfl⟩, by simp, by simp, h0, h1⟩, by simp, Nat.le_refl _, ((Fr.refl w).alloc _).alloc _⟩
section
variable {w : World} {b m : Nat} {cum : Int} {S : List Nat}
theorem c60 (h : SetR w b m cum S) : Calls Tryd.prog 60 #[.pointer (some ⟨b, 0, none⟩)] w (rt (KR (.bool true) w)) := by
  refine F60_ok ?_
  unfold F60
  simp only [rdP_mk, Option.isNone_some, Bool.not_false, br_true, nn_some, add_mk]
  exact ldM_at h.fld.blk rfl (KR.mk _ _)
theorem c60_nil (w : World) : Calls Tryd.prog 60 #[.pointer none] w (rt (KR (.bool false) w)) := by
  refine F60_ok ?_
  unfold F60
  simp only [rdP_mk, Option.isNone_none, Bool.not_true, br_false]
  exact KR.mk _ _
theorem c60_un {cs : Array Value} {T : TypeId} (h : w.heap[b]? = some (.cells cs T (0, 0))) (hm : cs[0]? = some (.map none)) : Calls Tryd.prog 60 #[.pointer (some ⟨b, 0, none⟩)] w (rt (KR (.bool false) w)) := by
  refine F60_ok ?_
  unfold F60
  simp only [rdP_mk, Option.isNone_some, Bool.not_false, br_true, nn_some, add_mk]
  exact ldM_at h hm (KR.mk _ _)
theorem c35 (h : SetR w b m cum S) : Calls Tryd.prog 35 #[.pointer (some ⟨b, 0, none⟩)] w (rt (KR (.int .u32 cum) w)) := by
  refine F35_ok ?_
  unfold F35
  simp only [rdP_mk]
  refine clr (c60 h) ⟨_, rfl, ?_⟩
  simp only [Bool.not_true, br_false, nn_some, add_mk]
  exact ldI_at h.fld.blk rfl (KR.mk _ _)
/-- a distance that can be above; else 0 -/
def abv (cum tsn : Int) : Nat := if sd cum tsn < 2 ∨ 65535 < sd cum tsn then 0 else (sd cum tsn).toNat
theorem abv_pos {cum tsn : Int} (h : (abv cum tsn : Int) > 0) : abv cum tsn = (sd cum tsn).toNat := by
  unfold abv at h ⊢
  by_cases hc : sd cum tsn < 2 ∨ 65535 < sd cum tsn
  · rw [if_pos hc] at h; simp at h
  · rw [if_neg hc]
theorem c70 (h : SetR w b m cum S) (tsn : Int) : Calls Tryd.prog 70 #[.pointer (some ⟨b, 0, none⟩), .int .u32 tsn] w (rt (KR (.int .i64 (abv cum tsn : Int)) w)) := by
  refine F70_ok ?_
  unfold F70
  simp only [rdP_mk, rdI_mk, nn_some, add_mk]
  refine ldI_at h.fld.blk rfl ?_
  refine clr (c61 _ _ w) ⟨_, rfl, ?_⟩
  simp only [br_dec]
  unfold abv
  refine ⟨fun h1 => ?_, fun h1 => ⟨fun h2 => ?_, fun h2 => ?_⟩⟩
  · rw [if_pos (.inl h1)]; exact KR.mk _ _
  · rw [if_pos (.inr h2)]; exact KR.mk _ _
  · rw [if_neg (by omega), Int.toNat_of_nonneg (by omega)]; exact KR.mk _ _
/-- is a number in? -/
def hasS (cum : Int) (S : List Nat) (tsn : Int) : Bool := decide (sd cum tsn ≤ 0) || decide ((sd cum tsn).toNat ∈ S)
theorem c53 (h : SetR w b m cum S) (tsn : Int) : Calls Tryd.prog 53 #[.pointer (some ⟨b, 0, none⟩), .int .u32 tsn] w (rt fun v w' => v = .bool (hasS cum S tsn) ∧ Same w w') := by
  refine F53_ok ?_
  unfold F53
  simp only [rdP_mk, rdI_mk]
  refine clr (c60 h) ⟨_, rfl, ?_⟩
  simp only [Bool.not_true, br_false]
  refine clr (c70 h tsn) ⟨_, rfl, ?_⟩
  simp only [nn_some, add_mk]
  refine ldI_at h.fld.blk rfl ?_
  refine clr (c61 _ _ w) ⟨_, rfl, ?_⟩
  simp only [br_dec]
  refine ⟨fun h1 => ⟨by simp [hasS, h1], Fr.refl w⟩, fun h1 => ⟨fun h2 => ?_, fun h2 => ⟨?_, Fr.refl w⟩⟩⟩
  · have ha : abv cum tsn = (sd cum tsn).toNat := abv_pos h2
    have hlt : abv cum tsn < 9223372036854775808 := by have := sd_range cum tsn; omega
    refine clr (c63 h.fld hlt) ⟨_, rfl, ?_, (Fr.refl w).drew⟩
    rw [ha]; simp [hasS, h1]
  · have : (sd cum tsn).toNat ∉ S := by
      intro hm
      have := h.rng _ hm
      unfold abv at h2
      rw [if_neg (by omega)] at h2
      omega
    simp [hasS, h1, this]
theorem c57 (h : SetR w b m cum S) (tsn : Int) : Calls Tryd.prog 57 #[.pointer (some ⟨b, 0, none⟩), .int .u32 tsn] w (rt fun v w' => v = .bool (decide ((sd cum tsn).toNat ∈ S)) ∧ SetR w' b m cum (del (sd cum tsn).toNat S) ∧ Fr (Bm b m) w w') := by
  refine F57_ok ?_
  unfold F57
  simp only [rdP_mk, rdI_mk]
  refine clr (c60 h) ⟨_, rfl, ?_⟩
  simp only [Bool.not_true, br_false]
  refine clr (c70 h tsn) ⟨_, rfl, ?_⟩
  have hdel : ∀ d, d ∉ S → del d S = S := fun d hd => by
    unfold del
    rw [List.filter_eq_self]
    intro a ha
    simp
    intro e; subst e; exact hd ha
  simp only [br_dec]
  refine ⟨fun h2 => ?_, fun h2 => ?_⟩
  · have ha : abv cum tsn = (sd cum tsn).toNat := abv_pos h2
    have hlt : abv cum tsn < 9223372036854775808 := by have := sd_range cum tsn; omega
    simp only [nn_some, add_mk]
    by_cases hm : abv cum tsn ∈ S
    · refine cl (c73_new h.fld hlt hm h.rising (by have := h.len; omega)) ?_
      rintro _ w' ⟨rfl, h3, h4⟩
      refine ⟨_, rfl, ?_, ?_, h4⟩
      · rw [← ha]; simp [hm]
      · rw [← ha]; exact ⟨h3, del_rising h.rising, fun d hd => h.rng d (mem_del.1 hd).1, h.c0, h.c1⟩
    · refine clr (c73_old h.fld hlt hm) ⟨_, rfl, ?_, ?_, (Fr.refl w).drew⟩
      · rw [← ha]; simp [hm]
      · rw [← ha, hdel _ hm]; exact h.same (Fr.refl w).drew
  · have hm : (sd cum tsn).toNat ∉ S := by
      intro hm
      have := h.rng _ hm
      unfold abv at h2
      rw [if_neg (by omega)] at h2
      omega
    rw [hdel _ hm]
    exact ⟨by simp [hm], h, Fr.refl w⟩
end
end Go.Proofs.YtccffjlahpfdaaaDoor

namespace Go.Proofs.YtccffjlahpfdaaaDoor
open Go Go.Sh Go.Sp

/-! move: the cumulative number goes on -/
def shift (n : Nat) (S : List Nat) : List Nat := (S.filter (n < ·)).map (· - n)
theorem shift_nil (n : Nat) : shift n [] = [] := rfl
theorem shift_snoc (n : Nat) (S : List Nat) (d : Nat) : shift n (S ++ [d]) = if n < d then shift n S ++ [d - n] else shift n S := by
  unfold shift
  by_cases h : n < d
  · simp [List.filter_append, h]
  · simp [List.filter_append, h]
theorem mem_shift {n e : Nat} {S : List Nat} : e ∈ shift n S ↔ 1 ≤ e ∧ e + n ∈ S := by
  unfold shift
  simp only [List.mem_map, List.mem_filter, decide_eq_true_eq]
  constructor
  · rintro ⟨d, ⟨h1, h2⟩, rfl⟩
    exact ⟨by omega, by rw [Nat.sub_add_cancel (by omega)]; exact h1⟩
  · rintro ⟨h1, h2⟩
    exact ⟨e + n, ⟨h2, by omega⟩, by omega⟩
theorem shift_rising {n : Nat} {S : List Nat} (h : S.Pairwise (· < ·)) : (shift n S).Pairwise (· < ·) := by
  unfold shift
  rw [List.pairwise_map]
  refine (h.sublist (List.filter_sublist (p := fun x => decide (n < x)))).imp_of_mem ?_
  intro a b ha hb hab
  have := (List.mem_filter.1 ha).2
  simp at this
  omega
theorem ins_last {d : Nat} {S : List Nat} (h : ∀ e ∈ S, e < d) : ins d S = S ++ [d] := by
  induction S with
  | nil => rfl
  | cons x r ih =>
    have := h x List.mem_cons_self
    unfold ins
    rw [if_neg (by omega), if_neg (by omega), ih fun e he => h e (List.mem_cons_of_mem _ he)]
    rfl

section
variable {b m : Nat} {cum : Int} {S : List Nat}
/-- while the old distances are gone through -/
structure Mv (w0 : World) (b m m' bo bn bs : Nat) (cum : Int) (n : Nat) (S : List Nat) (f : Int → Option Int) (pre : List Nat) (w : World) : Prop where
  fr : Fr (fun k => k = b ∨ w0.heap.size ≤ k) w0 w
  fld : Fld w b m' #[.map (some m'), .int .i64 ((shift n pre).length : Int), .int .u32 cum] 99 (shift n pre)
  old : w.heap[bo]? = some (.cells #[.map (some m), .int .i64 (S.length : Int)] 97 (0, 0))
  num : w.heap[bn]? = some (.cells #[.int .i64 (n : Int)] 3 (0, 0))
  ptr : w.heap[bs]? = some (.cells #[.pointer (some ⟨b, 0, none⟩)] 77 (0, 0))
theorem c77 {w0 w : World} {m' bo bn bs : Nat} {f : Int → Option Int} {n d : Nat} {pre rest : List Nat} (hr : S.Pairwise (· < ·)) (hb : ∀ d ∈ S, d ≤ 65535) (hS : S = pre ++ d :: rest)
    (hbo : w0.heap.size ≤ bo) (hbn : w0.heap.size ≤ bn) (hbs : w0.heap.size ≤ bs) (hm' : w0.heap.size ≤ m') (hbl : b < w0.heap.size) (hmo : m' ≠ bo) (hmn : m' ≠ bn) (hms : m' ≠ bs)
    (h : Mv w0 b m m' bo bn bs cum n S f pre w) :
    Calls Tryd.prog 77 #[.int .i64 (d : Int), .pointer (some ⟨bn, 0, none⟩), .pointer (some ⟨bs, 0, none⟩)] w (rt fun v w' => v = .tuple #[] ∧ Mv w0 b m m' bo bn bs cum n S f (pre ++ [d]) w') := by
  refine F77_ok ?_
  unfold F77 drw
  simp only [rdI_mk, rdA_mk]
  refine ldI_at h.num rfl ?_
  have hd := hb d (by rw [hS]; simp)
  simp only [br_dec]
  refine ⟨fun h1 => ?_, fun h1 => ⟨trivial, ?_⟩⟩
  · have hf : Fr (fun k => k = b ∨ w0.heap.size ≤ k) w0 w.drew := h.fr.drew
    have hfld := h.fld.drew
    refine ldP_at (w := w.drew) h.ptr rfl ?_
    simp only [nn_some, add_mk]
    refine ldI_at (w := w.drew) h.num rfl ?_
    have e1 : IntKind.wrap .i64 ((d : Int) - (n : Int)) = ((d - n : Nat) : Int) := by rw [wrap_i64 (by omega) (by omega)]; omega
    rw [e1]
    have hpr : (pre ++ d :: rest).Pairwise (· < ·) := by rw [← hS]; exact hr
    have hlt : ∀ e ∈ shift n pre, e < d - n := fun e he => by
      have := (List.pairwise_append.1 hpr).2.2 _ (mem_shift.1 he).2 d List.mem_cons_self
      omega
    have hnm : d - n ∉ shift n pre := fun he => by have := hlt _ he; omega
    have hlen : (shift n pre).length ≤ 65536 := by
      have := rising_length (shift_rising (n := n) (List.pairwise_append.1 hpr).1) (a := 0) (b := 65536) (fun e he => by have := hlt e he; omega)
      omega
    refine cl (c62_new hfld (by omega) hnm (by omega)) ?_
    rintro _ w' ⟨rfl, h2, h3⟩
    refine ⟨_, rfl, trivial, ?_⟩
    have hsh : ins (d - n) (shift n pre) = shift n (pre ++ [d]) := by rw [ins_last hlt, shift_snoc, if_pos (by omega)]
    rw [hsh] at h2
    refine ⟨hf.trans h3 (fun i hi hx => ?_), h2, h3.blk h.old ?_, h3.blk h.num ?_, h3.blk h.ptr ?_⟩
    · rcases hx with hx | hx
      · exact .inl hx
      · exact .inr (by omega)
    · rintro (hx | hx) <;> omega
    · rintro (hx | hx) <;> omega
    · rintro (hx | hx) <;> omega
  · have hsh : shift n (pre ++ [d]) = shift n pre := by rw [shift_snoc, if_neg (by omega)]
    exact ⟨h.fr, by rw [hsh]; exact h.fld, h.old, h.num, h.ptr⟩
theorem c64 {w : World} {n : Nat} (ht : TB w) (h : SetR w b m cum S) (hn1 : 1 ≤ n) (hn : n ≤ 65535) (hnext : n + 1 ∉ S) :
    Calls Tryd.prog 64 #[.pointer (some ⟨b, 0, none⟩), .int .i64 (n : Int)] w (rt fun v w' => v = .tuple #[] ∧ ∃ m', w.heap.size ≤ m' ∧ SetR w' b m' ((cum + n) % 4294967296) (shift n S) ∧ Fr (· = b) w w') := by
  refine F64_ok ?_
  unfold F64 alc drw
  simp only [rdP_mk, rdI_mk]
  obtain ⟨f, hmap, hfw⟩ := h.fld.map
  have hbl := h.blt
  have hml := h.mlt
  -- the worlds, one by one
  obtain ⟨w1, hw1⟩ : ∃ w1, w1 = w.alloc (.cells #[.pointer (some ⟨b, 0, none⟩)] 77) := ⟨_, rfl⟩
  have z1 : w1.heap.size = w.heap.size + 1 := by rw [hw1]; simp
  have p1 : w1.heap[w.heap.size]? = some (.cells #[.pointer (some ⟨b, 0, none⟩)] 77 (0, 0)) := by rw [hw1]; exact alloc_new _ _
  have b1 : w1.heap[b]? = some (.cells #[.map (some m), .int .i64 (S.length : Int), .int .u32 cum] 99 (0, 0)) := by rw [hw1]; exact alloc_blk h.fld.blk
  have f1 : Fr (· = b) w w1 := by rw [hw1]; exact (Fr.refl w).alloc _
  rw [← hw1]
  clear hw1
  obtain ⟨w2, hw2⟩ : ∃ w2, w2 = w1.alloc (.cells #[.int .i64 (n : Int)] 3) := ⟨_, rfl⟩
  have z2 : w2.heap.size = w.heap.size + 2 := by rw [hw2]; simp [z1]
  have n2 : w2.heap[w1.heap.size]? = some (.cells #[.int .i64 (n : Int)] 3 (0, 0)) := by rw [hw2]; exact alloc_new _ _
  have p2 : w2.heap[w.heap.size]? = some (.cells #[.pointer (some ⟨b, 0, none⟩)] 77 (0, 0)) := by rw [hw2]; exact alloc_blk p1
  have b2 : w2.heap[b]? = some (.cells #[.map (some m), .int .i64 (S.length : Int), .int .u32 cum] 99 (0, 0)) := by rw [hw2]; exact alloc_blk b1
  have f2 : Fr (· = b) w w2 := by rw [hw2]; exact f1.alloc _
  rw [← hw2]
  clear hw2
  refine ldP_at p2 rfl ?_
  simp only [nn_some, add_mk]
  refine ldM_at b2 rfl (ldI_at b2 rfl ?_)
  obtain ⟨w3, hw3⟩ : ∃ w3, w3 = w2.alloc (.cells #[.map none, .int .i64 0] 97) := ⟨_, rfl⟩
  have z3 : w3.heap.size = w.heap.size + 3 := by rw [hw3]; simp [z2]
  have o3 : w3.heap[w2.heap.size]? = some (.cells #[.map none, .int .i64 0] 97 (0, 0)) := by rw [hw3]; exact alloc_new _ _
  have n3 : w3.heap[w1.heap.size]? = some (.cells #[.int .i64 (n : Int)] 3 (0, 0)) := by rw [hw3]; exact alloc_blk n2
  have p3 : w3.heap[w.heap.size]? = some (.cells #[.pointer (some ⟨b, 0, none⟩)] 77 (0, 0)) := by rw [hw3]; exact alloc_blk p2
  have b3 : w3.heap[b]? = some (.cells #[.map (some m), .int .i64 (S.length : Int), .int .u32 cum] 99 (0, 0)) := by rw [hw3]; exact alloc_blk b2
  have f3 : Fr (· = b) w w3 := by rw [hw3]; exact f2.alloc _
  rw [← hw3]
  clear hw3
  refine stc_at o3 (by decide) ?_
  refine stc_at (sb_same o3) (by simp) ?_
  obtain ⟨w4, hw4⟩ : ∃ w4, w4 = sb (sb w3 w2.heap.size (.cells (#[.map none, .int .i64 0].setIfInBounds (0 + 0) (.map (some m))) 97 (0, 0))) w2.heap.size
    (.cells ((#[.map none, .int .i64 0].setIfInBounds (0 + 0) (.map (some m))).setIfInBounds (0 + 1) (.int .i64 (S.length : Int))) 97 (0, 0)) := ⟨_, rfl⟩
  have z4 : w4.heap.size = w.heap.size + 3 := by rw [hw4]; simp [z3]
  have o4 : w4.heap[w2.heap.size]? = some (.cells #[.map (some m), .int .i64 (S.length : Int)] 97 (0, 0)) := by rw [hw4]; exact sb_same (sb_same o3)
  have n4 : w4.heap[w1.heap.size]? = some (.cells #[.int .i64 (n : Int)] 3 (0, 0)) := by rw [hw4, sb_other (by omega), sb_other (by omega)]; exact n3
  have p4 : w4.heap[w.heap.size]? = some (.cells #[.pointer (some ⟨b, 0, none⟩)] 77 (0, 0)) := by rw [hw4, sb_other (by omega), sb_other (by omega)]; exact p3
  have b4 : w4.heap[b]? = some (.cells #[.map (some m), .int .i64 (S.length : Int), .int .u32 cum] 99 (0, 0)) := by rw [hw4, sb_other (by omega), sb_other (by omega)]; exact b3
  have f4 : Fr (· = b) w w4 := by rw [hw4]; exact (f3.sb (fun h => by omega)).sb (fun h => by omega)
  rw [← hw4]
  clear hw4
  refine ldP_at p4 rfl ?_
  obtain ⟨w5, hw5⟩ : ∃ w5, w5 = w4.alloc (.map #[] 0) := ⟨_, rfl⟩
  have z5 : w5.heap.size = w.heap.size + 4 := by rw [hw5]; simp [z4]
  have m5 : MapI .i64 .u64 w5 w4.heap.size fun _ => none := by rw [hw5]; exact MapI.new _ _ _
  have o5 : w5.heap[w2.heap.size]? = some (.cells #[.map (some m), .int .i64 (S.length : Int)] 97 (0, 0)) := by rw [hw5]; exact alloc_blk o4
  have n5 : w5.heap[w1.heap.size]? = some (.cells #[.int .i64 (n : Int)] 3 (0, 0)) := by rw [hw5]; exact alloc_blk n4
  have p5 : w5.heap[w.heap.size]? = some (.cells #[.pointer (some ⟨b, 0, none⟩)] 77 (0, 0)) := by rw [hw5]; exact alloc_blk p4
  have b5 : w5.heap[b]? = some (.cells #[.map (some m), .int .i64 (S.length : Int), .int .u32 cum] 99 (0, 0)) := by rw [hw5]; exact alloc_blk b4
  have f5 : Fr (· = b) w w5 := by rw [hw5]; exact f4.alloc _
  rw [← hw5]
  clear hw5
  simp only [nn_some, add_mk]
  refine stc_at b5 (by simp) ?_
  refine stc_at (sb_same b5) (by simp) ?_
  generalize hw6 : World.drew _ = w6
  have b6 : w6.heap[b]? = some (.cells #[.map (some w4.heap.size), .int .i64 0, .int .u32 cum] 99 (0, 0)) := by rw [← hw6]; exact sb_same (sb_same b5)
  have z6 : w6.heap.size = w.heap.size + 4 := by rw [← hw6]; simp [z5]
  have g6 : ∀ c, c ≠ b → w6.heap[c]? = w5.heap[c]? := fun c hc => by rw [← hw6, drew_heap, sb_other hc, sb_other hc]
  have f6 : Fr (· = b) w w6 := by rw [← hw6]; exact ((f5.sb (fun _ => rfl)).sb (fun _ => rfl)).drew
  clear hw6
  have o6 := (g6 w2.heap.size (by omega)).trans o5
  have n6 := (g6 w1.heap.size (by omega)).trans n5
  have p6 := (g6 w.heap.size (by omega)).trans p5
  have m6 : MapI .i64 .u64 w6 w4.heap.size fun _ => none := m5.of_blk (g6 _ (by omega))
  refine ldP_at p6 rfl ?_
  simp only [nn_some, add_mk]
  refine ldI_at b6 rfl (ldI_at n6 rfl (stc_at b6 (by simp) ?_))
  have hc0 := h.c0
  have hc1 := h.c1
  have hcum : IntKind.wrap .u32 (cum + IntKind.wrap .u32 (n : Int)) = (cum + n) % 4294967296 := by
    rw [wrap_u32 (n := (n : Int)) (by omega) (by omega), wrap_u32_mod]
  rw [hcum]
  generalize hw7 : sb w6 b _ = w7
  have b7 : w7.heap[b]? = some (.cells #[.map (some w4.heap.size), .int .i64 0, .int .u32 ((cum + n) % 4294967296)] 99 (0, 0)) := by rw [← hw7]; exact sb_same b6
  have g7 : ∀ c, c ≠ b → w7.heap[c]? = w6.heap[c]? := fun c hc => by rw [← hw7, sb_other hc]
  have f7 : Fr (· = b) w w7 := by rw [← hw7]; exact f6.sb (fun _ => rfl)
  clear hw7
  have o7 := (g7 w2.heap.size (by omega)).trans o6
  have start : Mv w b m w4.heap.size w2.heap.size w1.heap.size w.heap.size ((cum + n) % 4294967296) n S f [] w7 :=
    ⟨f7.mono fun i hi hx => .inl hx, ⟨b7, rfl, rfl, fun _ => none, m6.of_blk (g7 _ (by omega)), fun _ => rfl⟩, o7, (g7 w1.heap.size (by omega)).trans n6, (g7 w.heap.size (by omega)).trans p6⟩
  have tb : b ≠ 0 := ht.ne h.fld.blk (by simp)
  have tm : m ≠ 0 := ht.ne_map hmap
  have E : Each w2.heap.size m S (.func (.func 77) #[] #[.pointer (some ⟨w1.heap.size, 0, none⟩), .pointer (some ⟨w.heap.size, 0, none⟩)])
      (Mv w b m w4.heap.size w2.heap.size w1.heap.size w.heap.size ((cum + n) % 4294967296) n S f) :=
    { rising := h.rising
      bound := fun d hd => by have := h.rng d hd; omega
      tab := fun pre w' hI => ht.fr hI.fr (by
        rintro (hx | hx)
        · exact tb hx.symm
        · obtain ⟨T, z, ht⟩ := ht
          have := lt_of_blk ht
          omega)
      fld := fun pre w' hI => ⟨_, _, f, hI.old, rfl, hmap.fr hI.fr (by
        rintro (hx | hx)
        · exact h.fld.ne hx
        · omega), hfw⟩
      step := fun pre d rest w' hS hI => by
        refine callV_of (by kernel_rfl) (call_of (c77 (S := S) (rest := rest) h.rising (fun d hd => (h.rng d hd).2) hS (by omega) (by omega) (by omega) (by omega) hbl (by omega) (by omega) (by omega) hI) ?_)
        rintro _ w'' ⟨v, rfl, rfl, h2⟩
        exact ⟨rfl, rfl, h2⟩ }
  refine cl (c71 E o7 rfl start) ?_
  rintro _ w' ⟨rfl, hI⟩
  refine ⟨rfl, trivial, w4.heap.size, by omega, ⟨hI.fld, shift_rising h.rising, fun d hd => ?_, by omega, by omega⟩, hI.fr.mono fun i hi hx => ?_⟩
  · obtain ⟨h1, h2⟩ := mem_shift.1 hd
    have := h.rng _ h2
    refine ⟨?_, by omega⟩
    rcases Nat.lt_or_ge d 2 with h3 | h3
    · exfalso
      have : d = 1 := by omega
      subst this
      exact hnext (by rw [Nat.add_comm]; exact h2)
    · exact h3
  · rcases hx with hx | hx
    · exact hx
    · omega
end
end Go.Proofs.YtccffjlahpfdaaaDoor

namespace Go.Proofs.YtccffjlahpfdaaaDoor
open Go Go.Sh Go.Sp

/-! Add -/
def goRun : Nat → List Nat → Nat
  | n, [] => n
  | n, d :: r => if d = n + 1 then goRun (n + 1) r else n
theorem goRun_spec : ∀ (S : List Nat) (n : Nat), S.Pairwise (· < ·) → (∀ d ∈ S, n + 1 ≤ d) → n ≤ goRun n S ∧ (∀ k, n < k → k ≤ goRun n S → k ∈ S) ∧ goRun n S + 1 ∉ S
  | [], n, _, _ => ⟨Nat.le_refl _, fun k h h' => by unfold goRun at h'; omega, by simp⟩
  | d :: r, n, h, hd => by
    rw [List.pairwise_cons] at h
    unfold goRun
    by_cases hc : d = n + 1
    · rw [if_pos hc]
      obtain ⟨h1, h2, h3⟩ := goRun_spec r (n + 1) h.2 fun e he => by have := h.1 e he; omega
      refine ⟨by omega, fun k hk hk' => ?_, ?_⟩
      · by_cases hk2 : k = n + 1
        · rw [hk2, ← hc]; exact List.mem_cons_self
        · exact List.mem_cons_of_mem _ (h2 k (by omega) hk')
      · intro hm
        rcases List.mem_cons.1 hm with hm | hm
        · omega
        · exact h3 hm
    · rw [if_neg hc]
      refine ⟨Nat.le_refl _, fun k hk hk' => by omega, fun hm => ?_⟩
      rcases List.mem_cons.1 hm with hm | hm
      · omega
      · have := h.1 _ hm; have := hd d List.mem_cons_self; omega
def runS (S : List Nat) : Nat := goRun 1 S
def addR (cum : Int) (S : List Nat) (tsn : Int) : Bool × Int := if sd cum tsn ≤ 0 then (false, 0) else if sd cum tsn > 65535 then (false, 31) else if sd cum tsn > 1 then (!decide ((sd cum tsn).toNat ∈ S), 0) else (true, 0)
def addC (cum : Int) (S : List Nat) (tsn : Int) : Int := if sd cum tsn = 1 then (cum + runS S) % 4294967296 else cum
def addS (cum : Int) (S : List Nat) (tsn : Int) : List Nat := if sd cum tsn = 1 then shift (runS S) S else if 1 < sd cum tsn ∧ sd cum tsn ≤ 65535 then ins (sd cum tsn).toNat S else S
section
variable {w : World} {b m : Nat} {cum : Int} {S : List Nat}
theorem SetR.run (h : SetR w b m cum S) : 1 ≤ runS S ∧ (∀ k, 1 < k → k ≤ runS S → k ∈ S) ∧ runS S + 1 ∉ S ∧ runS S ≤ 65535 := by
  obtain ⟨h1, h2, h3⟩ := goRun_spec S 1 h.rising fun d hd => (h.rng d hd).1
  refine ⟨h1, h2, h3, ?_⟩
  by_cases hc : goRun 1 S = 1
  · unfold runS; omega
  · exact (h.rng _ (h2 (goRun 1 S) (by omega) (Nat.le_refl _))).2
theorem c36_loop {K : Value → Value → World → Prop} : ∀ (i n : Nat) (w : World) (k : Nat), n + i = runS S → 1 ≤ n → SetR w b m cum S → i < k →
    (∀ w', SetR w' b m cum S → Same w w' → K (.pointer (some ⟨b, 0, none⟩)) (.int .i64 (runS S : Int)) w') → F36_1 K k (.pointer (some ⟨b, 0, none⟩)) (.int .i64 (n : Int)) w := by
  intro i
  induction i with
  | zero =>
    intro n w k hn h1 h hk hK
    obtain ⟨k, rfl⟩ : ∃ j, k = j + 1 := ⟨k - 1, by omega⟩
    obtain ⟨_, _, r3, r4⟩ := h.run
    have hn' : n = runS S := by omega
    subst hn'
    show F36_1B _ _ _ _ _
    unfold F36_1B
    simp only [rdP_mk, rdI_mk, br_dec, nn_some, add_mk]
    refine ⟨fun hlt => ?_, fun _ => hK w h (Fr.refl w)⟩
    have e1 : IntKind.wrap .i64 ((runS S : Int) + 1) = ((runS S + 1 : Nat) : Int) := by rw [wrap_i64 (by omega) (by omega)]; omega
    rw [e1]
    refine clr (c63 h.fld (by omega)) ⟨_, rfl, ?_⟩
    rw [decide_eq_false r3, br_false]
    exact hK _ (h.same (Fr.refl w).drew) (Fr.refl w).drew
  | succ i ih =>
    intro n w k hn h1 h hk hK
    obtain ⟨k, rfl⟩ : ∃ j, k = j + 1 := ⟨k - 1, by omega⟩
    obtain ⟨_, r2, r3, r4⟩ := h.run
    show F36_1B _ _ _ _ _
    unfold F36_1B
    simp only [rdP_mk, rdI_mk, br_dec, nn_some, add_mk]
    refine ⟨fun hlt => ?_, fun hlt => by exfalso; omega⟩
    have e1 : IntKind.wrap .i64 ((n : Int) + 1) = ((n + 1 : Nat) : Int) := by rw [wrap_i64 (by omega) (by omega)]; omega
    rw [e1]
    refine clr (c63 h.fld (by omega)) ⟨_, rfl, ?_⟩
    rw [decide_eq_true (r2 (n + 1) (by omega) (by omega)), br_true]
    refine ih (n + 1) _ k (by omega) (by omega) (h.same (Fr.refl w).drew) (by omega) fun w' h' hf => hK w' h' ((Fr.refl w).drew.trans hf fun _ _ x => x)
theorem c36 (ht : TB w) (h : SetR w b m cum S) (tsn : Int) :
    Calls Tryd.prog 36 #[.pointer (some ⟨b, 0, none⟩), .int .u32 tsn] w (rt fun v w' => v = .tuple #[.bool (addR cum S tsn).1, .int .i64 (addR cum S tsn).2] ∧ ∃ m', (m' = m ∨ w.heap.size ≤ m') ∧ SetR w' b m' (addC cum S tsn) (addS cum S tsn) ∧ Fr (Bm b m) w w') := by
  refine F36_ok ?_
  unfold F36
  simp only [rdP_mk, rdI_mk]
  refine clr (c60 h) ⟨_, rfl, ?_⟩
  simp only [Bool.not_true, br_false, nn_some, add_mk]
  refine ldI_at h.fld.blk rfl ?_
  refine clr (c61 _ _ w) ⟨_, rfl, ?_⟩
  simp only [br_dec]
  refine ⟨fun h1 => ?_, fun h1 => ⟨fun h2 => ?_, fun h2 => ⟨fun h3 => ?_, fun h3 => ?_⟩⟩⟩
  · refine ⟨by rw [addR, if_pos h1], m, .inl rfl, ?_, Fr.refl w⟩
    rw [addC, addS, if_neg (by omega), if_neg (by omega), if_neg (by omega)]; exact h
  · refine ⟨by rw [addR, if_neg h1, if_pos h2], m, .inl rfl, ?_, Fr.refl w⟩
    rw [addC, addS, if_neg (by omega), if_neg (by omega), if_neg (by omega)]; exact h
  · obtain ⟨d, hd⟩ : ∃ d : Nat, sd cum tsn = d := ⟨(sd cum tsn).toNat, by omega⟩
    have hsd : (sd cum tsn).toNat = d := by omega
    rw [addR, addC, addS, if_neg h1, if_neg h2, if_pos h3, if_neg (by omega), if_neg (by omega), if_pos (by omega), hsd, hd]
    by_cases hm : d ∈ S
    · refine clr (c62_old h.fld (by omega) hm) ⟨_, rfl, by simp [hm], m, .inl rfl, ?_, (Fr.refl w).drew⟩
      rw [ins_same h.rising hm]
      exact h.same (Fr.refl w).drew
    · refine cl (c62_new h.fld (by omega) hm (by have := h.len; omega)) ?_
      rintro _ w' ⟨rfl, h4, h5⟩
      refine ⟨_, rfl, by simp [hm], m, .inl rfl, ⟨h4, ins_rising h.rising, fun e he => ?_, h.c0, h.c1⟩, h5⟩
      rcases mem_ins.1 he with rfl | he
      · omega
      · exact h.rng e he
  · have hd1 : sd cum tsn = 1 := by omega
    rw [addR, addC, addS, if_neg h1, if_neg h2, if_neg h3, if_pos hd1, if_pos hd1]
    obtain ⟨r1, r2, r3, r4⟩ := h.run
    refine ⟨runS S + 1, c36_loop (runS S - 1) 1 w _ (by omega) (Nat.le_refl _) h (by omega) fun w1 h1' hf _g => ?_⟩
    simp only [rdP_mk, rdI_mk]
    have ht1 : TB w1 := ht.fr hf fun x => x
    refine cl (c64 ht1 h1' r1 r4 r3) ?_
    rintro _ w2 ⟨rfl, m', hm', h4, h5⟩
    refine ⟨rfl, trivial, m', .inr (by have := hf.size; omega), h4, ?_⟩
    exact (hf.mono (S' := Bm b m) fun _ _ x => x.elim).trans h5 fun i _ x => .inl x
end
end Go.Proofs.YtccffjlahpfdaaaDoor

namespace Go.Proofs.YtccffjlahpfdaaaDoor
open Go Go.Sh Go.Sp

/-! All, High: closures over each -/
noncomputable def E30i : TypeInfo := (Tryd.prog.info? 22).getD default
theorem E30 : ElemT Tryd.prog 34 22 1 4 (.int .u32 0) E30i := ⟨by kernel_rfl, by kernel_rfl, by kernel_rfl, by kernel_rfl, by kernel_rfl, rfl, by decide⟩
def numV (cum : Int) (S : List Nat) : List Value := S.map fun (d : Nat) => Value.int .u32 ((cum + (d : Int)) % 4294967296)
theorem numV_snoc (cum : Int) (S : List Nat) (d : Nat) : numV cum (S ++ [d]) = numV cum S ++ [Value.int .u32 ((cum + (d : Int)) % 4294967296)] := by simp [numV]
theorem addN {cum : Int} {d : Nat} (h : d < 65536) : IntKind.wrap .u32 (cum + IntKind.wrap .u32 (d : Int)) = (cum + d) % 4294967296 := by rw [wrap_u32 (n := (d : Int)) (by omega) (by omega), wrap_u32_mod]
section
variable {b m : Nat} {cum : Int} {S : List Nat}
structure Al (w0 : World) (b m bo bs : Nat) (cum : Int) (S : List Nat) (pre : List Nat) (w : World) : Prop where
  fr : Same w0 w
  set : SetR w b m cum S
  ptr : w.heap[bs]? = some (.cells #[.pointer (some ⟨b, 0, none⟩)] 77 (0, 0))
  out : ∃ a l c, w.heap[bo]? = some (.cells #[.slice a l c] 34 (0, 0)) ∧ Own w (bo + 1) 22 1 a l c (numV cum pre)
theorem c72 {w0 w : World} {bo bs d : Nat} {pre rest : List Nat} (hS : S = pre ++ d :: rest) (hbo : w0.heap.size ≤ bo) (hbs : bs < bo) (hb : b < bo) (hm : m < bo) (h : Al w0 b m bo bs cum S pre w) :
    Calls Tryd.prog 72 #[.int .i64 (d : Int), .pointer (some ⟨bo, 0, none⟩), .pointer (some ⟨bs, 0, none⟩)] w (rt fun v w' => v = .tuple #[] ∧ Al w0 b m bo bs cum S (pre ++ [d]) w') := by
  refine F72_ok ?_
  unfold F72 drw alc
  simp only [rdI_mk, rdA_mk]
  obtain ⟨a, l, c, h1, h2⟩ := h.out
  have hd := h.set.rng d (by rw [hS]; simp)
  have hlen := h.set.len
  have hl : l = pre.length := by have := h2.length; simp [numV] at this; omega
  have hl2 : l + 1 ≤ 65534 := by rw [hS] at hlen; simp at hlen; omega
  refine ldC_at (w := w.drew) h1 rfl (ldP_at (w := w.drew) h.ptr rfl ?_)
  simp only [nn_some, add_mk]
  refine ldI_at (w := w.drew) h.set.fld.blk rfl ⟨Pres.alloc _ _, ?_⟩
  have f0 : Same w w.drew := (Fr.refl w).drew
  rw [addN (by omega)]
  refine push E30 (h2.fr f0 fun _ _ x => x) (news := #[_]) rfl (by simp [Value.oneCell']) (by omega) (by omega) (Nat.succ_le_of_lt (by simpa using lt_of_blk h1)) ?_
  intro a' c' w' k1 k2 k3
  have nb : ∀ k, k ≤ bo → ¬ inB a k := fun k hk x => by have := (h2.base_le x).1; omega
  have s1 : ∀ {k}, k ≤ bo → k < w.heap.size → w'.heap[k]? = w.heap[k]? := fun {k} hk hlt => k2.block k (by simpa using hlt) (nb k hk)
  have o1 : w'.heap[bo]? = some (.cells #[.slice a l c] 34 (0, 0)) := by rw [s1 (Nat.le_refl _) (lt_of_blk h1)]; exact h1
  refine stc_at o1 (by simp) ⟨trivial, ?_⟩
  have f1 : Fr (fun k => bo ≤ k) w w' := (f0.mono (S' := fun k => bo ≤ k) fun _ _ x => x.elim).trans k2 fun i _ x => by have := (h2.base_le x).1; omega
  have f2 := f1.sb (b := bo) (o := .cells (#[.slice a l c].setIfInBounds 0 (.slice a' (l + 1) c')) 34 (0, 0)) fun _ => Nat.le_refl _
  refine ⟨(h.fr.mono (S' := fun k => w0.heap.size ≤ k) fun _ _ x => x.elim).trans f2 (fun i _ (x : bo ≤ i) => by omega) |>.mono fun i hi x => by omega, h.set.fr f2 (by omega) (by omega), f2.blk h.ptr (by omega), a', l + 1, c', sb_same o1, ?_⟩
  rw [numV_snoc]
  refine k1.fr ((Fr.refl w').sb (S := (· = bo)) fun _ => rfl) fun k hk x => ?_
  subst x
  have := (k1.base_le hk).1
  omega
theorem c55 {w : World} (ht : TB w) (h : SetR w b m cum S) :
    Calls Tryd.prog 55 #[.pointer (some ⟨b, 0, none⟩)] w (rt fun v w' => ∃ a c, v = .slice a S.length c ∧ Own w' w.heap.size 22 1 a S.length c (numV cum S) ∧ Same w w') := by
  refine F55_ok ?_
  unfold F55 alc
  simp only [rdP_mk]
  have hbl := h.blt
  have hml := h.mlt
  refine ldP_at (alloc_new _ _) rfl ?_
  refine clr (c60 (h.same ((Fr.refl w).alloc _))) ⟨_, rfl, ?_⟩
  simp only [Bool.not_true, br_false]
  refine ldP_at (alloc_blk (alloc_new _ _)) rfl ?_
  simp only [nn_some, add_mk]
  obtain ⟨w1, hw1⟩ : ∃ w1, w1 = (w.alloc (.cells #[.pointer (some ⟨b, 0, none⟩)] 77)).alloc (.cells #[.slice none 0 0] 34) := ⟨_, rfl⟩
  have z1 : w1.heap.size = w.heap.size + 2 := by rw [hw1]; simp
  have o1 : w1.heap[w.heap.size + 1]? = some (.cells #[.slice none 0 0] 34 (0, 0)) := by
    have := alloc_new (w.alloc (.cells #[.pointer (some ⟨b, 0, none⟩)] 77)) (.cells #[.slice none 0 0] 34)
    rw [← hw1] at this
    simpa using this
  have p1 : w1.heap[w.heap.size]? = some (.cells #[.pointer (some ⟨b, 0, none⟩)] 77 (0, 0)) := by rw [hw1]; exact alloc_blk (alloc_new _ _)
  have f1 : Same w w1 := by rw [hw1]; exact ((Fr.refl w).alloc _).alloc _
  have hsz : (w.alloc (.cells #[.pointer (some ⟨b, 0, none⟩)] 77)).heap.size = w.heap.size + 1 := by simp
  rw [← hw1, hsz]
  clear hw1 hsz
  have start : Al w b m (w.heap.size + 1) w.heap.size cum S [] w1 := ⟨f1, h.same f1, p1, none, 0, 0, o1, Own.nil _ _ _ _⟩
  have E : Each b m S (.func (.func 72) #[] #[.pointer (some ⟨w.heap.size + 1, 0, none⟩), .pointer (some ⟨w.heap.size, 0, none⟩)]) (Al w b m (w.heap.size + 1) w.heap.size cum S) :=
    { rising := h.rising
      bound := fun d hd => by have := h.rng d hd; omega
      tab := fun pre w' hI => ht.fr hI.fr fun x => x
      fld := fun pre w' hI => by obtain ⟨f, k1, k2⟩ := hI.set.fld.map; exact ⟨_, _, f, hI.set.fld.blk, rfl, k1, k2⟩
      step := fun pre d rest w' hS hI => by
        refine callV_of (by kernel_rfl) (call_of (c72 (rest := rest) hS (by omega) (by omega) (by omega) (by omega) hI) ?_)
        rintro _ w'' ⟨v, rfl, rfl, h2⟩
        exact ⟨rfl, rfl, h2⟩ }
  refine cl (c71 E (start.set.fld.blk) rfl start) ?_
  rintro _ w' ⟨rfl, hI⟩
  obtain ⟨a, l, c, h1, h2⟩ := hI.out
  have hl : l = S.length := by have := h2.length; simp [numV] at this; omega
  subst hl
  exact ⟨rfl, ldC_at h1 rfl ⟨a, c, rfl, h2.mono (by omega), hI.fr⟩⟩

/-! High -/
def highS (cum : Int) (S : List Nat) : Int := (cum + (S.getLastD 0 : Nat)) % 4294967296
structure Hi (w0 : World) (b m bo bs : Nat) (cum : Int) (S : List Nat) (pre : List Nat) (w : World) : Prop where
  fr : Same w0 w
  set : SetR w b m cum S
  ptr : w.heap[bs]? = some (.cells #[.pointer (some ⟨b, 0, none⟩)] 77 (0, 0))
  out : w.heap[bo]? = some (.cells #[.int .u32 (highS cum pre)] 22 (0, 0))
end
end Go.Proofs.YtccffjlahpfdaaaDoor

namespace Go.Proofs.YtccffjlahpfdaaaDoor
open Go Go.Sh Go.Sp

theorem snocInd {α : Type} {P : List α → Prop} (h0 : P []) (h : ∀ r d, P r → P (r ++ [d])) (l : List α) : P l := by
  have : ∀ l : List α, P l.reverse := fun l => by
    induction l with
    | nil => exact h0
    | cons x l ih => rw [List.reverse_cons]; exact h _ _ ih
  have := this l.reverse
  rwa [List.reverse_reverse] at this

/-! Missing -/
def mstep (acc : List Nat × Nat) (d : Nat) : List Nat × Nat := (acc.1 ++ List.range' acc.2 (d - acc.2), d + 1)
def missA (S : List Nat) : List Nat × Nat := S.foldl mstep ([], 1)
theorem missA_snoc (S : List Nat) (d : Nat) : missA (S ++ [d]) = mstep (missA S) d := by simp [missA]
theorem missA_next (S : List Nat) : (missA S).2 = S.getLastD 0 + 1 := by
  rcases List.eq_nil_or_concat S with rfl | ⟨r, d, rfl⟩
  · rfl
  · rw [List.concat_eq_append, missA_snoc, List.getLastD_eq_getLast?]; simp [mstep]
theorem missA_bound (S : List Nat) (h : S.Pairwise (· < ·)) (h1 : ∀ d ∈ S, 1 ≤ d) : (missA S).1.length + 1 ≤ (missA S).2 ∧ (∀ d ∈ S, d < (missA S).2) ∧ (∀ k ∈ (missA S).1, 1 ≤ k ∧ k < (missA S).2) := by
  revert h h1
  refine snocInd (P := fun S => S.Pairwise (· < ·) → (∀ d ∈ S, 1 ≤ d) → (missA S).1.length + 1 ≤ (missA S).2 ∧ (∀ d ∈ S, d < (missA S).2) ∧ (∀ k ∈ (missA S).1, 1 ≤ k ∧ k < (missA S).2)) (by simp [missA]) ?_ S
  · intro r d ih h h1
    obtain ⟨i1, i2, i3⟩ := ih (List.pairwise_append.1 h).1 fun e he => h1 e (by simp [he])
    have h3 := (List.pairwise_append.1 h).2.2
    have hd : (missA r).2 ≤ d := by
      rw [missA_next]
      rcases List.eq_nil_or_concat r with rfl | ⟨r', e, rfl⟩
      · have := h1 d (by simp); simpa using this
      · have := h3 e (by simp) d (by simp)
        simp [List.getLastD_eq_getLast?]; omega
    rw [missA_snoc]
    simp only [mstep, List.length_append, List.length_range']
    refine ⟨by omega, fun e he => ?_, fun k hk => ?_⟩
    · rcases List.mem_append.1 he with he | he
      · have := i2 e he; omega
      · simp at he; omega
    · rcases List.mem_append.1 hk with hk | hk
      · have := i3 k hk; omega
      · simp at hk
        omega

section
variable {b m : Nat} {cum : Int} {S : List Nat} {N : Int}
structure Mi (w0 : World) (b m bs : Nat) (cum : Int) (S : List Nat) (N : Int) (L : List Nat) (nx : Nat) (w : World) : Prop where
  fr : Same w0 w
  set : SetR w b m cum S
  ptr : w.heap[bs]? = some (.cells #[.pointer (some ⟨b, 0, none⟩)] 77 (0, 0))
  num : w.heap[bs + 1]? = some (.cells #[.int .i64 N] 3 (0, 0))
  out : ∃ a l c, w.heap[bs + 2]? = some (.cells #[.slice a l c] 34 (0, 0)) ∧ Own w (bs + 4) 22 1 a l c (numV cum (L.take N.toNat))
  nxt : w.heap[bs + 3]? = some (.cells #[.int .i64 (nx : Int)] 3 (0, 0))
theorem take_full {α : Type} {L M : List α} {n : Nat} (h : n ≤ L.length) : (L ++ M).take n = L.take n := by rw [List.take_append_of_le_length h]
def missS (S : List Nat) (N : Int) : List Nat := (missA S).1.take N.toNat
end
end Go.Proofs.YtccffjlahpfdaaaDoor

namespace Go.Proofs.YtccffjlahpfdaaaDoor
open Go Go.Sh Go.Sp

/-! Gaps -/
noncomputable def E37i : TypeInfo := (Tryd.prog.info? 60).getD default
theorem E37 : ElemT Tryd.prog 50 60 2 4 (.agg #[.int .u16 0, .int .u16 0]) E37i := ⟨by kernel_rfl, by kernel_rfl, by kernel_rfl, by kernel_rfl, by kernel_rfl, rfl, by decide⟩
def gapV (L : List (Nat × Nat)) : List Value := L.flatMap fun p => [Value.int .u16 (p.1 : Int), Value.int .u16 (p.2 : Int)]
theorem gapV_snoc (L : List (Nat × Nat)) (p : Nat × Nat) : gapV (L ++ [p]) = gapV L ++ [Value.int .u16 (p.1 : Int), Value.int .u16 (p.2 : Int)] := by simp [gapV]
theorem gapV_length (L : List (Nat × Nat)) : (gapV L).length = L.length * 2 := by
  induction L with
  | nil => rfl
  | cons p L ih => simp [gapV] at ih ⊢; omega
theorem gapV_take (L : List (Nat × Nat)) (n : Nat) : (gapV L).take (n * 2) = gapV (L.take n) := by
  induction L generalizing n with
  | nil => simp [gapV]
  | cons p L ih =>
    cases n with
    | zero => simp [gapV]
    | succ n =>
      have : (n + 1) * 2 = n * 2 + 1 + 1 := by omega
      rw [this]
      have h2 : gapV (p :: L) = Value.int .u16 (p.1 : Int) :: Value.int .u16 (p.2 : Int) :: gapV L := rfl
      rw [h2, List.take_succ_cons, List.take_succ_cons, ih]
      rfl
/-- one more number: the runs, whole -/
def gstep (L : List (Nat × Nat)) (d : Nat) : List (Nat × Nat) :=
  match L.getLast? with
  | some p => if p.2 + 1 = d then L.dropLast ++ [(p.1, d)] else L ++ [(d, d)]
  | none => [(d, d)]
/-- the runs, not many more than N -/
def lstep (N : Nat) (L : List (Nat × Nat)) (d : Nat) : List (Nat × Nat) :=
  match L.getLast? with
  | some p => if p.2 + 1 = d then L.dropLast ++ [(p.1, d)] else if L.length ≤ N then L ++ [(d, d)] else L
  | none => [(d, d)]
def gapA (S : List Nat) : List (Nat × Nat) := S.foldl gstep []
def gapL (N : Nat) (S : List Nat) : List (Nat × Nat) := S.foldl (lstep N) []
theorem gapA_snoc (S : List Nat) (d : Nat) : gapA (S ++ [d]) = gstep (gapA S) d := by simp [gapA]
theorem gapL_snoc (N : Nat) (S : List Nat) (d : Nat) : gapL N (S ++ [d]) = lstep N (gapL N S) d := by simp [gapL]
theorem gstep_snoc (L : List (Nat × Nat)) (p : Nat × Nat) (d : Nat) : gstep (L ++ [p]) d = if p.2 + 1 = d then L ++ [(p.1, d)] else (L ++ [p]) ++ [(d, d)] := by simp [gstep]
theorem lstep_snoc (N : Nat) (L : List (Nat × Nat)) (p : Nat × Nat) (d : Nat) : lstep N (L ++ [p]) d = if p.2 + 1 = d then L ++ [(p.1, d)] else if L.length + 1 ≤ N then (L ++ [p]) ++ [(d, d)] else L ++ [p] := by simp [lstep]
def gapR (N : Nat) (L G : List (Nat × Nat)) : Prop := (L = G ∧ G.length ≤ N) ∨ (L.length = N + 1 ∧ N + 1 ≤ G.length ∧ L.take N = G.take N)
theorem gapR_step {N : Nat} {L G : List (Nat × Nat)} (h : gapR N L G) (d : Nat) : gapR N (lstep N L d) (gstep G d) := by
  rcases h with ⟨rfl, h⟩ | ⟨h1, h2, h3⟩
  · rcases List.eq_nil_or_concat L with rfl | ⟨L, p, rfl⟩
    · by_cases hN : 1 ≤ N
      · exact .inl ⟨rfl, by simpa [gstep] using hN⟩
      · have : N = 0 := by omega
        subst this
        exact .inr ⟨rfl, by simp [gstep], rfl⟩
    · rw [List.concat_eq_append] at h ⊢
      rw [gstep_snoc, lstep_snoc]
      simp only [List.length_append, List.length_singleton] at h
      by_cases hp : p.2 + 1 = d
      · rw [if_pos hp, if_pos hp]
        exact .inl ⟨rfl, by simpa using h⟩
      · rw [if_neg hp, if_neg hp, if_pos h]
        by_cases h' : L.length + 1 = N
        · exact .inr ⟨by simp; omega, by simp; omega, rfl⟩
        · exact .inl ⟨rfl, by simp; omega⟩
  · refine .inr ?_
    obtain ⟨L, p, rfl⟩ : ∃ L' p, L = L' ++ [p] := by
      rcases List.eq_nil_or_concat L with rfl | ⟨L, p, rfl⟩
      · simp at h1
      · exact ⟨L, p, by simp⟩
    obtain ⟨G, q, rfl⟩ : ∃ L' p, G = L' ++ [p] := by
      rcases List.eq_nil_or_concat G with rfl | ⟨L, p, rfl⟩
      · simp at h2
      · exact ⟨L, p, by simp⟩
    simp only [List.length_append, List.length_singleton] at h1 h2
    rw [gstep_snoc, lstep_snoc, if_neg (show ¬ L.length + 1 ≤ N by omega)]
    have t1 : ∀ (x : List (Nat × Nat)), (L ++ x).take N = L.take N := fun x => take_full (by omega)
    have t2 : ∀ (x : List (Nat × Nat)), (G ++ x).take N = G.take N := fun x => take_full (by omega)
    rw [t1, t2] at h3
    refine ⟨?_, ?_, ?_⟩
    · split <;> simp <;> omega
    · split <;> simp <;> omega
    · have a1 : (if p.2 + 1 = d then L ++ [(p.1, d)] else L ++ [p]).take N = L.take N := by split <;> exact t1 _
      have a2 : (if q.2 + 1 = d then G ++ [(q.1, d)] else (G ++ [q]) ++ [(d, d)]).take N = G.take N := by
        split
        · exact t2 _
        · rw [List.append_assoc]; exact t2 _
      rw [a1, a2, h3]
theorem gapR_all (N : Nat) (S : List Nat) : gapR N (gapL N S) (gapA S) := by
  refine snocInd (P := fun S => gapR N (gapL N S) (gapA S)) (.inl ⟨rfl, Nat.zero_le _⟩) ?_ S
  intro r d ih
  rw [gapL_snoc, gapA_snoc]
  exact gapR_step ih d
theorem gapL_take (N : Nat) (S : List Nat) : (gapL N S).take N = (gapA S).take N ∧ min N (gapL N S).length = min N (gapA S).length := by
  rcases gapR_all N S with ⟨h, _⟩ | ⟨h1, h2, h3⟩
  · rw [h]; exact ⟨rfl, rfl⟩
  · exact ⟨h3, by omega⟩
theorem lstep_len (N : Nat) (L : List (Nat × Nat)) (d : Nat) : (lstep N L d).length ≤ L.length + 1 := by
  rcases List.eq_nil_or_concat L with rfl | ⟨L, p, rfl⟩
  · simp [lstep]
  · rw [List.concat_eq_append, lstep_snoc]
    split
    · simp
    · split <;> simp
theorem gapL_len (N : Nat) (S : List Nat) : (gapL N S).length ≤ S.length := by
  refine snocInd (P := fun S => (gapL N S).length ≤ S.length) (Nat.le_refl _) ?_ S
  intro r d ih
  rw [gapL_snoc]
  have := lstep_len N (gapL N r) d
  simp; omega
theorem gstep_last (L : List (Nat × Nat)) (d : Nat) : ∃ p, (gstep L d).getLast? = some p ∧ p.2 = d := by
  rcases List.eq_nil_or_concat L with rfl | ⟨L, p, rfl⟩
  · exact ⟨(d, d), rfl, rfl⟩
  · rw [List.concat_eq_append, gstep_snoc]
    split <;> simp
theorem lstep_mem (N : Nat) (L : List (Nat × Nat)) (d : Nat) : ∀ p ∈ lstep N L d, p ∈ L ∨ (p.2 = d ∧ (p.1 = d ∨ ∃ q ∈ L, q.1 = p.1)) := by
  rcases List.eq_nil_or_concat L with rfl | ⟨L, p, rfl⟩
  · intro p hp
    simp [lstep] at hp
    subst hp
    exact .inr ⟨rfl, .inl rfl⟩
  · rw [List.concat_eq_append, lstep_snoc]
    intro q hq
    split at hq
    · rcases List.mem_append.1 hq with hq | hq
      · exact .inl (by simp [hq])
      · simp at hq; subst hq; exact .inr ⟨rfl, .inr ⟨p, by simp, rfl⟩⟩
    · split at hq
      · rcases List.mem_append.1 hq with hq | hq
        · exact .inl hq
        · simp at hq; subst hq; exact .inr ⟨rfl, .inl rfl⟩
      · exact .inl hq
theorem gapL_rng (N : Nat) (S : List Nat) (h : ∀ d ∈ S, 2 ≤ d ∧ d ≤ 65535) : ∀ p ∈ gapL N S, (2 ≤ p.1 ∧ p.1 ≤ 65535) ∧ (2 ≤ p.2 ∧ p.2 ≤ 65535) := by
  revert h
  refine snocInd (P := fun S => (∀ d ∈ S, 2 ≤ d ∧ d ≤ 65535) → ∀ p ∈ gapL N S, (2 ≤ p.1 ∧ p.1 ≤ 65535) ∧ (2 ≤ p.2 ∧ p.2 ≤ 65535)) (by simp [gapL]) ?_ S
  intro r d ih h p hp
  have ih' := ih fun e he => h e (by simp [he])
  have hd := h d (by simp)
  rw [gapL_snoc] at hp
  rcases lstep_mem N _ d p hp with hp | ⟨hp, hp2⟩
  · exact ih' p hp
  · refine ⟨?_, by omega⟩
    rcases hp2 with hp2 | ⟨q, hq, hp2⟩
    · omega
    · have := ih' q hq; omega

section
variable {b m : Nat} {cum : Int} {S : List Nat} {N : Int}
structure Gp (w0 : World) (b m bn : Nat) (cum : Int) (S : List Nat) (N : Int) (L : List (Nat × Nat)) (w : World) : Prop where
  fr : Same w0 w
  set : SetR w b m cum S
  num : w.heap[bn]? = some (.cells #[.int .i64 N] 3 (0, 0))
  out : ∃ a c, w.heap[bn + 1]? = some (.cells #[.slice a L.length c] 50 (0, 0)) ∧ Own w (bn + 2) 60 2 a L.length c (gapV L)
def gapS (S : List Nat) (N : Int) : List (Nat × Nat) := (gapA S).take N.toNat
end
end Go.Proofs.YtccffjlahpfdaaaDoor

namespace Go.Proofs.YtccffjlahpfdaaaDoor
open Go Go.Sh Go.Sp
theorem two74 : two Tryd.prog 60 = true := by kernel_rfl

/-! Numbers, Blocks -/
theorem Rd.same {w w' : World} {a : Option Addr} {xs : List Value} (h : Rd w a xs) (hf : Same w w') : Rd w' a xs := h.fr hf fun _ _ x => x
theorem take_succ_eq {α : Type} {X Y : List α} {n : Nat} {x y : α} (hX : X[n]? = some x) (hY : Y[n]? = some y) (h : X.take n = Y.take n) (e : x = y) : X.take (n + 1) = Y.take (n + 1) := by
  rw [List.take_add_one, List.take_add_one, h, hX, hY, e]
theorem c25_loop {X Y : List Int} {a1 a2 : Option Addr} {d1 d2 : Nat} (hXY : X.length = Y.length) {K0 : World → Prop} {Kr : Value → World → Prop} : ∀ (i n : Nat) (w : World) (k : Nat), n + i = X.length → X.take n = Y.take n →
    Rd w a1 (X.map (Value.int .u32)) → Rd w a2 (Y.map (Value.int .u32)) → X.length < 4611686018427387904 → i < k → (X = Y → ∀ w', Same w w' → K0 w') → (X ≠ Y → ∀ w', Same w w' → Kr (.bool false) w') →
    F25_1 K0 Kr k (.slice a1 X.length d1) (.slice a2 Y.length d2) (.int .i64 (n : Int)) w := by
  intro i
  induction i with
  | zero =>
    intro n w k hn ht h1 h2 hl hk k0 kr
    obtain ⟨k, rfl⟩ : ∃ j, k = j + 1 := ⟨k - 1, by omega⟩
    show F25_1B _ _ _ _ _ _ _
    unfold F25_1B
    simp only [rdC_mk, rdI_mk, br_dec]
    refine ⟨fun h => by exfalso; omega, fun _ => k0 ?_ w (Fr.refl w)⟩
    rwa [List.take_of_length_le (by omega), List.take_of_length_le (by omega)] at ht
  | succ i ih =>
    intro n w k hn ht h1 h2 hl hk k0 kr
    obtain ⟨k, rfl⟩ : ∃ j, k = j + 1 := ⟨k - 1, by omega⟩
    show F25_1B _ _ _ _ _ _ _
    unfold F25_1B drw
    simp only [rdC_mk, rdI_mk, br_dec]
    refine ⟨fun _ => ?_, fun h => by exfalso; omega⟩
    have f0 : Same w w.drew := (Fr.refl w).drew
    obtain ⟨x, hx⟩ : ∃ x, X[n]? = some x := ⟨X[n]'(by omega), by simp⟩
    obtain ⟨y, hy⟩ : ∃ y, Y[n]? = some y := ⟨Y[n]'(by omega), by simp⟩
    have g1 : (X.map (Value.int .u32))[n]? = some (.int .u32 x) := by simp [hx]
    have g2 : (Y.map (Value.int .u32))[n]? = some (.int .u32 y) := by simp [hy]
    have i1 := Rd.same h1 f0
    have i2 := Rd.same h2 f0
    obtain ⟨b1, rfl⟩ := i1.some (by simp; omega)
    obtain ⟨b2, rfl⟩ := i2.some (by simp; omega)
    refine ixS_of (by omega) (by omega) ?_
    simp only [Int.toNat_natCast, Nat.mul_one]
    refine ldI_c (i1.at g1) (ixS_of (by omega) (by omega) ?_)
    simp only [Int.toNat_natCast, Nat.mul_one]
    refine ldI_c (i2.at g2) ?_
    by_cases hxy : x = y
    · have : (x != y) = false := by simp [hxy]
      rw [this, br_false]
      have e1 : IntKind.wrap .i64 ((n : Int) + 1) = ((n + 1 : Nat) : Int) := by rw [wrap_i64 (by omega) (by omega)]; omega
      rw [e1]
      exact ih (n + 1) w.drew k (by omega) (take_succ_eq hx hy ht hxy) i1 i2 hl (by omega) (fun h w' hf => k0 h w' (f0.trans hf fun _ _ x => x)) (fun h w' hf => kr h w' (f0.trans hf fun _ _ x => x))
    · have : (x != y) = true := by simp [hxy]
      rw [this, br_true]
      refine kr (fun e => hxy ?_) _ f0
      rw [e, hy] at hx
      cases hx; rfl
theorem c25 {w : World} {X Y : List Int} {a1 a2 : Option Addr} {d1 d2 : Nat} (h1 : Rd w a1 (X.map (Value.int .u32))) (h2 : Rd w a2 (Y.map (Value.int .u32))) (hl : X.length < 4611686018427387904) :
    Calls Tryd.prog 25 #[.slice a1 X.length d1, .slice a2 Y.length d2] w (rt fun v w' => v = .bool (decide (X = Y)) ∧ Same w w') := by
  refine F25_ok ?_
  unfold F25
  simp only [rdC_mk]
  by_cases hXY : X.length = Y.length
  · have : ((X.length : Int) != (Y.length : Int)) = false := by simp [hXY]
    rw [this, br_false]
    refine ⟨X.length + 1, c25_loop hXY X.length 0 w _ (by omega) rfl h1 h2 hl (by omega) (fun h w' hf _g => ⟨by simp [h], hf⟩) fun h w' hf _g => ?_⟩
    simp only [rdB_mk]
    exact ⟨by simp [h], hf⟩
  · have : ((X.length : Int) != (Y.length : Int)) = true := by simp; omega
    rw [this, br_true]
    exact ⟨by simp only [Value.bool.injEq]; rw [decide_eq_false]; intro e; rw [e] at hXY; exact hXY rfl, Fr.refl w⟩
theorem gapV_at {X : List (Nat × Nat)} {n : Nat} {x : Nat × Nat} (h : X[n]? = some x) : (gapV X)[n * 2]? = some (.int .u16 (x.1 : Int)) ∧ (gapV X)[n * 2 + 1]? = some (.int .u16 (x.2 : Int)) := by
  induction X generalizing n with
  | nil => simp at h
  | cons p X ih =>
    have h2 : gapV (p :: X) = Value.int .u16 (p.1 : Int) :: Value.int .u16 (p.2 : Int) :: gapV X := rfl
    rw [h2]
    cases n with
    | zero => simp at h; subst h; exact ⟨rfl, rfl⟩
    | succ n =>
      have := ih (n := n) (by simpa using h)
      rw [show (n + 1) * 2 = n * 2 + 1 + 1 by omega]
      exact this
theorem c68_loop {X Y : List (Nat × Nat)} {a1 a2 : Option Addr} {d1 d2 : Nat} (hXY : X.length = Y.length) {K0 : World → Prop} {Kr : Value → World → Prop} : ∀ (i n : Nat) (w : World) (k : Nat), n + i = X.length → X.take n = Y.take n →
    Rd w a1 (gapV X) → Rd w a2 (gapV Y) → X.length < 2305843009213693952 → i < k → (X = Y → ∀ w', Same w w' → K0 w') → (X ≠ Y → ∀ w', Same w w' → Kr (.bool false) w') →
    F68_1 K0 Kr k (.slice a1 X.length d1) (.slice a2 Y.length d2) (.int .i64 (n : Int)) w := by
  intro i
  induction i with
  | zero =>
    intro n w k hn ht h1 h2 hl hk k0 kr
    obtain ⟨k, rfl⟩ : ∃ j, k = j + 1 := ⟨k - 1, by omega⟩
    show F68_1B _ _ _ _ _ _ _
    unfold F68_1B
    simp only [rdC_mk, rdI_mk, br_dec]
    refine ⟨fun h => by exfalso; omega, fun _ => k0 ?_ w (Fr.refl w)⟩
    rwa [List.take_of_length_le (by omega), List.take_of_length_le (by omega)] at ht
  | succ i ih =>
    intro n w k hn ht h1 h2 hl hk k0 kr
    obtain ⟨k, rfl⟩ : ∃ j, k = j + 1 := ⟨k - 1, by omega⟩
    show F68_1B _ _ _ _ _ _ _
    unfold F68_1B drw
    simp only [rdC_mk, rdI_mk, br_dec]
    refine ⟨fun _ => ?_, fun h => by exfalso; omega⟩
    have f0 : Same w w.drew := (Fr.refl w).drew
    obtain ⟨x, hx⟩ : ∃ x, X[n]? = some x := ⟨X[n]'(by omega), by simp⟩
    obtain ⟨y, hy⟩ : ∃ y, Y[n]? = some y := ⟨Y[n]'(by omega), by simp⟩
    obtain ⟨g1, g1'⟩ := gapV_at hx
    obtain ⟨g2, g2'⟩ := gapV_at hy
    have i1 := Rd.same h1 f0
    have i2 := Rd.same h2 f0
    obtain ⟨b1, rfl⟩ := i1.some (by rw [gapV_length]; omega)
    obtain ⟨b2, rfl⟩ := i2.some (by rw [gapV_length]; omega)
    refine ixS_of (by omega) (by omega) ?_
    simp only [Int.toNat_natCast, add_add, Nat.add_zero]
    refine ldI_c (i1.at g1) (ldI_c (i1.at g1') (ixS_of (by omega) (by omega) ?_))
    simp only [Int.toNat_natCast, add_add, Nat.add_zero]
    refine ldI_c (i2.at g2) (ldI_c (i2.at g2') ⟨_, _, neq_two two74, ?_⟩)
    by_cases hxy : x = y
    · have : (!decide ((x.1 : Int) = y.1 ∧ (x.2 : Int) = y.2)) = false := by simp [hxy]
      rw [this, br_false]
      have e1 : IntKind.wrap .i64 ((n : Int) + 1) = ((n + 1 : Nat) : Int) := by rw [wrap_i64 (by omega) (by omega)]; omega
      rw [e1]
      exact ih (n + 1) w.drew k (by omega) (take_succ_eq hx hy ht hxy) i1 i2 hl (by omega) (fun h w' hf => k0 h w' (f0.trans hf fun _ _ x => x)) (fun h w' hf => kr h w' (f0.trans hf fun _ _ x => x))
    · have : (!decide ((x.1 : Int) = y.1 ∧ (x.2 : Int) = y.2)) = true := by
        simp only [Bool.not_eq_true', decide_eq_false_iff_not]
        intro ⟨e1, e2⟩
        exact hxy (Prod.ext (by omega) (by omega))
      rw [this, br_true]
      refine kr (fun e => hxy ?_) _ f0
      rw [e, hy] at hx
      cases hx; rfl
theorem c68 {w : World} {X Y : List (Nat × Nat)} {a1 a2 : Option Addr} {d1 d2 : Nat} (h1 : Rd w a1 (gapV X)) (h2 : Rd w a2 (gapV Y)) (hl : X.length < 2305843009213693952) :
    Calls Tryd.prog 68 #[.slice a1 X.length d1, .slice a2 Y.length d2] w (rt fun v w' => v = .bool (decide (X = Y)) ∧ Same w w') := by
  refine F68_ok ?_
  unfold F68
  simp only [rdC_mk]
  by_cases hXY : X.length = Y.length
  · have : ((X.length : Int) != (Y.length : Int)) = false := by simp [hXY]
    rw [this, br_false]
    refine ⟨X.length + 1, c68_loop hXY X.length 0 w _ (by omega) rfl h1 h2 hl (by omega) (fun h w' hf _g => ⟨by simp [h], hf⟩) fun h w' hf _g => ?_⟩
    simp only [rdB_mk]
    exact ⟨by simp [h], hf⟩
  · have : ((X.length : Int) != (Y.length : Int)) = true := by simp; omega
    rw [this, br_true]
    exact ⟨by simp only [Value.bool.injEq]; rw [decide_eq_false]; intro e; rw [e] at hXY; exact hXY rfl, Fr.refl w⟩

/-! alive -/
theorem SetR.bm {w w0 : World} {b m m' : Nat} (hb : w0.heap.size ≤ b) (hm : w0.heap.size ≤ m) (hm' : m' = m ∨ w.heap.size ≤ m') (hs : w0.heap.size ≤ w.heap.size) : w0.heap.size ≤ m' := by rcases hm' with rfl | h <;> omega
theorem same_bm {w0 w w' : World} {b m : Nat} (h : Same w0 w) (hf : Fr (Bm b m) w w') (hb : w0.heap.size ≤ b) (hm : w0.heap.size ≤ m) : Same w0 w' :=
  ((h.mono (S' := fun k => w0.heap.size ≤ k) fun _ _ x => x.elim).trans hf fun i _ x => by rcases x with rfl | rfl <;> assumption).mono fun i hi x => by omega
end Go.Proofs.YtccffjlahpfdaaaDoor

namespace Go.Proofs.YtccffjlahpfdaaaDoor
open Go Go.Sh Go.Sp

/-! filled: a set of numbers that are added one by one -/
theorem sd_off {n x k : Int} (h1 : 0 ≤ x) (h2 : x ≤ 200000) (h3 : 0 ≤ k) (h4 : k ≤ 200000) : sd ((n + k) % 4294967296) ((n + x) % 4294967296) = x - k := by
  unfold sd; omega
/-- what the set is of: the distances from n that were added -/
structure In (xs : List Int) (k : Nat) (S : List Nat) : Prop where
  kle : k ≤ 65535
  rising : S.Pairwise (· < ·)
  rng : ∀ d ∈ S, 2 ≤ d ∧ k + d ≤ 65535
  mem : ∀ x : Nat, ((1 ≤ x ∧ x ≤ k) ∨ ∃ d ∈ S, x = k + d) ↔ 1 ≤ x ∧ (x : Int) ∈ xs
theorem In.nil : In [] 0 [] := ⟨by decide, by simp, by simp, fun x => by simp; omega⟩
theorem In.uniq {xs ys : List Int} {k k' : Nat} {S S' : List Nat} (h : In xs k S) (h' : In ys k' S') (he : ∀ x, x ∈ xs ↔ x ∈ ys) : k = k' ∧ S = S' := by
  have key : ∀ {xs ys : List Int} {k k' : Nat} {S S' : List Nat}, In xs k S → In ys k' S' → (∀ x, x ∈ xs ↔ x ∈ ys) → k' ≤ k := by
    intro xs ys k k' S S' h h' he
    rcases Nat.lt_or_ge k k' with hlt | hge
    · exfalso
      have h1 := (h'.mem (k + 1)).1 (.inl ⟨by omega, by omega⟩)
      rcases (h.mem (k + 1)).2 ⟨h1.1, (he _).2 h1.2⟩ with h2 | ⟨d, hd, h2⟩
      · omega
      · have := h.rng d hd; omega
    · exact hge
  have hk : k = k' := Nat.le_antisymm (key h' h fun x => (he x).symm) (key h h' he)
  subst hk
  refine ⟨rfl, rising_ext h.rising h'.rising fun d => ?_⟩
  have aux : ∀ {xs ys : List Int} {S S' : List Nat}, In xs k S → In ys k S' → (∀ x, x ∈ xs ↔ x ∈ ys) → d ∈ S → d ∈ S' := by
    intro xs ys S S' h h' he hd
    have h1 := (h.mem (k + d)).1 (.inr ⟨d, hd, rfl⟩)
    rcases (h'.mem (k + d)).2 ⟨h1.1, (he _).1 h1.2⟩ with h2 | ⟨e, he', h2⟩
    · have := h.rng d hd; omega
    · have : d = e := by omega
      rw [this]; exact he'
  exact ⟨aux h h' he, aux h' h fun x => (he x).symm⟩
theorem In.sdist {n x : Int} {xs : List Int} {k : Nat} {S : List Nat} (h : In xs k S) (h0 : 0 ≤ x) (h1 : x ≤ 65535) : sd ((n + (k : Int)) % 4294967296) ((n + x) % 4294967296) = x - k := sd_off h0 (by omega) (by omega) (by have := h.kle; omega)
theorem runS_spec {S : List Nat} (h : S.Pairwise (· < ·)) (hr : ∀ d ∈ S, 2 ≤ d) : 1 ≤ runS S ∧ (∀ k, 1 < k → k ≤ runS S → k ∈ S) ∧ runS S + 1 ∉ S := goRun_spec S 1 h hr
theorem In.step {n x : Int} {xs : List Int} {k : Nat} {S : List Nat} (h : In xs k S) (h0 : 0 ≤ x) (h1 : x ≤ 65535) :
    (addR ((n + (k : Int)) % 4294967296) S ((n + x) % 4294967296)).2 = 0 ∧
    ∃ k' : Nat, addC ((n + (k : Int)) % 4294967296) S ((n + x) % 4294967296) = (n + (k' : Int)) % 4294967296 ∧ In (xs ++ [x]) k' (addS ((n + (k : Int)) % 4294967296) S ((n + x) % 4294967296)) := by
  have hs := h.sdist (n := n) h0 h1
  have hk := h.kle
  refine ⟨?_, ?_⟩
  · unfold addR
    rw [hs]
    split
    · rfl
    · split
      · omega
      · split <;> rfl
  · unfold addC addS
    rw [hs]
    by_cases c1 : x - k = 1
    · rw [if_pos c1, if_pos c1]
      obtain ⟨r1, r2, r3⟩ := runS_spec h.rising fun d hd => (h.rng d hd).1
      have hle : k + runS S ≤ 65535 := by
        by_cases hc : runS S = 1
        · omega
        · exact (h.rng _ (r2 (runS S) (by omega) (Nat.le_refl _))).2
      refine ⟨k + runS S, by omega, hle, shift_rising h.rising, fun d hd => ?_, fun y => ?_⟩
      · obtain ⟨m1, m2⟩ := mem_shift.1 hd
        have := h.rng _ m2
        refine ⟨?_, by omega⟩
        rcases Nat.lt_or_ge d 2 with h2 | h2
        · exfalso
          have : d = 1 := by omega
          subst this
          exact r3 (by rwa [Nat.add_comm])
        · exact h2
      · have hm := h.mem y
        constructor
        · rintro (⟨a1, a2⟩ | ⟨d, hd, rfl⟩)
          · refine ⟨a1, ?_⟩
            by_cases b1 : y ≤ k
            · exact List.mem_append_left _ (hm.1 (.inl ⟨a1, b1⟩)).2
            · by_cases b2 : y = k + 1
              · exact List.mem_append_right _ (by simp; omega)
              · exact List.mem_append_left _ (hm.1 (.inr ⟨y - k, r2 _ (by omega) (by omega), by omega⟩)).2
          · obtain ⟨m1, m2⟩ := mem_shift.1 hd
            have := (hm.1 (.inr ⟨d + runS S, m2, by omega⟩))
            exact ⟨this.1, List.mem_append_left _ this.2⟩
        · rintro ⟨a1, a2⟩
          rcases List.mem_append.1 a2 with a2 | a2
          · rcases hm.2 ⟨a1, a2⟩ with ⟨_, b2⟩ | ⟨d, hd, rfl⟩
            · exact .inl ⟨a1, by omega⟩
            · by_cases hdr : d ≤ runS S
              · exact .inl ⟨a1, by omega⟩
              · exact .inr ⟨d - runS S, mem_shift.2 ⟨by omega, by rw [Nat.sub_add_cancel (by omega)]; exact hd⟩, by omega⟩
          · simp at a2
            exact .inl ⟨a1, by omega⟩
    · rw [if_neg c1, if_neg c1]
      refine ⟨k, rfl, ?_⟩
      by_cases c2 : 1 < x - k ∧ x - k ≤ 65535
      · rw [if_pos c2]
        obtain ⟨d, hd⟩ : ∃ d : Nat, x - k = d := ⟨(x - k).toNat, by omega⟩
        rw [hd, Int.toNat_natCast]
        refine ⟨hk, ins_rising h.rising, fun e he => ?_, fun y => ?_⟩
        · rcases mem_ins.1 he with rfl | he
          · omega
          · exact h.rng e he
        · have hm := h.mem y
          constructor
          · rintro (a | ⟨e, he, rfl⟩)
            · have := hm.1 (.inl a); exact ⟨this.1, List.mem_append_left _ this.2⟩
            · rcases mem_ins.1 he with rfl | he
              · exact ⟨by omega, List.mem_append_right _ (by simp; omega)⟩
              · have := hm.1 (.inr ⟨e, he, rfl⟩); exact ⟨this.1, List.mem_append_left _ this.2⟩
          · rintro ⟨a1, a2⟩
            rcases List.mem_append.1 a2 with a2 | a2
            · rcases hm.2 ⟨a1, a2⟩ with a | ⟨e, he, rfl⟩
              · exact .inl a
              · exact .inr ⟨e, mem_ins.2 (.inr he), rfl⟩
            · simp at a2
              exact .inr ⟨d, mem_ins.2 (.inl rfl), by omega⟩
      · rw [if_neg c2]
        refine ⟨hk, h.rising, h.rng, fun y => ?_⟩
        rw [h.mem y]
        constructor
        · rintro ⟨a1, a2⟩; exact ⟨a1, List.mem_append_left _ a2⟩
        · rintro ⟨a1, a2⟩
          rcases List.mem_append.1 a2 with a2 | a2
          · exact ⟨a1, a2⟩
          · simp at a2
            exact (h.mem y).1 (.inl ⟨a1, by omega⟩)
section
variable {n : Int} {X : List Int} {a : Option Addr} {cc : Nat}
/-- a set that was filled -/
structure Filled (w0 w : World) (n : Int) (xs : List Int) (b m : Nat) (k : Nat) (S : List Nat) : Prop where
  set : SetR w b m ((n + (k : Int)) % 4294967296) S
  inn : In xs k S
  nb : w0.heap.size ≤ b
  nm : w0.heap.size ≤ m
  fr : Same w0 w
end
end Go.Proofs.YtccffjlahpfdaaaDoor
