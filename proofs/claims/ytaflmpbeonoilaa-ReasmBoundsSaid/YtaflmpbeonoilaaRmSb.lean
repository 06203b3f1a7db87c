/-
  Go's sort of numbers of 32 bits: heap, reversal, the parts of a partition.
-/
import Derived.Test.YtaflmpbeonoilaaRmSa
namespace Go.Proofs.Ytaflmpbeonoilaa
open Go Go.Sh Go.RowKit Go.Sort
section
variable {W w : World} {L : List HP} {e : TypeId} {a : Addr} {n c : Nat} {d : Array Int}
theorem c96 {r hi f : Nat} (h : UN W L e a n c d w) (hh : f + hi ≤ n) (hr : r ≤ hi) : Calls Try.prog 96 #[.slice (some a) n c, .int .i64 (r : Int), .int .i64 (hi : Int), .int .i64 (f : Int)] w (rt fun v w' => v = .tuple #[] ∧ UN W L e a n c (siftDown ltInt hi f r d) w') := by
  refine F96_ok ?_
  unfold F96
  simp only [rdC_mk, rdI_mk]
  exact ⟨hi + 1, sift_loop hh (hi + 1) r _ d w h hr (by omega) (by omega) fun w' h' _g => ⟨trivial, h'⟩⟩
theorem build_loop {K : Value → Value → Value → Value → World → Prop} {f lo hi : Nat} (hh : f + hi ≤ n) : ∀ (m k : Nat) (d : Array Int) (w : World), UN W L e a n c d w → m ≤ hi + 1 → m < k → (∀ w', UN W L e a n c (heapBuild ltInt hi f m d) w' → K (.slice (some a) n c) (.int .i64 (f : Int)) (.int .i64 (lo : Int)) (.int .i64 (hi : Int)) w') →
    F81_1 K k (.slice (some a) n c) (.int .i64 (f : Int)) (.int .i64 (lo : Int)) (.int .i64 (hi : Int)) (.int .i64 ((m : Int) - 1)) w := by
  intro m
  induction m with
  | zero =>
    intro k d w h hm hk hK
    obtain ⟨k, rfl⟩ : ∃ j, k = j + 1 := ⟨k - 1, by omega⟩
    show F81_1B _ _ _ _ _ _ _ _
    unfold F81_1B
    simp only [rdC_mk, rdI_mk]
    rw [br_dec]
    exact ⟨fun hx => by exfalso; omega, fun _ => hK w h⟩
  | succ m ih =>
    intro k d w h hm hk hK
    obtain ⟨k, rfl⟩ : ∃ j, k = j + 1 := ⟨k - 1, by omega⟩
    have hn := h.2.1
    show F81_1B _ _ _ _ _ _ _ _
    unfold F81_1B
    simp only [rdC_mk, rdI_mk]
    rw [br_dec]
    refine ⟨fun hx => ?_, fun hx => by exfalso; omega⟩
    have e1 : ((m + 1 : Nat) : Int) - 1 = (m : Int) := by omega
    rw [e1]
    refine cl (c96 h hh (by omega)) fun v w1 ⟨hv, h1⟩ => ⟨by rw [hv], ?_⟩
    have e2 : IntKind.wrap .i64 ((m : Int) - 1) = (m : Int) - 1 := wrap_i64 (by omega) (by omega)
    rw [e2]
    exact ih k _ w1 h1 (by omega) (by omega) hK
theorem pop_loop {K : World → Prop} {f lo : Nat} (hlo : lo = 0) : ∀ (m k : Nat) (d : Array Int) (w : World), UN W L e a n c d w → f + m ≤ n → m < k → (∀ w', UN W L e a n c (heapPop ltInt f m d) w' → K w') →
    F81_2 K k (.slice (some a) n c) (.int .i64 (f : Int)) (.int .i64 (lo : Int)) (.int .i64 ((m : Int) - 1)) w := by
  intro m
  induction m with
  | zero =>
    intro k d w h hm hk hK
    obtain ⟨k, rfl⟩ : ∃ j, k = j + 1 := ⟨k - 1, by omega⟩
    show F81_2B _ _ _ _ _ _ _
    unfold F81_2B
    simp only [rdC_mk, rdI_mk]
    rw [br_dec]
    exact ⟨fun hx => by exfalso; omega, fun _ => hK w h⟩
  | succ m ih =>
    intro k d w h hm hk hK
    obtain ⟨k, rfl⟩ : ∃ j, k = j + 1 := ⟨k - 1, by omega⟩
    have hn := h.2.1
    show F81_2B _ _ _ _ _ _ _
    unfold F81_2B
    simp only [rdC_mk, rdI_mk]
    rw [br_dec]
    refine ⟨fun hx => ?_, fun hx => by exfalso; omega⟩
    have e1 : ((m + 1 : Nat) : Int) - 1 = (m : Int) := by omega
    have e2 : IntKind.wrap .i64 ((f : Int) + m) = ((f + m : Nat) : Int) := by rw [wrap_i64 (by omega) (by omega)]; omega
    have e3 : IntKind.wrap .i64 ((m : Int) - 1) = (m : Int) - 1 := wrap_i64 (by omega) (by omega)
    simp only [e1, e2, e3]
    refine h.swp rfl rfl (by omega) (by omega) fun w1 h1 => ?_
    subst hlo
    refine cl (c96 h1 (by omega) (by omega)) fun v w2 ⟨hv, h2⟩ => ⟨by rw [hv], ?_⟩
    exact ih k _ w2 h2 (by omega) (by omega) hK
theorem c81 {a' b : Nat} (h : UN W L e a n c d w) (ha : a' ≤ b) (hb : b ≤ n) : Calls Try.prog 81 #[.slice (some a) n c, .int .i64 (a' : Int), .int .i64 (b : Int)] w (rt fun v w' => v = .tuple #[] ∧ UN W L e a n c (heapSort ltInt d a' b) w') := by
  refine F81_ok ?_
  unfold F81
  simp only [rdC_mk, rdI_mk]
  have hn := h.2.1
  have e1 : IntKind.wrap .i64 ((b : Int) - a') = ((b - a' : Nat) : Int) := by rw [wrap_i64 (by omega) (by omega)]; omega
  have e2 : IntKind.wrap .i64 (((b - a' : Nat) : Int) - 1) = ((b - a' : Nat) : Int) - 1 := wrap_i64 (by omega) (by omega)
  have e3 : Int.tdiv (((b - a' : Nat) : Int) - 1) 2 = ((((b - a' - 1) / 2 + 1 : Nat)) : Int) - 1 := by
    by_cases h0 : b - a' = 0
    · rw [h0]; decide
    · have : ((b - a' : Nat) : Int) - 1 = ((b - a' - 1 : Nat) : Int) := by omega
      rw [this, Int.tdiv_eq_ediv_of_nonneg (by omega)]
      omega
  have e4 : IntKind.wrap .i64 ((((b - a' - 1) / 2 + 1 : Nat) : Int) - 1) = (((b - a' - 1) / 2 + 1 : Nat) : Int) - 1 := wrap_i64 (by omega) (by omega)
  simp only [e1, e2, e3, e4]
  refine ⟨_, build_loop (lo := 0) (by omega) ((b - a' - 1) / 2 + 1) _ d w h (by omega) (Nat.lt_succ_self _) fun w1 h1 _g => ?_⟩
  simp only [rdC_mk, rdI_mk, e2]
  exact ⟨b - a' + 1, pop_loop rfl (b - a') _ _ w1 h1 (by omega) (by omega) fun w2 h2 _g => ⟨trivial, h2⟩⟩
/-! reversal -/
theorem rev_loop {K : World → Prop} : ∀ (m i j k : Nat) (d : Array Int) (w : World), UN W L e a n c d w → j ≤ i + m → j < n → m < k → (∀ w', UN W L e a n c (reverseLoop i j d) w' → K w') →
    F84_1 K k (.slice (some a) n c) (.int .i64 (i : Int)) (.int .i64 (j : Int)) w := by
  intro m
  induction m with
  | zero =>
    intro i j k d w h hm hj hk hK
    obtain ⟨k, rfl⟩ : ∃ j, k = j + 1 := ⟨k - 1, by omega⟩
    rw [reverseLoop, if_neg (by omega)] at hK
    show F84_1B _ _ _ _ _ _
    unfold F84_1B
    simp only [rdC_mk, rdI_mk]
    rw [br_dec]
    exact ⟨fun hx => by exfalso; omega, fun _ => hK w h⟩
  | succ m ih =>
    intro i j k d w h hm hj hk hK
    obtain ⟨k, rfl⟩ : ∃ j, k = j + 1 := ⟨k - 1, by omega⟩
    have hn := h.2.1
    rw [reverseLoop] at hK
    show F84_1B _ _ _ _ _ _
    unfold F84_1B
    simp only [rdC_mk, rdI_mk]
    rw [br_dec]
    refine ⟨fun hx => ?_, fun hx => hK w (by rw [if_neg (by omega)]; exact h)⟩
    rw [if_pos (by omega)] at hK
    refine h.swp rfl rfl hj (by omega) fun w1 h1 => ?_
    have e2 : IntKind.wrap .i64 ((i : Int) + 1) = ((i + 1 : Nat) : Int) := by rw [wrap_i64 (by omega) (by omega)]; omega
    have e3 : IntKind.wrap .i64 ((j : Int) - 1) = ((j - 1 : Nat) : Int) := by rw [wrap_i64 (by omega) (by omega)]; omega
    rw [e2, e3]
    exact ih (i + 1) (j - 1) k _ w1 h1 (by omega) (by omega) (by omega) hK
theorem c84 {a' b : Nat} (h : UN W L e a n c d w) (ha : a' < b) (hb : b ≤ n) : Calls Try.prog 84 #[.slice (some a) n c, .int .i64 (a' : Int), .int .i64 (b : Int)] w (rt fun v w' => v = .tuple #[] ∧ UN W L e a n c (reverseRange d a' b) w') := by
  refine F84_ok ?_
  unfold F84
  simp only [rdC_mk, rdI_mk]
  have hn := h.2.1
  have e1 : IntKind.wrap .i64 ((b : Int) - 1) = ((b - 1 : Nat) : Int) := by rw [wrap_i64 (by omega) (by omega)]; omega
  rw [e1]
  exact ⟨b + 1, rev_loop b a' (b - 1) _ d w h (by omega) (by omega) (by omega) fun w2 h2 _g => ⟨trivial, h2⟩⟩
/-! the length in bits, and the power behind it -/
def len8tab : ByteArray := ⟨#[0, 1, 2, 2, 3, 3, 3, 3, 4, 4, 4, 4, 4, 4, 4, 4, 5, 5, 5, 5, 5, 5, 5, 5, 5, 5, 5, 5, 5, 5, 5, 5, 6, 6, 6, 6, 6, 6, 6, 6, 6, 6, 6, 6, 6, 6, 6, 6, 6, 6, 6, 6, 6, 6, 6, 6, 6, 6, 6, 6, 6, 6, 6, 6, 7, 7, 7, 7, 7, 7, 7, 7, 7, 7, 7, 7, 7, 7, 7, 7, 7, 7, 7, 7, 7, 7, 7, 7, 7, 7, 7, 7, 7, 7, 7, 7, 7, 7, 7, 7, 7, 7, 7, 7, 7, 7, 7, 7, 7, 7, 7, 7, 7, 7, 7, 7, 7, 7, 7, 7, 7, 7, 7, 7, 7, 7, 7, 7, 8, 8, 8, 8, 8, 8, 8, 8, 8, 8, 8, 8, 8, 8, 8, 8, 8, 8, 8, 8, 8, 8, 8, 8, 8, 8, 8, 8, 8, 8, 8, 8, 8, 8, 8, 8, 8, 8, 8, 8, 8, 8, 8, 8, 8, 8, 8, 8, 8, 8, 8, 8, 8, 8, 8, 8, 8, 8, 8, 8, 8, 8, 8, 8, 8, 8, 8, 8, 8, 8, 8, 8, 8, 8, 8, 8, 8, 8, 8, 8, 8, 8, 8, 8, 8, 8, 8, 8, 8, 8, 8, 8, 8, 8, 8, 8, 8, 8, 8, 8, 8, 8, 8, 8, 8, 8, 8, 8, 8, 8, 8, 8, 8, 8, 8, 8, 8, 8, 8, 8, 8, 8, 8, 8, 8, 8, 8, 8]⟩
theorem len8_all : (List.range 256).all (fun x => len8tab[x]? == some (UInt8.ofNat (bitsLen x))) = true := by kernel_rfl
theorem len8_b : (List.range 256).all (fun x => decide (x < 2 ^ bitsLen x ∧ 2 ^ bitsLen x ≤ 2 * x + 1 ∧ bitsLen x ≤ 8)) = true := by kernel_rfl
def Qb (x b : Nat) : Prop := x < 2 ^ b ∧ 2 ^ b ≤ 2 * x + 1
theorem Qb.up {x b s : Nat} (h : Qb (x / 2 ^ s) b) (hx : 2 ^ s ≤ x) : Qb x (b + s) := by
  obtain ⟨h1, h2⟩ := h
  have hp : 0 < 2 ^ s := Nat.two_pow_pos s
  have hq : 1 ≤ x / 2 ^ s := (Nat.le_div_iff_mul_le hp).2 (by omega)
  refine ⟨?_, ?_⟩
  · rw [Nat.pow_add]
    exact (Nat.div_lt_iff_lt_mul hp).1 h1
  · obtain ⟨b', rfl⟩ : ∃ b', b = b' + 1 := ⟨b - 1, by
      rcases b with _ | b
      · simp at h1; omega
      · omega⟩
    have h3 : 2 ^ b' ≤ x / 2 ^ s := by rw [Nat.pow_succ] at h2; omega
    have h4 : 2 ^ b' * 2 ^ s ≤ x := (Nat.le_div_iff_mul_le hp).1 h3
    have e : 2 ^ (b' + 1 + s) = 2 * (2 ^ b' * 2 ^ s) := by rw [Nat.pow_add, Nat.pow_succ]; rw [Nat.mul_comm (2 ^ b') 2, Nat.mul_assoc]
    omega
theorem len_1 {K : Value → World → Prop} {x s : Nat} (hx : x < 256) (hs : s ≤ 56) (h : ∀ b, Qb x b → b ≤ 8 → K (.int .i64 ((s + b : Nat) : Int)) w) : F79_1 K (.int .u64 (x : Int)) (.int .i64 (s : Int)) w := by
  unfold F79_1
  refine rdI_mk.2 (rdI_mk.2 ?_)
  rw [wrap_u8 (by omega) (by omega)]
  have e1 := List.all_eq_true.1 len8_all x (by simp; omega)
  have e2 := List.all_eq_true.1 len8_b x (by simp; omega)
  replace e2 := of_decide_eq_true e2
  have e3 : len8tab[x]? = some (UInt8.ofNat (bitsLen x)) := eq_of_beq e1
  refine ⟨UInt8.ofNat (bitsLen x), ⟨by omega, e3⟩, ?_⟩
  have e4 : (UInt8.ofNat (bitsLen x)).toNat = bitsLen x := by
    have : bitsLen x < 256 := by omega
    simp [Nat.mod_eq_of_lt this]
  rw [e4]
  have e5 : IntKind.wrap .i64 ((bitsLen x : Nat) : Int) = ((bitsLen x : Nat) : Int) := wrap_i64 (by omega) (by omega)
  have e6 : IntKind.wrap .i64 ((s : Int) + ((bitsLen x : Nat) : Int)) = ((s + bitsLen x : Nat) : Int) := by rw [wrap_i64 (by omega) (by omega)]; omega
  show K (Value.int .i64 (IntKind.wrap .i64 ((s : Int) + IntKind.wrap .i64 ((bitsLen x : Nat) : Int)))) w
  rw [e5, e6]
  exact h _ ⟨e2.1, e2.2.1⟩ e2.2.2
theorem len_2 {K : Value → World → Prop} {x s : Nat} (hx : x < 65536) (hs : s ≤ 48) (h : ∀ b, Qb x b → b ≤ 16 → K (.int .i64 ((s + b : Nat) : Int)) w) : F79_2 K (.int .u64 (x : Int)) (.int .i64 (s : Int)) w := by
  unfold F79_2
  simp only [rdI_mk]
  rw [br_dec]
  refine ⟨fun hg => ?_, fun hg => ?_⟩
  · have e1 : Int.fdiv (x : Int) (2 ^ (min 8 (IntKind.bits .u64))) = ((x / 2 ^ 8 : Nat) : Int) := by
      rw [Int.fdiv_eq_ediv_of_nonneg _ (by decide)]; rfl
    have e2 : IntKind.wrap .i64 ((s : Int) + 8) = ((s + 8 : Nat) : Int) := by rw [wrap_i64 (by omega) (by omega)]; omega
    rw [e1, e2]
    refine len_1 (by omega) (by omega) fun b hb hb' _g => ?_
    simp only [rdI_mk]
    have := h (b + 8) (hb.up (by omega)) (by omega)
    rw [show s + 8 + b = s + (b + 8) by omega]
    exact this
  · refine len_1 (by omega) (by omega) fun b hb hb' _g => ?_
    simp only [rdI_mk]
    exact h b hb (by omega)
theorem len_3 {K : Value → World → Prop} {x s : Nat} (hx : x < 4294967296) (hs : s ≤ 32) (h : ∀ b, Qb x b → b ≤ 32 → K (.int .i64 ((s + b : Nat) : Int)) w) : F79_3 K (.int .u64 (x : Int)) (.int .i64 (s : Int)) w := by
  unfold F79_3
  simp only [rdI_mk]
  rw [br_dec]
  refine ⟨fun hg => ?_, fun hg => ?_⟩
  · have e1 : Int.fdiv (x : Int) (2 ^ (min 16 (IntKind.bits .u64))) = ((x / 2 ^ 16 : Nat) : Int) := by
      rw [Int.fdiv_eq_ediv_of_nonneg _ (by decide)]; rfl
    have e2 : IntKind.wrap .i64 ((s : Int) + 16) = ((s + 16 : Nat) : Int) := by rw [wrap_i64 (by omega) (by omega)]; omega
    rw [e1, e2]
    refine len_2 (by omega) (by omega) fun b hb hb' _g => ?_
    simp only [rdI_mk]
    have := h (b + 16) (hb.up (by omega)) (by omega)
    rw [show s + 16 + b = s + (b + 16) by omega]
    exact this
  · refine len_2 (by omega) (by omega) fun b hb hb' _g => ?_
    simp only [rdI_mk]
    exact h b hb (by omega)
theorem c57 {x : Nat} (hx : x < 18446744073709551616) : Calls Try.prog 57 #[.int .u64 (x : Int)] w (rt fun v w' => w' = w ∧ ∃ b : Nat, v = .int .i64 (b : Int) ∧ Qb x b ∧ b ≤ 64) := by
  refine F57_ok ?_
  unfold F57
  simp only [rdI_mk]
  have c79 : Calls Try.prog 79 #[.int .u64 (x : Int)] w (rt fun v w' => w' = w ∧ ∃ b : Nat, v = .int .i64 (b : Int) ∧ Qb x b ∧ b ≤ 64) := by
    refine F79_ok ?_
    unfold F79
    simp only [rdI_mk]
    rw [br_dec]
    refine ⟨fun hg => ?_, fun hg => ?_⟩
    · have e1 : Int.fdiv (x : Int) (2 ^ (min 32 (IntKind.bits .u64))) = ((x / 2 ^ 32 : Nat) : Int) := by
        rw [Int.fdiv_eq_ediv_of_nonneg _ (by decide)]; rfl
      rw [e1]
      refine len_3 (s := 32) (by omega) (by omega) fun b hb hb' _g => ?_
      simp only [rdI_mk]
      exact ⟨trivial, 32 + b, rfl, by rw [Nat.add_comm]; exact hb.up (by omega), by omega⟩
    · refine len_3 (s := 0) (by omega) (by omega) fun b hb hb' _g => ?_
      simp only [rdI_mk]
      exact ⟨trivial, 0 + b, rfl, by rw [Nat.zero_add]; exact hb, by omega⟩
  refine cl c79 fun v w' ⟨hw, b, hv, hb⟩ => ⟨(b : Int), by rw [hv], hw, b, rfl, hb⟩
theorem c92 {x : Nat} (h0 : 0 < x) (hx : x ≤ 1152921504606846976) : Calls Try.prog 92 #[.int .i64 (x : Int)] w (rt fun v w' => w' = w ∧ ∃ m : Nat, v = .int .u64 (m : Int) ∧ x < m ∧ m ≤ 2 * x ∧ 0 < m) := by
  refine F92_ok ?_
  unfold F92
  simp only [rdI_mk]
  rw [wrap_u64 (by omega) (by omega)]
  refine cl (c57 (by omega)) fun v w' ⟨hw, b, hv, ⟨hb1, hb2⟩, hb⟩ => ⟨(b : Int), by rw [hv], ?_⟩
  rw [shc_nat]
  have hb3 : b ≤ 61 := by
    rcases Nat.lt_or_ge 61 b with hc | hc
    · have : 2 ^ 62 ≤ 2 ^ b := Nat.pow_le_pow_right (by omega) hc
      have e : (2 : Nat) ^ 62 = 4611686018427387904 := by decide
      omega
    · exact hc
  have hb4 : 2 ^ b ≤ 2 * x := by
    rcases b with _ | b
    · simp at hb1; omega
    · rw [Nat.pow_succ] at hb2 ⊢; omega
  have e0 : min b (IntKind.bits .u64) = b := by
    have : IntKind.bits .u64 = 64 := rfl
    rw [this]; omega
  have e1 : IntKind.wrap .u64 (1 * 2 ^ (min b (IntKind.bits .u64))) = ((2 ^ b : Nat) : Int) := by
    rw [e0, Int.one_mul, show ((2 : Int) ^ b) = ((2 ^ b : Nat) : Int) by simp]
    exact wrap_u64 (by omega) (by omega)
  rw [e1]
  exact ⟨hw, 2 ^ b, rfl, hb1, hb4, Nat.two_pow_pos b⟩
end
end Go.Proofs.Ytaflmpbeonoilaa
