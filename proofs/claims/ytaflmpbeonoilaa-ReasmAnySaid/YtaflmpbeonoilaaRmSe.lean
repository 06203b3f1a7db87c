/-
  Go's sort of numbers of 32 bits: the insertion that gives up, the whole.
-/
import Derived.Test.YtaflmpbeonoilaaRmSd
namespace Go.Proofs.Ytaflmpbeonoilaa
open Go Go.Sh Go.RowKit Go.Sort
section
variable {W w : World} {L : List HP} {e : TypeId} {a : Addr} {n c : Nat} {d : Array Int}
theorem scanS_in (d : Array Int) (b : Nat) : ∀ (m i : Nat), b ≤ i + m → i ≤ b → i ≤ scanSorted ltInt d b i ∧ scanSorted ltInt d b i ≤ b := by
  intro m
  induction m with
  | zero =>
    intro i hm hi
    rw [scanSorted, if_neg (by simp; omega)]
    omega
  | succ m ih =>
    intro i hm hi
    rw [scanSorted]
    split
    · rename_i hc
      simp only [Bool.and_eq_true, decide_eq_true_eq] at hc
      have := ih (i + 1) (by omega) (by omega)
      omega
    · omega
theorem scan4 {K : Value → Value → Value → Value → Value → World → Prop} {a' b s : Nat} (hb : b ≤ n) (d : Array Int) : ∀ (m i k : Nat) (w : World), UN W L e a n c d w → b ≤ i + m → m < k → 1 ≤ i → (∀ w', UN W L e a n c d w' → K (.slice (some a) n c) (.int .i64 (a' : Int)) (.int .i64 (b : Int)) (.int .i64 ((scanSorted ltInt d b i : Nat) : Int)) (.int .i64 (s : Int)) w') →
    F85_4 K k (.slice (some a) n c) (.int .i64 (a' : Int)) (.int .i64 (b : Int)) (.int .i64 (i : Int)) (.int .i64 (s : Int)) w := by
  intro m
  induction m with
  | zero =>
    intro i k w h hm hk hi hK
    obtain ⟨k, rfl⟩ : ∃ j, k = j + 1 := ⟨k - 1, by omega⟩
    rw [scanSorted, if_neg (by simp; omega)] at hK
    show F85_4B _ _ _ _ _ _ _ _
    unfold F85_4B
    simp only [rdC_mk, rdI_mk]
    refine h.2.2.drw fun w1 h1 => ?_
    rw [br_dec]
    exact ⟨fun hx => by exfalso; omega, fun _ => hK w1 ⟨h.1, h.2.1, h1⟩⟩
  | succ m ih =>
    intro i k w h hm hk hi hK
    obtain ⟨k, rfl⟩ : ∃ j, k = j + 1 := ⟨k - 1, by omega⟩
    have hn := h.2.1
    rw [scanSorted] at hK
    show F85_4B _ _ _ _ _ _ _ _
    unfold F85_4B
    simp only [rdC_mk, rdI_mk]
    refine h.2.2.drw fun w1 h1 => ?_
    have u1 : UN W L e a n c d w1 := ⟨h.1, h.2.1, h1⟩
    rw [br_dec]
    refine ⟨fun hx => ?_, fun hx => hK w1 u1 |> fun z => by rw [if_neg (by simp; omega)] at z; exact z⟩
    have e0 : IntKind.wrap .i64 ((i : Int) - 1) = ((i - 1 : Nat) : Int) := by rw [wrap_i64 (by omega) (by omega)]; omega
    rw [e0]
    refine u1.ld rfl (by omega) ?_
    refine u1.ld rfl (by omega) ?_
    refine clr c86 ⟨_, rfl, ?_⟩
    rw [br_iff]
    refine ⟨fun hb' => ?_, fun hb' => ?_⟩
    · rw [if_pos (by simp at hb'; simp [hb']; omega)] at hK
      have e1 : IntKind.wrap .i64 ((i : Int) + 1) = ((i + 1 : Nat) : Int) := by rw [wrap_i64 (by omega) (by omega)]; omega
      rw [e1]
      exact ih (i + 1) k w1 u1 (by omega) (by omega) (by omega) hK
    · rw [if_neg (by simp at hb'; simp [hb'])] at hK
      exact hK w1 u1
theorem shd1 {K : Value → Value → Value → Value → Value → World → Prop} {a' b s i : Nat} : ∀ (j k : Nat) (d : Array Int) (w : World), UN W L e a n c d w → j < n → j < k → (∀ w', UN W L e a n c (shiftDown ltInt j d) w' → K (.slice (some a) n c) (.int .i64 (a' : Int)) (.int .i64 (b : Int)) (.int .i64 (i : Int)) (.int .i64 (s : Int)) w') →
    F85_1 K k (.slice (some a) n c) (.int .i64 (a' : Int)) (.int .i64 (b : Int)) (.int .i64 (i : Int)) (.int .i64 (s : Int)) (.int .i64 (j : Int)) w := by
  intro j
  induction j with
  | zero =>
    intro k d w h hj hk hK
    obtain ⟨k, rfl⟩ : ∃ j, k = j + 1 := ⟨k - 1, by omega⟩
    unfold shiftDown at hK
    show F85_1B _ _ _ _ _ _ _ _ _
    unfold F85_1B
    simp only [rdC_mk, rdI_mk]
    rw [br_dec]
    exact ⟨fun hx => by exfalso; omega, fun _ => hK w h⟩
  | succ j ih =>
    intro k d w h hj hk hK
    obtain ⟨k, rfl⟩ : ∃ j, k = j + 1 := ⟨k - 1, by omega⟩
    have hn := h.2.1
    unfold shiftDown at hK
    have e1 : IntKind.wrap .i64 (((j + 1 : Nat) : Int) - 1) = (j : Int) := by rw [wrap_i64 (by omega) (by omega)]; omega
    show F85_1B _ _ _ _ _ _ _ _ _
    unfold F85_1B
    simp only [rdC_mk, rdI_mk, e1]
    rw [br_dec]
    refine ⟨fun hx => ?_, fun hx => by exfalso; omega⟩
    refine h.2.2.drw fun w1 h1 => ?_
    have u1 : UN W L e a n c d w1 := ⟨h.1, h.2.1, h1⟩
    refine u1.ld rfl hj ?_
    refine u1.ld rfl (by omega) ?_
    refine clr c86 ⟨_, rfl, ?_⟩
    rw [br_iff]
    refine ⟨fun hb => ?_, fun hb => ?_⟩
    · rw [if_pos hb] at hK
      exact hK w1 u1
    · rw [if_neg (by simp at hb; simp [hb])] at hK
      refine u1.swp rfl rfl (by omega) hj fun w2 h2 => ?_
      exact ih k _ w2 h2 (by omega) (by omega) hK
theorem shu2 {K : Value → Value → Value → Value → Value → World → Prop} {a' b s i : Nat} (hb : b ≤ n) : ∀ (m j k : Nat) (d : Array Int) (w : World), UN W L e a n c d w → b ≤ j + m → m < k → 1 ≤ j → (∀ w', UN W L e a n c (shiftUp ltInt b j d) w' → K (.slice (some a) n c) (.int .i64 (a' : Int)) (.int .i64 (b : Int)) (.int .i64 (i : Int)) (.int .i64 (s : Int)) w') →
    F85_2 K k (.slice (some a) n c) (.int .i64 (a' : Int)) (.int .i64 (b : Int)) (.int .i64 (i : Int)) (.int .i64 (s : Int)) (.int .i64 (j : Int)) w := by
  intro m
  induction m with
  | zero =>
    intro j k d w h hj hk h1 hK
    obtain ⟨k, rfl⟩ : ∃ j, k = j + 1 := ⟨k - 1, by omega⟩
    rw [shiftUp, if_neg (by omega)] at hK
    show F85_2B _ _ _ _ _ _ _ _ _
    unfold F85_2B
    simp only [rdC_mk, rdI_mk]
    rw [br_dec]
    exact ⟨fun hx => by exfalso; omega, fun _ => hK w h⟩
  | succ m ih =>
    intro j k d w h hj hk h1 hK
    obtain ⟨k, rfl⟩ : ∃ j, k = j + 1 := ⟨k - 1, by omega⟩
    have hn := h.2.1
    rw [shiftUp] at hK
    show F85_2B _ _ _ _ _ _ _ _ _
    unfold F85_2B
    simp only [rdC_mk, rdI_mk]
    rw [br_dec]
    refine ⟨fun hx => ?_, fun hx => hK w (by rw [if_neg (by omega)]; exact h)⟩
    rw [if_pos (by omega)] at hK
    have e1 : IntKind.wrap .i64 ((j : Int) - 1) = ((j - 1 : Nat) : Int) := by rw [wrap_i64 (by omega) (by omega)]; omega
    have e2 : IntKind.wrap .i64 ((j : Int) + 1) = ((j + 1 : Nat) : Int) := by rw [wrap_i64 (by omega) (by omega)]; omega
    simp only [e1, e2]
    refine h.2.2.drw fun w1 h1' => ?_
    have u1 : UN W L e a n c d w1 := ⟨h.1, h.2.1, h1'⟩
    refine u1.ld rfl (by omega) ?_
    refine u1.ld rfl (by omega) ?_
    refine clr c86 ⟨_, rfl, ?_⟩
    rw [br_iff]
    refine ⟨fun hb => ?_, fun hb => ?_⟩
    · rw [if_pos hb] at hK
      exact hK w1 u1
    · rw [if_neg (by simp at hb; simp [hb])] at hK
      refine u1.swp rfl rfl (by omega) (by omega) fun w2 h2 => ?_
      exact ih (j + 1) k _ w2 h2 (by omega) (by omega) (by omega) hK
theorem fix3 {Kn : Value → Value → Value → Value → Value → World → Prop} {a' b s i : Nat} (hb : b ≤ n) (hi : i < b) (h : UN W L e a n c d w) (hK : ∀ w', UN W L e a n c (fixUp ltInt b i d) w' → Kn (.slice (some a) n c) (.int .i64 (a' : Int)) (.int .i64 (b : Int)) (.int .i64 (i : Int)) (.int .i64 (s : Int)) w') :
    F85_3 Kn (.slice (some a) n c) (.int .i64 (a' : Int)) (.int .i64 (b : Int)) (.int .i64 (i : Int)) (.int .i64 (s : Int)) w := by
  unfold F85_3
  have hn := h.2.1
  have e1 : IntKind.wrap .i64 ((b : Int) - i) = ((b - i : Nat) : Int) := by rw [wrap_i64 (by omega) (by omega)]; omega
  have e2 : IntKind.wrap .i64 ((i : Int) + 1) = ((i + 1 : Nat) : Int) := by rw [wrap_i64 (by omega) (by omega)]; omega
  simp only [rdC_mk, rdI_mk, e1, e2]
  unfold fixUp at hK
  rw [br_dec]
  refine ⟨fun hx => ?_, fun hx => hK w (by rw [if_neg (by omega)]; exact h)⟩
  rw [if_pos (by omega)] at hK
  refine ⟨b + 1, shu2 hb b (i + 1) _ d w h (by omega) (by omega) (by omega) fun w1 h1 _g => ?_⟩
  simp only [rdC_mk, rdI_mk]
  exact hK w1 h1
theorem ins5 {K0 : World → Prop} {Kr : Value → World → Prop} {a' b : Nat} (hb : b ≤ n) (ha : a' < b) : ∀ (m s i k : Nat) (d : Array Int) (w : World), UN W L e a n c d w → s + m = 5 → m < k → a' < i → i ≤ b →
    ((partialIns ltInt a' b m i d).2 = false → ∀ w', UN W L e a n c (partialIns ltInt a' b m i d).1 w' → K0 w' ∧ Kr (.bool false) w') → ((partialIns ltInt a' b m i d).2 = true → ∀ w', UN W L e a n c (partialIns ltInt a' b m i d).1 w' → Kr (.bool true) w') →
    F85_5 K0 Kr k (.slice (some a) n c) (.int .i64 (a' : Int)) (.int .i64 (b : Int)) (.int .i64 (i : Int)) (.int .i64 (s : Int)) w := by
  intro m
  induction m with
  | zero =>
    intro s i k d w h hs hk hi hi' h0 h1
    obtain ⟨k, rfl⟩ : ∃ j, k = j + 1 := ⟨k - 1, by omega⟩
    show F85_5B _ _ _ _ _ _ _ _ _
    unfold F85_5B
    simp only [rdC_mk, rdI_mk]
    rw [br_dec]
    exact ⟨fun hx => by exfalso; omega, fun _ => (h0 rfl w h).1⟩
  | succ m ih =>
    intro s i k d w h hs hk hi hi' h0 h1
    obtain ⟨k, rfl⟩ : ∃ j, k = j + 1 := ⟨k - 1, by omega⟩
    have hn := h.2.1
    rw [partialIns_succ] at h0 h1
    show F85_5B _ _ _ _ _ _ _ _ _
    unfold F85_5B
    have e1 : IntKind.wrap .i64 ((b : Int) - a') = ((b - a' : Nat) : Int) := by rw [wrap_i64 (by omega) (by omega)]; omega
    have e9 : IntKind.wrap .i64 ((s : Int) + 1) = ((s + 1 : Nat) : Int) := by rw [wrap_i64 (by omega) (by omega)]; omega
    simp only [rdC_mk, rdI_mk]
    rw [br_dec]
    refine ⟨fun hx => ?_, fun hx => by exfalso; omega⟩
    refine ⟨b + 1, scan4 hb d b i _ w h (by omega) (by omega) (by omega) fun w1 u1 _g => ?_⟩
    have hsc := scanS_in d b b i (by omega) hi'
    generalize scanSorted ltInt d b i = q at *
    have e2 : IntKind.wrap .i64 ((q : Int) - 1) = ((q - 1 : Nat) : Int) := by rw [wrap_i64 (by omega) (by omega)]; omega
    have e3 : IntKind.wrap .i64 ((q : Int) - a') = ((q - a' : Nat) : Int) := by rw [wrap_i64 (by omega) (by omega)]; omega
    simp only [rdC_mk, rdI_mk, e1, e2, e3]
    rw [br_iff]
    refine ⟨fun hq => ?_, fun hq => ?_⟩
    · have hq' : q = b := by simp at hq; omega
      rw [if_pos hq'] at h1
      exact h1 rfl w1 u1
    · have hq' : q ≠ b := by simp at hq; omega
      rw [if_neg hq'] at h0 h1
      rw [br_dec]
      refine ⟨fun hl => ?_, fun hl => ?_⟩
      · rw [if_pos (by omega)] at h0
        exact (h0 rfl w1 u1).2
      · rw [if_neg (by omega)] at h0 h1
        refine u1.swp rfl rfl (by omega) (by omega) fun w2 u2 => ?_
        unfold fixDown at h0 h1
        rw [br_dec]
        refine ⟨fun hg => ?_, fun hg => ?_⟩
        · rw [if_pos (by omega)] at h0 h1
          refine ⟨q, shd1 (q - 1) _ _ w2 u2 (by omega) (by omega) fun w3 u3 _g => ?_⟩
          simp only [rdC_mk, rdI_mk]
          refine fix3 hb (by omega) u3 fun w4 u4 _g => ?_
          simp only [rdC_mk, rdI_mk, e9]
          exact ih (s + 1) q k _ w4 u4 (by omega) (by omega) (by omega) (by omega) h0 h1
        · rw [if_neg (by omega)] at h0 h1
          refine fix3 hb (by omega) u2 fun w4 u4 _g => ?_
          simp only [rdC_mk, rdI_mk, e9]
          exact ih (s + 1) q k _ w4 u4 (by omega) (by omega) (by omega) (by omega) h0 h1
theorem c85 {a' b : Nat} (h : UN W L e a n c d w) (ha : a' < b) (hb : b ≤ n) : Calls Try.prog 85 #[.slice (some a) n c, .int .i64 (a' : Int), .int .i64 (b : Int)] w (rt fun v w' => v = .bool (partialInsertionSort ltInt d a' b).2 ∧ UN W L e a n c (partialInsertionSort ltInt d a' b).1 w') := by
  refine F85_ok ?_
  unfold F85
  have hn := h.2.1
  have e1 : IntKind.wrap .i64 ((a' : Int) + 1) = ((a' + 1 : Nat) : Int) := by rw [wrap_i64 (by omega) (by omega)]; omega
  simp only [rdC_mk, rdI_mk, e1]
  refine ⟨6, ins5 hb ha 5 0 (a' + 1) _ d w h rfl (by omega) (by omega) (by omega) (fun hf w1 u1 => ?_) fun hf w1 u1 _g => ?_⟩
  · have : (partialInsertionSort ltInt d a' b).2 = false := hf
    refine ⟨fun _g => ⟨by rw [this], u1⟩, fun _g => ?_⟩
    simp only [rdB_mk]
    exact ⟨by rw [this], u1⟩
  · have : (partialInsertionSort ltInt d a' b).2 = true := hf
    simp only [rdB_mk]
    exact ⟨by rw [this], u1⟩
end
end Go.Proofs.Ytaflmpbeonoilaa
