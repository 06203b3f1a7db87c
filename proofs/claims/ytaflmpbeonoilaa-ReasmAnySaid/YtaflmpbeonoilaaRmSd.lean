/-
  Go's sort of numbers of 32 bits: the partitions.
-/
import Derived.Test.YtaflmpbeonoilaaRmSc
namespace Go.Proofs.Ytaflmpbeonoilaa
open Go Go.Sh Go.RowKit Go.Sort
section
variable {W w : World} {L : List HP} {e : TypeId} {a : Addr} {n c : Nat} {d : Array Int}
theorem up5 {K : Value → Value → Value → Value → World → Prop} {a' j : Nat} (ha : a' < n) (hj : j < n) (d : Array Int) : ∀ (m i k : Nat) (w : World), UN W L e a n c d w → j + 1 - i ≤ m → m < k → (∀ w', UN W L e a n c d w' → K (.slice (some a) n c) (.int .i64 (a' : Int)) (.int .i64 ((scanUp (fun x => ltInt x d[a']!) d j i : Nat) : Int)) (.int .i64 (j : Int)) w') →
    F88_5 K k (.slice (some a) n c) (.int .i64 (a' : Int)) (.int .i64 (i : Int)) (.int .i64 (j : Int)) w := by
  intro m
  induction m with
  | zero =>
    intro i k w h hm hk hK
    obtain ⟨k, rfl⟩ : ∃ j, k = j + 1 := ⟨k - 1, by omega⟩
    rw [scanUp, if_neg (by simp; omega)] at hK
    show F88_5B _ _ _ _ _ _ _
    unfold F88_5B
    simp only [rdC_mk, rdI_mk]
    refine h.2.2.drw fun w1 h1 => ?_
    rw [br_dec]
    exact ⟨fun hx => by exfalso; omega, fun _ => hK w1 ⟨h.1, h.2.1, h1⟩⟩
  | succ m ih =>
    intro i k w h hm hk hK
    obtain ⟨k, rfl⟩ : ∃ j, k = j + 1 := ⟨k - 1, by omega⟩
    have hn := h.2.1
    rw [scanUp] at hK
    show F88_5B _ _ _ _ _ _ _
    unfold F88_5B
    simp only [rdC_mk, rdI_mk]
    refine h.2.2.drw fun w1 h1 => ?_
    have u1 : UN W L e a n c d w1 := ⟨h.1, h.2.1, h1⟩
    rw [br_dec]
    refine ⟨fun hx => ?_, fun hx => hK w1 (by exact u1) |> fun z => by rw [if_neg (by simp; omega)] at z; exact z⟩
    refine u1.ld rfl (by omega) ?_
    refine u1.ld rfl ha ?_
    refine clr c86 ⟨_, rfl, ?_⟩
    rw [br_iff]
    refine ⟨fun hb => ?_, fun hb => ?_⟩
    · rw [if_pos (by simp [hb]; omega)] at hK
      have e1 : IntKind.wrap .i64 ((i : Int) + 1) = ((i + 1 : Nat) : Int) := by rw [wrap_i64 (by omega) (by omega)]; omega
      rw [e1]
      exact ih (i + 1) k w1 u1 (by omega) (by omega) hK
    · rw [if_neg (by simp [hb])] at hK
      exact hK w1 u1
theorem down4 {K : Value → Value → Value → Value → World → Prop} {a' i : Nat} (ha : a' < n) (hi : 1 ≤ i) (d : Array Int) : ∀ (j k : Nat) (w : World), UN W L e a n c d w → j < n → j < k → (∀ w', UN W L e a n c d w' → K (.slice (some a) n c) (.int .i64 (a' : Int)) (.int .i64 (i : Int)) (.int .i64 ((scanDown (fun x => !ltInt x d[a']!) d i j : Nat) : Int)) w') →
    F88_4 K k (.slice (some a) n c) (.int .i64 (a' : Int)) (.int .i64 (i : Int)) (.int .i64 (j : Int)) w := by
  intro j
  induction j with
  | zero =>
    intro k w h hj hk hK
    obtain ⟨k, rfl⟩ : ∃ j, k = j + 1 := ⟨k - 1, by omega⟩
    unfold scanDown at hK
    show F88_4B _ _ _ _ _ _ _
    unfold F88_4B
    simp only [rdC_mk, rdI_mk]
    refine h.2.2.drw fun w1 h1 => ?_
    rw [br_dec]
    exact ⟨fun hx => by exfalso; omega, fun _ => hK w1 ⟨h.1, h.2.1, h1⟩⟩
  | succ j ih =>
    intro k w h hj hk hK
    obtain ⟨k, rfl⟩ : ∃ j, k = j + 1 := ⟨k - 1, by omega⟩
    have hn := h.2.1
    unfold scanDown at hK
    show F88_4B _ _ _ _ _ _ _
    unfold F88_4B
    simp only [rdC_mk, rdI_mk]
    refine h.2.2.drw fun w1 h1 => ?_
    have u1 : UN W L e a n c d w1 := ⟨h.1, h.2.1, h1⟩
    rw [br_dec]
    refine ⟨fun hx => ?_, fun hx => hK w1 u1 |> fun z => by rw [if_neg (by simp; omega)] at z; exact z⟩
    refine u1.ld rfl hj ?_
    refine u1.ld rfl ha ?_
    refine clr c86 ⟨_, rfl, ?_⟩
    rw [br_iff]
    refine ⟨fun hb => ?_, fun hb => ?_⟩
    · rw [if_pos (by simp at hb; simp [hb]; omega)] at hK
      have e1 : IntKind.wrap .i64 (((j + 1 : Nat) : Int) - 1) = (j : Int) := by rw [wrap_i64 (by omega) (by omega)]; omega
      rw [e1]
      exact ih k w1 u1 (by omega) (by omega) hK
    · rw [if_neg (by simp at hb; simp [hb])] at hK
      exact hK w1 u1
theorem up2 {K : Value → Value → Value → Value → World → Prop} {a' j : Nat} (ha : a' < n) (hj : j < n) (d : Array Int) : ∀ (m i k : Nat) (w : World), UN W L e a n c d w → j + 1 - i ≤ m → m < k → (∀ w', UN W L e a n c d w' → K (.slice (some a) n c) (.int .i64 (a' : Int)) (.int .i64 ((scanUp (fun x => ltInt x d[a']!) d j i : Nat) : Int)) (.int .i64 (j : Int)) w') →
    F88_2 K k (.slice (some a) n c) (.int .i64 (a' : Int)) (.int .i64 (i : Int)) (.int .i64 (j : Int)) w := by
  intro m
  induction m with
  | zero =>
    intro i k w h hm hk hK
    obtain ⟨k, rfl⟩ : ∃ j, k = j + 1 := ⟨k - 1, by omega⟩
    rw [scanUp, if_neg (by simp; omega)] at hK
    show F88_2B _ _ _ _ _ _ _
    unfold F88_2B
    simp only [rdC_mk, rdI_mk]
    refine h.2.2.drw fun w1 h1 => ?_
    rw [br_dec]
    exact ⟨fun hx => by exfalso; omega, fun _ => hK w1 ⟨h.1, h.2.1, h1⟩⟩
  | succ m ih =>
    intro i k w h hm hk hK
    obtain ⟨k, rfl⟩ : ∃ j, k = j + 1 := ⟨k - 1, by omega⟩
    have hn := h.2.1
    rw [scanUp] at hK
    show F88_2B _ _ _ _ _ _ _
    unfold F88_2B
    simp only [rdC_mk, rdI_mk]
    refine h.2.2.drw fun w1 h1 => ?_
    have u1 : UN W L e a n c d w1 := ⟨h.1, h.2.1, h1⟩
    rw [br_dec]
    refine ⟨fun hx => ?_, fun hx => hK w1 (by exact u1) |> fun z => by rw [if_neg (by simp; omega)] at z; exact z⟩
    refine u1.ld rfl (by omega) ?_
    refine u1.ld rfl ha ?_
    refine clr c86 ⟨_, rfl, ?_⟩
    rw [br_iff]
    refine ⟨fun hb => ?_, fun hb => ?_⟩
    · rw [if_pos (by simp [hb]; omega)] at hK
      have e1 : IntKind.wrap .i64 ((i : Int) + 1) = ((i + 1 : Nat) : Int) := by rw [wrap_i64 (by omega) (by omega)]; omega
      rw [e1]
      exact ih (i + 1) k w1 u1 (by omega) (by omega) hK
    · rw [if_neg (by simp [hb])] at hK
      exact hK w1 u1
theorem down1 {K : Value → Value → Value → Value → World → Prop} {a' i : Nat} (ha : a' < n) (hi : 1 ≤ i) (d : Array Int) : ∀ (j k : Nat) (w : World), UN W L e a n c d w → j < n → j < k → (∀ w', UN W L e a n c d w' → K (.slice (some a) n c) (.int .i64 (a' : Int)) (.int .i64 (i : Int)) (.int .i64 ((scanDown (fun x => !ltInt x d[a']!) d i j : Nat) : Int)) w') →
    F88_1 K k (.slice (some a) n c) (.int .i64 (a' : Int)) (.int .i64 (i : Int)) (.int .i64 (j : Int)) w := by
  intro j
  induction j with
  | zero =>
    intro k w h hj hk hK
    obtain ⟨k, rfl⟩ : ∃ j, k = j + 1 := ⟨k - 1, by omega⟩
    unfold scanDown at hK
    show F88_1B _ _ _ _ _ _ _
    unfold F88_1B
    simp only [rdC_mk, rdI_mk]
    refine h.2.2.drw fun w1 h1 => ?_
    rw [br_dec]
    exact ⟨fun hx => by exfalso; omega, fun _ => hK w1 ⟨h.1, h.2.1, h1⟩⟩
  | succ j ih =>
    intro k w h hj hk hK
    obtain ⟨k, rfl⟩ : ∃ j, k = j + 1 := ⟨k - 1, by omega⟩
    have hn := h.2.1
    unfold scanDown at hK
    show F88_1B _ _ _ _ _ _ _
    unfold F88_1B
    simp only [rdC_mk, rdI_mk]
    refine h.2.2.drw fun w1 h1 => ?_
    have u1 : UN W L e a n c d w1 := ⟨h.1, h.2.1, h1⟩
    rw [br_dec]
    refine ⟨fun hx => ?_, fun hx => hK w1 u1 |> fun z => by rw [if_neg (by simp; omega)] at z; exact z⟩
    refine u1.ld rfl hj ?_
    refine u1.ld rfl ha ?_
    refine clr c86 ⟨_, rfl, ?_⟩
    rw [br_iff]
    refine ⟨fun hb => ?_, fun hb => ?_⟩
    · rw [if_pos (by simp at hb; simp [hb]; omega)] at hK
      have e1 : IntKind.wrap .i64 (((j + 1 : Nat) : Int) - 1) = (j : Int) := by rw [wrap_i64 (by omega) (by omega)]; omega
      rw [e1]
      exact ih k w1 u1 (by omega) (by omega) hK
    · rw [if_neg (by simp at hb; simp [hb])] at hK
      exact hK w1 u1
theorem upE {K : Value → Value → Value → Value → World → Prop} {a' j : Nat} (ha : a' < n) (hj : j < n) (d : Array Int) : ∀ (m i k : Nat) (w : World), UN W L e a n c d w → j + 1 - i ≤ m → m < k → (∀ w', UN W L e a n c d w' → K (.slice (some a) n c) (.int .i64 (a' : Int)) (.int .i64 ((scanUp (fun x => !ltInt d[a']! x) d j i : Nat) : Int)) (.int .i64 (j : Int)) w') →
    F87_2 K k (.slice (some a) n c) (.int .i64 (a' : Int)) (.int .i64 (i : Int)) (.int .i64 (j : Int)) w := by
  intro m
  induction m with
  | zero =>
    intro i k w h hm hk hK
    obtain ⟨k, rfl⟩ : ∃ j, k = j + 1 := ⟨k - 1, by omega⟩
    rw [scanUp, if_neg (by simp; omega)] at hK
    show F87_2B _ _ _ _ _ _ _
    unfold F87_2B
    simp only [rdC_mk, rdI_mk]
    refine h.2.2.drw fun w1 h1 => ?_
    rw [br_dec]
    exact ⟨fun hx => by exfalso; omega, fun _ => hK w1 ⟨h.1, h.2.1, h1⟩⟩
  | succ m ih =>
    intro i k w h hm hk hK
    obtain ⟨k, rfl⟩ : ∃ j, k = j + 1 := ⟨k - 1, by omega⟩
    have hn := h.2.1
    rw [scanUp] at hK
    show F87_2B _ _ _ _ _ _ _
    unfold F87_2B
    simp only [rdC_mk, rdI_mk]
    refine h.2.2.drw fun w1 h1 => ?_
    have u1 : UN W L e a n c d w1 := ⟨h.1, h.2.1, h1⟩
    rw [br_dec]
    refine ⟨fun hx => ?_, fun hx => hK w1 (by exact u1) |> fun z => by rw [if_neg (by simp; omega)] at z; exact z⟩
    refine u1.ld rfl ha ?_
    refine u1.ld rfl (by omega) ?_
    refine clr c86 ⟨_, rfl, ?_⟩
    rw [br_iff]
    refine ⟨fun hb => ?_, fun hb => ?_⟩
    · rw [if_pos (by simp at hb; simp [hb]; omega)] at hK
      have e1 : IntKind.wrap .i64 ((i : Int) + 1) = ((i + 1 : Nat) : Int) := by rw [wrap_i64 (by omega) (by omega)]; omega
      rw [e1]
      exact ih (i + 1) k w1 u1 (by omega) (by omega) hK
    · rw [if_neg (by simp at hb; simp [hb])] at hK
      exact hK w1 u1
theorem downE {K : Value → Value → Value → Value → World → Prop} {a' i : Nat} (ha : a' < n) (hi : 1 ≤ i) (d : Array Int) : ∀ (j k : Nat) (w : World), UN W L e a n c d w → j < n → j < k → (∀ w', UN W L e a n c d w' → K (.slice (some a) n c) (.int .i64 (a' : Int)) (.int .i64 (i : Int)) (.int .i64 ((scanDown (fun x => ltInt d[a']! x) d i j : Nat) : Int)) w') →
    F87_1 K k (.slice (some a) n c) (.int .i64 (a' : Int)) (.int .i64 (i : Int)) (.int .i64 (j : Int)) w := by
  intro j
  induction j with
  | zero =>
    intro k w h hj hk hK
    obtain ⟨k, rfl⟩ : ∃ j, k = j + 1 := ⟨k - 1, by omega⟩
    unfold scanDown at hK
    show F87_1B _ _ _ _ _ _ _
    unfold F87_1B
    simp only [rdC_mk, rdI_mk]
    refine h.2.2.drw fun w1 h1 => ?_
    rw [br_dec]
    exact ⟨fun hx => by exfalso; omega, fun _ => hK w1 ⟨h.1, h.2.1, h1⟩⟩
  | succ j ih =>
    intro k w h hj hk hK
    obtain ⟨k, rfl⟩ : ∃ j, k = j + 1 := ⟨k - 1, by omega⟩
    have hn := h.2.1
    unfold scanDown at hK
    show F87_1B _ _ _ _ _ _ _
    unfold F87_1B
    simp only [rdC_mk, rdI_mk]
    refine h.2.2.drw fun w1 h1 => ?_
    have u1 : UN W L e a n c d w1 := ⟨h.1, h.2.1, h1⟩
    rw [br_dec]
    refine ⟨fun hx => ?_, fun hx => hK w1 u1 |> fun z => by rw [if_neg (by simp; omega)] at z; exact z⟩
    refine u1.ld rfl ha ?_
    refine u1.ld rfl hj ?_
    refine clr c86 ⟨_, rfl, ?_⟩
    rw [br_iff]
    refine ⟨fun hb => ?_, fun hb => ?_⟩
    · rw [if_pos (by simp [hb]; omega)] at hK
      have e1 : IntKind.wrap .i64 (((j + 1 : Nat) : Int) - 1) = (j : Int) := by rw [wrap_i64 (by omega) (by omega)]; omega
      rw [e1]
      exact ih k w1 u1 (by omega) (by omega) hK
    · rw [if_neg (by simp [hb])] at hK
      exact hK w1 u1
theorem part_loop {K : Value → Value → Value → World → Prop} {a' : Nat} (ha : a' < n) : ∀ (m i j k : Nat) (d : Array Int) (w : World), UN W L e a n c d w → 1 ≤ i → j < n → j + 1 - i ≤ m → m < k → (∀ w', (partLoop ltInt a' i j d).1 < n → UN W L e a n c (partLoop ltInt a' i j d).2 w' → K (.slice (some a) n c) (.int .i64 (a' : Int)) (.int .i64 (((partLoop ltInt a' i j d).1 : Nat) : Int)) w') →
    F88_3 K k (.slice (some a) n c) (.int .i64 (a' : Int)) (.int .i64 (i : Int)) (.int .i64 (j : Int)) w := by
  intro m
  induction m with
  | zero =>
    intro i j k d w h hi hj hm hk hK
    obtain ⟨k, rfl⟩ : ∃ j, k = j + 1 := ⟨k - 1, by omega⟩
    have hn := h.2.1
    rw [partLoop_eq] at hK
    have hge := scanUp_ge (fun x => ltInt x d[a']!) d j i
    have hle := scanDown_le (fun x => !ltInt x d[a']!) d (scanUp (fun x => ltInt x d[a']!) d j i) j
    show F88_3B _ _ _ _ _ _ _
    unfold F88_3B
    simp only [rdC_mk, rdI_mk]
    refine ⟨j + 2, up2 ha hj d (j + 1) i _ w h (by omega) (by omega) fun w1 h1 _g => ?_⟩
    simp only [rdC_mk, rdI_mk]
    refine ⟨j + 2, down1 ha (by omega) d j _ w1 h1 hj (by omega) fun w2 h2 _g => ?_⟩
    simp only [rdC_mk, rdI_mk]
    rw [br_dec]
    refine ⟨fun hx => ?_, fun hx => by exfalso; omega⟩
    rw [if_pos (by omega)] at hK
    exact hK w2 (by omega) h2
  | succ m ih =>
    intro i j k d w h hi hj hm hk hK
    obtain ⟨k, rfl⟩ : ∃ j, k = j + 1 := ⟨k - 1, by omega⟩
    have hn := h.2.1
    rw [partLoop_eq] at hK
    have hge := scanUp_ge (fun x => ltInt x d[a']!) d j i
    have hle := scanDown_le (fun x => !ltInt x d[a']!) d (scanUp (fun x => ltInt x d[a']!) d j i) j
    show F88_3B _ _ _ _ _ _ _
    unfold F88_3B
    simp only [rdC_mk, rdI_mk]
    refine ⟨j + 2, up2 ha hj d (j + 1) i _ w h (by omega) (by omega) fun w1 h1 _g => ?_⟩
    simp only [rdC_mk, rdI_mk]
    refine ⟨j + 2, down1 ha (by omega) d j _ w1 h1 hj (by omega) fun w2 h2 _g => ?_⟩
    simp only [rdC_mk, rdI_mk]
    generalize scanUp (fun x => ltInt x d[a']!) d j i = i2 at *
    generalize scanDown (fun x => !ltInt x d[a']!) d i2 j = j2 at *
    rw [br_dec]
    refine ⟨fun hx => ?_, fun hx => ?_⟩
    · rw [if_pos (by omega)] at hK
      exact hK w2 (by omega) h2
    · rw [if_neg (by omega)] at hK
      refine h2.swp rfl rfl (by omega) (by omega) fun w3 h3 => ?_
      have e1 : IntKind.wrap .i64 ((i2 : Int) + 1) = ((i2 + 1 : Nat) : Int) := by rw [wrap_i64 (by omega) (by omega)]; omega
      have e2 : IntKind.wrap .i64 ((j2 : Int) - 1) = ((j2 - 1 : Nat) : Int) := by rw [wrap_i64 (by omega) (by omega)]; omega
      rw [e1, e2]
      exact ih (i2 + 1) (j2 - 1) k _ w3 h3 (by omega) (by omega) (by omega) (by omega) hK
theorem c88 {a' b p : Nat} (h : UN W L e a n c d w) (hp1 : a' ≤ p) (hp2 : p < b) (hb : b ≤ n) : Calls Try.prog 88 #[.slice (some a) n c, .int .i64 (a' : Int), .int .i64 (b : Int), .int .i64 (p : Int)] w (rt fun v w' => v = .tuple #[.int .i64 (((partition ltInt d a' b p).1 : Nat) : Int), .bool (partition ltInt d a' b p).2.1] ∧ UN W L e a n c (partition ltInt d a' b p).2.2 w') := by
  refine F88_ok ?_
  unfold F88
  have hn := h.2.1
  have e1 : IntKind.wrap .i64 ((a' : Int) + 1) = ((a' + 1 : Nat) : Int) := by rw [wrap_i64 (by omega) (by omega)]; omega
  have e2 : IntKind.wrap .i64 ((b : Int) - 1) = ((b - 1 : Nat) : Int) := by rw [wrap_i64 (by omega) (by omega)]; omega
  simp only [rdC_mk, rdI_mk, e1, e2]
  refine h.swp rfl rfl (by omega) (by omega) fun w1 h1 => ?_
  have hge := scanUp_ge (fun x => ltInt x (swp d a' p)[a']!) (swp d a' p) (b - 1) (a' + 1)
  have hle := scanDown_le (fun x => !ltInt x (swp d a' p)[a']!) (swp d a' p) (scanUp (fun x => ltInt x (swp d a' p)[a']!) (swp d a' p) (b - 1) (a' + 1)) (b - 1)
  have hP : partition ltInt d a' b p = (if (scanUp (fun x => ltInt x (swp d a' p)[a']!) (swp d a' p) (b - 1) (a' + 1)) > (scanDown (fun x => !ltInt x (swp d a' p)[a']!) (swp d a' p) (scanUp (fun x => ltInt x (swp d a' p)[a']!) (swp d a' p) (b - 1) (a' + 1)) (b - 1)) then ((scanDown (fun x => !ltInt x (swp d a' p)[a']!) (swp d a' p) (scanUp (fun x => ltInt x (swp d a' p)[a']!) (swp d a' p) (b - 1) (a' + 1)) (b - 1)), true, swp (swp d a' p) (scanDown (fun x => !ltInt x (swp d a' p)[a']!) (swp d a' p) (scanUp (fun x => ltInt x (swp d a' p)[a']!) (swp d a' p) (b - 1) (a' + 1)) (b - 1)) a') else ((partLoop ltInt a' ((scanUp (fun x => ltInt x (swp d a' p)[a']!) (swp d a' p) (b - 1) (a' + 1)) + 1) ((scanDown (fun x => !ltInt x (swp d a' p)[a']!) (swp d a' p) (scanUp (fun x => ltInt x (swp d a' p)[a']!) (swp d a' p) (b - 1) (a' + 1)) (b - 1)) - 1) (swp (swp d a' p) (scanUp (fun x => ltInt x (swp d a' p)[a']!) (swp d a' p) (b - 1) (a' + 1)) (scanDown (fun x => !ltInt x (swp d a' p)[a']!) (swp d a' p) (scanUp (fun x => ltInt x (swp d a' p)[a']!) (swp d a' p) (b - 1) (a' + 1)) (b - 1)))).1, false, swp (partLoop ltInt a' ((scanUp (fun x => ltInt x (swp d a' p)[a']!) (swp d a' p) (b - 1) (a' + 1)) + 1) ((scanDown (fun x => !ltInt x (swp d a' p)[a']!) (swp d a' p) (scanUp (fun x => ltInt x (swp d a' p)[a']!) (swp d a' p) (b - 1) (a' + 1)) (b - 1)) - 1) (swp (swp d a' p) (scanUp (fun x => ltInt x (swp d a' p)[a']!) (swp d a' p) (b - 1) (a' + 1)) (scanDown (fun x => !ltInt x (swp d a' p)[a']!) (swp d a' p) (scanUp (fun x => ltInt x (swp d a' p)[a']!) (swp d a' p) (b - 1) (a' + 1)) (b - 1)))).2 (partLoop ltInt a' ((scanUp (fun x => ltInt x (swp d a' p)[a']!) (swp d a' p) (b - 1) (a' + 1)) + 1) ((scanDown (fun x => !ltInt x (swp d a' p)[a']!) (swp d a' p) (scanUp (fun x => ltInt x (swp d a' p)[a']!) (swp d a' p) (b - 1) (a' + 1)) (b - 1)) - 1) (swp (swp d a' p) (scanUp (fun x => ltInt x (swp d a' p)[a']!) (swp d a' p) (b - 1) (a' + 1)) (scanDown (fun x => !ltInt x (swp d a' p)[a']!) (swp d a' p) (scanUp (fun x => ltInt x (swp d a' p)[a']!) (swp d a' p) (b - 1) (a' + 1)) (b - 1)))).1 a')) := rfl
  refine ⟨b + 2, up5 (by omega) (by omega) (swp d a' p) (b + 1) (a' + 1) _ w1 h1 (by omega) (by omega) fun w2 h2 _g => ?_⟩
  simp only [rdC_mk, rdI_mk]
  refine ⟨b + 2, down4 (by omega) (by omega) (swp d a' p) (b - 1) _ w2 h2 (by omega) (by omega) fun w3 h3 _g => ?_⟩
  simp only [rdC_mk, rdI_mk]
  generalize scanUp (fun x => ltInt x (swp d a' p)[a']!) (swp d a' p) (b - 1) (a' + 1) = i2 at *
  generalize scanDown (fun x => !ltInt x (swp d a' p)[a']!) (swp d a' p) i2 (b - 1) = j2 at *
  rw [br_dec]
  refine ⟨fun hx => ?_, fun hx => ?_⟩
  · rw [if_pos (by omega)] at hP
    rw [hP]
    exact h3.swp rfl rfl (by omega) (by omega) fun w4 h4 => ⟨rfl, h4⟩
  · rw [if_neg (by omega)] at hP
    rw [hP]
    refine h3.swp rfl rfl (by omega) (by omega) fun w4 h4 => ?_
    have e3 : IntKind.wrap .i64 ((i2 : Int) + 1) = ((i2 + 1 : Nat) : Int) := by rw [wrap_i64 (by omega) (by omega)]; omega
    have e4 : IntKind.wrap .i64 ((j2 : Int) - 1) = ((j2 - 1 : Nat) : Int) := by rw [wrap_i64 (by omega) (by omega)]; omega
    rw [e3, e4]
    refine ⟨b + 2, part_loop (by omega) (b + 1) _ _ _ _ w4 h4 (by omega) (by omega) (by omega) (by omega) fun w5 hl h5 _g => ?_⟩
    simp only [rdC_mk, rdI_mk]
    exact h5.swp rfl rfl (by omega) hl fun w6 h6 => ⟨trivial, h6⟩
theorem partE_loop {K : Value → World → Prop} {a' : Nat} (ha : a' < n) : ∀ (m i j k : Nat) (d : Array Int) (w : World), UN W L e a n c d w → 1 ≤ i → j < n → j + 1 - i ≤ m → m < k → (∀ w', UN W L e a n c (partEqLoop ltInt a' i j d).2 w' → K (.int .i64 (((partEqLoop ltInt a' i j d).1 : Nat) : Int)) w') →
    F87_3 K k (.slice (some a) n c) (.int .i64 (a' : Int)) (.int .i64 (i : Int)) (.int .i64 (j : Int)) w := by
  intro m
  induction m with
  | zero =>
    intro i j k d w h hi hj hm hk hK
    obtain ⟨k, rfl⟩ : ∃ j, k = j + 1 := ⟨k - 1, by omega⟩
    have hn := h.2.1
    rw [partEqLoop_eq] at hK
    have hge := scanUp_ge (fun x => !ltInt d[a']! x) d j i
    have hle := scanDown_le (fun x => ltInt d[a']! x) d (scanUp (fun x => !ltInt d[a']! x) d j i) j
    show F87_3B _ _ _ _ _ _ _
    unfold F87_3B
    simp only [rdC_mk, rdI_mk]
    refine ⟨j + 2, upE ha hj d (j + 1) i _ w h (by omega) (by omega) fun w1 h1 _g => ?_⟩
    simp only [rdC_mk, rdI_mk]
    refine ⟨j + 2, downE ha (by omega) d j _ w1 h1 hj (by omega) fun w2 h2 _g => ?_⟩
    simp only [rdC_mk, rdI_mk]
    rw [br_dec]
    refine ⟨fun hx => ?_, fun hx => by exfalso; omega⟩
    rw [if_pos (by omega)] at hK
    exact hK w2 h2
  | succ m ih =>
    intro i j k d w h hi hj hm hk hK
    obtain ⟨k, rfl⟩ : ∃ j, k = j + 1 := ⟨k - 1, by omega⟩
    have hn := h.2.1
    rw [partEqLoop_eq] at hK
    have hge := scanUp_ge (fun x => !ltInt d[a']! x) d j i
    have hle := scanDown_le (fun x => ltInt d[a']! x) d (scanUp (fun x => !ltInt d[a']! x) d j i) j
    show F87_3B _ _ _ _ _ _ _
    unfold F87_3B
    simp only [rdC_mk, rdI_mk]
    refine ⟨j + 2, upE ha hj d (j + 1) i _ w h (by omega) (by omega) fun w1 h1 _g => ?_⟩
    simp only [rdC_mk, rdI_mk]
    refine ⟨j + 2, downE ha (by omega) d j _ w1 h1 hj (by omega) fun w2 h2 _g => ?_⟩
    simp only [rdC_mk, rdI_mk]
    generalize scanUp (fun x => !ltInt d[a']! x) d j i = i2 at *
    generalize scanDown (fun x => ltInt d[a']! x) d i2 j = j2 at *
    rw [br_dec]
    refine ⟨fun hx => ?_, fun hx => ?_⟩
    · rw [if_pos (by omega)] at hK
      exact hK w2 h2
    · rw [if_neg (by omega)] at hK
      refine h2.swp rfl rfl (by omega) (by omega) fun w3 h3 => ?_
      have e1 : IntKind.wrap .i64 ((i2 : Int) + 1) = ((i2 + 1 : Nat) : Int) := by rw [wrap_i64 (by omega) (by omega)]; omega
      have e2 : IntKind.wrap .i64 ((j2 : Int) - 1) = ((j2 - 1 : Nat) : Int) := by rw [wrap_i64 (by omega) (by omega)]; omega
      rw [e1, e2]
      exact ih (i2 + 1) (j2 - 1) k _ w3 h3 (by omega) (by omega) (by omega) (by omega) hK
theorem c87 {a' b p : Nat} (h : UN W L e a n c d w) (hp1 : a' ≤ p) (hp2 : p < b) (hb : b ≤ n) : Calls Try.prog 87 #[.slice (some a) n c, .int .i64 (a' : Int), .int .i64 (b : Int), .int .i64 (p : Int)] w (rt fun v w' => v = .int .i64 (((partitionEqual ltInt d a' b p).1 : Nat) : Int) ∧ UN W L e a n c (partitionEqual ltInt d a' b p).2 w') := by
  refine F87_ok ?_
  unfold F87
  have hn := h.2.1
  have e1 : IntKind.wrap .i64 ((a' : Int) + 1) = ((a' + 1 : Nat) : Int) := by rw [wrap_i64 (by omega) (by omega)]; omega
  have e2 : IntKind.wrap .i64 ((b : Int) - 1) = ((b - 1 : Nat) : Int) := by rw [wrap_i64 (by omega) (by omega)]; omega
  simp only [rdC_mk, rdI_mk, e1, e2]
  refine h.swp rfl rfl (by omega) (by omega) fun w1 h1 => ?_
  refine ⟨b + 2, partE_loop (by omega) (b + 1) _ _ _ _ w1 h1 (by omega) (by omega) (by omega) (by omega) fun w5 h5 _g => ?_⟩
  simp only [rdI_mk]
  exact ⟨rfl, h5⟩
end
end Go.Proofs.Ytaflmpbeonoilaa
