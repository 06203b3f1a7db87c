/-
  Go's container/heap over the table: up, down, Push, Pop, Init.
-/
import Derived.Test.YtdagfdejjfobhaaTmB
namespace Go.Proofs.Ytdagfdejjfobhaa
open Go Go.Sh Go.Tm
section
variable {W w : World} {L M : List HP} {tb lc m n nn i j : Nat} {la : Option Addr} {h h0 : Nat → Du} {last : Int}
abbrev hI (tb : Nat) : Value := .iface 63 (.pointer (some ⟨tb, 0, none⟩))
theorem less_k {K : Bool → World → Prop} (hs : Hs W (hpL tb la lc m n h last ++ L) w) (hi : i < n) (hj : j < n) (hK : ∀ w', Hs W (hpL tb la lc m n h last ++ L) w' → K (decide (lt (h i) (h j))) w') :
    ∃ f q w1, Sem.run Try.prog (callMethod (hI tb) "Less" #[.int .i64 (i : Int), .int .i64 (j : Int)]) w = .ok (.enter f q) w1 ∧ Calls Try.prog f q w1 fun e w2 => ∃ b, e = .returned (.bool b) ∧ K b w2 := by
  refine ⟨_, _, _, m_less _ _ _ _, cl (c77 hs hi hj) ?_⟩
  rintro _ w2 ⟨rfl, h2⟩
  exact ⟨_, rfl, hK w2 h2⟩
theorem swap_k {K : World → Prop} (hs : Hs W (hpL tb la lc m n h last ++ L) w) (hi : i < n) (hj : j < n) (hK : ∀ w', Hs W (hpL tb la lc m n (swF h i j) last ++ L) w' → K w') :
    ∃ f q w1, Sem.run Try.prog (callMethod (hI tb) "Swap" #[.int .i64 (i : Int), .int .i64 (j : Int)]) w = .ok (.enter f q) w1 ∧ Calls Try.prog f q w1 fun e w2 => e = .returned (.tuple #[]) ∧ K w2 := by
  refine ⟨_, _, _, m_swap _ _ _ _, cl (c80 hs hi hj) ?_⟩
  rintro _ w2 ⟨rfl, h2⟩
  exact ⟨rfl, hK w2 h2⟩
theorem len_k {K : Int → World → Prop} (hs : Hs W (hpL tb la lc m n h last ++ L) w) (hK : K (n : Int) w) :
    ∃ f q w1, Sem.run Try.prog (callMethod (hI tb) "Len" #[]) w = .ok (.enter f q) w1 ∧ Calls Try.prog f q w1 fun e w2 => ∃ b, e = .returned (.int .i64 b) ∧ K b w2 :=
  ⟨_, _, _, m_len _ _, clr (c25 hs) ⟨_, rfl, hK⟩⟩
theorem c38_1 {K0 : World → Prop} (hn : n ≤ 1000000) (hK : ∀ w' h', Hp n h' → (∀ x, Mem n h' x ↔ Mem n h0 x) → Hs W (hpL tb la lc m n h' last ++ L) w' → K0 w') :
    ∀ (fuel j : Nat) (h : Nat → Du) (w : World) (k : Nat), j ≤ fuel → j < n → HpUp n h j → (∀ x, Mem n h x ↔ Mem n h0 x) → Hs W (hpL tb la lc m n h last ++ L) w → fuel < k → F38_1 K0 k (hI tb) (.int .i64 (j : Int)) w := by
  intro fuel
  induction fuel with
  | zero =>
    intro j h w k hj hjn hu hm hs hk
    obtain ⟨k, rfl⟩ : ∃ j, k = j + 1 := ⟨k - 1, by omega⟩
    show F38_1B _ _ _ _ _
    unfold F38_1B
    simp only [rdI_mk]
    obtain rfl : j = 0 := by omega
    rw [show (IntKind.wrap .i64 (Int.tdiv (IntKind.wrap .i64 (((0 : Nat) : Int) - 1)) 2) == ((0 : Nat) : Int)) = true from rfl, br_true]
    exact hK w h (hu.stop (.inl rfl)) hm hs
  | succ fuel ih =>
    intro j h w k hj hjn hu hm hs hk
    obtain ⟨k, rfl⟩ : ∃ j, k = j + 1 := ⟨k - 1, by omega⟩
    show F38_1B _ _ _ _ _
    unfold F38_1B
    simp only [rdI_mk]
    by_cases h0 : j = 0
    · subst h0
      rw [show (IntKind.wrap .i64 (Int.tdiv (IntKind.wrap .i64 (((0 : Nat) : Int) - 1)) 2) == ((0 : Nat) : Int)) = true from rfl, br_true]
      exact hK w h (hu.stop (.inl rfl)) hm hs
    · have e1 : IntKind.wrap .i64 (Int.tdiv (IntKind.wrap .i64 ((j : Int) - 1)) 2) = (((j - 1) / 2 : Nat) : Int) := by
        rw [wrap_i64 (n := (j : Int) - 1) (by omega) (by omega)]
        have : Int.tdiv ((j : Int) - 1) 2 = (((j - 1) / 2 : Nat) : Int) := by
          rw [show (j : Int) - 1 = ((j - 1 : Nat) : Int) by omega]
          rfl
        rw [this, wrap_i64 (by omega) (by omega)]
      rw [e1]
      have e2 : ((((j - 1) / 2 : Nat) : Int) == (j : Int)) = false := by simp; omega
      rw [e2, br_false]
      refine less_k hs hjn (by omega) fun w1 h1 => ?_
      rw [br_iff]
      refine ⟨fun hl => ?_, fun hl => ?_⟩
      · exact hK w1 h (hu.stop (.inr (by simpa using hl))) hm h1
      · have hl : lt (h j) (h ((j - 1) / 2)) := by simpa using hl
        refine swap_k h1 (by omega) hjn fun w2 h2 => ?_
        exact ih ((j - 1) / 2) _ w2 k (by omega) (by omega) (hu.step (by omega) hjn hl) (fun x => (mem_sw (by omega) hjn x).trans (hm x)) h2 (by omega)
theorem c38 (hn : n ≤ 1000000) (hj : j < n) (hu : HpUp n h j) (hs : Hs W (hpL tb la lc m n h last ++ L) w) :
    Calls Try.prog 38 #[hI tb, .int .i64 (j : Int)] w (rt fun v w' => v = .tuple #[] ∧ ∃ h', Hp n h' ∧ (∀ x, Mem n h' x ↔ Mem n h x) ∧ Hs W (hpL tb la lc m n h' last ++ L) w') := by
  refine F38_ok ?_
  unfold F38
  simp only [rdI_mk]
  exact ⟨j + 1, c38_1 hn (fun w' h' a b c _ => ⟨trivial, h', a, b, c⟩) j j h w _ (Nat.le_refl _) hj hu (fun _ => Iff.rfl) hs (by omega)⟩
/-- one step down -/
theorem c40_1 {K0 : Value → Value → World → Prop} {Kn : Value → Value → Value → Value → World → Prop} (hnn : nn ≤ n) (hn : n ≤ 1000000) {i0 : Int} (hd : HpDn nn h i) (hj : 2 * i + 1 < nn) (hs : Hs W (hpL tb la lc m n h last ++ L) w)
    (hstop : ∀ w', Hp nn h → Hs W (hpL tb la lc m n h last ++ L) w' → K0 (.int .i64 i0) (.int .i64 (i : Int)) w')
    (hstep : ∀ w' (j : Nat), i < j → j < nn → (j - 1) / 2 = i → lt (h j) (h i) → HpDn nn (swF h i j) j → Hs W (hpL tb la lc m n (swF h i j) last ++ L) w' → Kn (hI tb) (.int .i64 i0) (.int .i64 (nn : Int)) (.int .i64 (j : Int)) w') :
    F40_1 K0 Kn (hI tb) (.int .i64 i0) (.int .i64 (nn : Int)) (.int .i64 (i : Int)) (.int .i64 ((2 * i + 1 : Nat) : Int)) w := by
  unfold F40_1
  simp only [rdI_mk]
  have e1 : IntKind.wrap .i64 (((2 * i + 1 : Nat) : Int) + 1) = ((2 * i + 2 : Nat) : Int) := by rw [wrap_i64 (by omega) (by omega)]; omega
  rw [e1]
  have fin : ∀ (j : Nat) (w1 : World), Ch nn h i j → Hs W (hpL tb la lc m n h last ++ L) w1 →
      ∃ f q w7, Sem.run Try.prog (callMethod (hI tb) "Less" #[.int .i64 (j : Int), .int .i64 (i : Int)]) w1 = .ok (.enter f q) w7 ∧ (Calls Try.prog f q w7 fun e9 w8 => ∃ b10, e9 = .returned (.bool b10) ∧ (br (!b10) (K0 (.int .i64 i0) (.int .i64 (i : Int)) w8) (∃ f17 q18 w19, Sem.run Try.prog (callMethod (hI tb) "Swap" #[.int .i64 (i : Int), .int .i64 (j : Int)]) w8 = .ok (.enter f17 q18) w19 ∧ (Calls Try.prog f17 q18 w19 fun e21 w20 => e21 = .returned (.tuple #[]) ∧ (Kn (hI tb) (.int .i64 i0) (.int .i64 (nn : Int)) (.int .i64 (j : Int)) w20))))) := by
    intro j w1 hc h1
    obtain ⟨c1, c2, c3⟩ := hc
    refine less_k h1 (by omega) (by omega) fun w2 h2 => ?_
    rw [br_iff]
    refine ⟨fun hl => ?_, fun hl => ?_⟩
    · exact hstop w2 (hd.stop (.inr ⟨j, ⟨c1, c2, c3⟩, by simpa using hl⟩)) h2
    · have hl : lt (h j) (h i) := by simpa using hl
      exact swap_k h2 (by omega) (by omega) fun w3 h3 => hstep w3 j (by omega) c2 (by omega) hl (hd.step ⟨c1, c2, c3⟩ hl) h3
  rw [br_dec]
  refine ⟨fun h2 => ?_, fun h2 => ?_⟩
  · refine less_k hs (by omega) (by omega) fun w1 h1 => ?_
    rw [br_iff]
    refine ⟨fun hl => ?_, fun hl => ?_⟩
    · have hl : lt (h (2 * i + 2)) (h (2 * i + 1)) := by simpa using hl
      refine fin (2 * i + 2) w1 ⟨.inr rfl, by omega, fun k hk hkk => ?_⟩ h1
      rcases hkk with rfl | rfl
      · exact lt_asymm hl
      · exact lt_irrefl _
    · have hl : ¬ lt (h (2 * i + 2)) (h (2 * i + 1)) := by simpa using hl
      refine fin (2 * i + 1) w1 ⟨.inl rfl, by omega, fun k hk hkk => ?_⟩ h1
      rcases hkk with rfl | rfl
      · exact lt_irrefl _
      · exact hl
  · refine fin (2 * i + 1) w ⟨.inl rfl, by omega, fun k hk hkk => ?_⟩ hs
    rcases hkk with rfl | rfl
    · exact lt_irrefl _
    · omega
theorem c40_2 {K0 : Value → Value → World → Prop} (hnn : nn ≤ n) (hn : n ≤ 1000000) {i0 : Int}
    (hK : ∀ w' h' (i : Nat), Hp nn h' → (∀ x, Mem nn h' x ↔ Mem nn h0 x) → (∀ k, nn ≤ k → h' k = h0 k) → Hs W (hpL tb la lc m n h' last ++ L) w' → K0 (.int .i64 i0) (.int .i64 (i : Int)) w') :
    ∀ (fuel i : Nat) (h : Nat → Du) (w : World) (k : Nat), nn ≤ i + fuel → i < 1000000 → HpDn nn h i → (∀ x, Mem nn h x ↔ Mem nn h0 x) → (∀ k, nn ≤ k → h k = h0 k) → Hs W (hpL tb la lc m n h last ++ L) w → fuel < k →
      F40_2 K0 k (hI tb) (.int .i64 i0) (.int .i64 (nn : Int)) (.int .i64 (i : Int)) w := by
  intro fuel
  induction fuel with
  | zero =>
    intro i h w k hf hi hd hm ho hs hk
    obtain ⟨k, rfl⟩ : ∃ j, k = j + 1 := ⟨k - 1, by omega⟩
    show F40_2B _ _ _ _ _ _ _
    unfold F40_2B
    simp only [rdI_mk]
    have e1 : IntKind.wrap .i64 ((IntKind.wrap .i64 (2 * (i : Int))) + 1) = ((2 * i + 1 : Nat) : Int) := by rw [wrap_i64 (n := 2 * (i : Int)) (by omega) (by omega), wrap_i64 (by omega) (by omega)]; omega
    rw [e1, br_dec]
    refine ⟨fun _ => hK w h i (hd.stop (.inl (by omega))) hm ho hs, fun h => by exfalso; omega⟩
  | succ fuel ih =>
    intro i h w k hf hi hd hm ho hs hk
    obtain ⟨k, rfl⟩ : ∃ j, k = j + 1 := ⟨k - 1, by omega⟩
    show F40_2B _ _ _ _ _ _ _
    unfold F40_2B
    simp only [rdI_mk]
    have e1 : IntKind.wrap .i64 ((IntKind.wrap .i64 (2 * (i : Int))) + 1) = ((2 * i + 1 : Nat) : Int) := by rw [wrap_i64 (n := 2 * (i : Int)) (by omega) (by omega), wrap_i64 (by omega) (by omega)]; omega
    rw [e1, br_dec]
    refine ⟨fun _ => hK w h i (hd.stop (.inl (by omega))) hm ho hs, fun hlt => ?_⟩
    rw [br_dec]
    refine ⟨fun h => by exfalso; omega, fun _ => ?_⟩
    refine c40_1 hnn hn hd (by omega) hs (fun w1 a b => ?_) fun w1 j hij hj _ _ a b => ?_
    · intro _g
      simp only [rdI_mk]
      exact hK w1 h i a hm ho b
    · intro _g
      simp only [rdI_mk]
      refine ih j _ w1 k (by omega) (by omega) a (fun x => (mem_sw (by omega) hj x).trans (hm x)) (fun k hk => ?_) b (by omega)
      rw [sw_o (by omega) (by omega)]
      exact ho k hk
theorem c40 (hnn : nn ≤ n) (hn : n ≤ 1000000) (hi : i < 1000000) (hd : HpDn nn h i) (hs : Hs W (hpL tb la lc m n h last ++ L) w) :
    Calls Try.prog 40 #[hI tb, .int .i64 (i : Int), .int .i64 (nn : Int)] w (rt fun v w' => ∃ b h', v = .bool b ∧ Hp nn h' ∧ (∀ x, Mem nn h' x ↔ Mem nn h x) ∧ (∀ k, nn ≤ k → h' k = h k) ∧ Hs W (hpL tb la lc m n h' last ++ L) w') := by
  refine F40_ok ?_
  unfold F40
  simp only [rdI_mk]
  refine ⟨nn + 1, c40_2 hnn hn (fun w' h' i a b c d => ?_) nn i h w _ (by omega) hi hd (fun _ => Iff.rfl) (fun _ _ => rfl) hs (by omega)⟩
  intro _g
  simp only [rdI_mk]
  exact ⟨_, h', rfl, a, b, c, d⟩
/-- a heap is left as it is -/
theorem c40_still (hnn : nn ≤ n) (hn : n ≤ 1000000) (hi : i < 1000000) (hd : Hp nn h) (hs : Hs W (hpL tb la lc m n h last ++ L) w) :
    Calls Try.prog 40 #[hI tb, .int .i64 (i : Int), .int .i64 (nn : Int)] w (rt fun v w' => ∃ b, v = .bool b ∧ Hs W (hpL tb la lc m n h last ++ L) w') := by
  refine F40_ok ?_
  unfold F40
  simp only [rdI_mk]
  refine ⟨1, ?_⟩
  show F40_2B _ _ _ _ _ _ _
  unfold F40_2B
  simp only [rdI_mk]
  have e1 : IntKind.wrap .i64 ((IntKind.wrap .i64 (2 * (i : Int))) + 1) = ((2 * i + 1 : Nat) : Int) := by rw [wrap_i64 (n := 2 * (i : Int)) (by omega) (by omega), wrap_i64 (by omega) (by omega)]; omega
  rw [e1, br_dec]
  have fin : ∀ w', Hs W (hpL tb la lc m n h last ++ L) w' → ∃ b, Value.bool (decide ((i : Int) > (i : Int))) = .bool b ∧ Hs W (hpL tb la lc m n h last ++ L) w' := fun w' h' => ⟨_, rfl, h'⟩
  refine ⟨fun _ _ => ?_, fun hlt => ?_⟩
  · exact fin w hs
  rw [br_dec]
  refine ⟨fun h => by exfalso; omega, fun _ => ?_⟩
  refine c40_1 hnn hn (HpDn.of hd) (by omega) hs (fun w1 a b => ?_) fun w1 j hij hj hp hl a b => ?_
  · intro _g
    simp only [rdI_mk]
    exact fun _ => fin w1 b
  · exfalso
    have := hd j (by omega) hj
    rw [hp] at this
    exact this hl
end
end Go.Proofs.Ytdagfdejjfobhaa
