/-
  Heaps, as functions (plain): what a swap does, going up, going down; members.
-/
import Derived.Test.YtdagfdejjfobhaaShU
namespace Go.Tm
/-- a timer: its number, its time -/
abbrev Du := Int × Int
def lt (a b : Du) : Prop := a.2 < b.2 ∨ (a.2 = b.2 ∧ a.1 < b.1)
instance (a b : Du) : Decidable (lt a b) := inferInstanceAs (Decidable (_ ∨ _))
theorem lt_asymm {a b : Du} (h : lt a b) : ¬ lt b a := by unfold lt at *; omega
theorem le_trans {a b c : Du} (h : ¬ lt b a) (g : ¬ lt c b) : ¬ lt c a := by unfold lt at *; omega
theorem lt_le {a b c : Du} (h : lt a b) (g : ¬ lt c b) : ¬ lt c a := le_trans (lt_asymm h) g
theorem lt_irrefl (a : Du) : ¬ lt a a := by unfold lt; omega
def swF (h : Nat → Du) (i j : Nat) : Nat → Du := fun k => if k = i then h j else if k = j then h i else h k
theorem sw_i {h : Nat → Du} {i j : Nat} : swF h i j i = h j := by unfold swF; rw [if_pos rfl]
theorem sw_j {h : Nat → Du} {i j : Nat} : swF h i j j = h i := by
  unfold swF
  by_cases e : j = i
  · rw [if_pos e, e]
  · rw [if_neg e, if_pos rfl]
theorem sw_o {h : Nat → Du} {i j k : Nat} (h1 : k ≠ i) (h2 : k ≠ j) : swF h i j k = h k := by unfold swF; rw [if_neg h1, if_neg h2]
def Mem (n : Nat) (h : Nat → Du) (x : Du) : Prop := ∃ k, k < n ∧ h k = x
theorem mem_sw {n i j : Nat} {h : Nat → Du} (hi : i < n) (hj : j < n) (x : Du) : Mem n (swF h i j) x ↔ Mem n h x := by
  constructor
  · rintro ⟨k, hk, rfl⟩
    by_cases h1 : k = i
    · subst h1; exact ⟨j, hj, sw_i.symm⟩
    · by_cases h2 : k = j
      · subst h2; exact ⟨i, hi, sw_j.symm⟩
      · exact ⟨k, hk, (sw_o h1 h2).symm⟩
  · rintro ⟨k, hk, rfl⟩
    by_cases h1 : k = i
    · subst h1; exact ⟨j, hj, sw_j⟩
    · by_cases h2 : k = j
      · subst h2; exact ⟨i, hi, sw_i⟩
      · exact ⟨k, hk, sw_o h1 h2⟩
/-- a heap -/
def Hp (n : Nat) (h : Nat → Du) : Prop := ∀ k, 0 < k → k < n → ¬ lt (h k) (h ((k - 1) / 2))
theorem Hp.top {n : Nat} {h : Nat → Du} (hh : Hp n h) : ∀ k, k < n → ¬ lt (h k) (h 0) := by
  intro k
  induction k using Nat.strongRecOn with
  | ind k ih =>
    intro hk
    by_cases h0 : k = 0
    · subst h0; exact lt_irrefl _
    · have h1 := hh k (by omega) hk
      have h2 := ih ((k - 1) / 2) (by omega) (by omega)
      exact le_trans h2 h1
theorem Hp.less {n m : Nat} {h : Nat → Du} (hh : Hp n h) (hm : m ≤ n) : Hp m h := fun k h0 hk => hh k h0 (by omega)
theorem Hp.congr {n : Nat} {h g : Nat → Du} (hh : Hp n h) (he : ∀ k, k < n → g k = h k) : Hp n g := fun k h0 hk => by
  rw [he k hk, he ((k - 1) / 2) (by omega)]; exact hh k h0 hk
/-- a heap but for the way up from j -/
def HpUp (n : Nat) (h : Nat → Du) (j : Nat) : Prop :=
  (∀ k, 0 < k → k < n → k ≠ j → ¬ lt (h k) (h ((k - 1) / 2))) ∧ (∀ k, 0 < k → k < n → (k - 1) / 2 = j → 0 < j → ¬ lt (h k) (h ((j - 1) / 2)))
theorem HpUp.start {n : Nat} {h : Nat → Du} (hh : Hp n h) : HpUp (n + 1) h n :=
  ⟨fun k h0 hk hn => hh k h0 (by omega), fun k h0 hk hp _ => by exfalso; omega⟩
theorem HpUp.step {n j : Nat} {h : Nat → Du} (hh : HpUp n h j) (hj : 0 < j) (hn : j < n) (hl : lt (h j) (h ((j - 1) / 2))) : HpUp n (swF h ((j - 1) / 2) j) ((j - 1) / 2) := by
  obtain ⟨a, b⟩ := hh
  obtain ⟨i, hi⟩ : ∃ i, i = (j - 1) / 2 := ⟨_, rfl⟩
  rw [← hi] at hl b ⊢
  have hij : i < j := by omega
  refine ⟨fun k h0 hk hki => ?_, fun k h0 hk hp hi0 => ?_⟩
  · by_cases hkj : k = j
    · subst hkj
      rw [← hi, sw_i, sw_j]
      exact lt_asymm hl
    · rw [sw_o hki hkj]
      have hk1 := a k h0 hk hkj
      by_cases hpi : (k - 1) / 2 = i
      · rw [hpi, sw_i]
        rw [hpi] at hk1
        exact lt_le hl hk1
      · by_cases hpj : (k - 1) / 2 = j
        · rw [hpj, sw_j]
          exact b k h0 hk hpj hj
        · rw [sw_o hpi hpj]; exact hk1
  · have hpi : swF h i j ((i - 1) / 2) = h ((i - 1) / 2) := sw_o (by omega) (by omega)
    rw [hpi]
    have hi1 := a i hi0 (by omega) (by omega)
    by_cases hkj : k = j
    · subst hkj
      rw [sw_j]
      exact hi1
    · rw [sw_o (by omega) hkj]
      have hk1 := a k h0 hk hkj
      rw [hp] at hk1
      exact le_trans hi1 hk1
theorem HpUp.stop {n j : Nat} {h : Nat → Du} (hh : HpUp n h j) (hl : j = 0 ∨ ¬ lt (h j) (h ((j - 1) / 2))) : Hp n h := fun k h0 hk => by
  by_cases hkj : k = j
  · subst hkj
    rcases hl with hl | hl
    · omega
    · exact hl
  · exact hh.1 k h0 hk hkj
/-- a heap but for the way down from i -/
def HpDn (n : Nat) (h : Nat → Du) (i : Nat) : Prop :=
  (∀ k, 0 < k → k < n → (k - 1) / 2 ≠ i → ¬ lt (h k) (h ((k - 1) / 2))) ∧ (∀ k, 0 < k → k < n → (k - 1) / 2 = i → 0 < i → ¬ lt (h k) (h ((i - 1) / 2)))
theorem HpDn.start {n : Nat} {h : Nat → Du} (hh : Hp (n + 1) h) : HpDn n (swF h 0 n) 0 :=
  ⟨fun k h0 hk hp => by
    rw [sw_o (by omega) (by omega), sw_o (by omega) (by omega)]
    exact hh k h0 (by omega), fun k h0 hk hp hi => by omega⟩
theorem HpDn.of {n i : Nat} {h : Nat → Du} (hh : Hp n h) : HpDn n h i :=
  ⟨fun k h0 hk _ => hh k h0 hk, fun k h0 hk hp hi => by
    have h1 := hh k h0 hk
    rw [hp] at h1
    exact le_trans (hh i hi (by omega)) h1⟩
/-- the smaller child -/
def Ch (n : Nat) (h : Nat → Du) (i j : Nat) : Prop := (j = 2 * i + 1 ∨ j = 2 * i + 2) ∧ j < n ∧ ∀ k, k < n → (k = 2 * i + 1 ∨ k = 2 * i + 2) → ¬ lt (h k) (h j)
theorem HpDn.step {n i j : Nat} {h : Nat → Du} (hh : HpDn n h i) (hc : Ch n h i j) (hl : lt (h j) (h i)) : HpDn n (swF h i j) j := by
  obtain ⟨a, b⟩ := hh
  obtain ⟨c1, c2, c3⟩ := hc
  have hij : i < j := by omega
  have hpj : (j - 1) / 2 = i := by omega
  refine ⟨fun k h0 hk hp => ?_, fun k h0 hk hp hj0 => ?_⟩
  · by_cases hki : k = i
    · subst hki
      rw [sw_i, sw_o (by omega) (by omega)]
      exact b j (by omega) c2 hpj h0
    · by_cases hkj : k = j
      · subst hkj
        rw [hpj, sw_i, sw_j]
        exact lt_asymm hl
      · rw [sw_o hki hkj]
        by_cases hpi : (k - 1) / 2 = i
        · rw [hpi, sw_i]
          exact c3 k hk (by omega)
        · rw [sw_o hpi hp]
          exact a k h0 hk hpi
  · rw [hpj, sw_i, sw_o (by omega) (by omega)]
    have := a k h0 hk (by omega)
    rw [hp] at this
    exact this
theorem HpDn.stop {n i : Nat} {h : Nat → Du} (hh : HpDn n h i) (hl : n ≤ 2 * i + 1 ∨ ∃ j, Ch n h i j ∧ ¬ lt (h j) (h i)) : Hp n h := fun k h0 hk => by
  by_cases hp : (k - 1) / 2 = i
  · rcases hl with hl | ⟨j, ⟨c1, c2, c3⟩, hl⟩
    · omega
    · rw [hp]
      exact le_trans hl (c3 k hk (by omega))
  · exact hh.1 k h0 hk hp
/-- what is left behind the top -/
theorem mem_pop {n : Nat} {h : Nat → Du} {x : Du} (hx : Mem (n + 1) h x) (hne : x ≠ h 0) : Mem n (swF h 0 n) x := by
  obtain ⟨k, hk, rfl⟩ := hx
  have h0 : k ≠ 0 := fun e => hne (by rw [e])
  by_cases hkn : k = n
  · subst hkn
    exact ⟨0, by omega, sw_i⟩
  · exact ⟨k, by omega, sw_o h0 hkn⟩
theorem pop_mem {n : Nat} {h : Nat → Du} {x : Du} (hx : Mem n (swF h 0 n) x) : Mem (n + 1) h x := by
  obtain ⟨k, hk, rfl⟩ := hx
  exact (mem_sw (by omega) (by omega) _).1 ⟨k, by omega, rfl⟩
end Go.Tm
