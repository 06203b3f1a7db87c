/- Own text: part of the shallow reading of the code and of the contracts that are proved over it. -/
import Derived.Test.YtilenpnpnbdndaaGreatDoorShG
/-
  A region that draws its order, by what holds behind each set of its operations.
-/
namespace Go.Sh
open Go
section
variable [Esc] {P : Program} {all : List Oper} {w0 : World} {ms : List It} {D : List (Nat × Nat × Bool)} {K : Tm → World → Prop}
theorem stepAt_mono {i : Nat} {t : Tm} {w : World} {R R' : Tm → World → Prop} (h : ∀ t w, R t w → R' t w) (x : stepAt P all w0 ms i t w R) : stepAt P all w0 ms i t w R' := by
  unfold stepAt at x ⊢
  split at x
  · exact x.elim
  · rename_i m hm
    obtain ⟨o, fl, pr⟩ := m
    unfold stepD at x ⊢
    simp only at x ⊢
    rw [gd_iff] at x ⊢
    split at x
    · rename_i hw
      rw [if_pos hw]
      refine vcOp_mono (fun v w' y => ?_) x
      cases pr with
      | true => exact ⟨y.1, h _ _ y.2⟩
      | false => exact h _ _ y
    · rename_i hw
      rw [if_neg hw]
      exact h _ _ x
/-- how many are left -/
def left (L : Nat) (D : List (Nat × Nat × Bool)) : Nat := (D.filter fun d => !Nat.testBit L d.1).length
omit [Esc] in
theorem testBit_or_pow (L i j : Nat) : Nat.testBit (L ||| 2 ^ i) j = (Nat.testBit L j || decide (i = j)) := by
  rw [Nat.testBit_or, Nat.testBit_two_pow]
omit [Esc] in
theorem left_step {L i : Nat} : ∀ {D : List (Nat × Nat × Bool)}, (D.map (·.1)).Nodup → (∃ d ∈ D, d.1 = i) → Nat.testBit L i = false → left L D = left (L ||| 2 ^ i) D + 1
  | [], _, h, _ => by obtain ⟨_, h, _⟩ := h; cases h
  | d :: r, hn, h, hi => by
    rw [List.map_cons, List.nodup_cons] at hn
    unfold left
    by_cases hd : d.1 = i
    · have h1 : Nat.testBit L d.1 = false := by rw [hd]; exact hi
      have h2 : Nat.testBit (L ||| 2 ^ i) d.1 = true := by rw [testBit_or_pow, hd]; simp
      rw [List.filter_cons, List.filter_cons, h1, h2]
      simp only [Bool.not_false, if_true, Bool.not_true, Bool.false_eq_true, if_false, List.length_cons]
      congr 1
      have : r.filter (fun d => !Nat.testBit L d.1) = r.filter fun d => !Nat.testBit (L ||| 2 ^ i) d.1 := by
        refine List.filter_congr fun x hx => ?_
        have : i ≠ x.1 := fun e => hn.1 (by rw [hd, e]; exact List.mem_map.2 ⟨x, hx, rfl⟩)
        rw [testBit_or_pow, decide_eq_false this, Bool.or_false]
      rw [this]
    · have h1 : Nat.testBit (L ||| 2 ^ i) d.1 = Nat.testBit L d.1 := by rw [testBit_or_pow, decide_eq_false (fun e => hd e.symm), Bool.or_false]
      have h3 : ∃ x ∈ r, x.1 = i := by
        obtain ⟨x, hx, he⟩ := h
        rcases List.mem_cons.1 hx with rfl | hx
        · exact absurd he hd
        · exact ⟨x, hx, he⟩
      have := left_step hn.2 h3 hi
      unfold left at this
      rw [List.filter_cons, List.filter_cons, h1]
      split
      · rw [List.length_cons, List.length_cons, this]
      · exact this
omit [Esc] in
/-- the least that is left may come next -/
theorem ready_some {L : Nat} (hlow : ∀ d ∈ D, ∀ j, Nat.testBit d.2.1 j = true → j < d.1 ∧ ∃ e ∈ D, e.1 = j) (h : allReady L D = []) : ∀ d ∈ D, Nat.testBit L d.1 = true := by
  have key : ∀ n, ∀ d ∈ D, d.1 = n → Nat.testBit L d.1 = true := by
    intro n
    induction n using Nat.strongRecOn with
    | _ n ih =>
      intro d hd hn
      cases hb : Nat.testBit L d.1 with
      | true => rfl
      | false =>
        exfalso
        have : d.1 ∈ allReady L D := allReady_mem.2 ⟨d, hd, rfl, by
          unfold readyB
          rw [hb]
          simp only [Bool.not_false, Bool.true_and, nbeq]
          refine Nat.eq_of_testBit_eq fun j => ?_
          rw [show Nat.land d.2.1 L = d.2.1 &&& L from rfl, Nat.testBit_and]
          cases hj : Nat.testBit d.2.1 j with
          | false => rfl
          | true =>
            obtain ⟨hlt, e, he, hej⟩ := hlow d hd j hj
            have := ih j (by omega) e he hej
            rw [hej] at this
            rw [this]; rfl⟩
        rw [h] at this
        cases this
  exact fun d hd => key _ d hd rfl
omit [Esc] in
theorem inj_of : ∀ {D : List (Nat × Nat × Bool)}, (D.map (·.1)).Nodup → ∀ {d e}, d ∈ D → e ∈ D → d.1 = e.1 → d = e
  | [], _, _, _, h, _, _ => by cases h
  | x :: r, hn, d, e, hd, he, h => by
    rw [List.map_cons, List.nodup_cons] at hn
    cases hd with
    | head => cases he with
      | head => rfl
      | tail _ he => exact (hn.1 (List.mem_map.2 ⟨e, he, h.symm⟩)).elim
    | tail _ hd => cases he with
      | head => exact (hn.1 (List.mem_map.2 ⟨d, hd, h⟩)).elim
      | tail _ he => exact inj_of hn.2 hd he h
/-- what is done, with all that comes ahead of it -/
def Dcl (D : List (Nat × Nat × Bool)) (L : Nat) : Prop := ∀ d ∈ D, Nat.testBit L d.1 = true → ∀ j, Nat.testBit d.2.1 j = true → Nat.testBit L j = true
omit [Esc] in
theorem Dcl.step {L : Nat} {d : Nat × Nat × Bool} (hnd : (D.map (·.1)).Nodup) (h : Dcl D L) (hd : d ∈ D) (hr : readyB L d = true) : Dcl D (L ||| 2 ^ d.1) := by
  intro e he hb j hj
  rw [testBit_or_pow]
  rw [testBit_or_pow] at hb
  cases hl : Nat.testBit L e.1 with
  | true => rw [h e he hl j hj]; rfl
  | false =>
    rw [hl, Bool.false_or, decide_eq_true_eq] at hb
    have hde : d = e := inj_of hnd hd he hb
    subst hde
    unfold readyB at hr
    simp only [Bool.and_eq_true, nbeq] at hr
    have h2 : Nat.testBit (Nat.land d.2.1 L) j = true := by rw [hr.2]; exact hj
    rw [show Nat.land d.2.1 L = d.2.1 &&& L from rfl, Nat.testBit_and, Bool.and_eq_true] at h2
    rw [h2.2]; rfl
def reachStep (D : List (Nat × Nat × Bool)) (S : Nat) : Nat := D.foldl (fun s d => bif Nat.testBit S d.1 then s ||| d.2.1 else s) S
def reach (D : List (Nat × Nat × Bool)) (S : Nat) : Nat → Nat
  | 0 => S
  | n + 1 => reach D (reachStep D S) n
omit [Esc] in
theorem reach_sub {L : Nat} (h : Dcl D L) : ∀ (n S : Nat), (∀ j, Nat.testBit S j = true → Nat.testBit L j = true) → ∀ j, Nat.testBit (reach D S n) j = true → Nat.testBit L j = true
  | 0, _, hS, j, hj => hS j hj
  | n + 1, S, hS, j, hj => by
    refine reach_sub h n (reachStep D S) ?_ j hj
    have key : ∀ (l : List (Nat × Nat × Bool)) (s : Nat), (∀ d ∈ l, d ∈ D) → (∀ j, Nat.testBit s j = true → Nat.testBit L j = true) → ∀ j, Nat.testBit (l.foldl (fun s d => bif Nat.testBit S d.1 then s ||| d.2.1 else s) s) j = true → Nat.testBit L j = true := by
      intro l
      induction l with
      | nil => exact fun _ _ h => h
      | cons d r ih =>
        intro s hl hs
        refine ih _ (fun x hx => hl x (by simp [hx])) fun j hj => ?_
        cases hb : Nat.testBit S d.1 with
        | false =>
          have hj : Nat.testBit (bif Nat.testBit S d.1 then s ||| d.2.1 else s) j = true := hj
          rw [hb] at hj; exact hs j hj
        | true =>
          have hj : Nat.testBit (bif Nat.testBit S d.1 then s ||| d.2.1 else s) j = true := hj
          rw [hb] at hj
          simp only [cond_true, Nat.testBit_or, Bool.or_eq_true] at hj
          rcases hj with hj | hj
          · exact hs j hj
          · exact h d (hl d (by simp)) (hS _ hb) j hj
    exact key D S (fun _ h => h) hS
/-- J holds behind each set of operations till all but the last ones are done -/
theorem vcT_inv (J : Nat → Tm → World → Prop) (fin : Nat → Bool) (hnd : (D.map (·.1)).Nodup) (hlow : ∀ d ∈ D, ∀ j, Nat.testBit d.2.1 j = true → j < d.1 ∧ ∃ e ∈ D, e.1 = j)
    (hfin : ∀ L t w, J L t w → (∀ d ∈ D, Nat.testBit L d.1 = true) → fin L = true)
    (hend : ∀ L t w, J L t w → fin L = true → vcT P all w0 ms D K (left L D) L t w)
    (hstep : ∀ L t w d, Dcl D L → J L t w → fin L = false → d ∈ D → readyB L d = true → stepAt P all w0 ms d.1 t w (J (L ||| 2 ^ d.1))) : ∀ n L t w, left L D = n → Dcl D L → J L t w → vcT P all w0 ms D K n L t w := by
  intro n
  induction n with
  | zero =>
    intro L t w hn hc hj
    have hall : ∀ d ∈ D, Nat.testBit L d.1 = true := by
      intro d hd
      cases hb : Nat.testBit L d.1 with
      | true => rfl
      | false =>
        have : d ∈ D.filter fun d => !Nat.testBit L d.1 := List.mem_filter.2 ⟨hd, by simp [hb]⟩
        have h0 : D.filter (fun d => !Nat.testBit L d.1) = [] := List.length_eq_zero_iff.1 hn
        rw [h0] at this
        cases this
    have := hend L t w hj (hfin L t w hj hall)
    rwa [hn] at this
  | succ n ih =>
    intro L t w hn hc hj
    cases hf : fin L with
    | true => have := hend L t w hj hf; rwa [hn] at this
    | false =>
      have go : ∀ d ∈ D, readyB L d = true → stepAt P all w0 ms d.1 t w (vcT P all w0 ms D K n (L ||| 2 ^ d.1)) := by
        intro d hd hr
        refine stepAt_mono (fun t' w' hj' => ih _ t' w' ?_ (hc.step hnd hd hr) hj') (hstep L t w d hc hj hf hd hr)
        have hb : Nat.testBit L d.1 = false := by
          unfold readyB at hr
          simp only [Bool.and_eq_true, Bool.not_eq_true'] at hr
          exact hr.1
        have := left_step hnd ⟨d, hd, rfl⟩ hb
        omega
      unfold vcT
      split
      · rename_i i hi
        obtain ⟨d, hd, rfl, -, hr⟩ := firstStill_spec hi
        exact go d hd hr
      · split
        · rename_i h0
          have := hfin L t w hj (ready_some hlow h0)
          rw [hf] at this
          cases this
        · rename_i l hl
          refine andAll_iff.2 fun i hi => ?_
          obtain ⟨d, hd, rfl, hr⟩ := allReady_mem.1 hi
          exact go d hd hr
end
end Go.Sh
