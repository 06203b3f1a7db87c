/- Own text: part of the shallow reading of the code and of the contracts that are proved over it. -/
import Derived.Test.YtjcigidbnpmeaaaDoorSpK
namespace Go.Proofs.YtjcigidbnpmeaaaDoor
open Go Go.Sh Go.Sp

/-! filled: a set of numbers that are added one by one -/
theorem sd_off {n x k : Int} (h1 : 0 ≤ x) (h2 : x ≤ 200000) (h3 : 0 ≤ k) (h4 : k ≤ 200000) : sd ((n + k) % 4294967296) ((n + x) % 4294967296) = x - k := by
  unfold sd; omega
/-- what the set is of: the distances from n that were added -/
structure In (xs : List Int) (k : Nat) (S : List Nat) : Prop where
  kle : k ≤ 65535
  rising : S.Pairwise (· < ·)
  rng : ∀ d ∈ S, 2 ≤ d ∧ k + d ≤ 65535
  mem : ∀ x : Nat, ((1 ≤ x ∧ x ≤ k) ∨ ∃ d ∈ S, x = k + d) ↔ 1 ≤ x ∧ (x : Int) ∈ xs
theorem In.nil : In [] 0 [] := ⟨by decide, by simp, by simp, fun x => by simp; omega⟩
theorem In.uniq {xs ys : List Int} {k k' : Nat} {S S' : List Nat} (h : In xs k S) (h' : In ys k' S') (he : ∀ x, x ∈ xs ↔ x ∈ ys) : k = k' ∧ S = S' := by
  have key : ∀ {xs ys : List Int} {k k' : Nat} {S S' : List Nat}, In xs k S → In ys k' S' → (∀ x, x ∈ xs ↔ x ∈ ys) → k' ≤ k := by
    intro xs ys k k' S S' h h' he
    rcases Nat.lt_or_ge k k' with hlt | hge
    · exfalso
      have h1 := (h'.mem (k + 1)).1 (.inl ⟨by omega, by omega⟩)
      rcases (h.mem (k + 1)).2 ⟨h1.1, (he _).2 h1.2⟩ with h2 | ⟨d, hd, h2⟩
      · omega
      · have := h.rng d hd; omega
    · exact hge
  have hk : k = k' := Nat.le_antisymm (key h' h fun x => (he x).symm) (key h h' he)
  subst hk
  refine ⟨rfl, rising_ext h.rising h'.rising fun d => ?_⟩
  have aux : ∀ {xs ys : List Int} {S S' : List Nat}, In xs k S → In ys k S' → (∀ x, x ∈ xs ↔ x ∈ ys) → d ∈ S → d ∈ S' := by
    intro xs ys S S' h h' he hd
    have h1 := (h.mem (k + d)).1 (.inr ⟨d, hd, rfl⟩)
    rcases (h'.mem (k + d)).2 ⟨h1.1, (he _).1 h1.2⟩ with h2 | ⟨e, he', h2⟩
    · have := h.rng d hd; omega
    · have : d = e := by omega
      rw [this]; exact he'
  exact ⟨aux h h' he, aux h' h fun x => (he x).symm⟩
theorem In.sdist {n x : Int} {xs : List Int} {k : Nat} {S : List Nat} (h : In xs k S) (h0 : 0 ≤ x) (h1 : x ≤ 65535) : sd ((n + (k : Int)) % 4294967296) ((n + x) % 4294967296) = x - k := sd_off h0 (by omega) (by omega) (by have := h.kle; omega)
theorem runS_spec {S : List Nat} (h : S.Pairwise (· < ·)) (hr : ∀ d ∈ S, 2 ≤ d) : 1 ≤ runS S ∧ (∀ k, 1 < k → k ≤ runS S → k ∈ S) ∧ runS S + 1 ∉ S := goRun_spec S 1 h hr
theorem In.step {n x : Int} {xs : List Int} {k : Nat} {S : List Nat} (h : In xs k S) (h0 : 0 ≤ x) (h1 : x ≤ 65535) :
    (addR ((n + (k : Int)) % 4294967296) S ((n + x) % 4294967296)).2 = 0 ∧
    ∃ k' : Nat, addC ((n + (k : Int)) % 4294967296) S ((n + x) % 4294967296) = (n + (k' : Int)) % 4294967296 ∧ In (xs ++ [x]) k' (addS ((n + (k : Int)) % 4294967296) S ((n + x) % 4294967296)) := by
  have hs := h.sdist (n := n) h0 h1
  have hk := h.kle
  refine ⟨?_, ?_⟩
  · unfold addR
    rw [hs]
    split
    · rfl
    · split
      · omega
      · split <;> rfl
  · unfold addC addS
    rw [hs]
    by_cases c1 : x - k = 1
    · rw [if_pos c1, if_pos c1]
      obtain ⟨r1, r2, r3⟩ := runS_spec h.rising fun d hd => (h.rng d hd).1
      have hle : k + runS S ≤ 65535 := by
        by_cases hc : runS S = 1
        · omega
        · exact (h.rng _ (r2 (runS S) (by omega) (Nat.le_refl _))).2
      refine ⟨k + runS S, by omega, hle, shift_rising h.rising, fun d hd => ?_, fun y => ?_⟩
      · obtain ⟨m1, m2⟩ := mem_shift.1 hd
        have := h.rng _ m2
        refine ⟨?_, by omega⟩
        rcases Nat.lt_or_ge d 2 with h2 | h2
        · exfalso
          have : d = 1 := by omega
          subst this
          exact r3 (by rwa [Nat.add_comm])
        · exact h2
      · have hm := h.mem y
        constructor
        · rintro (⟨a1, a2⟩ | ⟨d, hd, rfl⟩)
          · refine ⟨a1, ?_⟩
            by_cases b1 : y ≤ k
            · exact List.mem_append_left _ (hm.1 (.inl ⟨a1, b1⟩)).2
            · by_cases b2 : y = k + 1
              · exact List.mem_append_right _ (by simp; omega)
              · exact List.mem_append_left _ (hm.1 (.inr ⟨y - k, r2 _ (by omega) (by omega), by omega⟩)).2
          · obtain ⟨m1, m2⟩ := mem_shift.1 hd
            have := (hm.1 (.inr ⟨d + runS S, m2, by omega⟩))
            exact ⟨this.1, List.mem_append_left _ this.2⟩
        · rintro ⟨a1, a2⟩
          rcases List.mem_append.1 a2 with a2 | a2
          · rcases hm.2 ⟨a1, a2⟩ with ⟨_, b2⟩ | ⟨d, hd, rfl⟩
            · exact .inl ⟨a1, by omega⟩
            · by_cases hdr : d ≤ runS S
              · exact .inl ⟨a1, by omega⟩
              · exact .inr ⟨d - runS S, mem_shift.2 ⟨by omega, by rw [Nat.sub_add_cancel (by omega)]; exact hd⟩, by omega⟩
          · simp at a2
            exact .inl ⟨a1, by omega⟩
    · rw [if_neg c1, if_neg c1]
      refine ⟨k, rfl, ?_⟩
      by_cases c2 : 1 < x - k ∧ x - k ≤ 65535
      · rw [if_pos c2]
        obtain ⟨d, hd⟩ : ∃ d : Nat, x - k = d := ⟨(x - k).toNat, by omega⟩
        rw [hd, Int.toNat_natCast]
        refine ⟨hk, ins_rising h.rising, fun e he => ?_, fun y => ?_⟩
        · rcases mem_ins.1 he with rfl | he
          · omega
          · exact h.rng e he
        · have hm := h.mem y
          constructor
          · rintro (a | ⟨e, he, rfl⟩)
            · have := hm.1 (.inl a); exact ⟨this.1, List.mem_append_left _ this.2⟩
            · rcases mem_ins.1 he with rfl | he
              · exact ⟨by omega, List.mem_append_right _ (by simp; omega)⟩
              · have := hm.1 (.inr ⟨e, he, rfl⟩); exact ⟨this.1, List.mem_append_left _ this.2⟩
          · rintro ⟨a1, a2⟩
            rcases List.mem_append.1 a2 with a2 | a2
            · rcases hm.2 ⟨a1, a2⟩ with a | ⟨e, he, rfl⟩
              · exact .inl a
              · exact .inr ⟨e, mem_ins.2 (.inr he), rfl⟩
            · simp at a2
              exact .inr ⟨d, mem_ins.2 (.inl rfl), by omega⟩
      · rw [if_neg c2]
        refine ⟨hk, h.rising, h.rng, fun y => ?_⟩
        rw [h.mem y]
        constructor
        · rintro ⟨a1, a2⟩; exact ⟨a1, List.mem_append_left _ a2⟩
        · rintro ⟨a1, a2⟩
          rcases List.mem_append.1 a2 with a2 | a2
          · exact ⟨a1, a2⟩
          · simp at a2
            exact (h.mem y).1 (.inl ⟨a1, by omega⟩)
section
variable {n : Int} {X : List Int} {a : Option Addr} {cc : Nat}
/-- a set that was filled -/
structure Filled (w0 w : World) (n : Int) (xs : List Int) (b m : Nat) (k : Nat) (S : List Nat) : Prop where
  set : SetR w b m ((n + (k : Int)) % 4294967296) S
  inn : In xs k S
  nb : w0.heap.size ≤ b
  nm : w0.heap.size ≤ m
  fr : Same w0 w
theorem c9_loop {w0 : World} {b : Nat} (ht : TB w0) (hn0 : 0 ≤ n) (hn1 : n < 4294967296) (hX : ∀ x ∈ X, 0 ≤ x ∧ x ≤ 65535) (hr : Rd w0 a (X.map (Value.int .u16))) {K0 : Value → World → Prop} {Kr : Value → Value → World → Prop} : ∀ (i j : Nat) (w : World) (m k f : Nat) (S : List Nat), j + i = min 300 X.length →
    Filled w0 w n (X.take j) b m k S → i < f → (∀ w' m' k' S', Filled w0 w' n (X.take 300) b m' k' S' → K0 (.pointer (some ⟨b, 0, none⟩)) w') →
    F9_2 K0 Kr f (.int .u32 n) (.slice a X.length cc) (.pointer (some ⟨b, 0, none⟩)) (.int .i64 (j : Int)) w := by
  intro i
  induction i with
  | zero =>
    intro j w m k f S hj hF hf hK
    obtain ⟨f, rfl⟩ : ∃ j, f = j + 1 := ⟨f - 1, by omega⟩
    have ht300 : X.take j = X.take 300 := by
      rcases Nat.lt_or_ge X.length 300 with h | h
      · rw [List.take_of_length_le (by omega), List.take_of_length_le (by omega)]
      · rw [show j = 300 by omega]
    rw [ht300] at hF
    show F9_2B _ _ _ _ _ _ _ _
    unfold F9_2B
    simp only [rdC_mk, rdI_mk, rdP_mk, br_dec]
    exact ⟨fun _ => ⟨fun h => by exfalso; omega, fun _ => hK w m k S hF⟩, fun _ => hK w m k S hF⟩
  | succ i ih =>
    intro j w m k f S hj hF hf hK
    obtain ⟨f, rfl⟩ : ∃ j, f = j + 1 := ⟨f - 1, by omega⟩
    show F9_2B _ _ _ _ _ _ _ _
    unfold F9_2B
    simp only [rdC_mk, rdI_mk, rdP_mk, br_dec]
    refine ⟨fun _ => ⟨fun _ => ?_, fun h => by exfalso; omega⟩, fun h => by exfalso; omega⟩
    unfold F9_1
    simp only [rdC_mk, rdI_mk, rdP_mk]
    obtain ⟨x, hx⟩ : ∃ x, X[j]? = some x := ⟨X[j]'(by omega), by simp⟩
    have hxr := hX x (List.mem_of_getElem? hx)
    have g : (X.map (Value.int .u16))[j]? = some (.int .u16 x) := by simp [hx]
    have hr' := Rd.same hr hF.fr
    obtain ⟨ad, rfl⟩ := hr'.some (by simp; omega)
    refine ixS_of (by omega) (by omega) ?_
    simp only [Int.toNat_natCast, Nat.mul_one]
    refine ldI_c (hr'.at g) ?_
    rw [wrap_u32 (n := x) (by omega) (by omega)]
    refine clr (c25 n x w hn0 hn1 (by omega) (by omega)) ⟨_, rfl, ?_⟩
    refine cl (c26 (ht.fr hF.fr fun x => x) hF.set _) ?_
    rintro _ w' ⟨rfl, m', hm', s', f'⟩
    obtain ⟨q1, k', q2, q3⟩ := hF.inn.step (n := n) hxr.1 hxr.2
    refine ⟨_, _, rfl, ?_⟩
    rw [q1]
    have : ((0 : Int) != 0) = false := rfl
    rw [this, br_false]
    intro _g
    have e1 : IntKind.wrap .i64 ((j : Int) + 1) = ((j + 1 : Nat) : Int) := by rw [wrap_i64 (by omega) (by omega)]; omega
    rw [e1]
    rw [q2] at s'
    refine ih (j + 1) w' m' k' f _ (by omega) ⟨s', ?_, hF.nb, SetR.bm hF.nb hF.nm hm' hF.fr.size, same_bm hF.fr f' hF.nb hF.nm⟩ (by omega) hK
    rw [List.take_add_one, hx]
    exact q3
theorem c9 {w : World} (ht : TB w) (hn0 : 0 ≤ n) (hn1 : n < 4294967296) (hX : ∀ x ∈ X, 0 ≤ x ∧ x ≤ 65535) (hr : Rd w a (X.map (Value.int .u16))) :
    Calls Tryd.prog 9 #[.int .u32 n, .slice a X.length cc] w (rt fun v w' => ∃ b m k S, v = .tuple #[.pointer (some ⟨b, 0, none⟩), .bool true] ∧ Filled w w' n (X.take 300) b m k S) := by
  refine F9_ok ?_
  unfold F9
  simp only [rdC_mk, rdI_mk]
  refine cl (c23 hn0 hn1 w) ?_
  rintro _ w1 ⟨b, m, rfl, s1, hb, hm, f1⟩
  refine ⟨_, rfl, ?_⟩
  simp only [Option.isNone_some, br_false]
  have e0 : n = (n + ((0 : Nat) : Int)) % 4294967296 := by omega
  have hF : Filled w w1 n (X.take 0) b m 0 [] := ⟨by rw [← e0]; exact s1, In.nil, hb, hm, f1⟩
  refine ⟨min 300 X.length + 1, c9_loop (n := n) ht hn0 hn1 hX hr (min 300 X.length) 0 w1 m 0 _ [] (by omega) hF (by omega) fun w' m' k' S' h _g => ?_⟩
  simp only [rdP_mk]
  exact ⟨b, m', k', S', rfl, h⟩
end
end Go.Proofs.YtjcigidbnpmeaaaDoor
