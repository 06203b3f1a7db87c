/- Own text: part of the shallow reading of the code and of the contracts that are proved over it. -/
import Derived.Test.YtjcigidbnpmeaaaDoorSpE
import Derived.Test.YtjcigidbnpmeaaaDoorShK
namespace Go.Proofs.YtjcigidbnpmeaaaDoor
open Go Go.Sh Go.Sp

/-! Add -/
def goRun : Nat → List Nat → Nat
  | n, [] => n
  | n, d :: r => if d = n + 1 then goRun (n + 1) r else n
theorem goRun_spec : ∀ (S : List Nat) (n : Nat), S.Pairwise (· < ·) → (∀ d ∈ S, n + 1 ≤ d) → n ≤ goRun n S ∧ (∀ k, n < k → k ≤ goRun n S → k ∈ S) ∧ goRun n S + 1 ∉ S
  | [], n, _, _ => ⟨Nat.le_refl _, fun k h h' => by unfold goRun at h'; omega, by simp⟩
  | d :: r, n, h, hd => by
    rw [List.pairwise_cons] at h
    unfold goRun
    by_cases hc : d = n + 1
    · rw [if_pos hc]
      obtain ⟨h1, h2, h3⟩ := goRun_spec r (n + 1) h.2 fun e he => by have := h.1 e he; omega
      refine ⟨by omega, fun k hk hk' => ?_, ?_⟩
      · by_cases hk2 : k = n + 1
        · rw [hk2, ← hc]; exact List.mem_cons_self
        · exact List.mem_cons_of_mem _ (h2 k (by omega) hk')
      · intro hm
        rcases List.mem_cons.1 hm with hm | hm
        · omega
        · exact h3 hm
    · rw [if_neg hc]
      refine ⟨Nat.le_refl _, fun k hk hk' => by omega, fun hm => ?_⟩
      rcases List.mem_cons.1 hm with hm | hm
      · omega
      · have := h.1 _ hm; have := hd d List.mem_cons_self; omega
def runS (S : List Nat) : Nat := goRun 1 S
def addR (cum : Int) (S : List Nat) (tsn : Int) : Bool × Int := if sd cum tsn ≤ 0 then (false, 0) else if sd cum tsn > 65535 then (false, 31) else if sd cum tsn > 1 then (!decide ((sd cum tsn).toNat ∈ S), 0) else (true, 0)
def addC (cum : Int) (S : List Nat) (tsn : Int) : Int := if sd cum tsn = 1 then (cum + runS S) % 4294967296 else cum
def addS (cum : Int) (S : List Nat) (tsn : Int) : List Nat := if sd cum tsn = 1 then shift (runS S) S else if 1 < sd cum tsn ∧ sd cum tsn ≤ 65535 then ins (sd cum tsn).toNat S else S
section
variable {w : World} {b m : Nat} {cum : Int} {S : List Nat}
theorem SetR.run (h : SetR w b m cum S) : 1 ≤ runS S ∧ (∀ k, 1 < k → k ≤ runS S → k ∈ S) ∧ runS S + 1 ∉ S ∧ runS S ≤ 65535 := by
  obtain ⟨h1, h2, h3⟩ := goRun_spec S 1 h.rising fun d hd => (h.rng d hd).1
  refine ⟨h1, h2, h3, ?_⟩
  by_cases hc : goRun 1 S = 1
  · unfold runS; omega
  · exact (h.rng _ (h2 (goRun 1 S) (by omega) (Nat.le_refl _))).2
theorem c26_loop {K : Value → Value → World → Prop} : ∀ (i n : Nat) (w : World) (k : Nat), n + i = runS S → 1 ≤ n → SetR w b m cum S → i < k →
    (∀ w', SetR w' b m cum S → Same w w' → K (.pointer (some ⟨b, 0, none⟩)) (.int .i64 (runS S : Int)) w') → F26_1 K k (.pointer (some ⟨b, 0, none⟩)) (.int .i64 (n : Int)) w := by
  intro i
  induction i with
  | zero =>
    intro n w k hn h1 h hk hK
    obtain ⟨k, rfl⟩ : ∃ j, k = j + 1 := ⟨k - 1, by omega⟩
    obtain ⟨_, _, r3, r4⟩ := h.run
    have hn' : n = runS S := by omega
    subst hn'
    show F26_1B _ _ _ _ _
    unfold F26_1B
    simp only [rdP_mk, rdI_mk, br_dec, nn_some, add_mk]
    refine ⟨fun hlt => ?_, fun _ => hK w h (Fr.refl w)⟩
    have e1 : IntKind.wrap .i64 ((runS S : Int) + 1) = ((runS S + 1 : Nat) : Int) := by rw [wrap_i64 (by omega) (by omega)]; omega
    rw [e1]
    refine clr (c47 h.fld (by omega)) ⟨_, rfl, ?_⟩
    rw [decide_eq_false r3, br_false]
    exact hK _ (h.same (Fr.refl w).drew) (Fr.refl w).drew
  | succ i ih =>
    intro n w k hn h1 h hk hK
    obtain ⟨k, rfl⟩ : ∃ j, k = j + 1 := ⟨k - 1, by omega⟩
    obtain ⟨_, r2, r3, r4⟩ := h.run
    show F26_1B _ _ _ _ _
    unfold F26_1B
    simp only [rdP_mk, rdI_mk, br_dec, nn_some, add_mk]
    refine ⟨fun hlt => ?_, fun hlt => by exfalso; omega⟩
    have e1 : IntKind.wrap .i64 ((n : Int) + 1) = ((n + 1 : Nat) : Int) := by rw [wrap_i64 (by omega) (by omega)]; omega
    rw [e1]
    refine clr (c47 h.fld (by omega)) ⟨_, rfl, ?_⟩
    rw [decide_eq_true (r2 (n + 1) (by omega) (by omega)), br_true]
    refine ih (n + 1) _ k (by omega) (by omega) (h.same (Fr.refl w).drew) (by omega) fun w' h' hf => hK w' h' ((Fr.refl w).drew.trans hf fun _ _ x => x)
theorem c26 (ht : TB w) (h : SetR w b m cum S) (tsn : Int) :
    Calls Tryd.prog 26 #[.pointer (some ⟨b, 0, none⟩), .int .u32 tsn] w (rt fun v w' => v = .tuple #[.bool (addR cum S tsn).1, .int .i64 (addR cum S tsn).2] ∧ ∃ m', (m' = m ∨ w.heap.size ≤ m') ∧ SetR w' b m' (addC cum S tsn) (addS cum S tsn) ∧ Fr (Bm b m) w w') := by
  refine F26_ok ?_
  unfold F26
  simp only [rdP_mk, rdI_mk]
  refine clr (c35 h) ⟨_, rfl, ?_⟩
  simp only [Bool.not_true, br_false, nn_some, add_mk]
  refine ldI_at h.fld.blk rfl ?_
  refine clr (c46 _ _ w) ⟨_, rfl, ?_⟩
  simp only [br_dec]
  refine ⟨fun h1 => ?_, fun h1 => ⟨fun h2 => ?_, fun h2 => ⟨fun h3 => ?_, fun h3 => ?_⟩⟩⟩
  · refine ⟨by rw [addR, if_pos h1], m, .inl rfl, ?_, Fr.refl w⟩
    rw [addC, addS, if_neg (by omega), if_neg (by omega), if_neg (by omega)]; exact h
  · refine ⟨by rw [addR, if_neg h1, if_pos h2], m, .inl rfl, ?_, Fr.refl w⟩
    rw [addC, addS, if_neg (by omega), if_neg (by omega), if_neg (by omega)]; exact h
  · obtain ⟨d, hd⟩ : ∃ d : Nat, sd cum tsn = d := ⟨(sd cum tsn).toNat, by omega⟩
    have hsd : (sd cum tsn).toNat = d := by omega
    rw [addR, addC, addS, if_neg h1, if_neg h2, if_pos h3, if_neg (by omega), if_neg (by omega), if_pos (by omega), hsd, hd]
    by_cases hm : d ∈ S
    · refine clr (c38_old h.fld (by omega) hm) ⟨_, rfl, by simp [hm], m, .inl rfl, ?_, (Fr.refl w).drew⟩
      rw [ins_same h.rising hm]
      exact h.same (Fr.refl w).drew
    · refine cl (c38_new h.fld (by omega) hm (by have := h.len; omega)) ?_
      rintro _ w' ⟨rfl, h4, h5⟩
      refine ⟨_, rfl, by simp [hm], m, .inl rfl, ⟨h4, ins_rising h.rising, fun e he => ?_, h.c0, h.c1⟩, h5⟩
      rcases mem_ins.1 he with rfl | he
      · omega
      · exact h.rng e he
  · have hd1 : sd cum tsn = 1 := by omega
    rw [addR, addC, addS, if_neg h1, if_neg h2, if_neg h3, if_pos hd1, if_pos hd1]
    obtain ⟨r1, r2, r3, r4⟩ := h.run
    refine ⟨runS S + 1, c26_loop (runS S - 1) 1 w _ (by omega) (Nat.le_refl _) h (by omega) fun w1 h1' hf _g => ?_⟩
    simp only [rdP_mk, rdI_mk]
    have ht1 : TB w1 := ht.fr hf fun x => x
    refine cl (c48 ht1 h1' r1 r4 r3) ?_
    rintro _ w2 ⟨rfl, m', hm', h4, h5⟩
    refine ⟨rfl, trivial, m', .inr (by have := hf.size; omega), h4, ?_⟩
    exact (hf.mono (S' := Bm b m) fun _ _ x => x.elim).trans h5 fun i _ x => .inl x
end
end Go.Proofs.YtjcigidbnpmeaaaDoor
