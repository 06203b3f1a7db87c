/- Own text: part of the shallow reading of the code and of the contracts that are proved over it. -/
import Derived.Test.YtccffjlahpfdaaaDoorIbP
namespace Go.Proofs.YtccffjlahpfdaaaDoor
open Go Go.Sh Go.Sp
section
variable {W w : World} {L : List HP} {bb rr : Nat} {D : BD} {R : RD} {x : BX}
/-! what is fixed stays so -/
theorem sd_step {cum t r : Int} (h0 : 0 ≤ cum) (h1 : cum < 4294967296) (t0 : 0 ≤ t) (t1 : t < 4294967296) (hr : 0 ≤ r) (hs : -2147483648 ≤ sd cum t - r) : sd ((cum + r) % 4294967296) t = sd cum t - r := by
  unfold sd at *
  split at hs <;> split <;> omega
def Kp (t : Int) (k : Nat) (x : BX) : Prop := t ∈ x.fx ∨ (-(65535 * (k : Int)) ≤ sd x.cum t ∧ sd x.cum t ≤ 0)
theorem Kp.mono {t : Int} {k m : Nat} (h : Kp t k x) (hm : k ≤ m) : Kp t m x := h.imp id fun ⟨a, b⟩ => ⟨by omega, b⟩
theorem kp_come {t y : Int} {k : Nat} (hk : k ≤ 20000) (ho : OkX x) (hr : RngX x) (t0 : 0 ≤ t) (t1 : t < 4294967296) (h : Kp t k x) : Kp t (k + 1) (x.come y) := by
  unfold BX.come
  split
  · exact h.mono (by omega)
  · have hle := runR_le (cum := x.cum) (t := y) hr.rise hr.rng
    have hc := addC_run (t := y) (S := x.S) hr.c0 hr.c1
    rcases h with h | ⟨h2, h3⟩
    · obtain ⟨d, hd, e⟩ := mem_nums.1 (ho.sub t h)
      have hdr := hr.rng d hd
      have hsd : sd (addC x.cum x.S y) t = (d : Int) - (runR x.cum x.S y) := by rw [hc, e]; exact sd_off (by omega) (by omega) (by omega) (by omega)
      by_cases hp : sd (addC x.cum x.S y) t > 0
      · exact .inl (List.mem_filter.2 ⟨h, by simpa using hp⟩)
      · exact .inr ⟨by show _ ≤ sd (addC x.cum x.S y) t; omega, by show sd (addC x.cum x.S y) t ≤ 0; omega⟩
    · have hsd : sd (addC x.cum x.S y) t = sd x.cum t - (runR x.cum x.S y) := by rw [hc]; exact sd_step hr.c0 hr.c1 t0 t1 (by omega) (by omega)
      exact .inr ⟨by show _ ≤ sd (addC x.cum x.S y) t; omega, by show sd (addC x.cum x.S y) t ≤ 0; omega⟩
theorem fold_keep {nu : List Int} {t : Int} : ∀ (l fx : List Int), t ∈ fx → t ∈ l.foldl (fixStep nu) fx
  | [], _, h => h
  | y :: l, fx, h => by
    rw [List.foldl_cons]
    refine fold_keep l _ ?_
    unfold fixStep
    split
    · exact List.mem_append.2 (.inl h)
    · exact h
theorem kp_act {t : Int} {k : Nat} (hk : k ≤ 20000) (ho : OkX x) (hr : RngX x) (t0 : 0 ≤ t) (t1 : t < 4294967296) (h : Kp t k x) (o : OB) : Kp t (k + 1) (x.act o) := by
  have h' : Kp t (k + 1) x := h.mono (by omega)
  unfold BX.act
  split
  · exact kp_come hk ho hr t0 t1 h
  · split
    · exact h'
    · split
      · exact h'.imp (fold_keep _ _) id
      · split
        · split
          · exact h'
          · exact h'
        · split
          · split
            · exact h'
            · exact h'
          · exact h'
theorem nr_act (o : OB) : (x.act o).nr = x.nr := by
  unfold BX.act
  split
  · unfold BX.come; split <;> rfl
  · split
    · rfl
    · split
      · rfl
      · split
        · split <;> rfl
        · split
          · split <;> rfl
          · rfl
theorem nr_run : ∀ (qs : List OpB) (x : BX), (runX x qs).nr = x.nr
  | [], _ => rfl
  | q :: qs, x => (nr_run qs (x.act q.o)).trans (nr_act q.o)
/-- one number that came, and is fixed -/
theorem held_fix (hr : RngX x) {at_ : Int} (a0 : 0 ≤ at_) (a1 : at_ ≤ 65535) (hs : sd (x.come ((x.cum + at_) % 4294967296)).cum ((x.cum + at_) % 4294967296) > 0) : (x.cum + at_) % 4294967296 ∈ ((x.come ((x.cum + at_) % 4294967296)).fix [(x.cum + at_) % 4294967296]).fx := by
  have h0 := hr.c0
  have h1 := hr.c1
  have hsd : sd x.cum ((x.cum + at_) % 4294967296) = at_ := by unfold sd; split <;> omega
  obtain ⟨t, ht⟩ : ∃ t, t = (x.cum + at_) % 4294967296 := ⟨_, rfl⟩
  rw [← ht] at hs hsd ⊢
  have he : (addR x.cum x.S t).2 = 0 := by unfold addR; rw [hsd]; split <;> (try split) <;> (try split) <;> first | rfl | omega
  have hcum : (x.come t).cum = addC x.cum x.S t := by unfold BX.come; rw [if_neg (by rw [he]; simp)]
  have hS : (x.come t).S = addS x.cum x.S t := by unfold BX.come; rw [if_neg (by rw [he]; simp)]
  have hle := runR_le (cum := x.cum) (t := t) hr.rise hr.rng
  have hrun := (runS_spec hr.rise fun d hd => (hr.rng d hd).1).1
  have h2 : 2 ≤ at_ := by
    rw [hcum, addC_run h0 h1, sd_step h0 h1 (by omega) (by omega) (by omega) (by omega), hsd] at hs
    unfold runR at hs
    rw [hsd] at hs
    split at hs <;> omega
  have hin : t ∈ nums (x.come t).cum (x.come t).S := by
    rw [hcum, hS, mem_nums]
    refine ⟨at_.toNat, ?_, ?_⟩
    · unfold addS
      rw [hsd, if_neg (by omega), if_pos (by omega)]
      exact mem_ins.2 (.inl rfl)
    · unfold addC; rw [hsd, if_neg (by omega), ht]; omega
  show t ∈ [t].foldl (fixStep (nums (x.come t).cum (x.come t).S)) (x.come t).fx
  rw [List.foldl_cons, List.foldl_nil]
  unfold fixStep
  split
  · simp
  · rename_i hc
    rcases Classical.em (t ∈ (x.come t).fx) with h | h
    · exact h
    · exact absurd ⟨h, hin⟩ hc
end
end Go.Proofs.YtccffjlahpfdaaaDoor
