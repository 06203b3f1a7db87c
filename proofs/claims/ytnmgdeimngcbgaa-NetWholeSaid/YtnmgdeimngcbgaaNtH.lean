/- Own text: part of the shallow reading of the code and of the contracts that are proved over it. -/
import Derived.Test.YtnmgdeimngcbgaaNtG
namespace Go.Proofs.Ytnmgdeimngcbgaa
open Go Go.Sh
section
variable {w : World} {base : Nat} {n : Nt}
/-! a packet is taken out -/
theorem pkV_one (ps : List Pk) : ∀ u ∈ pksV ps, u.oneCell' = true := by
  intro u hu
  obtain ⟨p, _, hp⟩ := List.mem_flatMap.1 hu
  simp [pkV] at hp
  rcases hp with rfl | rfl | rfl | rfl | rfl <;> rfl
theorem c50 {a : Option Addr} {ps : List Pk} {c i : Nat} (h : Own w base 83 5 a ps.length c (pksV ps)) (hi : i < ps.length) (hm : ps.length ≤ 4096) :
    Calls Try.prog 50 #[.slice a ps.length c, .int .i64 (i : Int), .int .i64 ((i + 1 : Nat) : Int)] w (rt fun v w' => v = .slice a (ps.length - 1) c ∧ Own w' base 83 5 a (ps.length - 1) c (pksV (ps.eraseIdx i)) ∧ Fr (inB a) w w') := by
  obtain ⟨ad, rfl⟩ := h.rd.some (by rw [pksV_length]; omega)
  have hle := h.le
  refine F50_ok ?_
  unfold F50
  simp only [rdC_mk, rdI_mk]
  refine slice3 E67 (m := ps.length) (by omega) (by omega) hle ?_
  have e0 : ((i : Int) == ((i + 1 : Nat) : Int)) = false := by rw [beq_eq_false_iff_ne]; omega
  rw [e0, br_false]
  unfold drw
  have f0 : Same w w.drew := (Fr.refl w).drew
  have h0 := h.fr f0 fun _ _ x => x
  refine slS_hi (by omega) (slS_lo (by omega) ?_)
  obtain ⟨b, hb, hrd⟩ := h0.tail (j := i + 1) (by omega)
  rw [hb]
  have hcut := h0.cut (n := i) (by omega)
  rw [pksV_take] at hcut
  rw [pksV_drop] at hrd
  obtain ⟨w1, hr1, o1, f1⟩ := append_room_own (ty := 67) (d := c - (i + 1)) E67 hcut (m := ps.length - (i + 1)) (by rw [pksV_length, List.length_drop]) hrd (pkV_one _) (by omega)
  refine ⟨_, _, _, _, hr1, ?_⟩
  have el : i + (ps.length - (i + 1)) = ps.length - 1 := by omega
  rw [el] at o1 ⊢
  refine slS_lh (by omega) hle ?_
  have hc : (if c = ps.length - 1 then some ad else (some ad).map (·.add ((ps.length - 1) * 5))) = some (ad.add ((ps.length - 1) * 5)) := by rw [if_neg (by omega)]; rfl
  rw [hc]
  have e1 : ps.length - (ps.length - 1) = 1 := by omega
  rw [e1]
  obtain ⟨w2, hr2, o2, f2⟩ := clear_own (ty := 0) (m := 1) (d := c - (ps.length - 1)) E67 (by simp [Value.cells, Value.oneCell']) o1 (by omega)
  refine ⟨w2, hr2, rfl, ?_, ?_⟩
  · rw [List.eraseIdx_eq_take_drop_succ, pksV_append]
    exact o2
  · exact ((f0.mono (S' := inB (some ad)) fun _ _ x => x.elim).trans f1 fun _ _ x => x).trans f2 fun _ _ x => x
end
end Go.Proofs.Ytnmgdeimngcbgaa
