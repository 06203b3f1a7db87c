/- Own text: part of the shallow reading of the code and of the contracts that are proved over it. -/
import Derived.Test.YtnmgdeimngcbgaaNtL
namespace Go.Proofs.Ytnmgdeimngcbgaa
open Go Go.Sh
section
variable {w : World} {base : Nat} {n : Nt} {d : La}
/-- the paths' state turns -/
theorem step_down (h : NtR w base n) {j : Nat} {b : Bool} {w' : World} (ho : Own w' base 4 1 n.da n.down.length n.dc ((n.down.map Value.bool).set j (.bool b))) (hf : Fr (inB n.da) w w') : Step base n { n with down := n.down.set j b } w w' := by
  have hsep := h.sep
  unfold Nt.foot at hsep
  rw [List.nodup_cons, List.nodup_append, List.nodup_append] at hsep
  obtain ⟨s1, s2, ⟨s3, s4, s5⟩, s6⟩ := hsep
  simp only [List.mem_append, not_or] at s1
  have k1 : ¬ inB n.da n.b := fun x => s1.2.1 (mem_blk.2 x)
  have k2 : ∀ x, inB n.la x → ¬ inB n.da x := fun x hx hy => s6 x (mem_blk.2 hx) x (by simp [mem_blk.2 hy]) rfl
  have k3 : ∀ e ∈ n.lanes, ∀ x ∈ e.foot, ¬ inB n.da x := fun e he x hx hy => s5 x (mem_blk.2 hy) x (List.mem_flatMap.2 ⟨e, he, hx⟩) rfl
  have hl : (n.down.set j b).length = n.down.length := List.length_set
  refine ⟨⟨?_, ?_, ?_, fun e he => (h.lanes e he).fr hf (k3 e he), h.sep, h.low, ?_, ?_⟩, rfl, hf.mono fun i _ x => ?_, fun x hx => .inl hx⟩
  · show w'.heap[n.b]? = some (.cells #[.slice n.la (n.down.set j b).length n.lc, .slice n.da (n.down.set j b).length n.dc, .int .i64 n.next] 57 (0, 0))
    rw [hl]; exact hf.blk h.cell k1
  · show Own w' base 70 2 n.la (n.down.set j b).length n.lc (ptrV n.lanes)
    rw [hl]; exact h.lrow.fr hf k2
  · show Own w' base 4 1 n.da (n.down.set j b).length n.dc ((n.down.set j b).map Value.bool)
    rw [hl, List.map_set]; exact ho
  · show n.lanes.length = (n.down.set j b).length * 2
    rw [hl]; exact h.len
  · show 1 ≤ (n.down.set j b).length ∧ (n.down.set j b).length ≤ 8
    rw [hl]; exact h.few
  · unfold Nt.foot; simp [mem_blk.2 x]
def NT.loseAll (n : NT) (p : Int) : NT := (n.upd (idx 0 p) LN.lose).upd (idx 1 p) LN.lose
def NT.turn (n : NT) (p : Int) (b : Bool) : NT := if b then ({ n with down := n.down.set p.toNat true }).loseAll p else { n with down := n.down.set p.toNat false }
theorem partV_ptr (p1 p2 : Option Addr) : partV Try.prog 66 #[.pointer p1, .pointer p2] (Int.toNat 0 * 1) = some (.pointer p1) ∧ partV Try.prog 66 #[.pointer p1, .pointer p2] (Int.toNat 1 * 1) = some (.pointer p2) := ⟨by kernel_rfl, by kernel_rfl⟩
theorem idx_len (h : NtR w base n) {p : Int} (h3 : 0 ≤ p) (h4 : p < (n.down.length : Int)) : (∃ d, n.lanes[idx 0 p]? = some d) ∧ (∃ d, n.lanes[idx 1 p]? = some d) := by
  have := h.len
  unfold idx
  exact ⟨⟨n.lanes[(p * 2 + 0).toNat]'(by omega), by simp⟩, ⟨n.lanes[(p * 2 + 1).toNat]'(by omega), by simp⟩⟩
theorem c44 (h : NtR w base n) (p : Int) (b : Bool) : Calls Try.prog 44 #[.pointer (some ⟨n.b, 0, none⟩), .int .i64 p, .bool b] w
    (rt fun v w' => v = .int .i64 (n.abs.err 0 p) ∧ ∃ n', Step base n n' w w' ∧ n'.abs = if n.abs.err 0 p = 0 then n.abs.turn p b else n.abs) := by
  refine F44_ok ?_
  unfold F44
  simp only [rdP_mk, rdI_mk, rdB_mk]
  by_cases ho : okAt n 0 p
  · obtain ⟨d, hd⟩ := lane_at h ho
    have herr : n.abs.err 0 p = 0 := by unfold NT.err; rw [if_pos (show n.abs.has 0 p from ho)]
    refine clr (c33_ok h ho hd) ⟨_, _, rfl, ?_⟩
    obtain ⟨_, _, h3, h4⟩ := ho
    have e0 : ((0 : Int) != 0) = false := rfl
    rw [e0, br_false, herr, if_pos rfl]
    simp only [nn_some, add_mk]
    refine ldC_at h.cell rfl ?_
    obtain ⟨ad, hda⟩ := h.drow.rd.some (by simp; omega)
    have hdrow := h.drow
    rw [hda] at hdrow ⊢
    refine ixS_of h3 h4 ?_
    rw [Nat.mul_one]
    refine hdrow.put (by simp; omega) fun w1 o1 f1 => ?_
    rw [← hda] at o1 f1
    have S1 : Step base n { n with down := n.down.set p.toNat b } w w1 := step_down h o1 f1
    cases b with
    | false =>
      simp only [br_false]
      exact ⟨trivial, _, S1, rfl⟩
    | true =>
      simp only [br_true]
      have h1 := S1.net
      have hl1 : (n.down.set p.toNat true).length = n.down.length := List.length_set
      refine ldC_at h1.cell rfl ?_
      obtain ⟨⟨d0, k0⟩, ⟨d1, k1⟩⟩ := idx_len h1 h3 (by show p < ((n.down.set p.toNat true).length : Int); rw [hl1]; exact h4)
      obtain ⟨la, hla⟩ := h1.lrow.rd.some (by have := h.len; simp [ptrV]; omega)
      have hla' : n.la = some la := hla
      have hrow := h1.lrow.rd
      rw [hla] at hrow
      rw [hla']
      refine ixS_of h3 (by show p < ((n.down.set p.toNat true).length : Int); rw [hl1]; exact h4) ?_
      have i0 : p.toNat * 2 + 0 = idx 0 p := by unfold idx; omega
      have i1 : p.toNat * 2 + 1 = idx 1 p := by unfold idx; omega
      simp only [add_add]
      rw [i0, i1]
      refine ldP_c (hrow.at (ptrV_at k0)) (ldP_c (hrow.at (ptrV_at k1)) ⟨3, ?_⟩)
      show F44_1B _ _ _ _ _
      unfold F44_1B
      refine ⟨_, _, rfl, ?_⟩
      simp only [rdI_mk, br_dec]
      refine ⟨fun _ => ⟨⟨Int.le_refl _, by decide⟩, _, (partV_ptr _ _).1, ?_⟩, fun x => absurd (by decide) x⟩
      refine cl (c51 h1 k0) ?_
      rintro _ w2 ⟨rfl, d0', S2, a0, b0⟩
      refine ⟨rfl, ?_⟩
      have e1 : IntKind.wrap .i64 ((0 : Int) + 1) = 1 := by decide
      rw [e1]
      have hne : idx 0 p ≠ idx 1 p := by unfold idx; omega
      have k1' : (({ n with down := n.down.set p.toNat true, lanes := n.lanes.set (idx 0 p) d0' } : Nt).lanes)[idx 1 p]? = some d1 := by
        show (n.lanes.set (idx 0 p) d0')[idx 1 p]? = some d1
        rw [List.getElem?_set_ne hne]; exact k1
      show F44_1B _ _ _ _ _
      unfold F44_1B
      refine ⟨_, _, rfl, ?_⟩
      simp only [rdI_mk, br_dec]
      refine ⟨fun _ => ⟨⟨by decide, by decide⟩, _, (partV_ptr _ _).2, ?_⟩, fun x => absurd (by decide) x⟩
      refine cl (c51 S2.net k1') ?_
      rintro _ w3 ⟨rfl, d1', S3, a1, b1⟩
      refine ⟨rfl, ?_⟩
      have e2 : IntKind.wrap .i64 ((1 : Int) + 1) = 2 := by decide
      rw [e2]
      show F44_1B _ _ _ _ _
      unfold F44_1B
      refine ⟨_, _, rfl, ?_⟩
      simp only [rdI_mk, br_dec]
      refine ⟨fun x => absurd x (by decide), fun _ _g => ⟨trivial, _, (S1.trans S2).trans S3, ?_⟩⟩
      unfold NT.turn NT.loseAll NT.upd
      have q0 : ({ n.abs with down := n.abs.down.set p.toNat true } : NT).lanes[idx 0 p]? = some d0.abs := abs_lane (n := n) k0
      rw [if_pos rfl]
      simp only [q0]
      have q1 : (n.abs.lanes.set (idx 0 p) d0.abs.lose)[idx 1 p]? = some d1.abs := by rw [List.getElem?_set_ne hne]; exact abs_lane (n := n) k1
      simp only [q1]
      simp [Nt.abs, List.map_set, a0, a1]
  · have herr : n.abs.err 0 p = 90 := by unfold NT.err; rw [if_neg (show ¬ n.abs.has 0 p from ho)]
    refine clr (c33_no h ho) ⟨_, _, rfl, ?_⟩
    have e0 : ((90 : Int) != 0) = true := rfl
    rw [e0, br_true, herr, if_neg (by decide)]
    exact ⟨rfl, n, Step.same h (Fr.refl w), rfl⟩
theorem c20 (h : NtR w base n) (p : Int) : Calls Try.prog 20 #[.pointer (some ⟨n.b, 0, none⟩), .int .i64 p] w
    (rt fun v w' => v = .int .i64 (n.abs.err 0 p) ∧ ∃ n', Step base n n' w w' ∧ n'.abs = if n.abs.err 0 p = 0 then n.abs.turn p true else n.abs) := by
  refine F20_ok ?_
  unfold F20
  simp only [rdP_mk, rdI_mk]
  refine cl (c44 h p true) ?_
  rintro _ w' ⟨rfl, hx⟩
  exact ⟨_, rfl, rfl, hx⟩
theorem c21 (h : NtR w base n) (p : Int) : Calls Try.prog 21 #[.pointer (some ⟨n.b, 0, none⟩), .int .i64 p] w
    (rt fun v w' => v = .int .i64 (n.abs.err 0 p) ∧ ∃ n', Step base n n' w w' ∧ n'.abs = if n.abs.err 0 p = 0 then n.abs.turn p false else n.abs) := by
  refine F21_ok ?_
  unfold F21
  simp only [rdP_mk, rdI_mk]
  refine cl (c44 h p false) ?_
  rintro _ w' ⟨rfl, hx⟩
  exact ⟨_, rfl, rfl, hx⟩
end
end Go.Proofs.Ytnmgdeimngcbgaa
