/- Own text: part of the shallow reading of the code and of the contracts that are proved over it. -/
import Derived.Test.YtnmgdeimngcbgaaNtA
namespace Go.Proofs.Ytnmgdeimngcbgaa
open Go Go.Sh

theorem ixA_of {sz n : Nat} {ad : Addr} {i : Int} {K : Addr → Prop} (h0 : 0 ≤ i) (h1 : i < (n : Int)) (hk : K (ad.add (i.toNat * sz))) : ixA sz n ad i K := ⟨⟨h0, h1⟩, hk⟩
section
variable {w : World} {base : Nat} {n : Nt}
theorem c23 (h : NtR w base n) : Calls Try.prog 23 #[.pointer (some ⟨n.b, 0, none⟩)] w (rt (KR (.int .i64 (n.down.length : Int)) w)) := by
  refine F23_ok ?_
  unfold F23
  simp only [rdP_mk, Option.isNone_some, br_false, nn_some, add_mk]
  exact ldC_at h.cell rfl (KR.mk _ _)
def okAt (n : Nt) (e p : Int) : Prop := 0 ≤ e ∧ e ≤ 1 ∧ 0 ≤ p ∧ p < (n.down.length : Int)
theorem lane_at (h : NtR w base n) {e p : Int} (ho : okAt n e p) : ∃ d, n.lanes[(p * 2 + e).toNat]? = some d := by
  obtain ⟨h1, h2, h3, h4⟩ := ho
  have := h.len
  exact ⟨n.lanes[(p * 2 + e).toNat]'(by omega), by simp⟩
theorem ptrV_at {l : List La} {k : Nat} {d : La} (h : l[k]? = some d) : (ptrV l)[k]? = some (.pointer (some ⟨d.b, 0, none⟩)) := by simp [ptrV, h]
theorem c33_ok (h : NtR w base n) {e p : Int} (ho : okAt n e p) {d : La} (hd : n.lanes[(p * 2 + e).toNat]? = some d) : Calls Try.prog 33 #[.pointer (some ⟨n.b, 0, none⟩), .int .i64 e, .int .i64 p] w (rt (KR (.tuple #[.pointer (some ⟨d.b, 0, none⟩), .int .i64 0]) w)) := by
  obtain ⟨h1, h2, h3, h4⟩ := ho
  have hl := h.len
  have hfew := h.few
  refine F33_ok ?_
  unfold F33
  simp only [rdP_mk, rdI_mk]
  refine clr (c23 h) ⟨_, rfl, ?_⟩
  have e0 : ((n.down.length : Int) == 0) = false := by rw [beq_eq_false_iff_ne]; omega
  rw [e0, br_false]
  simp only [br_dec]
  refine ⟨fun x => by exfalso; omega, fun _ => ⟨fun x => by exfalso; omega, fun _ => ⟨fun x => by exfalso; omega, fun _ => clr (c23 h) ⟨_, rfl, ⟨fun x => by exfalso; omega, fun _ => ?_⟩⟩⟩⟩⟩
  unfold F33_1
  simp only [rdP_mk, rdI_mk, nn_some, add_mk]
  refine ldC_at h.cell rfl ?_
  obtain ⟨ad, ha⟩ := h.lrow.rd.some (by simp [ptrV]; omega)
  have hr := h.lrow.rd
  rw [ha] at hr ⊢
  refine ixS_of h3 h4 (ixA_of h1 (by omega) ?_)
  rw [add_add]
  have : p.toNat * 2 + e.toNat * 1 = (p * 2 + e).toNat := by omega
  rw [this]
  refine ldP_c (hr.at (ptrV_at hd)) fun _g => ?_
  exact KR.mk _ _
theorem c33_no (h : NtR w base n) {e p : Int} (ho : ¬ okAt n e p) : Calls Try.prog 33 #[.pointer (some ⟨n.b, 0, none⟩), .int .i64 e, .int .i64 p] w (rt (KR (.tuple #[.pointer none, .int .i64 90]) w)) := by
  have hfew := h.few
  refine F33_ok ?_
  unfold F33
  simp only [rdP_mk, rdI_mk]
  refine clr (c23 h) ⟨_, rfl, ?_⟩
  have e0 : ((n.down.length : Int) == 0) = false := by rw [beq_eq_false_iff_ne]; omega
  rw [e0, br_false]
  simp only [br_dec]
  refine ⟨fun _ => KR.mk _ _, fun x1 => ⟨fun _ => KR.mk _ _, fun x2 => ⟨fun _ => KR.mk _ _, fun x3 => clr (c23 h) ⟨_, rfl, ⟨fun _ => KR.mk _ _, fun x4 => ?_⟩⟩⟩⟩⟩
  exact absurd ⟨by omega, by omega, by omega, by omega⟩ ho
/-- a copy of bytes -/
theorem run_b0 (w : World) : Sem.run Try.prog (Instr.buildSlice 23 0 #[]) w = .ok (.slice (some ⟨w.heap.size, 0, none⟩) 0 0) (w.alloc (.cells #[] 5)) := by kernel_rfl
theorem c41 {a : Option Addr} {bs : List Int} {c : Nat} (hr : Rd w a (byV bs)) (hl : bs.length ≤ 65536) : Calls Try.prog 41 #[.slice a bs.length c] w (rt fun v w' => ∃ a' c', v = .slice a' bs.length c' ∧ Own w' w.heap.size 5 1 a' bs.length c' (byV bs) ∧ Same w w') := by
  refine F41_ok ?_
  unfold F41
  simp only [rdC_mk]
  cases a with
  | none =>
    have : bs = [] := by
      cases bs with
      | nil => rfl
      | cons x r => obtain ⟨ad, e⟩ := hr.some (by simp [byV]); cases e
    subst this
    simp only [Option.isNone_none, br_true]
    exact ⟨none, 0, rfl, Own.nil _ _ _ _, Fr.refl w⟩
  | some ad =>
    simp only [Option.isNone_some, br_false]
    refine ⟨_, _, _, _, run_b0 w, ?_⟩
    have f1 : Same w (w.alloc (.cells #[] 5)) := (Fr.refl w).alloc _
    have o1 : Own (w.alloc (.cells #[] 5)) w.heap.size 5 1 (some ⟨w.heap.size, 0, none⟩) 0 0 [] := ⟨rfl, .inr ⟨_, 0, #[], rfl, Nat.le_refl _, alloc_new _ _, Nat.le_refl _, Nat.zero_le _, rfl, rfl⟩⟩
    obtain ⟨a', l', c', w', hrun, rfl, ho, hf, _⟩ := append_own (ty := 23) E23 o1 (b := ad) (m := bs.length) (d := c) (news := byV bs) (by simp [byV_length]) (Rd.same hr f1) (fun u hu => by
      obtain ⟨x, _, rfl⟩ := List.mem_map.1 hu
      rfl) (by omega) (by omega) (by simp)
    refine ⟨_, _, _, _, hrun, a', c', by simp, ?_, ?_⟩
    · simpa using ho
    · exact ((f1.mono (S' := fun k => w.heap.size ≤ k) fun _ _ x => x.elim).trans hf fun i _ x => (o1.base_le x).1).mono fun i hi x => by omega
end
end Go.Proofs.Ytnmgdeimngcbgaa
