/- Own text: part of the shallow reading of the code and of the contracts that are proved over it. -/
import Derived.Test.YtnmgdeimngcbgaaNtK
namespace Go.Proofs.Ytnmgdeimngcbgaa
open Go Go.Sh
section
variable {w : World} {base : Nat} {n : Nt} {d : La}
theorem traffic_abs {e p : Int} (hk : n.lanes[idx e p]? = some d) : n.abs.traffic e p = (d.sent, d.del, d.lost, d.forged) := by
  unfold NT.traffic
  rw [abs_lane hk]
  simp [La.abs]
theorem c13 (h : NtR w base n) (e p : Int) : Calls Try.prog 13 #[.pointer (some ⟨n.b, 0, none⟩), .int .i64 e, .int .i64 p] w
    (rt fun v w' => v = .tuple #[trV (if n.abs.err e p = 0 then n.abs.traffic e p else (0, 0, 0, 0)), .int .i64 (n.abs.err e p)] ∧ Same w w') := by
  refine F13_ok ?_
  unfold F13 alc
  simp only [rdP_mk, rdI_mk]
  obtain ⟨w1, hw1⟩ : ∃ w1, w1 = w.alloc (.cells #[.int .i64 0, .int .i64 0, .int .i64 0, .int .i64 0] 48) := ⟨_, rfl⟩
  have b1 : w1.heap[w.heap.size]? = some (.cells #[.int .i64 0, .int .i64 0, .int .i64 0, .int .i64 0] 48 (0, 0)) := by rw [hw1]; exact alloc_new _ _
  have f1 : Same w w1 := by rw [hw1]; exact (Fr.refl w).alloc _
  rw [← hw1]
  clear hw1
  have h1 := h.same f1
  have fin : ∀ {s1 s2 s3 s4 : Int}, Same w (sb (sb (sb (sb w1 w.heap.size (.cells (#[.int .i64 0, .int .i64 0, .int .i64 0, .int .i64 0].setIfInBounds 0 (.int .i64 s1)) 48 (0, 0))) w.heap.size (.cells ((#[.int .i64 0, .int .i64 0, .int .i64 0, .int .i64 0].setIfInBounds 0 (.int .i64 s1)).setIfInBounds 1 (.int .i64 s2)) 48 (0, 0))) w.heap.size (.cells (((#[.int .i64 0, .int .i64 0, .int .i64 0, .int .i64 0].setIfInBounds 0 (.int .i64 s1)).setIfInBounds 1 (.int .i64 s2)).setIfInBounds 2 (.int .i64 s3)) 48 (0, 0))) w.heap.size (.cells ((((#[.int .i64 0, .int .i64 0, .int .i64 0, .int .i64 0].setIfInBounds 0 (.int .i64 s1)).setIfInBounds 1 (.int .i64 s2)).setIfInBounds 2 (.int .i64 s3)).setIfInBounds 3 (.int .i64 s4)) 48 (0, 0))) :=
    (((f1.sb (b := w.heap.size) fun x => by omega).sb (b := w.heap.size) fun x => by omega).sb (b := w.heap.size) fun x => by omega).sb (b := w.heap.size) fun x => by omega
  by_cases ho : okAt n e p
  · obtain ⟨d, hd⟩ := lane_at h ho
    have hk : n.lanes[idx e p]? = some d := hd
    have ld := h1.lanes d (List.mem_of_getElem? hk)
    have herr : n.abs.err e p = 0 := by unfold NT.err; rw [if_pos (show n.abs.has e p from ho)]
    refine clr (c33_ok h1 ho hd) ⟨_, _, rfl, ?_⟩
    have e0 : ((0 : Int) != 0) = false := rfl
    rw [e0, br_false, herr, if_pos rfl, traffic_abs hk]
    simp only [nn_some, add_mk]
    refine ldI_at ld.cell rfl (ldI_at ld.cell rfl (ldI_at ld.cell rfl (ldI_at ld.cell rfl ?_)))
    refine stc_at b1 (by simp) (stc_at (sb_same b1) (by simp) (stc_at (sb_same (sb_same b1)) (by simp) (stc_at (sb_same (sb_same (sb_same b1))) (by simp) ?_)))
    have q := sb_same (o := .cells ((((#[Value.int .i64 0, .int .i64 0, .int .i64 0, .int .i64 0].setIfInBounds (0 + 0) (.int .i64 d.sent)).setIfInBounds (0 + 1) (.int .i64 d.del)).setIfInBounds (0 + 2) (.int .i64 d.lost)).setIfInBounds (0 + 3) (.int .i64 d.forged)) 48 (0, 0)) (sb_same (o := .cells (((#[Value.int .i64 0, .int .i64 0, .int .i64 0, .int .i64 0].setIfInBounds (0 + 0) (.int .i64 d.sent)).setIfInBounds (0 + 1) (.int .i64 d.del)).setIfInBounds (0 + 2) (.int .i64 d.lost)) 48 (0, 0)) (sb_same (o := .cells ((#[Value.int .i64 0, .int .i64 0, .int .i64 0, .int .i64 0].setIfInBounds (0 + 0) (.int .i64 d.sent)).setIfInBounds (0 + 1) (.int .i64 d.del)) 48 (0, 0)) (sb_same (o := .cells (#[Value.int .i64 0, .int .i64 0, .int .i64 0, .int .i64 0].setIfInBounds (0 + 0) (.int .i64 d.sent)) 48 (0, 0)) b1)))
    exact ldI_at q rfl (ldI_at q rfl (ldI_at q rfl (ldI_at q rfl ⟨rfl, fin⟩)))
  · have herr : n.abs.err e p = 90 := by unfold NT.err; rw [if_neg (show ¬ n.abs.has e p from ho)]
    refine clr (c33_no h1 ho) ⟨_, _, rfl, ?_⟩
    have e0 : ((90 : Int) != 0) = true := rfl
    rw [e0, br_true, herr, if_neg (by decide)]
    simp only [add_mk]
    refine stc_at b1 (by simp) (stc_at (sb_same b1) (by simp) (stc_at (sb_same (sb_same b1)) (by simp) (stc_at (sb_same (sb_same (sb_same b1))) (by simp) ?_)))
    have q := sb_same (o := .cells ((((#[Value.int .i64 0, .int .i64 0, .int .i64 0, .int .i64 0].setIfInBounds (0 + 0) (.int .i64 0)).setIfInBounds (0 + 1) (.int .i64 0)).setIfInBounds (0 + 2) (.int .i64 0)).setIfInBounds (0 + 3) (.int .i64 0)) 48 (0, 0)) (sb_same (o := .cells (((#[Value.int .i64 0, .int .i64 0, .int .i64 0, .int .i64 0].setIfInBounds (0 + 0) (.int .i64 0)).setIfInBounds (0 + 1) (.int .i64 0)).setIfInBounds (0 + 2) (.int .i64 0)) 48 (0, 0)) (sb_same (o := .cells ((#[Value.int .i64 0, .int .i64 0, .int .i64 0, .int .i64 0].setIfInBounds (0 + 0) (.int .i64 0)).setIfInBounds (0 + 1) (.int .i64 0)) 48 (0, 0)) (sb_same (o := .cells (#[Value.int .i64 0, .int .i64 0, .int .i64 0, .int .i64 0].setIfInBounds (0 + 0) (.int .i64 0)) 48 (0, 0)) b1)))
    exact ldI_at q rfl (ldI_at q rfl (ldI_at q rfl (ldI_at q rfl ⟨rfl, fin⟩)))
/-! Down and Up -/
def LN.lose (l : LN) : LN := { l with lost := IntKind.wrap .i64 (l.lost + l.ps.length), ps := [] }
theorem c51 (h : NtR w base n) {k : Nat} (hk : n.lanes[k]? = some d) : Calls Try.prog 51 #[.pointer (some ⟨d.b, 0, none⟩)] w
    (rt fun v w' => v = .tuple #[] ∧ ∃ d', Step base n { n with lanes := n.lanes.set k d' } w w' ∧ d'.abs = d.abs.lose ∧ d'.b = d.b) := by
  have ld := h.lanes d (List.mem_of_getElem? hk)
  refine F51_ok ?_
  unfold F51 drw
  simp only [rdP_mk, nn_some, add_mk]
  have f0 : Same w w.drew := (Fr.refl w).drew
  refine ldI_at (w := w.drew) ld.cell rfl (ldC_at (w := w.drew) ld.cell rfl (stc_at (w := w.drew) ld.cell (by simp) (stc_at (sb_same (w := w.drew) ld.cell) (by simp) ⟨trivial, ?_⟩)))
  generalize hw2 : sb (sb w.drew d.b _) d.b _ = w2
  have q2 : w2.heap[d.b]? = some (.cells #[.int .i64 d.sent, .int .i64 d.del, .int .i64 (IntKind.wrap .i64 (d.lost + d.ps.length)), .int .i64 d.forged, .slice none 0 0] 69 (0, 0)) := by rw [← hw2]; exact sb_same (sb_same (w := w.drew) ld.cell)
  have f2 : Fr (· = d.b) w w2 := by
    rw [← hw2]
    exact ((f0.mono (S' := (· = d.b)) fun _ _ x => x.elim).sb (b := d.b) fun _ => rfl).sb (b := d.b) fun _ => rfl
  clear hw2
  have hdf : d.b ∈ d.foot := by unfold La.foot; simp
  refine ⟨{ d with lost := IntKind.wrap .i64 (d.lost + d.ps.length), a := none, c := 0, ps := [] }, ?_, by simp [La.abs, LN.lose], rfl⟩
  refine h.step (d' := { d with lost := IntKind.wrap .i64 (d.lost + d.ps.length), a := none, c := 0, ps := [] }) (nx := n.next) hk (f2.mono fun _ _ x => .inr (x ▸ hdf)) (f2.blk h.cell fun x => net_apart h hk (x ▸ hdf)) ⟨q2, Own.nil _ _ _ _, by simp, ld.low, by simp, by simp⟩ rfl (by simp [La.foot, blk]) fun x hx => ?_
  simp [La.foot, blk] at hx
  exact .inl (hx ▸ hdf)
end
end Go.Proofs.Ytnmgdeimngcbgaa
