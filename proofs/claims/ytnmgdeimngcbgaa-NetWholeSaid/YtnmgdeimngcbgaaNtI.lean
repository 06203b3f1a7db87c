/- Own text: part of the shallow reading of the code and of the contracts that are proved over it. -/
import Derived.Test.YtnmgdeimngcbgaaNtH
namespace Go.Proofs.Ytnmgdeimngcbgaa
open Go Go.Sh
section
variable {w : World} {base : Nat} {n : Nt} {d : La}
theorem sub_flat {α β : Type} (f : α → List β) {l l' : List α} (h : l'.Sublist l) : (l'.flatMap f).Sublist (l.flatMap f) := by
  induction h with
  | slnil => exact List.Sublist.refl _
  | cons a _ ih => rw [List.flatMap_cons]; exact ih.trans (List.sublist_append_right _ _)
  | cons_cons a _ ih => rw [List.flatMap_cons, List.flatMap_cons]; exact (List.Sublist.refl _).append ih
theorem foot_erase (i : Nat) : (({ d with ps := d.ps.eraseIdx i } : La).foot).Sublist d.foot := by
  unfold La.foot
  exact ((List.Sublist.refl _).append (sub_flat _ (List.eraseIdx_sublist _ _))).cons_cons _
theorem c36 (h : LaR w base d) (hnd : d.foot.Nodup) {i : Nat} (hi : i < d.ps.length) (v0 : Value) : Calls Try.prog 36 #[v0, .pointer (some ⟨d.b, 0, none⟩), .int .i64 (i : Int)] w
    (rt fun v w' => v = .tuple #[] ∧ LaR w' base { d with ps := d.ps.eraseIdx i } ∧ Fr (fun x => x = d.b ∨ inB d.a x) w w') := by
  obtain ⟨n1, n2, n3⟩ := foot_apart hnd
  have hm := h.many
  refine F36_ok ?_
  unfold F36
  simp only [rdP_mk, rdI_mk, nn_some, add_mk]
  refine ldC_at h.cell rfl ?_
  have e1 : IntKind.wrap .i64 ((i : Int) + 1) = ((i + 1 : Nat) : Int) := by rw [wrap_i64 (by omega) (by omega)]; omega
  rw [e1]
  refine cl (c50 h.row hi hm) ?_
  rintro _ w1 ⟨rfl, o1, f1⟩
  refine ⟨_, _, _, rfl, ?_⟩
  have d1 := f1.blk h.cell n1
  refine stc_at d1 (by simp) ⟨trivial, ?_⟩
  generalize hw2 : sb w1 d.b _ = w2
  have f2 : Fr (fun x => x = d.b ∨ inB d.a x) w w2 := by rw [← hw2]; exact (f1.mono (S' := fun x => x = d.b ∨ inB d.a x) fun _ _ x => .inr x).sb fun _ => .inl rfl
  have d2 : w2.heap[d.b]? = some (.cells #[.int .i64 d.sent, .int .i64 d.del, .int .i64 d.lost, .int .i64 d.forged, .slice d.a (d.ps.length - 1) d.c] 69 (0, 0)) := by rw [← hw2]; exact sb_same d1
  have hel : (d.ps.eraseIdx i).length = d.ps.length - 1 := by rw [List.length_eraseIdx]; simp [hi]
  have o2 : Own w2 base 83 5 d.a (d.ps.length - 1) d.c (pksV (d.ps.eraseIdx i)) := by
    rw [← hw2]
    exact o1.fr ((Fr.refl w1).sb (S := (· = d.b)) fun _ => rfl) fun x hx e => n1 (e ▸ hx)
  clear hw2
  have hmem : ∀ p ∈ d.ps.eraseIdx i, p ∈ d.ps := fun p hp => (List.eraseIdx_sublist _ _).subset hp
  exact ⟨⟨by simpa [hel] using d2, by simpa [hel] using o2, fun p hp => (h.bytes p (hmem p hp)).fr f2 fun k hk x => by
    rcases x with rfl | x
    · exact n2 p (hmem p hp) hk
    · exact n3 p (hmem p hp) k hk x, h.low, fun p hp => h.short p (hmem p hp), by simp [hel]; omega⟩, f2⟩
def NT.atCode (n : NT) (e p i : Int) : Int := if n.has e p then (if i < 0 ∨ i ≥ (n.many e p : Int) then 91 else 0) else 90
theorem many_abs {e p : Int} (hk : n.lanes[idx e p]? = some d) : n.abs.many e p = d.ps.length := by
  unfold NT.many
  rw [abs_lane hk]
  simp [La.abs]
/-- what is done with an i-th packet -/
theorem c34 (h : NtR w base n) (e p i : Int) {f : Value} {K : Value → World → Prop} (bad : n.abs.atCode e p i ≠ 0 → K (.int .i64 (n.abs.atCode e p i)) w)
    (go : n.abs.atCode e p i = 0 → okAt n e p → ∀ d, n.lanes[idx e p]? = some d → ∀ j : Nat, i = j → j < d.ps.length → callV Try.prog f #[.pointer (some ⟨n.b, 0, none⟩), .pointer (some ⟨d.b, 0, none⟩), .int .i64 (j : Int)] w (.tup []) fun r w' => r = .tuple #[] ∧ K (.int .i64 0) w') :
    Calls Try.prog 34 #[.pointer (some ⟨n.b, 0, none⟩), .int .i64 e, .int .i64 p, .int .i64 i, f] w (rt K) := by
  refine F34_ok ?_
  unfold F34
  simp only [rdP_mk, rdI_mk]
  by_cases ho : okAt n e p
  · obtain ⟨d, hd⟩ := lane_at h ho
    have hk : n.lanes[idx e p]? = some d := hd
    have ld := h.lanes d (List.mem_of_getElem? hk)
    have hhas : n.abs.has e p := ho
    have hmany := many_abs hk
    refine clr (c33_ok h ho hd) ⟨_, _, rfl, ?_⟩
    have e0 : ((0 : Int) != 0) = false := rfl
    rw [e0, br_false]
    simp only [br_dec, nn_some, add_mk]
    have c91 : (i < 0 ∨ i ≥ (d.ps.length : Int)) → n.abs.atCode e p i = 91 := fun hx => by unfold NT.atCode; rw [if_pos hhas, hmany, if_pos hx]
    refine ⟨fun hi => ?_, fun hi => ldC_at ld.cell rfl ⟨fun hi2 => ?_, fun hi2 => ?_⟩⟩
    · have hc := c91 (.inl hi)
      rw [hc] at bad
      exact bad (by decide)
    · have hc := c91 (.inr hi2)
      rw [hc] at bad
      exact bad (by decide)
    · obtain ⟨j, hj⟩ : ∃ j : Nat, i = j := ⟨i.toNat, by omega⟩
      subst hj
      exact go (by unfold NT.atCode; rw [if_pos hhas, hmany, if_neg (by omega)]) ho d hk j rfl (by omega)
  · refine clr (c33_no h ho) ⟨_, _, rfl, ?_⟩
    have e0 : ((90 : Int) != 0) = true := rfl
    rw [e0, br_true]
    have hc : n.abs.atCode e p i = 90 := by unfold NT.atCode; rw [if_neg (show ¬ n.abs.has e p from ho)]
    rw [hc] at bad
    exact bad (by decide)
/-- a lane loses its i-th packet -/
theorem out_step (h : NtR w base n) {k : Nat} (hk : n.lanes[k]? = some d) {i : Nat} (hi : i < d.ps.length) (v0 : Value) : Calls Try.prog 36 #[v0, .pointer (some ⟨d.b, 0, none⟩), .int .i64 (i : Int)] w
    (rt fun v w' => v = .tuple #[] ∧ Step base n { n with lanes := n.lanes.set k { d with ps := d.ps.eraseIdx i } } w w' ∧ Fr (fun x => x = d.b ∨ inB d.a x) w w') := by
  have hnd := lane_nodup h hk
  have hdf : d.b ∈ d.foot := by unfold La.foot; simp
  have haf : ∀ {x}, inB d.a x → x ∈ d.foot := fun hx => by unfold La.foot; simp [mem_blk.2 hx]
  refine rt_mono (c36 (h.lanes d (List.mem_of_getElem? hk)) hnd hi v0) ?_
  rintro _ w' ⟨rfl, l1, f1⟩
  refine ⟨rfl, ?_, f1⟩
  refine h.step (d' := { d with ps := d.ps.eraseIdx i }) (nx := n.next) hk (f1.mono fun i _ x => .inr ?_) (f1.blk h.cell ?_) l1 rfl ((foot_erase i).nodup hnd) fun x hx => .inl ((foot_erase i).subset hx)
  · rcases x with rfl | x
    · exact hdf
    · exact haf x
  · rintro (x | x)
    · exact net_apart h hk (x ▸ hdf)
    · exact net_apart h hk (haf x)
def NT.drop (n : NT) (e p i : Int) : NT := n.upd (idx e p) fun l => { l with lost := inc l.lost, ps := l.ps.eraseIdx i.toNat }
theorem c42 (h : NtR w base n) {e p : Int} (hk : n.lanes[idx e p]? = some d) {i : Nat} (hi : i < d.ps.length) : Calls Try.prog 42 #[.pointer (some ⟨n.b, 0, none⟩), .pointer (some ⟨d.b, 0, none⟩), .int .i64 (i : Int)] w
    (rt fun v w' => v = .tuple #[] ∧ ∃ n', Step base n n' w w' ∧ n'.abs = n.abs.drop e p i) := by
  have ld := h.lanes d (List.mem_of_getElem? hk)
  refine F42_ok ?_
  unfold F42
  simp only [rdP_mk, rdI_mk, nn_some, add_mk]
  refine ldI_at ld.cell rfl (stc_at ld.cell (by simp) ?_)
  generalize hw1 : sb w d.b _ = w1
  have S1 : Step base n { n with lanes := n.lanes.set (idx e p) { d with lost := inc d.lost } } w w1 := step_lane h hk { d with lost := inc d.lost } rfl rfl rfl rfl w1 hw1.symm
  clear hw1
  refine cl (out_step (d := { d with lost := inc d.lost }) S1.net (set_same hk) hi _) ?_
  rintro _ w2 ⟨rfl, S2, _⟩
  refine ⟨rfl, trivial, _, S1.trans S2, ?_⟩
  unfold NT.drop NT.upd
  rw [abs_lane hk]
  simp [Nt.abs, List.map_set, La.abs, map_erase]
theorem c18 (h : NtR w base n) (e p i : Int) : Calls Try.prog 18 #[.pointer (some ⟨n.b, 0, none⟩), .int .i64 e, .int .i64 p, .int .i64 i] w
    (rt fun v w' => v = .int .i64 (n.abs.atCode e p i) ∧ ∃ n', Step base n n' w w' ∧ n'.abs = if n.abs.atCode e p i = 0 then n.abs.drop e p i else n.abs) := by
  refine F18_ok ?_
  unfold F18
  simp only [rdP_mk, rdI_mk]
  refine cl (c34 h e p i (K := fun v w' => v = .int .i64 (n.abs.atCode e p i) ∧ ∃ n', Step base n n' w w' ∧ n'.abs = if n.abs.atCode e p i = 0 then n.abs.drop e p i else n.abs) (fun hc => ⟨rfl, n, Step.same h (Fr.refl w), by rw [if_neg hc]⟩) fun hc ho d hk j hj hlt => ?_) ?_
  · refine callV_of (by kernel_rfl) (call_of (c42 h hk hlt) ?_)
    rintro _ w' ⟨v, rfl, rfl, n', S, hn'⟩
    refine ⟨rfl, rfl, by rw [hc], n', S, ?_⟩
    rw [if_pos hc, hj]; exact hn'
  · rintro v w' ⟨rfl, hx⟩
    exact ⟨_, rfl, rfl, hx⟩
end
end Go.Proofs.Ytnmgdeimngcbgaa
