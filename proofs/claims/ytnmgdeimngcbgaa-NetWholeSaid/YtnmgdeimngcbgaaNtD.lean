/- Own text: part of the shallow reading of the code and of the contracts that are proved over it. -/
import Derived.Test.YtnmgdeimngcbgaaNtC
namespace Go.Proofs.Ytnmgdeimngcbgaa
open Go Go.Sh

/-- a network goes on: within its own blocks and new ones -/
structure Step (base : Nat) (n n' : Nt) (w w' : World) : Prop where
  net : NtR w' base n'
  b : n'.b = n.b
  fr : Fr (· ∈ n.foot) w w'
  sub : ∀ x ∈ n'.foot, x ∈ n.foot ∨ w.heap.size ≤ x
theorem Step.same {base : Nat} {n : Nt} {w w' : World} (h : NtR w base n) (hf : Same w w') : Step base n n w w' := ⟨h.same hf, rfl, hf.mono fun _ _ x => x.elim, fun _ hx => .inl hx⟩
theorem Step.trans {base : Nat} {n n' n'' : Nt} {w w' w'' : World} (h : Step base n n' w w') (k : Step base n' n'' w' w'') : Step base n n'' w w'' :=
  ⟨k.net, k.b.trans h.b, h.fr.trans k.fr fun i hi x => by
    rcases h.sub i x with y | y
    · exact y
    · omega, fun x hx => by
    rcases k.sub x hx with y | y
    · exact h.sub x y
    · exact .inr (by have := h.fr.size; omega)⟩
theorem Step.out {base : Nat} {n n' : Nt} {w w' : World} (h : Step base n n' w w') {x : Nat} (hx : x < w.heap.size) (hn : x ∉ n.foot) : x ∉ n'.foot := fun hx' => by
  rcases h.sub x hx' with y | y
  · exact hn y
  · omega
theorem foot_of_lane {n : Nt} {k : Nat} {d : La} (hk : n.lanes[k]? = some d) {x : Nat} (hx : x ∈ d.foot) : x ∈ n.foot := by
  unfold Nt.foot
  simp only [List.mem_cons, List.mem_append, List.mem_flatMap]
  exact .inr (.inr (.inr ⟨d, List.mem_of_getElem? hk, hx⟩))
theorem lane_nodup {w : World} {base : Nat} {n : Nt} (h : NtR w base n) {k : Nat} {d : La} (hk : n.lanes[k]? = some d) : d.foot.Nodup := by
  have := h.sep
  unfold Nt.foot at this
  rw [List.nodup_cons, List.nodup_append, List.nodup_append] at this
  have h2 := this.2.2.1.2.1
  rw [split_at hk] at h2
  simp only [List.flatMap_append, List.flatMap_cons] at h2
  exact (List.nodup_append.1 (List.nodup_append.1 h2).2.1).1
/-- a lane turns: the network goes on -/
theorem NtR.step {w w' : World} {base : Nat} {n : Nt} {k : Nat} {d d' : La} {nx : Int} (h : NtR w base n) (hk : n.lanes[k]? = some d) (hf : Fr (fun x => x = n.b ∨ x ∈ d.foot) w w')
    (hc : w'.heap[n.b]? = some (.cells #[.slice n.la n.down.length n.lc, .slice n.da n.down.length n.dc, .int .i64 nx] 57 (0, 0))) (hd : LaR w' base d') (hb : d'.b = d.b) (hnd : d'.foot.Nodup) (hsub : ∀ x ∈ d'.foot, x ∈ d.foot ∨ w.heap.size ≤ x) :
    Step base n { n with lanes := n.lanes.set k d', next := nx } w w' := by
  refine ⟨h.lane hk hf hc hd hb hnd hsub, rfl, hf.mono fun i _ x => ?_, fun x hx => ?_⟩
  · rcases x with rfl | x
    · unfold Nt.foot; simp
    · exact foot_of_lane hk x
  · have hx' : x ∈ n.b :: (blk n.la ++ (blk n.da ++ (n.lanes.set k d').flatMap La.foot)) := hx
    simp only [List.mem_cons, List.mem_append, List.mem_flatMap] at hx'
    rcases hx' with rfl | hx' | hx' | ⟨e, he, hx'⟩
    · exact .inl (by unfold Nt.foot; simp)
    · exact .inl (by unfold Nt.foot; simp [hx'])
    · exact .inl (by unfold Nt.foot; simp [hx'])
    · rcases List.mem_or_eq_of_mem_set he with he | rfl
      · refine .inl ?_
        unfold Nt.foot
        simp only [List.mem_cons, List.mem_append, List.mem_flatMap]
        exact .inr (.inr (.inr ⟨e, he, hx'⟩))
      · rcases hsub x hx' with y | y
        · exact .inl (foot_of_lane hk y)
        · exact .inr y
theorem abs_set (n : Nt) (k : Nat) (d' : La) (nx : Int) : ({ n with lanes := n.lanes.set k d', next := nx } : Nt).abs = { n.abs with lanes := n.abs.lanes.set k d'.abs, next := nx } := by
  simp [Nt.abs, List.map_set]
/-- the network's own block is not a lane's -/
theorem net_apart {w : World} {base : Nat} {n : Nt} (h : NtR w base n) {k : Nat} {d : La} (hk : n.lanes[k]? = some d) : n.b ∉ d.foot := by
  have := h.sep
  unfold Nt.foot at this
  rw [List.nodup_cons] at this
  intro hx
  apply this.1
  simp only [List.mem_append, List.mem_flatMap]
  exact .inr (.inr ⟨d, List.mem_of_getElem? hk, hx⟩)
section
variable {w : World} {base : Nat} {n : Nt} {k : Nat} {d : La}
/-- the next number is taken -/
theorem step_next (h : NtR w base n) (hk : n.lanes[k]? = some d) (nx : Int) (w' : World) (hw : w' = sb w n.b (.cells #[.slice n.la n.down.length n.lc, .slice n.da n.down.length n.dc, .int .i64 nx] 57 (0, 0))) : Step base n { n with next := nx } w w' := by
  subst hw
  have hf : Fr (fun x => x = n.b ∨ x ∈ d.foot) w (sb w n.b (.cells #[.slice n.la n.down.length n.lc, .slice n.da n.down.length n.dc, .int .i64 nx] 57 (0, 0))) := (Fr.refl w).sb fun _ => .inl rfl
  have hl := h.lanes d (List.mem_of_getElem? hk)
  have := h.step (d' := d) (nx := nx) hk hf (sb_same h.cell) (hl.fr ((Fr.refl w).sb (S := (· = n.b)) fun _ => rfl) fun x hx e => net_apart h hk (e ▸ hx)) rfl (lane_nodup h hk) fun x hx => .inl hx
  have hs : n.lanes.set k d = n.lanes := by
    apply List.ext_getElem?
    intro i
    rw [List.getElem?_set]
    by_cases hi : k = i
    · subst hi; rw [if_pos rfl, if_pos (List.getElem?_eq_some_iff.1 hk).1, hk]
    · rw [if_neg hi]
  rw [hs] at this
  exact this
/-- a lane's own cells turn -/
theorem step_lane (h : NtR w base n) (hk : n.lanes[k]? = some d) (d' : La) (hb : d'.b = d.b) (ha : d'.a = d.a) (hps : d'.ps = d.ps) (hc : d'.c = d.c) (w' : World)
    (hw : w' = sb w d.b (.cells #[.int .i64 d'.sent, .int .i64 d'.del, .int .i64 d'.lost, .int .i64 d'.forged, .slice d.a d.ps.length d.c] 69 (0, 0))) : Step base n { n with lanes := n.lanes.set k d' } w w' := by
  subst hw
  have hl := h.lanes d (List.mem_of_getElem? hk)
  have hnd := lane_nodup h hk
  have hfoot : d'.foot = d.foot := by unfold La.foot; rw [hb, ha, hps]
  have hdf : d.b ∈ d.foot := by unfold La.foot; simp
  have hf1 : Fr (· = d.b) w (sb w d.b (.cells #[.int .i64 d'.sent, .int .i64 d'.del, .int .i64 d'.lost, .int .i64 d'.forged, .slice d.a d.ps.length d.c] 69 (0, 0))) := (Fr.refl w).sb fun _ => rfl
  have hf : Fr (fun x => x = n.b ∨ x ∈ d.foot) w (sb w d.b (.cells #[.int .i64 d'.sent, .int .i64 d'.del, .int .i64 d'.lost, .int .i64 d'.forged, .slice d.a d.ps.length d.c] 69 (0, 0))) := hf1.mono fun _ _ x => .inr (x ▸ hdf)
  obtain ⟨n1, n2, n3⟩ := foot_apart hnd
  have hne : n.b ≠ d.b := fun e => net_apart h hk (e ▸ hdf)
  refine h.step (d' := d') (nx := n.next) hk hf (hf1.blk h.cell hne) ⟨?_, ?_, ?_, by rw [hb]; exact hl.low, by rw [hps]; exact hl.short, by rw [hps]; exact hl.many⟩ hb (by rw [hfoot]; exact hnd) fun x hx => .inl (by rw [← hfoot]; exact hx)
  · rw [hb, ha, hps, hc]; exact sb_same hl.cell
  · rw [ha, hps, hc]; exact hl.row.fr hf1 fun x hx e => n1 (e ▸ hx)
  · rw [hps]; exact fun p hp => (hl.bytes p hp).fr hf1 fun x hx e => n2 p hp (e ▸ hx)
end
end Go.Proofs.Ytnmgdeimngcbgaa
