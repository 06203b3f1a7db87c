/- Own text: part of the shallow reading of the code and of the contracts that are proved over it. -/
import Derived.Test.YtnmgdeimngcbgaaNtI
namespace Go.Proofs.Ytnmgdeimngcbgaa
open Go Go.Sh
section
variable {w : World} {base : Nat} {n : Nt} {d : La}
/-! Deliver -/
def NT.deliver (n : NT) (e p i : Int) : NT := n.upd (idx e p) fun l => { l with del := inc l.del, ps := l.ps.eraseIdx i.toNat }
def NT.pkt (n : NT) (e p i : Int) : List Int := (((n.lanes[idx e p]?).bind (·.ps[i.toNat]?)).map (·.bytes)).getD []
theorem c35 (h : NtR w base n) {e p : Int} (hk : n.lanes[idx e p]? = some d) {i : Nat} (hi : i < d.ps.length) {bo : Nat} {pk : Pk} (hp : d.ps[i]? = some pk) (hbo : w.heap[bo]? = some (.cells #[.slice none 0 0] 23 (0, 0))) (hne : bo ∉ n.foot) :
    Calls Try.prog 35 #[.pointer (some ⟨n.b, 0, none⟩), .pointer (some ⟨d.b, 0, none⟩), .int .i64 (i : Int), .pointer (some ⟨bo, 0, none⟩)] w
    (rt fun v w' => v = .tuple #[] ∧ ∃ n', NtR w' base n' ∧ n'.b = n.b ∧ (∀ x ∈ n'.foot, x ∈ n.foot ∨ w.heap.size ≤ x) ∧ Fr (fun x => x = bo ∨ x ∈ n.foot) w w' ∧ n'.abs = n.abs.deliver e p i ∧ w'.heap[bo]? = some (.cells #[.slice pk.a pk.bytes.length pk.c] 23 (0, 0)) ∧ Rd w' pk.a (byV pk.bytes)) := by
  have ld := h.lanes d (List.mem_of_getElem? hk)
  have hnd := lane_nodup h hk
  obtain ⟨n1, n2, n3⟩ := foot_apart hnd
  have hpm := List.mem_of_getElem? hp
  have hpf : ∀ {x}, inB pk.a x → x ∈ d.foot := fun hx => by
    unfold La.foot
    simp only [List.mem_cons, List.mem_append, List.mem_flatMap]
    exact .inr (.inr ⟨pk, hpm, mem_blk.2 hx⟩)
  obtain ⟨g1, g2, g3, g4, g5⟩ := pksV_at hp
  refine F35_ok ?_
  unfold F35
  simp only [rdP_mk, rdA_mk, rdI_mk, nn_some, add_mk]
  refine ldC_at ld.cell rfl ?_
  obtain ⟨ad, ha⟩ := ld.row.rd.some (by rw [pksV_length]; omega)
  have hr := ld.row.rd
  rw [ha] at hr ⊢
  refine ixS_of (by omega) (by omega) ?_
  simp only [Int.toNat_natCast, add_add]
  refine ldC_c (hr.at g5) (stc_at hbo (by simp) ?_)
  generalize hw1 : sb w bo _ = w1
  have b1 : w1.heap[bo]? = some (.cells #[.slice pk.a pk.bytes.length pk.c] 23 (0, 0)) := by rw [← hw1]; exact sb_same hbo
  have f1 : Fr (· = bo) w w1 := by rw [← hw1]; exact (Fr.refl (S := (· = bo)) w).sb (b := bo) fun _ => rfl
  clear hw1
  have h1 : NtR w1 base n := h.fr f1 fun x hx e => hne (e ▸ hx)
  have l1 := h1.lanes d (List.mem_of_getElem? hk)
  have o1 := (ld.bytes pk hpm).fr f1 fun x hx e => hne (e ▸ foot_of_lane hk (hpf hx))
  refine ldI_at l1.cell rfl (stc_at l1.cell (by simp) ?_)
  generalize hw2 : sb w1 d.b _ = w2
  have S1 : Step base n { n with lanes := n.lanes.set (idx e p) { d with del := inc d.del } } w1 w2 := step_lane h1 hk { d with del := inc d.del } rfl rfl rfl rfl w2 hw2.symm
  have o2 : Own w2 base 5 1 pk.a pk.bytes.length pk.c (byV pk.bytes) := by
    rw [← hw2]
    exact o1.fr ((Fr.refl w1).sb (S := (· = d.b)) fun _ => rfl) fun x hx e => n2 pk hpm (e ▸ hx)
  clear hw2
  refine cl (out_step (d := { d with del := inc d.del }) S1.net (set_same hk) hi _) ?_
  rintro _ w3 ⟨rfl, S2, f3⟩
  have S := S1.trans S2
  refine ⟨rfl, trivial, _, S.net, S.b, fun x hx => ?_, (f1.mono (S' := fun x => x = bo ∨ x ∈ n.foot) fun _ _ x => .inl x).trans S.fr fun _ _ x => .inr x, ?_, S.fr.blk b1 hne, ?_⟩
  · rcases S.sub x hx with y | y
    · exact .inl y
    · exact .inr (by have := f1.size; omega)
  · unfold NT.deliver NT.upd
    rw [abs_lane hk]
    simp [Nt.abs, List.map_set, La.abs, map_erase]
  · refine (o2.fr f3 fun x hx => ?_).rd
    rintro (y | y)
    · exact n2 pk hpm (y ▸ hx)
    · exact n3 pk hpm x hx y
theorem pkt_abs {e p : Int} (hk : n.lanes[idx e p]? = some d) {i : Nat} {pk : Pk} (hp : d.ps[i]? = some pk) : n.abs.pkt e p i = pk.bytes := by
  unfold NT.pkt
  rw [abs_lane hk]
  simp [La.abs, hp, Pk.abs]
theorem c12 (h : NtR w base n) (e p i : Int) : Calls Try.prog 12 #[.pointer (some ⟨n.b, 0, none⟩), .int .i64 e, .int .i64 p, .int .i64 i] w
    (rt fun v w' => ∃ n' a bs c, Step base n n' w w' ∧ n'.abs = (if n.abs.atCode e p i = 0 then n.abs.deliver e p i else n.abs) ∧ v = .tuple #[.slice a bs.length c, .int .i64 (n.abs.atCode e p i)] ∧ Rd w' a (byV bs) ∧ bs = if n.abs.atCode e p i = 0 then n.abs.pkt e p i else []) := by
  refine F12_ok ?_
  unfold F12 alc
  simp only [rdP_mk, rdI_mk]
  obtain ⟨w1, hw1⟩ : ∃ w1, w1 = w.alloc (.cells #[.slice none 0 0] 23) := ⟨_, rfl⟩
  have b1 : w1.heap[w.heap.size]? = some (.cells #[.slice none 0 0] 23 (0, 0)) := by rw [hw1]; exact alloc_new _ _
  have f1 : Same w w1 := by rw [hw1]; exact (Fr.refl w).alloc _
  have z1 : w1.heap.size = w.heap.size + 1 := by rw [hw1]; simp
  rw [← hw1]
  clear hw1
  have h1 := h.same f1
  have hne : w.heap.size ∉ n.foot := fun hx => by have := (h.foot_lt hx).2; omega
  refine cl (c34 h1 e p i (K := fun v w' => v = .int .i64 (n.abs.atCode e p i) ∧ ∃ n' a bs c, Step base n n' w w' ∧ n'.abs = (if n.abs.atCode e p i = 0 then n.abs.deliver e p i else n.abs) ∧ w'.heap[w.heap.size]? = some (.cells #[.slice a bs.length c] 23 (0, 0)) ∧ Rd w' a (byV bs) ∧ bs = if n.abs.atCode e p i = 0 then n.abs.pkt e p i else []) (fun hc => ?_) fun hc ho d hk j hj hlt => ?_) ?_
  · refine ⟨rfl, n, none, [], 0, Step.same h f1, by rw [if_neg hc], b1, Rd.nil _ _, by rw [if_neg hc]⟩
  · subst hj
    obtain ⟨pk, hp⟩ : ∃ x, d.ps[j]? = some x := ⟨d.ps[j]'hlt, by simp⟩
    refine callV_of (by kernel_rfl) (call_of (c35 h1 hk hlt hp b1 hne) ?_)
    rintro _ w' ⟨v, rfl, rfl, n', q1, q2, q3, q4, q5, q6, q7⟩
    refine ⟨rfl, rfl, by rw [hc], n', pk.a, pk.bytes, pk.c, ⟨q1, q2, ?_, fun x hx => ?_⟩, by rw [if_pos hc]; exact q5, q6, q7, by rw [if_pos hc]; exact (pkt_abs hk hp).symm⟩
    · exact ((f1.mono (S' := fun x => x = w.heap.size ∨ x ∈ n.foot) fun _ _ x => x.elim).trans q4 fun _ _ x => x).mono fun i hi x => by
        rcases x with rfl | x
        · omega
        · exact x
    · rcases q3 x hx with y | y
      · exact .inl y
      · exact .inr (by omega)
  · rintro v w' ⟨rfl, n', a, bs, c, S, q2, q3, q4, q5⟩
    exact ⟨_, rfl, ldC_at q3 rfl ⟨n', a, bs, c, S, q2, rfl, q4, q5⟩⟩
end
end Go.Proofs.Ytnmgdeimngcbgaa
