/- Own text: part of the shallow reading of the code and of the contracts that are proved over it. -/
import Derived.Test.YtnmgdeimngcbgaaNtJ
namespace Go.Proofs.Ytnmgdeimngcbgaa
open Go Go.Sh
/-! what is told: Flying, Traffic, Works -/
def flC (p : PK) : List Value := [.int .i64 p.id, .int .i64 p.now, .int .i64 (p.bytes.length : Int), .bool p.forged]
def flV (ps : List PK) : List Value := ps.flatMap flC
theorem flV_length (ps : List PK) : (flV ps).length = ps.length * 4 := by
  induction ps with
  | nil => rfl
  | cons p ps ih => simp [flV, flC] at ih ⊢; omega
theorem flV_snoc (ps : List PK) (p : PK) : flV (ps ++ [p]) = flV ps ++ flC p := by simp [flV]
def NT.ps (n : NT) (e p : Int) : List PK := ((n.lanes[idx e p]?).map (·.ps)).getD []
def NT.err (n : NT) (e p : Int) : Int := if n.has e p then 0 else 90
section
variable {w : World} {base : Nat} {n : Nt} {d : La}
theorem c11_loop {w0 : World} {ps : List Pk} {a : Option Addr} {c : Nat} (ho : Own w0 base 83 5 a ps.length c (pksV ps)) (hm : ps.length ≤ 4096) {K0 : Value → World → Prop} : ∀ (i j : Nat) (w : World) (k : Nat) (a' : Option Addr) (l c' : Nat), j + i = ps.length → Same w0 w → Own w w0.heap.size 43 4 a' l c' (flV ((ps.take j).map Pk.abs)) → i < k →
    (∀ w' a' c', Same w0 w' → Own w' w0.heap.size 43 4 a' ps.length c' (flV (ps.map Pk.abs)) → K0 (.slice a' ps.length c') w') →
    F11_1 K0 k (.slice a' l c') (.slice a ps.length c) (.int .i64 (ps.length : Int)) (.int .i64 (j : Int)) w := by
  intro i
  induction i with
  | zero =>
    intro j w k a' l c' hj hf hw hk hK
    obtain ⟨k, rfl⟩ : ∃ j, k = j + 1 := ⟨k - 1, by omega⟩
    show F11_1B _ _ _ _ _ _ _
    unfold F11_1B
    simp only [rdC_mk, rdI_mk, br_dec]
    refine ⟨fun h => by exfalso; omega, fun _ => ?_⟩
    rw [List.take_of_length_le (by omega)] at hw
    have hl : l = ps.length := by have := hw.length; rw [flV_length, List.length_map] at this; omega
    subst hl
    exact hK w a' c' hf hw
  | succ i ih =>
    intro j w k a' l c' hj hf hw hk hK
    obtain ⟨k, rfl⟩ : ∃ j, k = j + 1 := ⟨k - 1, by omega⟩
    show F11_1B _ _ _ _ _ _ _
    unfold F11_1B alc
    simp only [rdC_mk, rdI_mk, br_dec]
    refine ⟨fun _ => ?_, fun h => by exfalso; omega⟩
    obtain ⟨p, hp⟩ : ∃ x, ps[j]? = some x := ⟨ps[j]'(by omega), by simp⟩
    obtain ⟨g1, g2, g3, g4, g5⟩ := pksV_at hp
    have hr := Rd.same ho.rd hf
    obtain ⟨ad, ha⟩ := hr.some (by rw [pksV_length]; omega)
    rw [ha] at hr ⊢
    refine ixS_of (by omega) (by omega) ?_
    simp only [Int.toNat_natCast, add_add, Nat.add_zero, add_mk]
    refine ldI_c (hr.at g1) (ldI_c (hr.at g2) (ldI_c (hr.at g3) (ldB_c (hr.at g4) (ldC_c (hr.at g5) ?_))))
    refine stc_at (alloc_new w _) (by simp) (stc_at (sb_same (alloc_new w _)) (by simp) (stc_at (sb_same (sb_same (alloc_new w _))) (by simp) (stc_at (sb_same (sb_same (sb_same (alloc_new w _)))) (by simp) (stc_at (sb_same (sb_same (sb_same (sb_same (alloc_new w _))))) (by simp) ?_))))
    generalize hw2 : sb _ w.heap.size _ = w2
    have q2 : w2.heap[w.heap.size]? = some (.cells #[.int .i64 p.id, .int .i64 p.now, .int .i64 (p.bytes.length : Int), .bool p.forged, .slice p.a p.bytes.length p.c] 83 (0, 0)) := by rw [← hw2]; exact sb_same (sb_same (sb_same (sb_same (sb_same (alloc_new w _)))))
    have f2 : Same w w2 := by
      rw [← hw2]
      have f1 : Same w (w.alloc (.cells #[.int .i64 0, .int .i64 0, .int .i64 0, .bool false, .slice none 0 0] 83)) := (Fr.refl w).alloc _
      exact (((((f1.sb (b := w.heap.size) fun x => by omega).sb (b := w.heap.size) fun x => by omega).sb (b := w.heap.size) fun x => by omega).sb (b := w.heap.size) fun x => by omega).sb (b := w.heap.size) fun x => by omega)
    clear hw2
    refine ldI_at q2 rfl (ldI_at q2 rfl (ldI_at q2 rfl (ldB_at q2 rfl ?_)))
    have g : Same w0 w2 := hf.trans f2 fun _ _ x => x
    have hl : l = j := by have := hw.length; rw [flV_length, List.length_map, List.length_take] at this; omega
    refine push E39 (hw.fr f2 fun _ _ x => x) (news := #[_, _, _, _]) rfl (by simp [Value.oneCell']) (by omega) (by omega) g.size ?_
    intro a2 c2 w3 k1 k2 k3
    have e1 : IntKind.wrap .i64 ((j : Int) + 1) = ((j + 1 : Nat) : Int) := by rw [wrap_i64 (by omega) (by omega)]; omega
    rw [e1, ← ha]
    refine ih (j + 1) w3 k a2 (l + 1) c2 (by omega) ?_ ?_ (by omega) hK
    · exact ((g.mono (S' := fun k => w0.heap.size ≤ k) fun _ _ x => x.elim).trans k2 fun i _ x => (hw.base_le x).1).mono fun i hi x => by omega
    · rw [List.take_add_one, hp]
      simp only [Option.toList_some, List.map_append, List.map_cons, List.map_nil]
      rw [flV_snoc]
      exact k1
theorem ps_abs {e p : Int} (hk : n.lanes[idx e p]? = some d) : n.abs.ps e p = d.ps.map Pk.abs := by
  unfold NT.ps
  rw [abs_lane hk]
  simp [La.abs]
theorem c11 (h : NtR w base n) (e p : Int) : Calls Try.prog 11 #[.pointer (some ⟨n.b, 0, none⟩), .int .i64 e, .int .i64 p] w
    (rt fun v w' => ∃ a c, v = .tuple #[.slice a (if n.abs.err e p = 0 then n.abs.ps e p else []).length c, .int .i64 (n.abs.err e p)] ∧ Own w' w.heap.size 43 4 a (if n.abs.err e p = 0 then n.abs.ps e p else []).length c (flV (if n.abs.err e p = 0 then n.abs.ps e p else [])) ∧ Same w w') := by
  refine F11_ok ?_
  unfold F11
  simp only [rdP_mk, rdI_mk]
  by_cases ho : okAt n e p
  · obtain ⟨d, hd⟩ := lane_at h ho
    have hk : n.lanes[idx e p]? = some d := hd
    have ld := h.lanes d (List.mem_of_getElem? hk)
    have herr : n.abs.err e p = 0 := by unfold NT.err; rw [if_pos (show n.abs.has e p from ho)]
    refine clr (c33_ok h ho hd) ⟨_, _, rfl, ?_⟩
    have e0 : ((0 : Int) != 0) = false := rfl
    rw [e0, br_false]
    simp only [nn_some, add_mk]
    rw [herr, if_pos rfl, ps_abs hk]
    refine ldC_at ld.cell rfl ⟨d.ps.length + 1, c11_loop (w0 := w) ld.row ld.many d.ps.length 0 w _ none 0 0 (by omega) (Fr.refl w) (Own.nil _ _ _ _) (by omega) fun w' a' c' hf hw _g => ?_⟩
    simp only [rdC_mk]
    exact ⟨a', c', by rw [List.length_map], by rw [List.length_map]; exact hw, hf⟩
  · have herr : n.abs.err e p = 90 := by unfold NT.err; rw [if_neg (show ¬ n.abs.has e p from ho)]
    refine clr (c33_no h ho) ⟨_, _, rfl, ?_⟩
    have e0 : ((90 : Int) != 0) = true := rfl
    rw [e0, br_true, herr, if_neg (by decide)]
    exact ⟨none, 0, rfl, Own.nil _ _ _ _, Fr.refl w⟩
/-- the traffic -/
def NT.traffic (n : NT) (e p : Int) : Int × Int × Int × Int := ((n.lanes[idx e p]?).map fun l => (l.sent, l.del, l.lost, l.forged)).getD (0, 0, 0, 0)
def trV (t : Int × Int × Int × Int) : Value := .agg #[.int .i64 t.1, .int .i64 t.2.1, .int .i64 t.2.2.1, .int .i64 t.2.2.2]
theorem c22 (h : NtR w base n) (p : Int) : Calls Try.prog 22 #[.pointer (some ⟨n.b, 0, none⟩), .int .i64 p] w (rt (KR (.bool (decide (n.abs.has 0 p) && !n.abs.isDown p)) w)) := by
  refine F22_ok ?_
  unfold F22
  simp only [rdP_mk, rdI_mk]
  by_cases ho : okAt n 0 p
  · obtain ⟨d, hd⟩ := lane_at h ho
    refine clr (c33_ok h ho hd) ⟨_, _, rfl, ?_⟩
    simp only [beq_self_eq_true, br_true, nn_some, add_mk]
    obtain ⟨_, _, h3, h4⟩ := ho
    obtain ⟨ad, b, ha, hb, hc⟩ := down_at h h3 h4
    refine ldC_at h.cell rfl ?_
    rw [ha]
    refine ixS_of h3 h4 (ldB_c hc ?_)
    have e1 : n.abs.isDown p = b := by unfold NT.isDown Nt.abs; simp [hb]
    have e2 : decide (n.abs.has 0 p) = true := decide_eq_true (show n.abs.has 0 p from ⟨by omega, by omega, h3, h4⟩)
    rw [e1, e2, Bool.true_and]
    exact KR.mk _ _
  · refine clr (c33_no h ho) ⟨_, _, rfl, ?_⟩
    have e0 : ((90 : Int) == 0) = false := rfl
    rw [e0, br_false]
    have e2 : decide (n.abs.has 0 p) = false := decide_eq_false (show ¬ n.abs.has 0 p from ho)
    rw [e2, Bool.false_and]
    exact KR.mk _ _
end
end Go.Proofs.Ytnmgdeimngcbgaa
