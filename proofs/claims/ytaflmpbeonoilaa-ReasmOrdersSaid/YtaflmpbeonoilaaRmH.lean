/-
  Rows that wait: the first whose turn it is, one less; copies; a message is taken.
-/
import Derived.Test.YtaflmpbeonoilaaRmG
namespace Go.Proofs.Ytaflmpbeonoilaa
open Go Go.Sh
section
variable {W w : World} {L M : List HP} {tb mc mf : Nat} {hd : Int} {d : TD} {s : St} {es : List Ec} {F : List Int}
def idxV (o : Option Nat) : Int := match o with | some i => (i : Int) | none => -1
theorem c52 {a : Option Addr} {c : Nat} {rs : List Er} {fv : Value} {p : Er → Bool} (hr : Rd w a (rowV rs)) (hl : rs.length ≤ 140737488355328)
    (hp : ∀ e ∈ rs, ∀ w', Same w w' → callV Try.prog fv #[.slice e.a e.l.length e.c] w' (.one (.one .bool)) fun r w2 => r = .bool (p e) ∧ Same w' w2) :
    Calls Try.prog 52 #[.slice a rs.length c, fv] w (rt fun v w' => v = .int .i64 (idxV (rs.findIdx? p)) ∧ Same w w') := by
  refine F52_ok ?_
  unfold F52
  simp only [rdC_mk]
  have loop : ∀ (i j : Nat) (w1 : World) (k : Nat) (K0 : World → Prop) (Kr : Value → World → Prop), j + i = rs.length → (∀ e ∈ rs.take j, p e = false) → Same w w1 → i < k →
      (rs.findIdx? p = none → ∀ w', Same w w' → K0 w') → (∀ j : Nat, rs.findIdx? p = some j → ∀ w', Same w w' → Kr (.int .i64 (j : Int)) w') →
      F52_1 K0 Kr k (.slice a rs.length c) fv (.int .i64 (rs.length : Int)) (.int .i64 (j : Int)) w1 := by
    intro i
    induction i with
    | zero =>
      intro j w1 k K0 Kr hj hf hs hk h0 h1
      obtain ⟨k, rfl⟩ : ∃ j, k = j + 1 := ⟨k - 1, by omega⟩
      show F52_1B _ _ _ _ _ _ _ _
      unfold F52_1B
      simp only [rdC_mk, rdI_mk, br_dec]
      refine ⟨fun hlt => by exfalso; omega, fun _ => h0 ?_ _ hs⟩
      rw [List.take_of_length_le (by omega)] at hf
      exact List.findIdx?_eq_none_iff.2 hf
    | succ i ih =>
      intro j w1 k K0 Kr hj hf hs hk h0 h1
      obtain ⟨k, rfl⟩ : ∃ j, k = j + 1 := ⟨k - 1, by omega⟩
      show F52_1B _ _ _ _ _ _ _ _
      unfold F52_1B
      simp only [rdC_mk, rdI_mk, br_dec]
      refine ⟨fun _ => ?_, fun hlt => by exfalso; omega⟩
      obtain ⟨e, he⟩ : ∃ e, rs[j]? = some e := ⟨rs[j]'(by omega), by simp⟩
      have hr1 := hr.fr hs fun _ _ x => x
      obtain ⟨ad, ha⟩ := hr1.some (by rw [rowV_length]; omega)
      rw [ha] at hr1 ⊢
      refine ixS_to rfl (by omega) ?_
      rw [Nat.mul_one]
      refine ldC_c (hr1.at (rowV_at he)) (callV_mono ?_ (hp e (List.mem_of_getElem? he) w1 hs))
      rintro _ w6 ⟨rfl, s6⟩
      refine ⟨_, rfl, ?_⟩
      have hs6 := hs.trans s6 fun _ _ x => x
      rw [br_iff]
      refine ⟨fun hb => h1 j ?_ _ hs6, fun hb => ?_⟩
      · rw [List.findIdx?_eq_some_iff_getElem]
        refine ⟨by omega, ?_, fun j' hj' => ?_⟩
        · have : rs[j] = e := by
            have := List.getElem?_eq_some_iff.1 he
            exact this.2
          rw [this]; exact hb
        · have := hf rs[j'] (by rw [List.mem_take_iff_getElem]; exact ⟨j', by omega, rfl⟩)
          rw [this]; simp
      · have e1 : IntKind.wrap .i64 ((j : Int) + 1) = ((j + 1 : Nat) : Int) := by rw [wrap_i64 (by omega) (by omega)]; omega
        rw [e1, ← ha]
        refine ih (j + 1) w6 k K0 Kr (by omega) (fun e' he' => ?_) hs6 (by omega) h0 h1
        rw [List.take_add_one, he] at he'
        rcases List.mem_append.1 he' with h | h
        · exact hf e' h
        · simp at h; subst h; exact hb
  refine ⟨rs.length + 1, loop rs.length 0 w _ _ _ (by omega) (by simp) (Fr.refl w) (by omega) (fun hn w' hs _g => ?_) fun j hj w' hs _g => ?_⟩
  · rw [hn]; exact ⟨by first | rfl | trivial, hs⟩
  · simp only [rdI_mk]
    rw [hj]; exact ⟨by first | rfl | trivial, hs⟩
theorem rowV_take (rs : List Er) (n : Nat) : (rowV rs).take n = rowV (rs.take n) := by unfold rowV; rw [List.map_take]
theorem rowV_drop (rs : List Er) (n : Nat) : (rowV rs).drop n = rowV (rs.drop n) := by unfold rowV; rw [List.map_drop]
theorem rowV_append (a b : List Er) : rowV (a ++ b) = rowV a ++ rowV b := by unfold rowV; rw [List.map_append]
theorem c54 {base : Nat} {a : Option Addr} {rs : List Er} {c i : Nat} (h : Own w base 33 1 a rs.length c (rowV rs)) (hi : i < rs.length) (hm : rs.length ≤ 140737488355328) :
    Calls Try.prog 54 #[.slice a rs.length c, .int .i64 (i : Int), .int .i64 ((i + 1 : Nat) : Int)] w (rt fun v w' => v = .slice a (rs.length - 1) c ∧ Own w' base 33 1 a (rs.length - 1) c (rowV (rs.eraseIdx i)) ∧ Fr (inB a) w w') := by
  obtain ⟨ad, rfl⟩ := h.rd.some (by rw [rowV_length]; omega)
  have hle := h.le
  refine F54_ok ?_
  unfold F54
  simp only [rdC_mk, rdI_mk]
  refine slice3 E68 (m := rs.length) (by omega) (by omega) hle ?_
  have e0 : ((i : Int) == ((i + 1 : Nat) : Int)) = false := by rw [beq_eq_false_iff_ne]; omega
  rw [e0, br_false]
  unfold drw
  have f0 : Same w w.drew := (Fr.refl w).drew
  have h0 := h.fr f0 fun _ _ x => x
  refine slS_hi (by omega) (slS_lo (by omega) ?_)
  obtain ⟨b, hb, hrd⟩ := h0.tail (j := i + 1) (by omega)
  rw [hb]
  have hcut := h0.cut (n := i) (by omega)
  rw [Nat.mul_one, rowV_take] at hcut
  rw [Nat.mul_one, rowV_drop] at hrd
  obtain ⟨w1, hr1, o1, f1⟩ := append_room_own (ty := 68) (d := c - (i + 1)) E68 hcut (m := rs.length - (i + 1)) (by rw [rowV_length, List.length_drop, Nat.mul_one]) hrd (rowV_one _) (by omega)
  refine ⟨_, _, _, _, hr1, ?_⟩
  have el : i + (rs.length - (i + 1)) = rs.length - 1 := by omega
  rw [el] at o1 ⊢
  refine slS_lh (by omega) hle ?_
  have hc : (if c = rs.length - 1 then some ad else (some ad).map (·.add ((rs.length - 1) * 1))) = some (ad.add ((rs.length - 1) * 1)) := by rw [if_neg (by omega)]; rfl
  rw [hc]
  have e1 : rs.length - (rs.length - 1) = 1 := by omega
  rw [e1]
  obtain ⟨w2, hr2, o2, f2⟩ := clear_own (ty := 0) (m := 1) (d := c - (rs.length - 1)) E68 (by simp [Value.cells, Value.oneCell']) o1 (by omega)
  refine ⟨w2, hr2, by first | rfl | trivial, ?_, ?_⟩
  · rw [List.eraseIdx_eq_take_drop_succ, rowV_append]
    exact o2
  · exact ((f0.mono (S' := inB (some ad)) fun _ _ x => x.elim).trans f1 fun _ _ x => x).trans f2 fun _ _ x => x
theorem run_b0 (w : World) : Sem.run Try.prog (Instr.buildSlice 22 0 #[]) w = .ok (.slice (some ⟨w.heap.size, 0, none⟩) 0 0) (w.alloc (.cells #[] 5)) := by kernel_rfl
theorem c27 {a : Option Addr} {bs : List Int} {c : Nat} (hr : Rd w a (inV .u8 bs)) (hl : bs.length ≤ 140737488355328) : Calls Try.prog 27 #[.slice a bs.length c] w (rt fun v w' => ∃ a' c', v = .slice a' bs.length c' ∧ Own w' w.heap.size 5 1 a' bs.length c' (inV .u8 bs) ∧ Same w w') := by
  refine F27_ok ?_
  unfold F27
  simp only [rdC_mk]
  cases a with
  | none =>
    have : bs = [] := by
      cases bs with
      | nil => rfl
      | cons x r => obtain ⟨ad, e⟩ := hr.some (by simp [inV]); cases e
    subst this
    simp only [Option.isNone_none, br_true]
    exact ⟨none, 0, rfl, Own.nil _ _ _ _, Fr.refl w⟩
  | some ad =>
    simp only [Option.isNone_some, br_false]
    refine ⟨_, _, _, _, run_b0 w, ?_⟩
    have f1 : Same w (w.alloc (.cells #[] 5)) := (Fr.refl w).alloc _
    have o1 : Own (w.alloc (.cells #[] 5)) w.heap.size 5 1 (some ⟨w.heap.size, 0, none⟩) 0 0 [] := ⟨rfl, .inr ⟨_, 0, #[], rfl, Nat.le_refl _, alloc_new _ _, Nat.le_refl _, Nat.zero_le _, rfl, rfl⟩⟩
    obtain ⟨a', l', c', w', hrun, rfl, ho, hf, _⟩ := append_own (ty := 22) E22 o1 (b := ad) (m := bs.length) (d := c) (news := inV .u8 bs) (by simp [inV_length]) (hr.fr f1 fun _ _ x => x) (inV_one _ bs) (by omega) (by omega) (by simp)
    refine ⟨_, _, _, _, hrun, a', c', by simp, ?_, ?_⟩
    · simpa using ho
    · exact ((f1.mono (S' := fun k => w.heap.size ≤ k) fun _ _ x => x.elim).trans hf fun i _ x => (o1.base_le x).1).mono fun i hi x => by omega
end
end Go.Proofs.Ytaflmpbeonoilaa
