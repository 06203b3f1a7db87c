/-
  Rows that wait: the first whose turn it is, one less; copies; a message is taken.
-/
import Derived.Test.YtaflmpbeonoilaaRmG
namespace Go.Proofs.Ytaflmpbeonoilaa
open Go Go.Sh
section
variable {W w : World} {L M : List HP} {tb mc mf : Nat} {hd : Int} {d : TD} {s : St} {es : List Ec} {F : List Int}
def idxV (o : Option Nat) : Int := match o with | some i => (i : Int) | none => -1
theorem c52 {a : Option Addr} {c : Nat} {rs : List Er} {fv : Value} {p : Er → Bool} (hr : Rd w a (rowV rs)) (hl : rs.length ≤ 140737488355328)
    (hp : ∀ e ∈ rs, ∀ w', Same w w' → callV Try.prog fv #[.slice e.a e.l.length e.c] w' (.one (.one .bool)) fun r w2 => r = .bool (p e) ∧ Same w' w2) :
    Calls Try.prog 52 #[.slice a rs.length c, fv] w (rt fun v w' => v = .int .i64 (idxV (rs.findIdx? p)) ∧ Same w w') := by
  refine F52_ok ?_
  unfold F52
  simp only [rdC_mk]
  have loop : ∀ (i j : Nat) (w1 : World) (k : Nat) (K0 : World → Prop) (Kr : Value → World → Prop), j + i = rs.length → (∀ e ∈ rs.take j, p e = false) → Same w w1 → i < k →
      (rs.findIdx? p = none → ∀ w', Same w w' → K0 w') → (∀ j : Nat, rs.findIdx? p = some j → ∀ w', Same w w' → Kr (.int .i64 (j : Int)) w') →
      F52_1 K0 Kr k (.slice a rs.length c) fv (.int .i64 (rs.length : Int)) (.int .i64 (j : Int)) w1 := by
    intro i
    induction i with
    | zero =>
      intro j w1 k K0 Kr hj hf hs hk h0 h1
      obtain ⟨k, rfl⟩ : ∃ j, k = j + 1 := ⟨k - 1, by omega⟩
      show F52_1B _ _ _ _ _ _ _ _
      unfold F52_1B
      simp only [rdC_mk, rdI_mk, br_dec]
      refine ⟨fun hlt => by exfalso; omega, fun _ => h0 ?_ _ hs⟩
      rw [List.take_of_length_le (by omega)] at hf
      exact List.findIdx?_eq_none_iff.2 hf
    | succ i ih =>
      intro j w1 k K0 Kr hj hf hs hk h0 h1
      obtain ⟨k, rfl⟩ : ∃ j, k = j + 1 := ⟨k - 1, by omega⟩
      show F52_1B _ _ _ _ _ _ _ _
      unfold F52_1B
      simp only [rdC_mk, rdI_mk, br_dec]
      refine ⟨fun _ => ?_, fun hlt => by exfalso; omega⟩
      obtain ⟨e, he⟩ : ∃ e, rs[j]? = some e := ⟨rs[j]'(by omega), by simp⟩
      have hr1 := hr.fr hs fun _ _ x => x
      obtain ⟨ad, ha⟩ := hr1.some (by rw [rowV_length]; omega)
      rw [ha] at hr1 ⊢
      refine ixS_to rfl (by omega) ?_
      rw [Nat.mul_one]
      refine ldC_c (hr1.at (rowV_at he)) (callV_mono ?_ (hp e (List.mem_of_getElem? he) w1 hs))
      rintro _ w6 ⟨rfl, s6⟩
      refine ⟨_, rfl, ?_⟩
      have hs6 := hs.trans s6 fun _ _ x => x
      rw [br_iff]
      refine ⟨fun hb => h1 j ?_ _ hs6, fun hb => ?_⟩
      · rw [List.findIdx?_eq_some_iff_getElem]
        refine ⟨by omega, ?_, fun j' hj' => ?_⟩
        · have : rs[j] = e := by
            have := List.getElem?_eq_some_iff.1 he
            exact this.2
          rw [this]; exact hb
        · have := hf rs[j'] (by rw [List.mem_take_iff_getElem]; exact ⟨j', by omega, rfl⟩)
          rw [this]; simp
      · have e1 : IntKind.wrap .i64 ((j : Int) + 1) = ((j + 1 : Nat) : Int) := by rw [wrap_i64 (by omega) (by omega)]; omega
        rw [e1, ← ha]
        refine ih (j + 1) w6 k K0 Kr (by omega) (fun e' he' => ?_) hs6 (by omega) h0 h1
        rw [List.take_add_one, he] at he'
        rcases List.mem_append.1 he' with h | h
        · exact hf e' h
        · simp at h; subst h; exact hb
  refine ⟨rs.length + 1, loop rs.length 0 w _ _ _ (by omega) (by simp) (Fr.refl w) (by omega) (fun hn w' hs _g => ?_) fun j hj w' hs _g => ?_⟩
  · rw [hn]; exact ⟨by first | rfl | trivial, hs⟩
  · simp only [rdI_mk]
    rw [hj]; exact ⟨by first | rfl | trivial, hs⟩
theorem rowV_take (rs : List Er) (n : Nat) : (rowV rs).take n = rowV (rs.take n) := by unfold rowV; rw [List.map_take]
theorem rowV_drop (rs : List Er) (n : Nat) : (rowV rs).drop n = rowV (rs.drop n) := by unfold rowV; rw [List.map_drop]
theorem rowV_append (a b : List Er) : rowV (a ++ b) = rowV a ++ rowV b := by unfold rowV; rw [List.map_append]
theorem c54 {base : Nat} {a : Option Addr} {rs : List Er} {c i : Nat} (h : Own w base 33 1 a rs.length c (rowV rs)) (hi : i < rs.length) (hm : rs.length ≤ 140737488355328) :
    Calls Try.prog 54 #[.slice a rs.length c, .int .i64 (i : Int), .int .i64 ((i + 1 : Nat) : Int)] w (rt fun v w' => v = .slice a (rs.length - 1) c ∧ Own w' base 33 1 a (rs.length - 1) c (rowV (rs.eraseIdx i)) ∧ Fr (inB a) w w') := by
  obtain ⟨ad, rfl⟩ := h.rd.some (by rw [rowV_length]; omega)
  have hle := h.le
  refine F54_ok ?_
  unfold F54
  simp only [rdC_mk, rdI_mk]
  refine slice3 E68 (m := rs.length) (by omega) (by omega) hle ?_
  have e0 : ((i : Int) == ((i + 1 : Nat) : Int)) = false := by rw [beq_eq_false_iff_ne]; omega
  rw [e0, br_false]
  unfold drw
  have f0 : Same w w.drew := (Fr.refl w).drew
  have h0 := h.fr f0 fun _ _ x => x
  refine slS_hi (by omega) (slS_lo (by omega) ?_)
  obtain ⟨b, hb, hrd⟩ := h0.tail (j := i + 1) (by omega)
  rw [hb]
  have hcut := h0.cut (n := i) (by omega)
  rw [Nat.mul_one, rowV_take] at hcut
  rw [Nat.mul_one, rowV_drop] at hrd
  obtain ⟨w1, hr1, o1, f1⟩ := append_room_own (ty := 68) (d := c - (i + 1)) E68 hcut (m := rs.length - (i + 1)) (by rw [rowV_length, List.length_drop, Nat.mul_one]) hrd (rowV_one _) (by omega)
  refine ⟨_, _, _, _, hr1, ?_⟩
  have el : i + (rs.length - (i + 1)) = rs.length - 1 := by omega
  rw [el] at o1 ⊢
  refine slS_lh (by omega) hle ?_
  have hc : (if c = rs.length - 1 then some ad else (some ad).map (·.add ((rs.length - 1) * 1))) = some (ad.add ((rs.length - 1) * 1)) := by rw [if_neg (by omega)]; rfl
  rw [hc]
  have e1 : rs.length - (rs.length - 1) = 1 := by omega
  rw [e1]
  obtain ⟨w2, hr2, o2, f2⟩ := clear_own (ty := 0) (m := 1) (d := c - (rs.length - 1)) E68 (by simp [Value.cells, Value.oneCell']) o1 (by omega)
  refine ⟨w2, hr2, by first | rfl | trivial, ?_, ?_⟩
  · rw [List.eraseIdx_eq_take_drop_succ, rowV_append]
    exact o2
  · exact ((f0.mono (S' := inB (some ad)) fun _ _ x => x.elim).trans f1 fun _ _ x => x).trans f2 fun _ _ x => x
theorem run_b0 (w : World) : Sem.run Try.prog (Instr.buildSlice 22 0 #[]) w = .ok (.slice (some ⟨w.heap.size, 0, none⟩) 0 0) (w.alloc (.cells #[] 5)) := by kernel_rfl
theorem c27 {a : Option Addr} {bs : List Int} {c : Nat} (hr : Rd w a (inV .u8 bs)) (hl : bs.length ≤ 140737488355328) : Calls Try.prog 27 #[.slice a bs.length c] w (rt fun v w' => ∃ a' c', v = .slice a' bs.length c' ∧ Own w' w.heap.size 5 1 a' bs.length c' (inV .u8 bs) ∧ Same w w') := by
  refine F27_ok ?_
  unfold F27
  simp only [rdC_mk]
  cases a with
  | none =>
    have : bs = [] := by
      cases bs with
      | nil => rfl
      | cons x r => obtain ⟨ad, e⟩ := hr.some (by simp [inV]); cases e
    subst this
    simp only [Option.isNone_none, br_true]
    exact ⟨none, 0, rfl, Own.nil _ _ _ _, Fr.refl w⟩
  | some ad =>
    simp only [Option.isNone_some, br_false]
    refine ⟨_, _, _, _, run_b0 w, ?_⟩
    have f1 : Same w (w.alloc (.cells #[] 5)) := (Fr.refl w).alloc _
    have o1 : Own (w.alloc (.cells #[] 5)) w.heap.size 5 1 (some ⟨w.heap.size, 0, none⟩) 0 0 [] := ⟨rfl, .inr ⟨_, 0, #[], rfl, Nat.le_refl _, alloc_new _ _, Nat.le_refl _, Nat.zero_le _, rfl, rfl⟩⟩
    obtain ⟨a', l', c', w', hrun, rfl, ho, hf, _⟩ := append_own (ty := 22) E22 o1 (b := ad) (m := bs.length) (d := c) (news := inV .u8 bs) (by simp [inV_length]) (hr.fr f1 fun _ _ x => x) (inV_one _ bs) (by omega) (by omega) (by simp)
    refine ⟨_, _, _, _, hrun, a', c', by simp, ?_, ?_⟩
    · simpa using ho
    · exact ((f1.mono (S' := fun k => w.heap.size ≤ k) fun _ _ x => x.elim).trans hf fun i _ x => (o1.base_le x).1).mono fun i hi x => by omega
end
end Go.Proofs.Ytaflmpbeonoilaa
namespace Go.Proofs.Ytaflmpbeonoilaa
open Go Go.Sh
section
variable {W w : World} {L M : List HP} {tb mc mf : Nat} {hd : Int} {d : TD} {s : St} {es : List Ec} {F : List Int}
theorem c13_none (hi : Is d s) (hM : s.M = []) (h : Hs W (tabL tb hd d s ++ L) w) : Calls Try.prog 13 #[.pointer (some ⟨tb, 0, none⟩)] w (rt fun v w' => v = .tuple #[R38.z.v, .bool false] ∧ Hs W (tabL tb hd d s ++ L) w') := by
  have hms : d.ms = [] := by
    have := hi.M
    rw [hM] at this
    exact List.map_eq_nil_iff.1 this
  refine F13_ok ?_
  unfold F13
  simp only [rdP_mk]
  refine h.alc fun b2 w3 h3 => ?_
  refine clr (c24t h3.drop) ⟨_, rfl, ?_⟩
  simp only [Bool.not_true, br_false, nn_some, add_mk]
  refine h3.ldC 1 rfl rfl ?_
  have e0 : ((d.ms.length : Int) == 0) = true := by rw [hms]; rfl
  rw [e0, br_true]
  refine h3.stcL 0 rfl rfl fun w11 h11 => ?_
  refine ldR38_of (s := R38.z) (h11.atL 0 rfl) ⟨by first | rfl | trivial, h11.drop⟩
theorem c13 {m : Ms} {r : List Ms} (hi : Is d s) (hM : s.M = m :: r) (hb : 0 ≤ hd ∧ hd ≤ 4294967296 ∧ m.d.length ≤ 4294967296) (h : Hs W (tabL tb hd d s ++ L) w) : Calls Try.prog 13 #[.pointer (some ⟨tb, 0, none⟩)] w (rt fun v w' => ∃ a c, v = .tuple #[(m.rc a c).v, .bool true] ∧ ∃ d', Is d' { s with M := r } ∧ Hs W (slP 5 1 a m.d.length c (inV .u8 m.d) :: (tabL tb (hd - m.d.length) d' { s with M := r } ++ L)) w') := by
  obtain ⟨e0, ms', hms, he0, hr0⟩ : ∃ e0 ms', d.ms = e0 :: ms' ∧ e0.m = m ∧ ms'.map Em.m = r := by
    have := hi.M
    rw [hM] at this
    cases hd : d.ms with
    | nil => rw [hd] at this; cases this
    | cons e0 ms' =>
      rw [hd] at this
      simp only [List.map_cons, List.cons.injEq] at this
      exact ⟨e0, ms', rfl, this.1, this.2⟩
  subst he0
  refine F13_ok ?_
  unfold F13
  simp only [rdP_mk]
  refine h.alc fun b2 w3 h3 => ?_
  refine clr (c24t h3.drop) ⟨_, rfl, ?_⟩
  simp only [Bool.not_true, br_false, nn_some, add_mk]
  refine h3.ldC 1 rfl rfl ?_
  have e1 : ((d.ms.length : Int) == 0) = false := by rw [hms, beq_eq_false_iff_ne]; simp; omega
  rw [e1, br_false]
  unfold F13_1
  simp only [rdP_mk, rdA_mk, nn_some, add_mk]
  refine h3.ldC 1 rfl rfl ?_
  have hrd := h3.rdO 6 rfl
  have hl := h3.lenO 6 rfl
  obtain ⟨ad, hra⟩ := hrd.some (by rw [msV_length, hms]; simp)
  have hrd' : Rd w3 (some ad) (msV d.ms) := by rw [← hra]; exact hrd
  have hlt : 0 < d.ms.length := by rw [hms]; simp
  have eix : ∀ {K : Addr → Prop}, K (ad.add (0 * 5)) → ixS 5 d.ra d.ms.length 0 K := by
    intro K hk
    rw [hra]
    exact ixS_to (p := 0) rfl hlt hk
  refine eix ?_
  refine ldR38_of (s := e0.rc) (hrd'.atI (f := fun e : Em => e.rc.l) (m := 5) (i := 0) (fun _ => rfl) (by rw [hms]; rfl)) ?_
  refine h3.alc fun b7 w8 h8 => ?_
  refine h8.stcL 0 rfl rfl fun w9 h9 => ?_
  refine h9.ldC 2 rfl rfl ?_
  refine slS_lo (j := 1) (show 1 ≤ d.ms.length by omega) ?_
  have h9 : Hs W (pt b7 (.cells e0.rc.c 39 (0, 0)) :: pt b2 (.cells R38.z.c 39 (0, 0)) :: (tabL tb hd d s ++ L)) w9 := h9
  have h10 := h9.cutO 7 rfl (j := 1) (by omega)
  refine h10.stc 2 rfl (by simp [tabC, R69.c]) fun w14 h14 => ?_
  refine h14.drw fun w15 h15 => ?_
  refine h15.ldI 2 rfl rfl (h15.ldC 0 rfl rfl ?_)
  refine h15.stc 2 rfl (by simp [tabC, R69.c]) fun w20 h20 => ?_
  refine ldR38_of (s := e0.rc) (h20.atL 0 rfl) ?_
  refine h20.stcL 1 rfl rfl fun w22 h22 _g => ?_
  simp only [rdB_mk]
  refine ldR38_of (s := e0.rc) (h22.atL 1 rfl) ?_
  refine ⟨e0.a, e0.c, by first | rfl | trivial, ?_⟩
  have hsub : IntKind.wrap .i64 (hd - (e0.m.d.length : Int)) = hd - (e0.m.d.length : Int) := wrap_i64 (by omega) (by omega)
  have el : d.ms.length - 1 = ms'.length := by rw [hms]; simp
  have ev : (msV d.ms).drop (1 * 5) = msV ms' := by rw [hms]; rfl
  obtain ⟨ra', hra'⟩ : ∃ ra', ra' = (if d.rc = 1 then d.ra else d.ra.map (·.add (1 * 5))) := ⟨_, rfl⟩
  rw [el, ev, ← hra'] at h22
  have h23 := h22.drop.drop
  refine ⟨{ d with ms := ms', ra := ra', rc := d.rc - 1 }, ⟨hi.L, hi.wh, hr0⟩, ?_⟩
  have h24 := h23.big_out 8 (l := d.ms) (F := datP) (k := 0) (x := e0) rfl (by rw [hms]; rfl)
  have ee : d.ms.eraseIdx 0 = ms' := by rw [hms]; rfl
  rw [ee] at h24
  show Hs W (slP 5 1 e0.a e0.m.d.length e0.c (inV .u8 e0.m.d) :: _) w22
  rw [← hsub]
  exact h24
end
end Go.Proofs.Ytaflmpbeonoilaa
