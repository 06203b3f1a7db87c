/-
  What is told of the kept chunks: sums, the first of a kind, copies.
-/
import Derived.Test.YtmliokbonkndaaaObA
import Derived.Test.YtmliokbonkndaaaShU
namespace Go.Proofs.Ytmliokbonkndaaa
open Go Go.Sh
section
variable {W w : World} {L M : List HP} {bb : Nat} {n cum : Int} {a : Option Addr} {c : Nat} {es : List (Nat × En)} {b : Nat} {e : En}
theorem run_b0 (w : World) : Sem.run Try.prog (Instr.buildSlice 23 0 #[]) w = .ok (.slice (some ⟨w.heap.size, 0, none⟩) 0 0) (w.alloc (.cells #[] 5)) := by kernel_rfl
theorem c56 {a : Option Addr} {bs : List Int} {c : Nat} (hr : Rd w a (byV bs)) (hl : bs.length ≤ 70000) : Calls Try.prog 56 #[.slice a bs.length c] w (rt fun v w' => ∃ a' c', v = .slice a' bs.length c' ∧ Own w' w.heap.size 5 1 a' bs.length c' (byV bs) ∧ Same w w') := by
  refine F56_ok ?_
  unfold F56
  simp only [rdC_mk]
  cases a with
  | none =>
    have : bs = [] := by
      cases bs with
      | nil => rfl
      | cons x r => obtain ⟨ad, e⟩ := hr.some (by simp [byV]); cases e
    subst this
    simp only [Option.isNone_none, br_true]
    exact ⟨none, 0, rfl, Own.nil _ _ _ _, Fr.refl w⟩
  | some ad =>
    simp only [Option.isNone_some, br_false]
    refine ⟨_, _, _, _, run_b0 w, ?_⟩
    have f1 : Same w (w.alloc (.cells #[] 5)) := (Fr.refl w).alloc _
    have o1 : Own (w.alloc (.cells #[] 5)) w.heap.size 5 1 (some ⟨w.heap.size, 0, none⟩) 0 0 [] := ⟨rfl, .inr ⟨_, 0, #[], rfl, Nat.le_refl _, alloc_new _ _, Nat.le_refl _, Nat.zero_le _, rfl, rfl⟩⟩
    obtain ⟨a', l', c', w', hrun, rfl, ho, hf, _⟩ := append_own (ty := 23) E23 o1 (b := ad) (m := bs.length) (d := c) (news := byV bs) (by simp [byV_length]) (hr.fr f1 fun _ _ x => x) (byV_one bs) (by omega) (by omega) (by simp)
    refine ⟨_, _, _, _, hrun, a', c', by simp, ?_, ?_⟩
    · simpa using ho
    · exact ((f1.mono (S' := fun k => w.heap.size ≤ k) fun _ _ x => x.elim).trans hf fun i _ x => (o1.base_le x).1).mono fun i hi x => by omega
/-- a chunk's value: what it is, its data where they are -/
theorem c30 {da : Option Addr} {dc : Nat} (hr : Rd w da (byV e.data)) (hl : e.data.length ≤ 70000) : Calls Try.prog 30 #[(e.r da dc).v] w (rt fun v w' => ∃ a c, v = (e.r a c).v ∧ Own w' w.heap.size 5 1 a e.data.length c (byV e.data) ∧ Same w w') := by
  refine F30_ok ?_
  unfold F30
  refine exR57_of (e.r da dc) ⟨rfl, ?_⟩
  refine (Hs.start w).alc fun b2 w3 h3 => h3.alc fun b4 w5 h5 => ?_
  simp only [add_mk]
  refine h5.ldC 1 rfl rfl ?_
  refine cl (c56 (h5.rd_old hr) hl) ?_
  rintro _ w7 ⟨a, c, rfl, ho, hs⟩
  refine ⟨_, _, _, rfl, ?_⟩
  have h7 := h5.own_new hs ho
  refine h7.stc 2 rfl (by simp [R57.c]) fun w8 h8 => ?_
  have h8 : Hs w [slP 5 1 a e.data.length c (byV e.data), pt b4 (.cells R57.z.c 58 (0, 0)), pt b2 (.cells (e.r a c).c 58 (0, 0))] w8 := h8
  refine ldR57_of (s := e.r a c) (h8.atL 2 rfl) ?_
  refine h8.stcL 1 rfl rfl fun w9 h9 => ?_
  refine ldR57_of (s := e.r a c) (h9.atL 1 rfl) ?_
  exact ⟨a, c, rfl, h9.own 0 rfl, h9.old⟩
theorem c38_none (w : World) : Calls Try.prog 38 #[.pointer none] w (rt fun v w' => v = .tuple #[R57.z.v, .bool false] ∧ Same w w') := by
  refine F38_ok ?_
  unfold F38
  simp only [rdP_mk]
  refine (Hs.start w).alc fun b w1 h1 => ?_
  simp only [Option.isNone_none, br_true]
  refine h1.stcL 0 rfl rfl fun w2 h2 => ?_
  refine ldR57_of (s := R57.z) (h2.atL 0 rfl) ⟨rfl, h2.old⟩
theorem c38_some (h : RE w b e) (hl : e.data.length ≤ 70000) : Calls Try.prog 38 #[.pointer (some ⟨b, 0, none⟩)] w (rt fun v w' => (∃ a c, v = .tuple #[(e.r a c).v, .bool true] ∧ Own w' w.heap.size 5 1 a e.data.length c (byV e.data)) ∧ Same w w') := by
  refine F38_ok ?_
  unfold F38
  simp only [rdP_mk]
  refine (Hs.start w).alc fun g w1 h1 => ?_
  simp only [Option.isNone_some, br_false, nn_some, add_mk]
  obtain ⟨da, dc, hb, hr, _⟩ := h.same h1.old
  refine ldR57_of (s := e.r da dc) (At.blk hb) ?_
  refine cl (c30 hr hl) ?_
  rintro _ w2 ⟨a, c, rfl, ho, hs⟩
  refine exR57_of (e.r a c) ⟨rfl, ?_⟩
  have h2 := h1.own_new hs ho
  refine h2.stcL 1 rfl rfl fun w3 h3 => ?_
  refine ldR57_of (s := e.r a c) (h3.atL 1 rfl) ⟨⟨a, c, rfl, h3.own 0 rfl⟩, h3.old⟩
/-! the first of a kind; sums -/
theorem c63 {fv : Value} {q : En → Bool} (hr : Rd w a (ptrV es)) (hl : es.length ≤ 281474976710656) (he : ∀ p ∈ es, RE w p.1 p.2) (hq : IsP w fv q) :
    Calls Try.prog 63 #[.slice a es.length c, fv] w (rt fun v w' => Same w w' ∧ ((v = .int .i64 (-1) ∧ es.find? (fun p => q p.2) = none) ∨ ∃ (i : Nat) (p : Nat × En), v = .int .i64 (i : Int) ∧ es[i]? = some p ∧ es.find? (fun p => q p.2) = some p)) := by
  refine F63_ok ?_
  unfold F63
  simp only [rdC_mk]
  have loop : ∀ (i j : Nat) (w1 : World) (k : Nat) (K0 : World → Prop) (Kr : Value → World → Prop), j + i = es.length → Same w w1 → (∀ k < j, ∀ p, es[k]? = some p → q p.2 = false) → i < k →
      (∀ w', Same w w' → es.find? (fun p => q p.2) = none → K0 w') → (∀ w' (m : Nat) p, Same w w' → es[m]? = some p → es.find? (fun p => q p.2) = some p → Kr (.int .i64 (m : Int)) w') →
      F63_1 K0 Kr k (.slice a es.length c) fv (.int .i64 (es.length : Int)) (.int .i64 (j : Int)) w1 := by
    intro i
    induction i with
    | zero =>
      intro j w1 k K0 Kr hj hs hno hk hK0 hKr
      obtain ⟨k, rfl⟩ : ∃ j, k = j + 1 := ⟨k - 1, by omega⟩
      show F63_1B _ _ _ _ _ _ _ _
      unfold F63_1B
      simp only [rdC_mk, rdI_mk, br_dec]
      refine ⟨fun h => by exfalso; omega, fun _ => hK0 w1 hs ?_⟩
      rw [List.find?_eq_none]
      intro p hp
      obtain ⟨k, hk⟩ := List.getElem?_of_mem hp
      have hlt := (List.getElem?_eq_some_iff.1 hk).1
      rw [hno k (by omega) p hk]; simp
    | succ i ih =>
      intro j w1 k K0 Kr hj hs hno hk hK0 hKr
      obtain ⟨k, rfl⟩ : ∃ j, k = j + 1 := ⟨k - 1, by omega⟩
      show F63_1B _ _ _ _ _ _ _ _
      unfold F63_1B
      simp only [rdC_mk, rdI_mk, br_dec]
      refine ⟨fun _ => ?_, fun h => by exfalso; omega⟩
      obtain ⟨p, hp⟩ : ∃ p, es[j]? = some p := ⟨es[j]'(by omega), by simp⟩
      have hr1 : Rd w1 a (ptrV es) := hr.fr hs fun _ _ x => x
      obtain ⟨ad, rfl⟩ := hr1.some (by rw [ptrV_length]; omega)
      refine ixS_of (by omega) (by omega) ?_
      rw [Int.toNat_natCast, Nat.mul_one]
      refine ldP_c (hr1.at (ptrV_at hp)) ?_
      refine callV_mono ?_ (hq w1 p.1 p.2 hs ((he p (List.mem_of_getElem? hp)).same hs))
      rintro _ w2 ⟨rfl, s2⟩
      refine ⟨_, rfl, ?_⟩
      have s3 : Same w w2 := hs.trans s2 fun _ _ x => x
      rw [br_iff]
      refine ⟨fun hb => hKr w2 j p s3 hp ?_, fun hb => ?_⟩
      · rw [List.find?_eq_some_iff_getElem]
        refine ⟨hb, j, by omega, (List.getElem?_eq_some_iff.1 hp).2, fun m hm => ?_⟩
        rw [hno m hm es[m] (by simp)]
        rfl
      · have e1 : IntKind.wrap .i64 ((j : Int) + 1) = ((j + 1 : Nat) : Int) := by rw [wrap_i64 (by omega) (by omega)]; omega
        rw [e1]
        refine ih (j + 1) w2 k K0 Kr (by omega) s3 (fun m hm p' hp' => ?_) (by omega) hK0 hKr
        rcases Nat.lt_succ_iff_lt_or_eq.1 hm with h | rfl
        · exact hno m h p' hp'
        · rw [hp] at hp'; cases hp'; exact hb
  refine ⟨es.length + 1, loop es.length 0 w _ _ _ (by omega) (Fr.refl w) (by simp) (by omega) (fun w' s hf _g => ⟨s, .inl ⟨trivial, hf⟩⟩) fun w' m p s hp hf _g => ?_⟩
  simp only [rdI_mk]
  exact ⟨s, .inr ⟨m, p, rfl, hp, hf⟩⟩
theorem c39 {fv : Value} {q : En → Bool} (h : RB w bb n cum es) (hn : 1 ≤ n) (hl : es.length ≤ 281474976710656) (hq : IsP w fv q) :
    Calls Try.prog 39 #[.pointer (some ⟨bb, 0, none⟩), fv] w (rt fun v w' => Same w w' ∧ v = .pointer ((es.find? fun p => q p.2).map fun p => ⟨p.1, 0, none⟩)) := by
  refine F39_ok ?_
  unfold F39
  simp only [rdP_mk]
  refine clr (c31 h hn) ⟨_, rfl, ?_⟩
  rw [Bool.not_true, br_false]
  simp only [nn_some, add_mk]
  obtain ⟨⟨a, c, h1, hr, _⟩, he⟩ := h
  refine ldC_at h1 rfl ?_
  refine cl (c63 hr hl he hq) ?_
  rintro _ w1 ⟨s, hv⟩
  have hr1 : Rd w1 a (ptrV es) := hr.fr s fun _ _ x => x
  have hb1 := s.blk h1 fun x => x
  rcases hv with ⟨rfl, hf⟩ | ⟨i, p, rfl, hp, hf⟩
  · refine ⟨_, rfl, ?_⟩
    rw [show decide ((-1 : Int) < 0) = true from rfl, br_true, hf]
    exact ⟨s, rfl⟩
  · refine ⟨_, rfl, ?_⟩
    rw [show decide ((i : Int) < 0) = false by simp, br_false, hf]
    refine ldC_at hb1 rfl ?_
    have hlt := (List.getElem?_eq_some_iff.1 hp).1
    obtain ⟨ad, rfl⟩ := hr1.some (by rw [ptrV_length]; omega)
    refine ixS_of (by omega) (by omega) ?_
    rw [Int.toNat_natCast, Nat.mul_one]
    exact ldP_c (hr1.at (ptrV_at hp)) ⟨s, rfl⟩
/-- the bytes of all of a kind -/
def szs (q : En → Bool) (l : List En) : Nat := ((l.filter q).map fun e => e.data.length).sum
theorem szs_cons (q : En → Bool) (e : En) (l : List En) : szs q (e :: l) = (if q e = true then e.data.length else 0) + szs q l := by
  unfold szs
  by_cases h : q e = true
  · rw [List.filter_cons_of_pos h, if_pos h]; simp
  · rw [List.filter_cons_of_neg h, if_neg h]; simp
theorem szs_le {q : En → Bool} : ∀ {l : List En}, (∀ e ∈ l, e.data.length ≤ 70000) → szs q l ≤ l.length * 70000
  | [], _ => by simp [szs]
  | e :: l, h => by
    rw [szs_cons]
    have h1 := h e List.mem_cons_self
    have h2 := szs_le (q := q) fun x hx => h x (List.mem_cons_of_mem e hx)
    rw [List.length_cons]
    split <;> omega
theorem c53 {fv : Value} {q : En → Bool} (h : RB w bb n cum es) (hn : 1 ≤ n) (hl : es.length ≤ 1048576) (hd : ∀ e ∈ dats es, e.data.length ≤ 70000) (hq : IsP w fv q) :
    Calls Try.prog 53 #[.pointer (some ⟨bb, 0, none⟩), fv] w (rt fun v w' => Same w w' ∧ v = .int .i64 (szs q (dats es) : Int)) := by
  refine F53_ok ?_
  unfold F53
  simp only [rdP_mk]
  refine clr (c31 h hn) ⟨_, rfl, ?_⟩
  rw [br_true]
  simp only [nn_some, add_mk]
  obtain ⟨⟨a, c, h1, hr, _⟩, he⟩ := h
  refine ldC_at h1 rfl ?_
  have loop : ∀ (l : List (Nat × En)) (j : Nat) (s : Nat) (w1 : World) (k : Nat) (K0 : Value → World → Prop), es.drop j = l → j + l.length = es.length → s ≤ j * 70000 → Same w w1 → l.length < k →
      (∀ w', Same w w' → K0 (.int .i64 ((s + szs q (dats l) : Nat) : Int)) w') →
      F53_1 K0 k fv (.int .i64 (s : Int)) (.slice a es.length c) (.int .i64 (es.length : Int)) (.int .i64 (j : Int)) w1 := by
    intro l
    induction l with
    | nil =>
      intro j s w1 k K0 hd hj hs hw hk hK
      obtain ⟨k, rfl⟩ : ∃ j, k = j + 1 := ⟨k - 1, by omega⟩
      show F53_1B _ _ _ _ _ _ _ _
      unfold F53_1B
      simp only [rdC_mk, rdI_mk, br_dec]
      refine ⟨fun h => by exfalso; simp at hj; omega, fun _ => ?_⟩
      have := hK w1 hw
      simpa [dats, szs] using this
    | cons p l ih =>
      intro j s w1 k K0 hdr hj hs hw hk hK
      obtain ⟨k, rfl⟩ : ∃ j, k = j + 1 := ⟨k - 1, by omega⟩
      show F53_1B _ _ _ _ _ _ _ _
      unfold F53_1B
      simp only [rdC_mk, rdI_mk, br_dec]
      simp only [List.length_cons] at hj hk
      refine ⟨fun _ => ?_, fun h => by exfalso; omega⟩
      have hp : es[j]? = some p := by rw [← List.head?_drop, hdr]; rfl
      have hmem := List.mem_of_getElem? hp
      have hr1 : Rd w1 a (ptrV es) := hr.fr hw fun _ _ x => x
      obtain ⟨ad, rfl⟩ := hr1.some (by rw [ptrV_length]; omega)
      refine ixS_of (by omega) (by omega) ?_
      rw [Int.toNat_natCast, Nat.mul_one]
      refine ldP_c (hr1.at (ptrV_at hp)) ?_
      refine callV_mono ?_ (hq w1 p.1 p.2 hw ((he p hmem).same hw))
      rintro _ w2 ⟨rfl, s2⟩
      refine ⟨_, rfl, ?_⟩
      have s3 : Same w w2 := hw.trans s2 fun _ _ x => x
      have e1 : IntKind.wrap .i64 ((j : Int) + 1) = ((j + 1 : Nat) : Int) := by rw [wrap_i64 (by omega) (by omega)]; omega
      have hdl := hd p.2 (by unfold dats; exact List.mem_map.2 ⟨p, hmem, rfl⟩)
      have hdr' : es.drop (j + 1) = l := by rw [← List.drop_drop, hdr]; rfl
      rw [e1, br_iff]
      refine ⟨fun hb => ?_, fun hb => ?_⟩
      · refine clr (c60 ((he p hmem).same s3)) ⟨_, rfl, ?_⟩
        have e2 : IntKind.wrap .i64 ((s : Int) + (p.2.data.length : Int)) = ((s + p.2.data.length : Nat) : Int) := by rw [wrap_i64 (by omega) (by omega)]; omega
        rw [e2]
        refine ih (j + 1) _ w2 k K0 hdr' (by omega) (by omega) s3 (by omega) fun w' hs' => ?_
        have := hK w' hs'
        rw [show dats (p :: l) = p.2 :: dats l from rfl, szs_cons, if_pos hb] at this
        rwa [Nat.add_assoc]
      · refine ih (j + 1) s w2 k K0 hdr' (by omega) (Nat.le_trans hs (Nat.mul_le_mul_right 70000 (Nat.le_succ j))) s3 (by omega) fun w' hs' => ?_
        have := hK w' hs'
        rw [show dats (p :: l) = p.2 :: dats l from rfl, szs_cons, if_neg (by rw [hb]; simp)] at this
        rwa [Nat.zero_add] at this
  refine ⟨es.length + 1, loop es 0 0 w _ _ rfl (by omega) (by omega) (Fr.refl w) (by omega) fun w' s _g => ?_⟩
  simp only [rdI_mk]
  rw [Nat.zero_add]
  exact ⟨s, rfl⟩
theorem c27 (h : RB w bb n cum es) (hn : 1 ≤ n) (hl : es.length ≤ 1048576) (hd : ∀ e ∈ dats es, e.data.length ≤ 70000) (p : Int) :
    Calls Try.prog 27 #[.pointer (some ⟨bb, 0, none⟩), .int .i64 p] w (rt fun v w' => Same w w' ∧ v = .int .i64 (szs (onB p) (dats es) : Int)) := by
  refine F27_ok ?_
  unfold F27
  simp only [rdP_mk, rdI_mk]
  refine cl (c40 p w) ?_
  rintro v w1 ⟨hq, s1⟩
  refine ⟨v, rfl, ?_⟩
  refine cl (c53 (h.same s1) hn hl hd hq) ?_
  rintro _ w2 ⟨s2, rfl⟩
  exact ⟨_, rfl, s1.trans s2 fun _ _ x => x, rfl⟩
theorem c28 (h : RB w bb n cum es) (hn : 1 ≤ n) (hl : es.length ≤ 1048576) (hd : ∀ e ∈ dats es, e.data.length ≤ 70000) :
    Calls Try.prog 28 #[.pointer (some ⟨bb, 0, none⟩)] w (rt fun v w' => Same w w' ∧ v = .int .i64 (szs flyB (dats es) : Int)) := by
  refine F28_ok ?_
  unfold F28
  simp only [rdP_mk]
  refine cl (c53 h hn hl hd (is_flying w)) ?_
  rintro _ w2 ⟨s2, rfl⟩
  exact ⟨_, rfl, s2, rfl⟩
theorem find_dats {q : En → Bool} : ∀ (es : List (Nat × En)), (es.find? fun p => q p.2).map (·.2) = (dats es).find? q
  | [] => rfl
  | p :: es => by
    rw [show dats (p :: es) = p.2 :: dats es from rfl, List.find?_cons, List.find?_cons]
    cases q p.2 with
    | true => rfl
    | false => exact find_dats es
/-- a chunk that was asked for, or none -/
def oneS (B : Nat) (w' : World) (o : Option En) (s : R57) (b : Bool) : Prop :=
  match o with
  | none => s = R57.z ∧ b = false
  | some e => b = true ∧ ∃ a c, s = e.r a c ∧ Own w' B 5 1 a e.data.length c (byV e.data)
theorem oneS.same {B B' : Nat} {w w' : World} {o : Option En} {s : R57} {b : Bool} (h : oneS B w o s b) (hs : Same w w') (hB : B' ≤ B) : oneS B' w' o s b := by
  cases o with
  | none => exact h
  | some e =>
    obtain ⟨h1, a, c, h2, h3⟩ := h
    exact ⟨h1, a, c, h2, (h3.fr hs fun _ _ x => x).mono hB⟩
theorem c38 {o : Option (Nat × En)} (ho : ∀ p, o = some p → RE w p.1 p.2 ∧ p.2.data.length ≤ 70000) :
    Calls Try.prog 38 #[.pointer (o.map fun p => ⟨p.1, 0, none⟩)] w (rt fun v w' => ∃ s b, v = .tuple #[s.v, .bool b] ∧ oneS w.heap.size w' (o.map (·.2)) s b ∧ Same w w') := by
  cases o with
  | none =>
    refine rt_mono (c38_none w) ?_
    rintro v w' ⟨hv, s⟩
    exact ⟨_, _, hv, ⟨rfl, rfl⟩, s⟩
  | some p =>
    obtain ⟨h1, h2⟩ := ho p rfl
    refine rt_mono (c38_some h1 h2) ?_
    rintro v w' ⟨⟨a, c, hv, hx⟩, s⟩
    exact ⟨_, _, hv, ⟨rfl, a, c, rfl, hx⟩, s⟩
theorem find_re {q : En → Bool} (h : RB w bb n cum es) (hd : ∀ e ∈ dats es, e.data.length ≤ 70000) : ∀ p, (es.find? fun p => q p.2) = some p → RE w p.1 p.2 ∧ p.2.data.length ≤ 70000 := by
  intro p hf
  have hm := List.mem_of_find?_eq_some hf
  exact ⟨h.ent p hm, hd p.2 (by unfold dats; exact List.mem_map.2 ⟨p, hm, rfl⟩)⟩
end
end Go.Proofs.Ytmliokbonkndaaa
namespace Go.Sh
open Go
/-- a fact that rests on some blocks alone -/
def on (f : List Nat) (P : World → Prop) : HP := fun x => f.Nodup ∧ (∀ k, x k ≠ none ↔ k ∈ f) ∧ ∀ w, ag x w → P w
section
variable {W w : World} {L M : List HP} {A B : HP} {f g : List Nat} {P Q : World → Prop}
theorem Dm.on : Dm (Sh.on f P) f := fun _ hx => ⟨hx.1, hx.2.1⟩
theorem Bu.on (hn : f.Nodup) (hb : ∀ k ∈ f, k < w.heap.size) (hl : ∀ w', (∀ k ∈ f, w'.heap[k]? = w.heap[k]?) → P w') : Bu w (Sh.on f P) := by
  refine ⟨fun k => if k ∈ f then w.heap[k]? else none, ⟨hn, fun k => ?_, fun w' a => hl w' fun k hk => ?_⟩, fun k o e => ?_⟩
  · constructor
    · intro h
      rcases Classical.em (k ∈ f) with h' | h'
      · exact h'
      · exact absurd (if_neg h') h
    · intro h
      show (if k ∈ f then w.heap[k]? else none) ≠ none
      rw [if_pos h]
      simp [hb k h]
  · have e : w.heap[k]? = some (w.heap[k]'(hb k hk)) := by simp [hb k hk]
    rw [e]
    exact a k _ (by show (if k ∈ f then w.heap[k]? else none) = _; rw [if_pos hk, e])
  · have e : (if k ∈ f then w.heap[k]? else none) = some o := e
    split at e
    · exact e
    · cases e
theorem Hs.got (h : Hs W L w) (i : Nat) (hi : L[i]? = some (Sh.on f P)) : P w := by
  obtain ⟨x, hx, a, _⟩ := h.look hi
  exact hx.2.2 w a
theorem Hs.on_low (h : Hs W L w) (i : Nat) (hi : L[i]? = some (Sh.on f P)) : ∀ k ∈ f, W.heap.size ≤ k ∧ k < w.heap.size := by
  obtain ⟨x, hx, a, lo⟩ := h.look hi
  intro k hk
  have := (hx.2.1 k).2 hk
  exact ⟨lo k this, ag_lt a this⟩
/-- it turns, at its place -/
theorem Hs.turn_at {w' : World} (h : Hs W L w) (i : Nat) (hi : L[i]? = some A) (d1 : Dm A f) (hf : Fr (· ∈ f) w w') (hb : Bu w' B) (d2 : Dm B g) (hg : ∀ k ∈ g, k ∈ f ∨ w.heap.size ≤ k) : Hs W (L.set i B) w' :=
  ((h.focus hi).turn d1 hf hb d2 hg).unfocus (List.getElem?_eq_some_iff.1 hi).1
theorem Hs.on_turn {w' : World} (h : Hs W L w) (i : Nat) (hi : L[i]? = some (Sh.on f P)) (hf : Fr (· ∈ f) w w') (hn : g.Nodup) (hb : ∀ k ∈ g, k < w'.heap.size) (hl : ∀ w2, (∀ k ∈ g, w2.heap[k]? = w'.heap[k]?) → Q w2) (hg : ∀ k ∈ g, k ∈ f ∨ w.heap.size ≤ k) : Hs W (L.set i (Sh.on g Q)) w' :=
  h.turn_at i hi Dm.on hf (Bu.on hn hb hl) Dm.on hg
/-- two lists of parts change their places -/
theorem Hs.flip {X Y : List HP} : Hs W (X ++ (Y ++ L)) w ↔ Hs W (Y ++ (X ++ L)) w := by
  have p : ∀ (X Y : List HP), (X ++ (Y ++ L)).Perm (Y ++ (X ++ L)) := fun X Y => by
    rw [← List.append_assoc, ← List.append_assoc]
    exact List.Perm.append_right L List.perm_append_comm
  exact ⟨fun h => h.perm (p X Y), fun h => h.perm (p Y X)⟩
theorem Hs.cast (h : Hs W L w) (e : L = M) : Hs W M w := e ▸ h
end
/-! a map of ints, owned -/
section
variable {W w : World} {L : List HP} {kk kv kd : IntKind} {m : Nat} {f : Int → Option Int} {P : Program} {T kt et : TypeId} {k v : Int}
def mapP (kk kv : IntKind) (m : Nat) (f : Int → Option Int) : HP := on [m] fun w => MapI kk kv w m f
theorem mapP_of {w : World} (h : MapI kk kv w m f) : Bu w (mapP kk kv m f) := Bu.on (by simp) (by simpa using h.lt) fun _ h' => h.of_blk (h' m (by simp))
theorem Hs.map (h : Hs W L w) (i : Nat) (hi : L[i]? = some (mapP kk kv m f)) : MapI kk kv w m f := h.got i hi
theorem Hs.map_turn {w' : World} {f' : Int → Option Int} (h : Hs W L w) (i : Nat) (hi : L[i]? = some (mapP kk kv m f)) (hf : Fr (· = m) w w') (hm : MapI kk kv w' m f') : Hs W (L.set i (mapP kk kv m f')) w' :=
  h.turn_at i hi Dm.on (hf.mono fun k _ e => by simp [e]) (mapP_of hm) Dm.on fun k hk => .inl hk
theorem Hs.map_new (h : Hs W L w) (kk kv : IntKind) : Hs W (mapP kk kv w.heap.size (fun _ => none) :: L) (w.alloc (.map #[] 0)) :=
  h.build ((Fr.refl w).alloc _) (mapP_of (MapI.new kk kv w)) Dm.on fun k hk => by simp at hk; omega
end
end Go.Sh
