/- Own text: part of the shallow reading of the code and of the contracts that are proved over it. -/
import Derived.Test.YtjcigidbnpmeaaaDoorSpU
namespace Go.Proofs.YtjcigidbnpmeaaaDoor
open Go Go.Sh Go.Sp

/-! the document's set -/
noncomputable def E54i : TypeInfo := (Tryd.prog.info? 3).getD default
theorem E54 : ElemT Tryd.prog 54 3 1 8 (.int .i64 0) E54i := ⟨by kernel_rfl, by kernel_rfl, by kernel_rfl, by kernel_rfl, by kernel_rfl, rfl, by decide⟩
def atV (S : List Nat) : List Value := S.map fun (d : Nat) => Value.int .i64 (d : Int)
theorem atV_length (S : List Nat) : (atV S).length = S.length := by simp [atV]
theorem atV_at {S : List Nat} {j d : Nat} (h : S[j]? = some d) : (atV S)[j]? = some (.int .i64 (d : Int)) := by simp [atV, h]
theorem atV_snoc (S : List Nat) (d : Nat) : atV (S ++ [d]) = atV S ++ [.int .i64 (d : Int)] := by simp [atV]
/-- the document's set: its block, its row -/
structure RefR (w : World) (b : Nat) (a : Option Addr) (cum : Int) (S : List Nat) : Prop where
  blk : ∃ c, w.heap[b]? = some (.cells #[.int .u32 cum, .slice a S.length c] 56 (0, 0)) ∧ Own w (b + 1) 3 1 a S.length c (atV S)
  rising : S.Pairwise (· < ·)
  rng : ∀ d ∈ S, 2 ≤ d ∧ d ≤ 65535
  c0 : 0 ≤ cum
  c1 : cum < 4294967296
theorem RefR.fr {w w' : World} {b : Nat} {a : Option Addr} {cum : Int} {S : List Nat} {X : Nat → Prop} (h : RefR w b a cum S) (hf : Fr X w w') (hb : ¬ X b) (ha : ∀ k, inB a k → ¬ X k) : RefR w' b a cum S := by
  obtain ⟨c, h1, h2⟩ := h.blk
  exact ⟨⟨c, hf.blk h1 hb, h2.fr hf ha⟩, h.rising, h.rng, h.c0, h.c1⟩
theorem RefR.same {w w' : World} {b : Nat} {a : Option Addr} {cum : Int} {S : List Nat} (h : RefR w b a cum S) (hf : Same w w') : RefR w' b a cum S := h.fr hf (fun x => x) fun _ _ x => x
theorem RefR.len {w : World} {b : Nat} {a : Option Addr} {cum : Int} {S : List Nat} (h : RefR w b a cum S) : S.length ≤ 65534 := by
  have := rising_length h.rising (a := 2) (b := 65536) (fun d hd => by have := h.rng d hd; omega)
  omega
theorem RefR.blt {w : World} {b : Nat} {a : Option Addr} {cum : Int} {S : List Nat} (h : RefR w b a cum S) : b < w.heap.size := by obtain ⟨c, h1, _⟩ := h.blk; exact lt_of_blk h1
theorem RefR.alt {w : World} {b k : Nat} {a : Option Addr} {cum : Int} {S : List Nat} (h : RefR w b a cum S) (hk : inB a k) : b < k ∧ k < w.heap.size := by obtain ⟨c, _, h2⟩ := h.blk; exact h2.base_le hk
theorem r24 {cum : Int} (h0 : 0 ≤ cum) (h1 : cum < 4294967296) (w : World) : Calls Tryd.prog 24 #[.int .u32 cum] w (rt fun v w' => v = .pointer (some ⟨w.heap.size, 0, none⟩) ∧ RefR w' w.heap.size none cum [] ∧ Same w w') := by
  refine F24_ok ?_
  unfold F24 alc
  simp only [rdI_mk]
  exact ⟨trivial, ⟨⟨0, alloc_new _ _, Own.nil _ _ _ _⟩, by simp, by simp, h0, h1⟩, (Fr.refl w).alloc _⟩
section
variable {w : World} {b : Nat} {a : Option Addr} {cum : Int} {S : List Nat}
theorem r50_loop (h : RefR w b a cum S) {d : Int} {K0 : World → Prop} {Kr : Value → World → Prop} : ∀ (i j : Nat) (k : Nat), j + i = S.length → (∀ e ∈ S.take j, (e : Int) ≠ d) → i < k → ((∀ e ∈ S, (e : Int) ≠ d) → K0 w) → ((∃ e ∈ S, (e : Int) = d) → Kr (.bool true) w) →
    F50_1 K0 Kr k (.pointer (some ⟨b, 0, none⟩)) (.int .i64 d) (.int .i64 (j : Int)) w := by
  obtain ⟨c, h1, h2⟩ := h.blk
  have hlen := h.len
  intro i
  induction i with
  | zero =>
    intro j k hj hn hk k0 kr
    obtain ⟨k, rfl⟩ : ∃ j, k = j + 1 := ⟨k - 1, by omega⟩
    show F50_1B _ _ _ _ _ _ _
    unfold F50_1B
    simp only [rdP_mk, rdI_mk, nn_some, add_mk]
    refine ldC_at h1 rfl ?_
    simp only [br_dec]
    refine ⟨fun h => by exfalso; omega, fun _ => k0 ?_⟩
    rwa [List.take_of_length_le (by omega)] at hn
  | succ i ih =>
    intro j k hj hn hk k0 kr
    obtain ⟨k, rfl⟩ : ∃ j, k = j + 1 := ⟨k - 1, by omega⟩
    show F50_1B _ _ _ _ _ _ _
    unfold F50_1B
    simp only [rdP_mk, rdI_mk, nn_some, add_mk]
    refine ldC_at h1 rfl ?_
    simp only [br_dec]
    refine ⟨fun _ => ldC_at h1 rfl ?_, fun h => by exfalso; omega⟩
    obtain ⟨x, hx⟩ : ∃ x, S[j]? = some x := ⟨S[j]'(by omega), by simp⟩
    obtain ⟨ad, rfl⟩ := h2.rd.some (by rw [atV_length]; omega)
    refine ixS_of (by omega) (by omega) ?_
    simp only [Int.toNat_natCast, Nat.mul_one]
    refine ldI_c (h2.rd.at (atV_at hx)) ?_
    by_cases hxd : (x : Int) = d
    · have : ((x : Int) == d) = true := by simp [hxd]
      rw [this, br_true]
      exact kr ⟨x, List.mem_of_getElem? hx, hxd⟩
    · have : ((x : Int) == d) = false := by simp [hxd]
      rw [this, br_false]
      have e1 : IntKind.wrap .i64 ((j : Int) + 1) = ((j + 1 : Nat) : Int) := by rw [wrap_i64 (by omega) (by omega)]; omega
      rw [e1]
      refine ih (j + 1) k (by omega) (fun e he => ?_) (by omega) k0 kr
      rw [List.take_add_one, hx] at he
      simp only [List.mem_append, Option.toList_some, List.mem_singleton] at he
      rcases he with he | rfl
      · exact hn e he
      · exact hxd
theorem r50 (h : RefR w b a cum S) (d : Int) : Calls Tryd.prog 50 #[.pointer (some ⟨b, 0, none⟩), .int .i64 d] w (rt (KR (.bool (decide (∃ e ∈ S, (e : Int) = d))) w)) := by
  refine F50_ok ?_
  unfold F50
  simp only [rdP_mk, rdI_mk]
  refine ⟨S.length + 1, r50_loop h S.length 0 _ (by omega) (by simp) (by omega) (fun hn _g => ?_) fun hy _g => ?_⟩
  · rw [decide_eq_false (fun ⟨e, he, h⟩ => hn e he h)]; exact KR.mk _ _
  · simp only [rdB_mk]
    rw [decide_eq_true hy]; exact KR.mk _ _
theorem r30 (h : RefR w b a cum S) {t : Int} (h0 : 0 ≤ t) (h1 : t < 4294967296) : Calls Tryd.prog 30 #[.pointer (some ⟨b, 0, none⟩), .int .u32 t] w (rt (KR (.bool (hasS cum S t)) w)) := by
  obtain ⟨c, k1, k2⟩ := h.blk
  refine F30_ok ?_
  unfold F30
  simp only [rdP_mk, rdI_mk, nn_some, add_mk]
  refine ldI_at k1 rfl (clr (c19 _ _ _ h.c0 h.c1 h0 h1) ⟨_, rfl, ?_⟩)
  simp only [br_dec]
  refine ⟨fun hd => ?_, fun hd => clr (r50 h _) ⟨_, rfl, ?_⟩⟩
  · have : hasS cum S t = true := by simp [hasS, hd]
    rw [this]; exact KR.mk _ _
  · have : hasS cum S t = decide (∃ e ∈ S, (e : Int) = sd cum t) := by
      unfold hasS
      rw [decide_eq_false hd, Bool.false_or, decide_eq_decide]
      constructor
      · exact fun hm => ⟨_, hm, by omega⟩
      · rintro ⟨e, he, hs⟩
        rw [← hs]; simpa using he
    rw [this]; exact KR.mk _ _
theorem r40 (h : RefR w b a cum S) : Calls Tryd.prog 40 #[.pointer (some ⟨b, 0, none⟩)] w (rt fun v w' => v = .int .u32 (highS cum S) ∧ Same w w') := by
  obtain ⟨c, k1, k2⟩ := h.blk
  have hlen := h.len
  have hc0 := h.c0
  have hc1 := h.c1
  refine F40_ok ?_
  unfold F40 drw
  simp only [rdP_mk, nn_some, add_mk]
  refine ldC_at k1 rfl ?_
  by_cases hS : S.length = 0
  · have e : ((S.length : Int) == 0) = true := by simp [hS]
    rw [e, br_true]
    refine ldI_at k1 rfl ⟨?_, Fr.refl w⟩
    have : S = [] := List.eq_nil_of_length_eq_zero hS
    subst this
    have : highS cum [] = cum := by simp [highS]; omega
    rw [this]
  · have e : ((S.length : Int) == 0) = false := by simp; intro e; subst e; simp at hS
    rw [e, br_false]
    refine ldI_at (w := w.drew) k1 rfl (ldC_at (w := w.drew) k1 rfl (ldC_at (w := w.drew) k1 rfl ?_))
    have f0 : Same w w.drew := (Fr.refl w).drew
    have e1 : IntKind.wrap .i64 ((S.length : Int) - 1) = ((S.length - 1 : Nat) : Int) := by rw [wrap_i64 (by omega) (by omega)]; omega
    rw [e1]
    have hr := Rd.same k2.rd f0
    obtain ⟨ad, rfl⟩ := hr.some (by rw [atV_length]; omega)
    obtain ⟨x, hx⟩ : ∃ x, S[S.length - 1]? = some x := ⟨S[S.length - 1]'(by omega), by simp⟩
    refine ixS_of (by omega) (by omega) ?_
    simp only [Int.toNat_natCast, Nat.mul_one]
    refine ldI_c (hr.at (atV_at hx)) ?_
    have hxr := h.rng x (List.mem_of_getElem? hx)
    rw [wrap_u32 (n := (x : Int)) (by omega) (by omega)]
    refine clr (c25 _ _ _ hc0 hc1 (by omega) (by omega)) ⟨_, rfl, ?_, f0⟩
    have : S.getLastD 0 = x := by rw [List.getLastD_eq_getLast?, List.getLast?_eq_getElem?, hx]; rfl
    rw [highS, this]
theorem r41_loop {w0 : World} (h : RefR w0 b a cum S) {K0 : Value → World → Prop} : ∀ (i j : Nat) (w : World) (k : Nat) (a' : Option Addr) (l c' : Nat), j + i = S.length → Same w0 w → Own w w0.heap.size 22 1 a' l c' (numV cum (S.take j)) → i < k →
    (∀ w' a' c', Same w0 w' → Own w' w0.heap.size 22 1 a' S.length c' (numV cum S) → K0 (.slice a' S.length c') w') →
    F41_1 K0 k (.pointer (some ⟨b, 0, none⟩)) (.slice a' l c') (.int .i64 (j : Int)) w := by
  have hlen := h.len
  have hc0 := h.c0
  have hc1 := h.c1
  intro i
  induction i with
  | zero =>
    intro j w k a' l c' hj hf ho hk hK
    obtain ⟨k, rfl⟩ : ∃ j, k = j + 1 := ⟨k - 1, by omega⟩
    obtain ⟨c, k1, k2⟩ := (h.same hf).blk
    show F41_1B _ _ _ _ _ _
    unfold F41_1B
    simp only [rdP_mk, rdI_mk, rdC_mk, nn_some, add_mk]
    refine ldC_at k1 rfl ?_
    simp only [br_dec]
    refine ⟨fun h => by exfalso; omega, fun _ => ?_⟩
    rw [List.take_of_length_le (by omega)] at ho
    have : l = S.length := by have := ho.length; simp [numV] at this; omega
    subst this
    exact hK w a' c' hf ho
  | succ i ih =>
    intro j w k a' l c' hj hf ho hk hK
    obtain ⟨k, rfl⟩ : ∃ j, k = j + 1 := ⟨k - 1, by omega⟩
    obtain ⟨c, k1, k2⟩ := (h.same hf).blk
    show F41_1B _ _ _ _ _ _
    unfold F41_1B drw alc
    simp only [rdP_mk, rdI_mk, rdC_mk, nn_some, add_mk]
    refine ldC_at k1 rfl ?_
    simp only [br_dec]
    refine ⟨fun _ => ldI_at (w := w.drew) k1 rfl (ldC_at (w := w.drew) k1 rfl ?_), fun h => by exfalso; omega⟩
    have f0 : Same w w.drew := (Fr.refl w).drew
    have g0 : Same w0 w.drew := hf.drew
    obtain ⟨x, hx⟩ : ∃ x, S[j]? = some x := ⟨S[j]'(by omega), by simp⟩
    have hxr := h.rng x (List.mem_of_getElem? hx)
    have hr := Rd.same k2.rd f0
    obtain ⟨ad, rfl⟩ := hr.some (by rw [atV_length]; omega)
    refine ixS_of (by omega) (by omega) ?_
    simp only [Int.toNat_natCast, Nat.mul_one]
    refine ldI_c (hr.at (atV_at hx)) ?_
    rw [wrap_u32 (n := (x : Int)) (by omega) (by omega)]
    refine clr (c25 _ _ _ hc0 hc1 (by omega) (by omega)) ⟨_, rfl, ?_⟩
    have hl : l = j := by have := ho.length; simp [numV] at this; omega
    refine push E30 (ho.fr f0 fun _ _ x => x) (news := #[_]) rfl (by simp [Value.oneCell']) (by omega) (by omega) g0.size ?_
    intro a2 c2 w2 q1 q2 q3
    have e1 : IntKind.wrap .i64 ((j : Int) + 1) = ((j + 1 : Nat) : Int) := by rw [wrap_i64 (by omega) (by omega)]; omega
    rw [e1]
    refine ih (j + 1) w2 k a2 (l + 1) c2 (by omega) ?_ ?_ (by omega) hK
    · exact ((g0.mono (S' := fun k => w0.heap.size ≤ k) fun _ _ x => x.elim).trans q2 fun i _ x => (ho.base_le x).1).mono fun i hi x => by omega
    · rw [List.take_add_one, hx]
      simp only [Option.toList_some]
      rw [numV_snoc]
      exact q1
theorem r41 (h : RefR w b a cum S) : Calls Tryd.prog 41 #[.pointer (some ⟨b, 0, none⟩)] w (rt fun v w' => ∃ a c, v = .slice a S.length c ∧ Own w' w.heap.size 22 1 a S.length c (numV cum S) ∧ Same w w') := by
  refine F41_ok ?_
  unfold F41
  simp only [rdP_mk]
  refine ⟨S.length + 1, r41_loop h S.length 0 w _ none 0 0 (by omega) (Fr.refl w) (by simpa [numV] using Own.nil _ _ _ _) (by omega) fun w' a' c' hf ho _g => ?_⟩
  simp only [rdC_mk]
  exact ⟨a', c', rfl, ho, hf⟩
theorem c17 {m rb : Nat} {ra : Option Addr} (ht : TB w) (h : SetR w b m cum S) (hr : RefR w rb ra cum S) :
    Calls Tryd.prog 17 #[.pointer (some ⟨b, 0, none⟩), .pointer (some ⟨rb, 0, none⟩)] w (rt fun v w' => v = .bool true ∧ Same w w') := by
  obtain ⟨c, k1, k2⟩ := hr.blk
  refine F17_ok ?_
  unfold F17 drw
  simp only [rdP_mk, nn_some, add_mk]
  have f0 : Same w w.drew := (Fr.refl w).drew
  have h0 := h.same f0
  have r0 := hr.same f0
  refine ldI_at (w := w.drew) k1 rfl (clr (c10 h0) ⟨_, rfl, Pres.refl _, ?_⟩)
  simp only [beq_self_eq_true, br_true]
  refine ldC_at (w := w.drew) k1 rfl (clr (c34 h0) ⟨_, rfl, Pres.refl _, ?_⟩)
  simp only [beq_self_eq_true, br_true]
  refine cl (c20 (ht.fr f0 fun x => x) h0) ?_
  rintro _ w1 ⟨rfl, f1⟩
  refine ⟨_, rfl, ?_⟩
  have g1 : Same w w1 := f0.trans f1 fun _ _ x => x
  refine cl (r40 (hr.same g1)) ?_
  rintro _ w2 ⟨rfl, f2⟩
  refine ⟨_, rfl, ?_⟩
  have g2 : Same w w2 := g1.trans f2 fun _ _ x => x
  simp only [beq_self_eq_true, br_true]
  refine cl (c12 (ht.fr g2 fun x => x) (h.same g2)) ?_
  rintro _ w4 ⟨a4, c4, rfl, o4, f4⟩
  refine ⟨_, _, _, rfl, ?_⟩
  have g4 : Same w w4 := g2.trans f4 fun _ _ x => x
  refine cl (r41 (hr.same g4)) ?_
  rintro _ w5 ⟨a5, c5, rfl, o5, f5⟩
  refine ⟨_, _, _, rfl, ?_⟩
  have g5 : Same w w5 := g4.trans f5 fun _ _ x => x
  have r4 := Rd.same o4.rd f5
  have r5 := o5.rd
  rw [numV_nums] at r4 r5
  have := c11 (d1 := c4) (d2 := c5) r4 r5 (by rw [nums_length]; have := h.len; omega)
  rw [nums_length] at this
  refine cl this ?_
  rintro _ w6 ⟨rfl, f6⟩
  refine ⟨_, rfl, by simp, g5.trans f6 fun _ _ x => x⟩
end
end Go.Proofs.YtjcigidbnpmeaaaDoor
