/- Own text: part of the shallow reading of the code and of the contracts that are proved over it. -/
import Derived.Test.YtjcigidbnpmeaaaDoorSqB
namespace Go.Proofs.YtjcigidbnpmeaaaDoor
open Go Go.Sh Go.Sp

/-! the law SpansRuns -/
structure OpI where
  kind : Int
  at_ : Int
  n : Int
def opC (o : OpI) : List Value := [Value.int .i64 o.kind, Value.int .u32 o.at_, Value.int .i64 o.n]
def opV (O : List OpI) : List Value := O.flatMap opC
theorem opV_at {O : List OpI} {j : Nat} {o : OpI} (h : O[j]? = some o) : (opV O)[j * 3]? = some (.int .i64 o.kind) ∧ (opV O)[j * 3 + 1]? = some (.int .u32 o.at_) ∧ (opV O)[j * 3 + 2]? = some (.int .i64 o.n) := by
  induction O generalizing j with
  | nil => simp at h
  | cons p O ih =>
    have h2 : opV (p :: O) = Value.int .i64 p.kind :: Value.int .u32 p.at_ :: Value.int .i64 p.n :: opV O := rfl
    rw [h2]
    cases j with
    | zero => simp at h; subst h; exact ⟨rfl, rfl, rfl⟩
    | succ j =>
      have := ih (j := j) (by simpa using h)
      rw [show (j + 1) * 3 = j * 3 + 1 + 1 + 1 by omega]
      exact this
theorem opV_length (O : List OpI) : (opV O).length = O.length * 3 := by
  induction O with
  | nil => rfl
  | cons p O ih => simp [opV, opC] at ih ⊢; omega
/-- the two sets, side by side -/
structure Pr (w0 : World) (b m rb : Nat) (ra : Option Addr) (cum : Int) (S : List Nat) (w : World) : Prop where
  set : SetR w b m cum S
  ref : RefR w rb ra cum S
  ne : rb ≠ b ∧ rb ≠ m
  na : ∀ k, inB ra k → k ≠ b ∧ k ≠ m
  nb : w0.heap.size ≤ b
  nm : w0.heap.size ≤ m
  nr : w0.heap.size ≤ rb
  fr : Same w0 w
theorem Pr.same {w0 w w' : World} {b m rb : Nat} {ra : Option Addr} {cum : Int} {S : List Nat} (h : Pr w0 b m rb ra cum S w) (hf : Same w w') : Pr w0 b m rb ra cum S w' :=
  ⟨h.set.same hf, h.ref.same hf, h.ne, h.na, h.nb, h.nm, h.nr, h.fr.trans hf fun _ _ x => x⟩
/-- each of the two has turned: first the program's, then the document's -/
theorem Pr.both {w0 w w1 w2 : World} {b m m' rb : Nat} {ra ra' : Option Addr} {cum cum' : Int} {S S' : List Nat} (h : Pr w0 b m rb ra cum S w) (hs : SetR w1 b m' cum' S') (hm : m' = m ∨ w.heap.size ≤ m') (h1 : Fr (Bm b m) w w1)
    (hr : RefR w2 rb ra' cum' S') (ha : ra' = ra ∨ ∀ k, inB ra' k → w1.heap.size ≤ k) (h2 : Fr (· = rb) w1 w2) : Pr w0 b m' rb ra' cum' S' w2 := by
  have hrb := h.ref.blt
  have hbl := hs.blt
  have hml := hs.mlt
  have hne : rb ≠ m' := by rcases hm with rfl | hm; exact h.ne.2; omega
  have hsz := h.fr.size
  refine ⟨hs.fr h2 (fun x => h.ne.1 x.symm) (fun x => hne x.symm), hr, ⟨h.ne.1, hne⟩, fun k hk => ?_, h.nb, SetR.bm h.nb h.nm hm hsz, h.nr, ?_⟩
  · rcases ha with rfl | ha
    · have h3 := h.na k hk
      have h4 := (h.ref.alt hk).2
      refine ⟨h3.1, ?_⟩
      rcases hm with rfl | hm
      · exact h3.2
      · omega
    · have := ha k hk; omega
  · exact ((h.fr.mono (S' := fun k => w0.heap.size ≤ k) fun _ _ x => x.elim).trans (h1.mono (S' := fun k => w0.heap.size ≤ k) fun i _ x => by rcases x with rfl | rfl; exact h.nb; exact h.nm) (fun _ _ x => x) |>.trans h2 fun i _ (x : i = rb) => by rw [x]; exact h.nr).mono fun i hi x => by omega
theorem Pr.ref1 {w0 w w1 : World} {b m rb : Nat} {ra : Option Addr} {cum : Int} {S : List Nat} (h : Pr w0 b m rb ra cum S w) (h1 : Fr (Bm b m) w w1) : RefR w1 rb ra cum S :=
  h.ref.fr h1 (by rintro (x | x); exact h.ne.1 x; exact h.ne.2 x) fun k hk => by rintro (x | x); exact (h.na k hk).1 x; exact (h.na k hk).2 x
section
variable {b rb : Nat} {O : List OpI} {a : Option Addr} {cc : Nat} {n : Int}
theorem c7_step {w0 : World} (ht : TB w0) (hr : Rd w0 a (opV O)) (hO : ∀ o ∈ O, 0 ≤ o.at_ ∧ o.at_ < 4294967296) {j : Nat} (hj : j < O.length) (hjs : j < 300) {m : Nat} {ra : Option Addr} {cum : Int} {S : List Nat} {w : World} (h : Pr w0 b m rb ra cum S w) {Kn : Value → Value → Value → Value → World → Prop} {Kr : Value → World → Prop}
    (hK : ∀ w' m' ra' cum' S', Pr w0 b m' rb ra' cum' S' w' → Kn (.slice a O.length cc) (.pointer (some ⟨b, 0, none⟩)) (.pointer (some ⟨rb, 0, none⟩)) (.int .i64 ((j + 1 : Nat) : Int)) w') :
    F7_1 Kn Kr (.slice a O.length cc) (.pointer (some ⟨b, 0, none⟩)) (.pointer (some ⟨rb, 0, none⟩)) (.int .i64 (j : Int)) w := by
  obtain ⟨o, ho⟩ : ∃ x, O[j]? = some x := ⟨O[j]'(by omega), by simp⟩
  obtain ⟨o1, o2⟩ := hO o (List.mem_of_getElem? ho)
  obtain ⟨g1, g2, g3⟩ := opV_at ho
  have hr' := Rd.same hr h.fr
  obtain ⟨ad, ha⟩ := hr'.some (by rw [opV_length]; omega)
  have hc0 := h.set.c0
  have hc1 := h.set.c1
  unfold F7_1 alc drw
  simp only [rdP_mk, rdI_mk, rdC_mk, nn_some, add_mk]
  rw [ha] at hr' ⊢
  refine ixS_of (by omega) (by omega) ?_
  simp only [Int.toNat_natCast, add_add, Nat.add_zero]
  refine ldI_c (hr'.at g1) (ldI_c (hr'.at g2) (ldI_c (hr'.at g3) ?_))
  refine stc_at (alloc_new w _) (by simp) (stc_at (sb_same (alloc_new w _)) (by simp) (stc_at (sb_same (sb_same (alloc_new w _))) (by simp) ?_))
  generalize hw2 : World.drew _ = w2
  have q2 : w2.heap[w.heap.size]? = some (.cells #[.int .i64 o.kind, .int .u32 o.at_, .int .i64 o.n] 52 (0, 0)) := by rw [← hw2]; exact sb_same (sb_same (sb_same (alloc_new w _)))
  have f2 : Same w w2 := by
    rw [← hw2]
    have f1 : Same w (w.alloc (.cells #[.int .i64 0, .int .u32 0, .int .i64 0] 52)) := (Fr.refl w).alloc _
    exact (((f1.sb (b := w.heap.size) fun x => by omega).sb (b := w.heap.size) fun x => by omega).sb (b := w.heap.size) fun x => by omega).drew
  clear hw2
  have h2 := h.same f2
  obtain ⟨rc, k1, k2⟩ := h2.ref.blk
  refine ldI_at k1 rfl (ldI_at q2 rfl ?_)
  refine clr (c25 _ _ _ hc0 hc1 o1 o2) ⟨_, rfl, ldI_at q2 rfl ?_⟩
  have t1 : 0 ≤ (cum + o.at_) % 4294967296 := Int.emod_nonneg _ (by decide)
  have t2 : (cum + o.at_) % 4294967296 < 4294967296 := Int.emod_lt_of_pos _ (by decide)
  generalize (cum + o.at_) % 4294967296 = t at t1 t2
  have e1 : IntKind.wrap .i64 ((j : Int) + 1) = ((j + 1 : Nat) : Int) := by rw [wrap_i64 (by omega) (by omega)]; omega
  rw [e1, ← ha]
  have ht2 : TB w2 := ht.fr h2.fr fun x => x
  -- what each way ends with
  have fin : ∀ {w3 : World} {m' : Nat} {ra' : Option Addr} {cum' : Int} {S' : List Nat}, Pr w0 b m' rb ra' cum' S' w3 →
      Calls Tryd.prog 17 #[(.pointer (some ⟨b, 0, none⟩)), (.pointer (some ⟨rb, 0, none⟩))] w3 fun e32 w31 => ∃ b30, e32 = .returned (.bool b30) ∧ (br (!b30) (Kr (.bool false) w31) (Kn (.slice a O.length cc) (.pointer (some ⟨b, 0, none⟩)) (.pointer (some ⟨rb, 0, none⟩)) (.int .i64 ((j + 1 : Nat) : Int)) w31)) := by
    intro w3 m' ra' cum' S' h3
    refine cl (c17 (ht.fr h3.fr fun x => x) h3.set h3.ref) ?_
    rintro _ w4 ⟨rfl, f4⟩
    refine ⟨_, rfl, ?_⟩
    simp only [Bool.not_true, br_false]
    exact hK w4 m' ra' cum' S' (h3.same f4)
  by_cases k1 : o.kind = 1
  · have : (o.kind == 1) = true := by simp [k1]
    rw [this, br_true]
    refine cl (c26 ht2 h2.set t) ?_
    rintro _ w3 ⟨rfl, m', hm', s3, f3⟩
    refine ⟨_, _, rfl, ?_⟩
    refine cl (r27 (h2.ref1 f3) t1 t2) ?_
    rintro _ w4 ⟨rfl, ra', r4, ha', f4⟩
    refine ⟨_, _, rfl, ?_⟩
    simp only [beq_self_eq_true, Bool.not_true, br_false, bne_self_eq_false]
    exact fin (h2.both s3 hm' f3 r4 ha' f4)
  have : (o.kind == 1) = false := by simp [k1]
  rw [this, br_false]
  by_cases k2 : o.kind = 2
  · have : (o.kind == 2) = true := by simp [k2]
    rw [this, br_true]
    refine cl (c28 h2.set t) ?_
    rintro _ w3 ⟨rfl, s3, f3⟩
    refine ⟨_, rfl, ?_⟩
    refine cl (r29 (h2.ref1 f3) t1 t2) ?_
    rintro _ w4 ⟨rfl, ra', r4, ha', f4⟩
    refine ⟨_, rfl, ?_⟩
    simp only [beq_self_eq_true, Bool.not_true, br_false]
    exact fin (h2.both s3 (.inl rfl) f3 r4 (.inr ha') f4)
  have : (o.kind == 2) = false := by simp [k2]
  rw [this, br_false]
  by_cases k3 : o.kind = 3
  · have : (o.kind == 3) = true := by simp [k3]
    rw [this, br_true]
    refine cl (c21 h2.set t) ?_
    rintro _ w3 ⟨rfl, f3⟩
    refine ⟨_, rfl, ?_⟩
    have h3 := h2.same f3
    refine clr (r30 h3.ref t1 t2) ⟨_, rfl, ?_⟩
    simp only [beq_self_eq_true, Bool.not_true, br_false]
    exact fin h3
  have : (o.kind == 3) = false := by simp [k3]
  rw [this, br_false]
  refine ldI_at q2 rfl ?_
  generalize Int.tmod o.n 1000 = N
  refine cl (c15 ht2 h2.set N) ?_
  rintro _ w3 ⟨a3, c3, rfl, o3, f3⟩
  refine ⟨_, _, _, rfl, ?_⟩
  have h3 := h2.same f3
  refine cl (r32 h3.ref N) ?_
  rintro _ w4 ⟨a4, c4, rfl, o4, f4⟩
  refine ⟨_, _, _, rfl, ?_⟩
  have h4 := h3.same f4
  have hgl : (gapS S N).length < 2305843009213693952 := by
    have h5 := (gapA_inv S h.set.rising).2.2
    have h6 := h.set.len
    have h7 : (gapS S N).length ≤ (gapA S).length := by unfold gapS; rw [List.length_take]; omega
    omega
  refine cl (c31 (Rd.same o3.rd f4) o4.rd hgl) ?_
  rintro _ w5 ⟨rfl, f5⟩
  refine ⟨_, rfl, ?_⟩
  simp only [decide_true, Bool.not_true, br_false]
  have h5 := h4.same f5
  refine cl (c18 (ht.fr h5.fr fun x => x) h5.set N) ?_
  rintro _ w6 ⟨a6, c6, rfl, o6, f6⟩
  refine ⟨_, _, _, rfl, ?_⟩
  have h6 := h5.same f6
  refine cl (r33 h6.ref N) ?_
  rintro _ w7 ⟨a7, c7, rfl, o7, f7⟩
  refine ⟨_, _, _, rfl, ?_⟩
  have h7 := h6.same f7
  have r6 := Rd.same o6.rd f7
  have r7 := o7.rd
  rw [numV_nums] at r6 r7
  have hml : (missS S N).length < 4611686018427387904 := by
    obtain ⟨i1, _, _, _⟩ := missA_inv S h.set.rising fun d hd => by have := h.set.rng d hd; omega
    have h8 : (missS S N).length ≤ (missA S).1.length := by unfold missS; rw [List.length_take]; omega
    have h9 : (missA S).2 ≤ 65536 := by
      rw [missA_next]
      rcases List.eq_nil_or_concat S with e | ⟨r, e, e'⟩
      · rw [e]; simp
      · have := h.set.rng e (by rw [e']; simp)
        rw [e']; simp [List.getLastD_eq_getLast?]; omega
    omega
  have := c11 (d1 := c6) (d2 := c7) r6 r7 (by rw [nums_length]; exact hml)
  rw [nums_length] at this
  refine cl this ?_
  rintro _ w8 ⟨rfl, f8⟩
  refine ⟨_, rfl, ?_⟩
  simp only [decide_true, Bool.not_true, br_false]
  exact fin (h7.same f8)
theorem c7_loop {w0 : World} (ht : TB w0) (hr : Rd w0 a (opV O)) (hO : ∀ o ∈ O, 0 ≤ o.at_ ∧ o.at_ < 4294967296) {K0 : World → Prop} {Kr : Value → World → Prop} : ∀ (i j : Nat) (w : World) (k m : Nat) (ra : Option Addr) (cum : Int) (S : List Nat), j + i = min 300 O.length → Pr w0 b m rb ra cum S w → i < k → (∀ w', Same w0 w' → K0 w') →
    F7_2 K0 Kr k (.slice a O.length cc) (.pointer (some ⟨b, 0, none⟩)) (.pointer (some ⟨rb, 0, none⟩)) (.int .i64 (j : Int)) w := by
  intro i
  induction i with
  | zero =>
    intro j w k m ra cum S hj h hk hK
    obtain ⟨k, rfl⟩ : ∃ j, k = j + 1 := ⟨k - 1, by omega⟩
    show F7_2B _ _ _ _ _ _ _ _
    unfold F7_2B
    simp only [rdP_mk, rdI_mk, rdC_mk, br_dec]
    exact ⟨fun _ => ⟨fun h' => by exfalso; omega, fun _ => hK w h.fr⟩, fun _ => hK w h.fr⟩
  | succ i ih =>
    intro j w k m ra cum S hj h hk hK
    obtain ⟨k, rfl⟩ : ∃ j, k = j + 1 := ⟨k - 1, by omega⟩
    show F7_2B _ _ _ _ _ _ _ _
    unfold F7_2B
    simp only [rdP_mk, rdI_mk, rdC_mk, br_dec]
    refine ⟨fun _ => ⟨fun _ => ?_, fun h' => by exfalso; omega⟩, fun h' => by exfalso; omega⟩
    refine c7_step ht hr hO (by omega) (by omega) h fun w' m' ra' cum' S' h' _g => ?_
    simp only [rdC_mk, rdP_mk, rdI_mk]
    exact ih (j + 1) w' k m' ra' cum' S' (by omega) h' (by omega) hK
theorem c7 {w : World} (ht : TB w) (hn0 : 0 ≤ n) (hn1 : n < 4294967296) (hr : Rd w a (opV O)) (hO : ∀ o ∈ O, 0 ≤ o.at_ ∧ o.at_ < 4294967296) :
    Calls Tryd.prog 7 #[.int .u32 n, .slice a O.length cc] w (rt fun v w' => v = .bool true ∧ Same w w') := by
  refine F7_ok ?_
  unfold F7
  simp only [rdI_mk, rdC_mk]
  refine cl (c23 hn0 hn1 w) ?_
  rintro _ w1 ⟨b, m, rfl, s1, hb, hm, f1⟩
  refine ⟨_, rfl, cl (r24 hn0 hn1 w1) ?_⟩
  rintro _ w2 ⟨rfl, r2, f2⟩
  refine ⟨_, rfl, ?_⟩
  simp only [Option.isNone_some, br_false]
  have hbl := s1.blt
  have hml := s1.mlt
  have hsz := f1.size
  have h : Pr w b m w1.heap.size none n [] w2 := ⟨s1.same f2, r2, ⟨by omega, by omega⟩, fun k ⟨_, e, _⟩ => (by cases e), hb, hm, hsz, f1.trans f2 fun _ _ x => x⟩
  refine ⟨min 300 O.length + 1, c7_loop ht hr hO (min 300 O.length) 0 w2 _ m none n [] (by omega) h (by omega) fun w3 g3 _g => ?_⟩
  refine cl (c13 (ht.fr g3 fun x => x)) ?_
  rintro _ w7 ⟨rfl, f7⟩
  exact ⟨_, rfl, rfl, g3.trans f7 fun _ _ x => x⟩
end
end Go.Proofs.YtjcigidbnpmeaaaDoor
