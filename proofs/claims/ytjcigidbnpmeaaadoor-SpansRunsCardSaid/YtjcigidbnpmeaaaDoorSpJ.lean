/- Own text: part of the shallow reading of the code and of the contracts that are proved over it. -/
import Derived.Test.YtjcigidbnpmeaaaDoorSpI
namespace Go.Proofs.YtjcigidbnpmeaaaDoor
open Go Go.Sh Go.Sp

/-! Gaps -/
noncomputable def E37i : TypeInfo := (Tryd.prog.info? 74).getD default
theorem E37 : ElemT Tryd.prog 37 74 2 4 (.agg #[.int .u16 0, .int .u16 0]) E37i := ⟨by kernel_rfl, by kernel_rfl, by kernel_rfl, by kernel_rfl, by kernel_rfl, rfl, by decide⟩
def gapV (L : List (Nat × Nat)) : List Value := L.flatMap fun p => [Value.int .u16 (p.1 : Int), Value.int .u16 (p.2 : Int)]
theorem gapV_snoc (L : List (Nat × Nat)) (p : Nat × Nat) : gapV (L ++ [p]) = gapV L ++ [Value.int .u16 (p.1 : Int), Value.int .u16 (p.2 : Int)] := by simp [gapV]
theorem gapV_length (L : List (Nat × Nat)) : (gapV L).length = L.length * 2 := by
  induction L with
  | nil => rfl
  | cons p L ih => simp [gapV] at ih ⊢; omega
theorem gapV_take (L : List (Nat × Nat)) (n : Nat) : (gapV L).take (n * 2) = gapV (L.take n) := by
  induction L generalizing n with
  | nil => simp [gapV]
  | cons p L ih =>
    cases n with
    | zero => simp [gapV]
    | succ n =>
      have : (n + 1) * 2 = n * 2 + 1 + 1 := by omega
      rw [this]
      have h2 : gapV (p :: L) = Value.int .u16 (p.1 : Int) :: Value.int .u16 (p.2 : Int) :: gapV L := rfl
      rw [h2, List.take_succ_cons, List.take_succ_cons, ih]
      rfl
/-- one more number: the runs, whole -/
def gstep (L : List (Nat × Nat)) (d : Nat) : List (Nat × Nat) :=
  match L.getLast? with
  | some p => if p.2 + 1 = d then L.dropLast ++ [(p.1, d)] else L ++ [(d, d)]
  | none => [(d, d)]
/-- the runs, not many more than N -/
def lstep (N : Nat) (L : List (Nat × Nat)) (d : Nat) : List (Nat × Nat) :=
  match L.getLast? with
  | some p => if p.2 + 1 = d then L.dropLast ++ [(p.1, d)] else if L.length ≤ N then L ++ [(d, d)] else L
  | none => [(d, d)]
def gapA (S : List Nat) : List (Nat × Nat) := S.foldl gstep []
def gapL (N : Nat) (S : List Nat) : List (Nat × Nat) := S.foldl (lstep N) []
theorem gapA_snoc (S : List Nat) (d : Nat) : gapA (S ++ [d]) = gstep (gapA S) d := by simp [gapA]
theorem gapL_snoc (N : Nat) (S : List Nat) (d : Nat) : gapL N (S ++ [d]) = lstep N (gapL N S) d := by simp [gapL]
theorem gstep_snoc (L : List (Nat × Nat)) (p : Nat × Nat) (d : Nat) : gstep (L ++ [p]) d = if p.2 + 1 = d then L ++ [(p.1, d)] else (L ++ [p]) ++ [(d, d)] := by simp [gstep]
theorem lstep_snoc (N : Nat) (L : List (Nat × Nat)) (p : Nat × Nat) (d : Nat) : lstep N (L ++ [p]) d = if p.2 + 1 = d then L ++ [(p.1, d)] else if L.length + 1 ≤ N then (L ++ [p]) ++ [(d, d)] else L ++ [p] := by simp [lstep]
def gapR (N : Nat) (L G : List (Nat × Nat)) : Prop := (L = G ∧ G.length ≤ N) ∨ (L.length = N + 1 ∧ N + 1 ≤ G.length ∧ L.take N = G.take N)
theorem gapR_step {N : Nat} {L G : List (Nat × Nat)} (h : gapR N L G) (d : Nat) : gapR N (lstep N L d) (gstep G d) := by
  rcases h with ⟨rfl, h⟩ | ⟨h1, h2, h3⟩
  · rcases List.eq_nil_or_concat L with rfl | ⟨L, p, rfl⟩
    · by_cases hN : 1 ≤ N
      · exact .inl ⟨rfl, by simpa [gstep] using hN⟩
      · have : N = 0 := by omega
        subst this
        exact .inr ⟨rfl, by simp [gstep], rfl⟩
    · rw [List.concat_eq_append] at h ⊢
      rw [gstep_snoc, lstep_snoc]
      simp only [List.length_append, List.length_singleton] at h
      by_cases hp : p.2 + 1 = d
      · rw [if_pos hp, if_pos hp]
        exact .inl ⟨rfl, by simpa using h⟩
      · rw [if_neg hp, if_neg hp, if_pos h]
        by_cases h' : L.length + 1 = N
        · exact .inr ⟨by simp; omega, by simp; omega, rfl⟩
        · exact .inl ⟨rfl, by simp; omega⟩
  · refine .inr ?_
    obtain ⟨L, p, rfl⟩ : ∃ L' p, L = L' ++ [p] := by
      rcases List.eq_nil_or_concat L with rfl | ⟨L, p, rfl⟩
      · simp at h1
      · exact ⟨L, p, by simp⟩
    obtain ⟨G, q, rfl⟩ : ∃ L' p, G = L' ++ [p] := by
      rcases List.eq_nil_or_concat G with rfl | ⟨L, p, rfl⟩
      · simp at h2
      · exact ⟨L, p, by simp⟩
    simp only [List.length_append, List.length_singleton] at h1 h2
    rw [gstep_snoc, lstep_snoc, if_neg (show ¬ L.length + 1 ≤ N by omega)]
    have t1 : ∀ (x : List (Nat × Nat)), (L ++ x).take N = L.take N := fun x => take_full (by omega)
    have t2 : ∀ (x : List (Nat × Nat)), (G ++ x).take N = G.take N := fun x => take_full (by omega)
    rw [t1, t2] at h3
    refine ⟨?_, ?_, ?_⟩
    · split <;> simp <;> omega
    · split <;> simp <;> omega
    · have a1 : (if p.2 + 1 = d then L ++ [(p.1, d)] else L ++ [p]).take N = L.take N := by split <;> exact t1 _
      have a2 : (if q.2 + 1 = d then G ++ [(q.1, d)] else (G ++ [q]) ++ [(d, d)]).take N = G.take N := by
        split
        · exact t2 _
        · rw [List.append_assoc]; exact t2 _
      rw [a1, a2, h3]
theorem gapR_all (N : Nat) (S : List Nat) : gapR N (gapL N S) (gapA S) := by
  refine snocInd (P := fun S => gapR N (gapL N S) (gapA S)) (.inl ⟨rfl, Nat.zero_le _⟩) ?_ S
  intro r d ih
  rw [gapL_snoc, gapA_snoc]
  exact gapR_step ih d
theorem gapL_take (N : Nat) (S : List Nat) : (gapL N S).take N = (gapA S).take N ∧ min N (gapL N S).length = min N (gapA S).length := by
  rcases gapR_all N S with ⟨h, _⟩ | ⟨h1, h2, h3⟩
  · rw [h]; exact ⟨rfl, rfl⟩
  · exact ⟨h3, by omega⟩
theorem lstep_len (N : Nat) (L : List (Nat × Nat)) (d : Nat) : (lstep N L d).length ≤ L.length + 1 := by
  rcases List.eq_nil_or_concat L with rfl | ⟨L, p, rfl⟩
  · simp [lstep]
  · rw [List.concat_eq_append, lstep_snoc]
    split
    · simp
    · split <;> simp
theorem gapL_len (N : Nat) (S : List Nat) : (gapL N S).length ≤ S.length := by
  refine snocInd (P := fun S => (gapL N S).length ≤ S.length) (Nat.le_refl _) ?_ S
  intro r d ih
  rw [gapL_snoc]
  have := lstep_len N (gapL N r) d
  simp; omega
theorem gstep_last (L : List (Nat × Nat)) (d : Nat) : ∃ p, (gstep L d).getLast? = some p ∧ p.2 = d := by
  rcases List.eq_nil_or_concat L with rfl | ⟨L, p, rfl⟩
  · exact ⟨(d, d), rfl, rfl⟩
  · rw [List.concat_eq_append, gstep_snoc]
    split <;> simp
theorem lstep_mem (N : Nat) (L : List (Nat × Nat)) (d : Nat) : ∀ p ∈ lstep N L d, p ∈ L ∨ (p.2 = d ∧ (p.1 = d ∨ ∃ q ∈ L, q.1 = p.1)) := by
  rcases List.eq_nil_or_concat L with rfl | ⟨L, p, rfl⟩
  · intro p hp
    simp [lstep] at hp
    subst hp
    exact .inr ⟨rfl, .inl rfl⟩
  · rw [List.concat_eq_append, lstep_snoc]
    intro q hq
    split at hq
    · rcases List.mem_append.1 hq with hq | hq
      · exact .inl (by simp [hq])
      · simp at hq; subst hq; exact .inr ⟨rfl, .inr ⟨p, by simp, rfl⟩⟩
    · split at hq
      · rcases List.mem_append.1 hq with hq | hq
        · exact .inl hq
        · simp at hq; subst hq; exact .inr ⟨rfl, .inl rfl⟩
      · exact .inl hq
theorem gapL_rng (N : Nat) (S : List Nat) (h : ∀ d ∈ S, 2 ≤ d ∧ d ≤ 65535) : ∀ p ∈ gapL N S, (2 ≤ p.1 ∧ p.1 ≤ 65535) ∧ (2 ≤ p.2 ∧ p.2 ≤ 65535) := by
  revert h
  refine snocInd (P := fun S => (∀ d ∈ S, 2 ≤ d ∧ d ≤ 65535) → ∀ p ∈ gapL N S, (2 ≤ p.1 ∧ p.1 ≤ 65535) ∧ (2 ≤ p.2 ∧ p.2 ≤ 65535)) (by simp [gapL]) ?_ S
  intro r d ih h p hp
  have ih' := ih fun e he => h e (by simp [he])
  have hd := h d (by simp)
  rw [gapL_snoc] at hp
  rcases lstep_mem N _ d p hp with hp | ⟨hp, hp2⟩
  · exact ih' p hp
  · refine ⟨?_, by omega⟩
    rcases hp2 with hp2 | ⟨q, hq, hp2⟩
    · omega
    · have := ih' q hq; omega

section
variable {b m : Nat} {cum : Int} {S : List Nat} {N : Int}
structure Gp (w0 : World) (b m bn : Nat) (cum : Int) (S : List Nat) (N : Int) (L : List (Nat × Nat)) (w : World) : Prop where
  fr : Same w0 w
  set : SetR w b m cum S
  num : w.heap[bn]? = some (.cells #[.int .i64 N] 3 (0, 0))
  out : ∃ a c, w.heap[bn + 1]? = some (.cells #[.slice a L.length c] 37 (0, 0)) ∧ Own w (bn + 2) 74 2 a L.length c (gapV L)
theorem c39 {w0 w : World} {bn d : Nat} {pre rest : List Nat} (hS : S = pre ++ d :: rest) (hN : 1 ≤ N) (hbs : w0.heap.size ≤ bn) (hb : b < bn) (hm : m < bn) (h : Gp w0 b m bn cum S N (gapL N.toNat pre) w) :
    Calls Tryd.prog 39 #[.int .i64 (d : Int), .pointer (some ⟨bn + 1, 0, none⟩), .pointer (some ⟨bn, 0, none⟩)] w (rt fun v w' => v = .tuple #[] ∧ Gp w0 b m bn cum S N (gapL N.toNat (pre ++ [d])) w') := by
  have hd := h.set.rng d (by rw [hS]; simp)
  have hlen := h.set.len
  have hpre : ∀ e ∈ pre, 2 ≤ e ∧ e ≤ 65535 := fun e he => h.set.rng e (by rw [hS]; simp [he])
  have hrng := gapL_rng N.toNat pre hpre
  have hgl := gapL_len N.toNat pre
  have hpl : pre.length ≤ 65534 := by rw [hS] at hlen; simp at hlen; omega
  rw [gapL_snoc]
  generalize gapL N.toNat pre = L at h hrng hgl
  obtain ⟨a, c, h1, h2⟩ := h.out
  have nb : ∀ k, k < bn + 2 → ¬ inB a k := fun k hk x => by have := (h2.base_le x).1; omega
  -- an append
  have app : ∀ {K : World → Prop}, (∀ w', Gp w0 b m bn cum S N (L ++ [(d, d)]) w' → K w') →
      alc (.cells #[.int .u16 (d : Int), .int .u16 (d : Int)] 74) w fun b13 w14 => ∃ l15a l15n l15c w16, Sem.run Tryd.prog (Builtin.append_ #[37, 37] 37 #[(.slice a L.length c), (.slice (some (Addr.mk b13 0 none)) 1 1)]) w14 = .ok (.slice l15a l15n l15c) w16 ∧ stc ⟨bn + 1, 0, none⟩ (.slice l15a l15n l15c) w16 K := by
    intro K hK
    unfold alc
    refine push E37 h2 (news := #[_, _]) rfl (by simp [Value.oneCell']) (by omega) (by omega) (by have := lt_of_blk h1; omega) ?_
    intro a' c' w' k1 k2 k3
    have f1 : Fr (fun k => bn + 2 ≤ k) w w' := k2.mono fun i _ x => by have := (h2.base_le x).1; omega
    have o1 := f1.blk h1 (by omega)
    refine stc_at o1 (by simp) (hK _ ?_)
    have f2 := (f1.mono (S' := fun k => bn + 1 ≤ k) fun i _ x => by omega).sb (b := bn + 1) (o := .cells (#[.slice a L.length c].setIfInBounds 0 (.slice a' (L.length + 1) c')) 37 (0, 0)) fun _ => Nat.le_refl _
    refine ⟨(h.fr.mono (S' := fun k => w0.heap.size ≤ k) fun _ _ x => x.elim).trans f2 (fun i _ (x : bn + 1 ≤ i) => by omega) |>.mono fun i hi x => by omega, h.set.fr f2 (by omega) (by omega), f2.blk h.num (by omega), a', c', ?_, ?_⟩
    · simpa using sb_same (o := .cells (#[.slice a L.length c].setIfInBounds 0 (.slice a' (L.length + 1) c')) 37 (0, 0)) o1
    · have := k1.fr ((Fr.refl w').sb (S := (· = bn + 1)) (b := bn + 1) (o := .cells (#[.slice a L.length c].setIfInBounds 0 (.slice a' (L.length + 1) c')) 37 (0, 0)) fun _ => rfl) fun k hk x => by
        subst x
        have := (k1.base_le hk).1
        omega
      rw [gapV_snoc]
      simpa using this
  have wd : IntKind.wrap .u16 (d : Int) = d := wrap_u16 (by omega) (by omega)
  refine F39_ok ?_
  unfold F39
  simp only [rdI_mk, rdA_mk]
  refine ldC_at h1 rfl ?_
  simp only [br_dec]
  refine ⟨fun hl => ldC_at h1 rfl ?_, fun hl => ?_⟩
  · obtain ⟨L', p, rfl⟩ : ∃ L' p, L = L' ++ [p] := by
      rcases List.eq_nil_or_concat L with rfl | ⟨L, p, rfl⟩
      · simp at hl
      · exact ⟨L, p, by simp⟩
    have hp := hrng p (by simp)
    have hsz : (L' ++ [p]).length = L'.length + 1 := by simp
    have hi : IntKind.wrap .i64 (((L' ++ [p]).length : Int) - 1) = (L'.length : Int) := by rw [hsz, wrap_i64 (by omega) (by omega)]; omega
    have hg : (gapV (L' ++ [p]))[L'.length * 2 + 1]? = some (.int .u16 (p.2 : Int)) := by
      rw [gapV_snoc, List.getElem?_append_right (by rw [gapV_length]; omega), gapV_length]
      simp [Nat.add_sub_cancel_left]
    obtain ⟨ad, rfl⟩ := h2.rd.some (by rw [gapV_length]; omega)
    rw [hi]
    refine ixS_of (by omega) (by omega) ?_
    simp only [Int.toNat_natCast, add_add]
    refine ldI_c (h2.rd.at hg) ?_
    have e1 : IntKind.wrap .i64 (p.2 : Int) = p.2 := wrap_i64 (by omega) (by omega)
    have e2 : IntKind.wrap .i64 ((d : Int) - 1) = ((d - 1 : Nat) : Int) := by rw [wrap_i64 (by omega) (by omega)]; omega
    rw [e1, e2, lstep_snoc]
    unfold F39_1
    simp only [rdI_mk, rdA_mk, rdB_mk]
    by_cases hpd : p.2 + 1 = d
    · have : ((p.2 : Int) == ((d - 1 : Nat) : Int)) = true := by rw [beq_iff_eq]; omega
      rw [this, br_true, if_pos hpd]
      refine ldC_at h1 rfl ?_
      rw [hi]
      refine ixS_of (by omega) (by omega) ?_
      simp only [Int.toNat_natCast, add_add]
      refine ldI_c (h2.rd.at hg) (ixS_of (by omega) (by omega) ?_)
      simp only [Int.toNat_natCast, add_add]
      have e3 : IntKind.wrap .u16 ((p.2 : Int) + 1) = (d : Int) := by rw [wrap_u16 (by omega) (by omega)]; omega
      rw [e3]
      refine h2.put (by rw [gapV_length, hsz]; omega) fun w' k1 k2 _g => ⟨trivial, ?_⟩
      have f2 : Fr (fun k => bn + 2 ≤ k) w w' := k2.mono fun i _ x => by have := (h2.base_le x).1; omega
      refine ⟨(h.fr.mono (S' := fun k => w0.heap.size ≤ k) fun _ _ x => x.elim).trans f2 (fun i _ (x : bn + 2 ≤ i) => by omega) |>.mono fun i hi x => by omega, h.set.fr f2 (by omega) (by omega), f2.blk h.num (by omega), some ad, c, ?_, ?_⟩
      · have := f2.blk h1 (by omega)
        simpa using this
      · have : (gapV (L' ++ [p])).set (L'.length * 2 + 1) (.int .u16 (d : Int)) = gapV (L' ++ [(p.1, d)]) := by
          rw [gapV_snoc, gapV_snoc, List.set_append_right _ _ (by rw [gapV_length]; omega), gapV_length]
          simp [Nat.add_sub_cancel_left]
        rw [this] at k1
        simpa using k1
    · have : ((p.2 : Int) == ((d - 1 : Nat) : Int)) = false := by rw [beq_eq_false_iff_ne]; omega
      rw [this, br_false, if_neg hpd]
      refine ldI_at h.num rfl ?_
      simp only [br_dec]
      refine ⟨fun h3 => ldC_at h1 rfl ?_, fun h3 _g => ⟨trivial, ?_⟩⟩
      · rw [if_pos (by omega), wd]
        exact app fun w' hw' _g => ⟨trivial, hw'⟩
      · rw [if_neg (by omega)]; exact h
  · have : L = [] := by
      cases L with
      | nil => rfl
      | cons x L => simp at hl
    subst this
    unfold F39_1
    simp only [rdI_mk, rdA_mk, rdB_mk, br_false]
    refine ldI_at h.num rfl ?_
    simp only [br_dec]
    refine ⟨fun h3 => ldC_at h1 rfl ?_, fun h3 => by exfalso; simp at h3; omega⟩
    rw [wd]
    exact app fun w' hw' _g => ⟨trivial, hw'⟩
def gapS (S : List Nat) (N : Int) : List (Nat × Nat) := (gapA S).take N.toNat
theorem c15 {w : World} (ht : TB w) (h : SetR w b m cum S) (N : Int) :
    Calls Tryd.prog 15 #[.pointer (some ⟨b, 0, none⟩), .int .i64 N] w (rt fun v w' => ∃ a c, v = .slice a (gapS S N).length c ∧ Own w' w.heap.size 74 2 a (gapS S N).length c (gapV (gapS S N)) ∧ Same w w') := by
  refine F15_ok ?_
  unfold F15 alc
  simp only [rdP_mk, rdI_mk]
  have hbl := h.blt
  have hml := h.mlt
  obtain ⟨w1, hw1⟩ : ∃ w1, w1 = w.alloc (.cells #[.int .i64 N] 3) := ⟨_, rfl⟩
  have z1 : w1.heap.size = w.heap.size + 1 := by rw [hw1]; simp
  have n1 : w1.heap[w.heap.size]? = some (.cells #[.int .i64 N] 3 (0, 0)) := by rw [hw1]; exact alloc_new _ _
  have f1 : Same w w1 := by rw [hw1]; exact (Fr.refl w).alloc _
  rw [← hw1]
  clear hw1
  refine clr (c35 (h.same f1)) ⟨_, rfl, ?_⟩
  simp only [Bool.not_true, br_false]
  refine ldI_at n1 rfl ?_
  simp only [br_dec]
  refine ⟨fun h1 => ⟨none, 0, ?_, ?_, f1⟩, fun h1 => ?_⟩
  · have : gapS S N = [] := by unfold gapS; rw [show N.toNat = 0 by omega, List.take_zero]
    rw [this]; rfl
  · have : gapS S N = [] := by unfold gapS; rw [show N.toNat = 0 by omega, List.take_zero]
    rw [this]; exact Own.nil _ _ _ _
  unfold F15_1 alc
  simp only [rdA_mk, rdP_mk, nn_some, add_mk]
  obtain ⟨w2, hw2⟩ : ∃ w2, w2 = w1.alloc (.cells #[.slice none 0 0] 37) := ⟨_, rfl⟩
  have z2 : w2.heap.size = w.heap.size + 2 := by rw [hw2]; simp; omega
  have o2 : w2.heap[w.heap.size + 1]? = some (.cells #[.slice none 0 0] 37 (0, 0)) := by rw [hw2, ← z1]; exact alloc_new _ _
  have n2 : w2.heap[w.heap.size]? = some (.cells #[.int .i64 N] 3 (0, 0)) := by rw [hw2]; exact alloc_blk n1
  have f2 : Same w w2 := by rw [hw2]; exact f1.alloc _
  rw [← hw2, z1]
  clear hw2
  have start : Gp w b m w.heap.size cum S N (gapL N.toNat []) w2 := ⟨f2, h.same f2, n2, none, 0, o2, Own.nil _ _ _ _⟩
  have E : Each b m S (.func (.func 39) #[] #[.pointer (some ⟨w.heap.size + 1, 0, none⟩), .pointer (some ⟨w.heap.size, 0, none⟩)]) (fun pre => Gp w b m w.heap.size cum S N (gapL N.toNat pre)) :=
    { rising := h.rising
      bound := fun d hd => by have := h.rng d hd; omega
      tab := fun pre w' hI => ht.fr hI.fr fun x => x
      fld := fun pre w' hI => by obtain ⟨f, k1, k2⟩ := hI.set.fld.map; exact ⟨_, _, f, hI.set.fld.blk, rfl, k1, k2⟩
      step := fun pre d rest w' hS hI => by
        refine callV_of (by kernel_rfl) (call_of (c39 (rest := rest) hS (by omega) (Nat.le_refl _) hbl hml hI) ?_)
        rintro _ w'' ⟨v, rfl, rfl, h2⟩
        exact ⟨rfl, rfl, h2⟩ }
  refine cl (c36 E (start.set.fld.blk) rfl start) ?_
  rintro _ w' ⟨rfl, hI⟩
  obtain ⟨a, c, h3, h2⟩ := hI.out
  obtain ⟨t1, t2⟩ := gapL_take N.toNat S
  have hmin : (if N < ((gapL N.toNat S).length : Int) then N else ((gapL N.toNat S).length : Int)) = (((gapS S N).length : Nat) : Int) := by
    simp only [gapS, List.length_take]
    split <;> omega
  refine ⟨rfl, ldC_at h3 rfl (ldC_at h3 rfl (ldI_at hI.num rfl ?_))⟩
  have hle : (gapS S N).length ≤ (gapL N.toNat S).length := by simp only [gapS, List.length_take]; omega
  rw [hmin]
  refine slS_hi (Nat.le_trans hle h2.le) fun _g => ?_
  simp only [rdC_mk]
  refine ⟨a, c, rfl, ?_, hI.fr⟩
  have := (h2.cut hle).mono (base' := w.heap.size) (by omega)
  rw [gapV_take] at this
  have e : (gapL N.toNat S).take (gapS S N).length = gapS S N := by
    have : (gapS S N).length = min N.toNat (gapL N.toNat S).length := by simp only [gapS, List.length_take]; omega
    rw [this, ← List.take_take, List.take_length, t1]
    rfl
  rw [e] at this
  exact this
end
end Go.Proofs.YtjcigidbnpmeaaaDoor
