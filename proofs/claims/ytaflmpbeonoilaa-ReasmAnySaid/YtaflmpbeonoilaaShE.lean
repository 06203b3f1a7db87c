/-
  The shallow reading is sound, fourth part: regions.
-/
import Derived.Test.YtaflmpbeonoilaaShD
namespace Go.Sh
open Go

theorem nbeq {a b : Nat} : (Nat.beq a b = true) = (a = b) := by rw [Nat.beq_eq]
theorem upd_same (t : Tm) (i : Nat) {v : Value} (h : t i = v) : upd t i v = t := by
  funext j
  unfold upd
  cases hj : Nat.beq j i with
  | false => rfl
  | true => rw [nbeq] at hj; subst hj; exact h.symm
theorem upd_ne {t : Tm} {i j : Nat} (v : Value) (h : j ≠ i) : upd t i v j = t j := by
  unfold upd
  have : Nat.beq j i = false := by
    cases hb : Nat.beq j i with
    | false => rfl
    | true => rw [nbeq] at hb; exact absurd hb h
  rw [this]; rfl
theorem upd_eq {t : Tm} {i : Nat} (v : Value) : upd t i v i = v := by
  unfold upd
  have : Nat.beq i i = true := by rw [nbeq]
  rw [this]; rfl
theorem upd_comm (t : Tm) {i j : Nat} (v u : Value) (h : i ≠ j) : upd (upd t i v) j u = upd (upd t j u) i v := by
  funext k
  by_cases hi : k = i
  · subst hi; rw [upd_ne _ h, upd_eq, upd_eq]
  · by_cases hj : k = j
    · subst hj; rw [upd_eq, upd_ne _ hi, upd_eq]
    · rw [upd_ne _ hj, upd_ne _ hi, upd_ne _ hi, upd_ne _ hj]

/-- is an operation wanted? -/
def wantT (g : Option (Option Nat × Bool)) (t : Tm) : Bool :=
  match g with
  | none => true
  | some (some i, b) => match t i with | .bool c => c == b | _ => false
  | some (none, _) => false
theorem gd_iff {g : Option (Option Nat × Bool)} {t : Tm} {A B : Tm → Prop} : gd g t A B ↔ if wantT g t = true then A t else B t := by
  match g with
  | none => simp [gd, wantT]
  | some (none, b) => simp [gd, wantT]
  | some (some i, b) =>
    cases ht : t i with
    | bool c => cases b <;> cases c <;> simp [gd, wantT, ht, br, upd_same t i ht]
    | _ => cases b <;> simp [gd, wantT, ht]

def guardOf (all : List Oper) (o : Oper) : Option (Option Nat × Bool) := o.guard.map fun g => (guardTmp all g.1, g.2)
def stepV (P : Program) (all : List Oper) (w0 : World) (m : It) (K : Tm → World → Prop) (t : Tm) (w : World) : Prop :=
  if wantT (guardOf all m.1) t = true then
    vcOp P m.1 (ev t) (if m.2.1 = true then w0 else w) w fun v w' => (m.2.2 = true → Pres w0 w') ∧ K (putO t m.1.dst v) w'
  else K (putO t m.1.dst undef) w
theorem stepV_mono {P : Program} {all : List Oper} {w0 : World} {m : It} {K K' : Tm → World → Prop} {t : Tm} {w : World} (h : ∀ t w, K t w → K' t w)
    (x : stepV P all w0 m K t w) : stepV P all w0 m K' t w := by
  unfold stepV at *
  split
  · rename_i hw
    rw [if_pos hw] at x
    exact vcOp_mono (fun _ _ y => ⟨y.1, h _ _ y.2⟩) x
  · rename_i hw
    rw [if_neg hw] at x
    exact h _ _ x
theorem stepD_stepV {P : Program} {all : List Oper} {w0 : World} {m : It} {t : Tm} {w : World} {K : Tm → World → Prop} (h : stepD P all w0 m t w K) : stepV P all w0 m K t w := by
  obtain ⟨o, fl, pr⟩ := m
  unfold stepD at h
  simp only at h
  rw [gd_iff] at h
  unfold stepV guardOf
  split
  · rename_i hw
    rw [if_pos hw] at h
    cases fl <;> cases pr
    · exact vcOp_mono (fun v w' x => ⟨(fun h => by cases h), x⟩) h
    · exact vcOp_mono (fun v w' x => ⟨fun _ => x.1, x.2⟩) h
    · exact vcOp_mono (fun v w' x => ⟨(fun h => by cases h), x⟩) h
    · exact vcOp_mono (fun v w' x => ⟨fun _ => x.1, x.2⟩) h
  · rename_i hw
    rw [if_neg hw] at h
    exact h

/-! two operations that may come in either order -/
def usesOf (all : List Oper) (o : Oper) : List Nat :=
  (o.op.operands.toList.filterMap fun | .tmp i => some i | _ => none) ++ (match o.guard with | some (j, _) => (guardTmp all j).toList | none => [])
def apartB (all : List Oper) (x y : Oper) : Bool :=
  (match x.dst with | some d => !(usesOf all y).any (Nat.beq d) && (match y.dst with | some e => !Nat.beq d e | none => true) | none => true) &&
  (match y.dst with | some d => !(usesOf all x).any (Nat.beq d) | none => true)
theorem apart_spec {all : List Oper} {x y : Oper} (h : apartB all x y = true) :
    (∀ d, x.dst = some d → d ∉ usesOf all y) ∧ (∀ d, y.dst = some d → d ∉ usesOf all x) ∧ (∀ d e, x.dst = some d → y.dst = some e → d ≠ e) := by
  unfold apartB at h
  refine ⟨fun d hd hm => ?_, fun d hd hm => ?_, fun d e hd he hde => ?_⟩
  · simp only [hd, Bool.and_eq_true, Bool.not_eq_true'] at h
    have := h.1.1
    rw [List.any_eq_false] at this
    exact this d hm (by rw [nbeq])
  · simp only [hd, Bool.and_eq_true, Bool.not_eq_true'] at h
    have := h.2
    rw [List.any_eq_false] at this
    exact this d hm (by rw [nbeq])
  · simp only [hd, he, Bool.and_eq_true, Bool.not_eq_true'] at h
    have := h.1.2
    subst hde
    rw [show Nat.beq d d = true by rw [nbeq]] at this
    cases this
theorem ev_put {all : List Oper} {o : Oper} {d : Option Nat} {t : Tm} {v : Value} (h : ∀ i, d = some i → i ∉ usesOf all o) : ∀ x ∈ o.op.operands, ev (putO t d v) x = ev t x := by
  intro x hx
  cases d with
  | none => rfl
  | some i =>
    cases x with
    | tmp j =>
      refine upd_ne v fun e => h i rfl ?_
      subst e
      exact List.mem_append_left _ (List.mem_filterMap.2 ⟨.tmp j, by simpa using hx, rfl⟩)
    | _ => rfl
theorem want_put {all : List Oper} {o : Oper} {d : Option Nat} {t : Tm} {v : Value} (h : ∀ i, d = some i → i ∉ usesOf all o) : wantT (guardOf all o) (putO t d v) = wantT (guardOf all o) t := by
  cases d with
  | none => rfl
  | some i =>
    unfold guardOf wantT
    cases hg : o.guard with
    | none => rfl
    | some g =>
      obtain ⟨j, b⟩ := g
      simp only [Option.map_some]
      cases ht : guardTmp all j with
      | none => rfl
      | some k =>
        have hk : k ≠ i := fun e => h i rfl (by subst e; unfold usesOf; rw [hg]; exact List.mem_append_right _ (by simp [ht]))
        simp only [putO, upd_ne v hk]
theorem put_comm {t : Tm} {d e : Option Nat} (v u : Value) (h : ∀ i j, d = some i → e = some j → i ≠ j) : putO (putO t d v) e u = putO (putO t e u) d v := by
  cases d with
  | none => rfl
  | some i => cases e with
    | none => rfl
    | some j => exact upd_comm t v u (h i j rfl rfl)
theorem St.congr {P : Program} {o : Oper} {ρ ρ' : Operand → Value} {wr : World} {v : Value} (h : ∀ x ∈ o.op.operands, ρ x = ρ' x) (s : St P o ρ wr v) : St P o ρ' wr v := fun w' => by
  rw [← vcOp_congr h]; exact s w'
theorem St.run {P : Program} {o : Oper} {ρ : Operand → Value} {wr w : World} {v : Value} {K : Value → World → Prop} (s : St P o ρ wr v) (h : K v w) : vcOp P o ρ wr w K :=
  vcOp_mono (fun u w' e => by obtain ⟨rfl, rfl⟩ := e; exact h) (s w)
/-- for pure operations the world that is read plays no part -/
theorem pure_wr {P : Program} {o : Oper} {ρ : Operand → Value} {wr wr' w : World} {K : Value → World → Prop} (h : pureIn P o = true) : vcOp P o ρ wr w K = vcOp P o ρ wr' w K := by
  obtain ⟨dst, op, ty, pos, after, guard⟩ := o
  unfold vcOp
  cases op <;> simp only
  case load => simp [pureIn, isPure] at h
  case lookup => simp [pureIn, isPure] at h
  case makeMap t r => cases r <;> rfl
  case slice t x lo hi mx => cases mx <;> rfl
/-- an operation that does what it says is not nothing -/
theorem vcOp_const {P : Program} {o : Oper} {t : Tm} {w : World} {C : Prop} (hok : okOp P o = true) (h : vcOp P o (ev t) w w fun _ _ => C) : C := by
  rcases ok_vcOp (fun _ => rfl) hok h with ⟨_, _, _, h⟩ | ⟨_, _, h⟩ | ⟨_, _, _, _, h⟩ | ⟨_, _, _, _, _, _, _, h⟩
  · exact h
  · exact h
  · obtain ⟨_, _, _, ⟨_, _, h⟩, _⟩ := h []
    exact h
  · obtain ⟨_, _, ⟨_, _, h⟩, _⟩ := h.2 default [] (room_wide _)
    exact h

/-! the two orders of two operations -/
section
variable {P : Program} {all : List Oper} {w0 : World} {m n : It} {R : Tm → World → Prop} {t : Tm} {w : World}
/-- The value of an operation that leaves the world alone hangs on its operands and on the world that it reads. -/
theorem stepV_still (hs : pureIn P m.1 = true ∨ isRead P m.1.op = true) (hw : wantT (guardOf all m.1) t = true) (h : stepV P all w0 m R t w) :
    ∃ v, St P m.1 (ev t) (if m.2.1 = true then w0 else w) v ∧ R (putO t m.1.dst v) w := by
  unfold stepV at h
  rw [if_pos hw] at h
  obtain ⟨v, hv, _, h⟩ := still hs h
  exact ⟨v, hv, h⟩
theorem stepV_of {v : Value} (hp : m.2.2 = false) (hw : wantT (guardOf all m.1) t = true) (hv : St P m.1 (ev t) (if m.2.1 = true then w0 else w) v) (h : R (putO t m.1.dst v) w) :
    stepV P all w0 m R t w := by
  unfold stepV
  rw [if_pos hw]
  exact hv.run ⟨(fun h => by rw [hp] at h; cases h), h⟩
/-- the value of a still operation that does not read the world of the moment is the same in every world -/
def fixed (P : Program) (m : It) : Bool := pureIn P m.1 || (isRead P m.1.op && m.2.1)
theorem fixed_still (h : fixed P m = true) : pureIn P m.1 = true ∨ isRead P m.1.op = true := by
  unfold fixed at h
  simp only [Bool.or_eq_true, Bool.and_eq_true] at h
  exact h.imp id (·.1)
theorem fixed_St (h : fixed P m = true) {ρ : Operand → Value} {w w' : World} {v : Value} (s : St P m.1 ρ (if m.2.1 = true then w0 else w) v) : St P m.1 ρ (if m.2.1 = true then w0 else w') v := by
  unfold fixed at h
  simp only [Bool.or_eq_true, Bool.and_eq_true] at h
  rcases h with h | ⟨_, h⟩
  · exact fun u => by rw [pure_wr h]; exact s u
  · simpa [h] using s
theorem run_only {s : Sem Value} {w w' : World} {n : Next} (h : ((do pure (Next.value (← s))) : Sem Next).run P w = .ok n w') : ∃ v, n = .value v := by
  simp only [Sem.run_bind, Sem.run_pure] at h
  cases hr : s.run P w with
  | ok v u => rw [hr] at h; simp only [Result.andThen_ok, Result.ok.injEq] at h; exact ⟨v, h.1.symm⟩
  | halt x u => rw [hr] at h; simp at h
theorem bind_only {α β : Type} {x : Sem α} {f : α → Sem β} {w w' : World} {n : β} (h : (x >>= f).run P w = .ok n w') : ∃ a u, x.run P w = .ok a u ∧ (f a).run P u = .ok n w' := by
  rw [Sem.run_bind] at h
  cases hr : x.run P w with
  | ok a u => rw [hr] at h; exact ⟨a, u, rfl, h⟩
  | halt y u => rw [hr] at h; simp at h
theorem no_enter {o : Oper} {ρ : Operand → Value} (hs : pureIn P o = true ∨ isRead P o.op = true) {w w' : World} {f : FuncId} {as : Array Value} (h : (execOp ρ o).run P w = .ok (.enter f as) w') : False := by
  obtain ⟨dst, op, ty, pos, after, guard⟩ := o
  cases op
  case call c =>
    obtain ⟨ce, as, ats⟩ := c
    cases ce with
    | builtin b =>
      cases b
      case len =>
        obtain ⟨v, hv⟩ := run_only (s := Builtin.len_ ats ty (as.map ρ)) h
        cases hv
      all_goals rcases hs with hs | hs <;> exact absurd hs (by simp [isRead, pureIn])
    | _ => simp [pureIn, isRead, isPure] at hs
  case move x => simp [execOp] at h
  case assign x => simp [execOp] at h
  case nilCheck x =>
    simp only [execOp] at h
    split at h
    · simp [runtimePanic] at h
    · simp [runtimePanic] at h
    · simp [runtimePanic] at h
    · split at h
      · simp [runtimePanic] at h
      · obtain ⟨_, _, -, h⟩ := bind_only h
        obtain ⟨_, _, -, h⟩ := bind_only h
        split at h
        · obtain ⟨_, _, -, h⟩ := bind_only h
          simp at h
        · simp at h
      · simp at h
    · simp at h
  case pick c a b =>
    simp only [execOp] at h
    obtain ⟨_, _, -, h⟩ := bind_only h
    simp at h
  case slice t x lo hi mx => cases mx <;> first | (simp [pureIn, isRead, isPure] at hs; done) | (obtain ⟨v, hv⟩ := run_only (P := P) h; cases hv)
  all_goals first
    | (simp [pureIn, isRead, isPure] at hs; done)
    | (obtain ⟨v, hv⟩ := run_only (P := P) h; cases hv)
    | (simp only [execOp] at h; obtain ⟨v, hv⟩ := run_only (P := P) h; cases hv)
theorem no_round {o : Oper} {ρ : Operand → Value} (hs : pureIn P o = true ∨ isRead P o.op = true) {w w' : World} {l : Nat} {f : FuncId} {tm : Array Value} {as bd : Code} (h : (execOp ρ o).run P w = .ok (.round l f tm as bd) w') : False := by
  obtain ⟨dst, op, ty, pos, after, guard⟩ := o
  cases op
  case call c =>
    obtain ⟨ce, as, ats⟩ := c
    cases ce with
    | builtin b =>
      cases b
      case len =>
        obtain ⟨v, hv⟩ := run_only (s := Builtin.len_ ats ty (as.map ρ)) h
        cases hv
      all_goals rcases hs with hs | hs <;> exact absurd hs (by simp [isRead, pureIn])
    | _ => simp [pureIn, isRead, isPure] at hs
  case move x => simp [execOp] at h
  case assign x => simp [execOp] at h
  case nilCheck x =>
    simp only [execOp] at h
    split at h
    · simp [runtimePanic] at h
    · simp [runtimePanic] at h
    · simp [runtimePanic] at h
    · split at h
      · simp [runtimePanic] at h
      · obtain ⟨_, _, -, h⟩ := bind_only h
        obtain ⟨_, _, -, h⟩ := bind_only h
        split at h
        · obtain ⟨_, _, -, h⟩ := bind_only h
          simp at h
        · simp at h
      · simp at h
    · simp at h
  case pick c a b =>
    simp only [execOp] at h
    obtain ⟨_, _, -, h⟩ := bind_only h
    simp at h
  case slice t x lo hi mx => cases mx <;> first | (simp [pureIn, isRead, isPure] at hs; done) | (obtain ⟨v, hv⟩ := run_only (P := P) h; cases hv)
  all_goals first
    | (simp [pureIn, isRead, isPure] at hs; done)
    | (obtain ⟨v, hv⟩ := run_only (P := P) h; cases hv)
    | (simp only [execOp] at h; obtain ⟨v, hv⟩ := run_only (P := P) h; cases hv)
theorem St.unique {o : Oper} {wr : World} {v u : Value} (hok : okOp P o = true) (hs : pureIn P o = true ∨ isRead P o.op = true) (a : St P o (ev t) wr v) (b : St P o (ev t) wr u) : v = u := by
  rcases ok_vcOp (fun _ => rfl) hok (a wr) with ⟨p, q, h1, e1, -⟩ | ⟨q, h1, e1, -⟩ | ⟨f, as, q, h1, -⟩ | ⟨l, f, tm, as, bd, q, h1, -⟩
  · rcases ok_vcOp (fun _ => rfl) hok (b wr) with ⟨p', q', h2, e2, -⟩ | ⟨q', h2, -⟩ | ⟨f, as, q', h2, -⟩ | ⟨l, f, tm, as, bd, q', h2, -⟩
    · rw [h1] at h2; cases h2; rw [← e1, e2]
    · rw [h1] at h2; cases h2
    · rw [h1] at h2; cases h2
    · rw [h1] at h2; cases h2
  · rcases ok_vcOp (fun _ => rfl) hok (b wr) with ⟨p', q', h2, -⟩ | ⟨q', h2, e2, -⟩ | ⟨f, as, q', h2, -⟩ | ⟨l, f, tm, as, bd, q', h2, -⟩
    · rw [h1] at h2; cases h2
    · rw [← e1, e2]
    · rw [h1] at h2; cases h2
    · rw [h1] at h2; cases h2
  · exact (no_enter hs h1).elim
  · exact (no_round hs h1).elim

theorem putO_congr {o : Oper} {d : Option Nat} {v : Value} (h : ∀ i, d = some i → i ∉ usesOf all o) : (∀ x ∈ o.op.operands, ev t x = ev (putO t d v) x) ∧ (∀ x ∈ o.op.operands, ev (putO t d v) x = ev t x) :=
  ⟨fun x hx => (ev_put h x hx).symm, ev_put h⟩

/-- What may come first: it leaves the world alone and reads no world of the moment; or both but read. -/
def swapB (P : Program) (all : List Oper) (m n : It) : Bool :=
  apartB all m.1 n.1 && ((fixed P m && !m.2.2) || (stillB P m && stillB P n && !m.2.2 && !n.2.2))

theorem swap_fixed (h1 : ∀ d, m.1.dst = some d → d ∉ usesOf all n.1) (h2 : ∀ d, n.1.dst = some d → d ∉ usesOf all m.1) (h3 : ∀ d e, m.1.dst = some d → n.1.dst = some e → d ≠ e)
    (hf : fixed P m = true) (hp : m.2.2 = false) (h : stepV P all w0 m (stepV P all w0 n R) t w) : stepV P all w0 n (stepV P all w0 m R) t w := by
  by_cases hm : wantT (guardOf all m.1) t = true
  · obtain ⟨v, hv, h⟩ := stepV_still (fixed_still hf) hm h
    unfold stepV at h
    rw [want_put h1] at h
    unfold stepV
    by_cases hn : wantT (guardOf all n.1) t = true
    · rw [if_pos hn] at h ⊢
      rw [← vcOp_congr (putO_congr h1).1] at h
      refine vcOp_mono (fun u w' x => ⟨x.1, ?_⟩) h
      have := stepV_of (R := R) (w0 := w0) (t := putO t n.1.dst u) (w := w') (m := m) (v := v) hp (by rw [want_put h2]; exact hm)
        (fixed_St hf (hv.congr (putO_congr h2).1)) (by rw [put_comm u v (fun i j hi hj => (h3 j i hj hi).symm)]; exact x.2)
      exact this
    · rw [if_neg hn] at h ⊢
      have := stepV_of (R := R) (w0 := w0) (t := putO t n.1.dst undef) (w := w) (m := m) (v := v) hp (by rw [want_put h2]; exact hm)
        (hv.congr (putO_congr h2).1) (by rw [put_comm undef v (fun i j hi hj => (h3 j i hj hi).symm)]; exact h)
      exact this
  · unfold stepV at h
    rw [if_neg hm] at h
    rw [want_put h1] at h
    unfold stepV
    by_cases hn : wantT (guardOf all n.1) t = true
    · rw [if_pos hn] at h ⊢
      rw [← vcOp_congr (putO_congr h1).1] at h
      refine vcOp_mono (fun u w' x => ⟨x.1, ?_⟩) h
      rw [want_put h2, if_neg hm, put_comm u undef (fun i j hi hj => (h3 j i hj hi).symm)]
      exact x.2
    · rw [if_neg hn] at h ⊢
      rw [want_put h2, if_neg hm, put_comm undef undef (fun i j hi hj => (h3 j i hj hi).symm)]
      exact h

theorem swap_reads (h1 : ∀ d, m.1.dst = some d → d ∉ usesOf all n.1) (h2 : ∀ d, n.1.dst = some d → d ∉ usesOf all m.1) (h3 : ∀ d e, m.1.dst = some d → n.1.dst = some e → d ≠ e)
    (hm : pureIn P m.1 = true ∨ isRead P m.1.op = true) (hn : pureIn P n.1 = true ∨ isRead P n.1.op = true) (hpm : m.2.2 = false) (hpn : n.2.2 = false) (h : stepV P all w0 m (stepV P all w0 n R) t w) :
    stepV P all w0 n (stepV P all w0 m R) t w := by
  by_cases hwm : wantT (guardOf all m.1) t = true
  · obtain ⟨v, hv, h⟩ := stepV_still hm hwm h
    by_cases hwn : wantT (guardOf all n.1) t = true
    · obtain ⟨u, hu, h⟩ := stepV_still (R := R) hn (by rw [want_put h1]; exact hwn) h
      refine stepV_of hpn hwn (hu.congr (putO_congr h1).2) (stepV_of hpm (by rw [want_put h2]; exact hwm) (hv.congr (putO_congr h2).1) ?_)
      rw [put_comm u v (fun i j hi hj => (h3 j i hj hi).symm)]
      exact h
    · unfold stepV at h
      rw [want_put h1, if_neg hwn] at h
      unfold stepV
      rw [if_neg hwn]
      refine stepV_of hpm (by rw [want_put h2]; exact hwm) (hv.congr (putO_congr h2).1) ?_
      rw [put_comm undef v (fun i j hi hj => (h3 j i hj hi).symm)]
      exact h
  · unfold stepV at h
    rw [if_neg hwm] at h
    by_cases hwn : wantT (guardOf all n.1) t = true
    · obtain ⟨u, hu, h⟩ := stepV_still (R := R) hn (by rw [want_put h1]; exact hwn) h
      refine stepV_of hpn hwn (hu.congr (putO_congr h1).2) ?_
      unfold stepV
      rw [want_put h2, if_neg hwm, put_comm u undef (fun i j hi hj => (h3 j i hj hi).symm)]
      exact h
    · rw [want_put h1, if_neg hwn] at h
      unfold stepV
      rw [if_neg hwn]
      rw [want_put h2, if_neg hwm, put_comm undef undef (fun i j hi hj => (h3 j i hj hi).symm)]
      exact h

/-- only reads are read in the region's first world -/
def flOk (P : Program) (m : It) : Bool := !m.2.1 || (isRead P m.1.op && !m.2.2)
theorem swap (hb : swapB P all m n = true) (h : stepV P all w0 m (stepV P all w0 n R) t w) : stepV P all w0 n (stepV P all w0 m R) t w := by
  unfold swapB at hb
  simp only [Bool.and_eq_true, Bool.or_eq_true, Bool.not_eq_true'] at hb
  obtain ⟨hap, hb⟩ := hb
  obtain ⟨h1, h2, h3⟩ := apart_spec hap
  rcases hb with hb | hb
  · exact swap_fixed h1 h2 h3 hb.1 hb.2 h
  · exact swap_reads h1 h2 h3 (by simpa [stillB] using hb.1.1.1) (by simpa [stillB] using hb.1.1.2) hb.1.2 hb.2 h
end
end Go.Sh
