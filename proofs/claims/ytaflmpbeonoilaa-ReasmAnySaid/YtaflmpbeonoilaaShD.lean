/-
  The shallow reading is sound, third part: a region that draws its order: one reading in the text's order serves every order.
-/
import Derived.Test.YtaflmpbeonoilaaShC
namespace Go.Sh
open Go

theorem vcOp_congr {P : Program} {o : Oper} {ρ ρ' : Operand → Value} {wr w : World} {K : Value → World → Prop} (h : ∀ x ∈ o.op.operands, ρ x = ρ' x) :
    vcOp P o ρ wr w K = vcOp P o ρ' wr w K := by
  obtain ⟨dst, op, ty, pos, after, guard⟩ := o
  have pairs : ∀ ps : Array (Nat × Operand), (∀ x ∈ ps.map (·.2), ρ x = ρ' x) → (ps.toList.map fun (i, x) => (i, ρ x)) = (ps.toList.map fun (i, x) => (i, ρ' x)) ∧ (ps.map fun (i, x) => (i, ρ x)) = (ps.map fun (i, x) => (i, ρ' x)) := fun ps hp =>
    ⟨List.map_congr_left fun p hm => by
      obtain ⟨i, x⟩ := p
      simp only [hp x (Array.mem_map.2 ⟨(i, x), by simpa using hm, rfl⟩)], Array.map_congr_left fun p hm => by
      obtain ⟨i, x⟩ := p
      simp only [hp x (Array.mem_map.2 ⟨(i, x), hm, rfl⟩)]⟩
  unfold vcOp
  cases op <;> simp only [Op.operands] at h <;> simp only
  case build t ps => rw [(pairs ps fun x hx => h x (by simpa using hx)).1]
  case buildSlice t n ps =>
    have := pairs ps fun x hx => h x (by simpa using hx)
    rw [this.1, this.2]
  case makeFunc fn first captured =>
    rw [Array.map_congr_left (xs := first) fun x hx => h x (by simp [hx]), Array.map_congr_left (xs := captured) fun x hx => h x (by simp [hx])]
  case call c =>
    have ha : c.args.map ρ = c.args.map ρ' := Array.map_congr_left fun x hx => h x (by simp [Call.operands, hx])
    have hl : c.args.toList.map ρ = c.args.toList.map ρ' := List.map_congr_left fun x hx => h x (by simp [Call.operands, Array.mem_toList_iff.1 hx])
    cases hc : c.callee with
    | value f =>
      have hf : ρ f = ρ' f := h f (by simp [Call.operands, hc])
      cases f <;> simp only [ha, hf]
    | invoke r m =>
      have hr : ρ r = ρ' r := h r (by simp [Call.operands, hc])
      simp only [ha, hr]
    | builtin b => simp only [hl]
  case makeMap t r => cases r <;> simp_all
  case slice t x lo hi mx => cases lo <;> cases hi <;> cases mx <;> simp_all
  all_goals (first | rfl | (simp_all; done))

/-- An operation that leaves the world alone: its value, in every world. -/
def Eqs (v : Value) (w : World) (u : Value) (w' : World) : Prop := u = v ∧ w' = w
def St (P : Program) (o : Oper) (ρ : Operand → Value) (wr : World) (v : Value) : Prop := ∀ w', vcOp P o ρ wr w' (Eqs v w')
theorem shc_of {b : Int} {K : Nat → Prop} (h0 : 0 ≤ b) (h : K b.toNat) : shc b K := by
  cases b with
  | ofNat n => exact h
  | negSucc n => simp at h0
theorem exK_st {k : Kd} {A : Value → Prop} {K : Value → Prop} (h : exK k fun v => A v ∧ K v) : ∃ v, exK k (fun u => A u ∧ u = v) ∧ K v := exK_pull h
theorem ldL_st {w : World} {a : Addr} : ∀ {ks : List Kd} {i : Nat} {A : List Value → Prop}, ldL w a ks i A → ∃ vs, ldL w a ks i (fun us => us = vs) ∧ A vs
  | [], _, _, h => ⟨[], rfl, h⟩
  | k :: r, i, A, h => by
    have h : exK k fun v => w.cell? (a.add i) = some v ∧ ldL w a r (i + 1) fun vs => A (v :: vs) := h
    obtain ⟨v, hv, h⟩ := exK_pull h
    obtain ⟨vs, hvs, h⟩ := ldL_st h
    refine ⟨v :: vs, ?_, h⟩
    show exK k fun v' => w.cell? (a.add i) = some v' ∧ ldL w a r (i + 1) fun us => v' :: us = v :: vs
    exact exK_mono (fun u ⟨hu, e⟩ => ⟨hu, ldL_mono (fun us e' => by rw [e, e']) hvs⟩) hv
theorem ldX_st {x : Kx} {a : Addr} {w : World} {A : Value → Prop} (h : ldX x a w A) : ∃ v, ldX x a w (fun u => u = v) ∧ A v := by
  cases x with
  | one k =>
    have h : exK k fun v => w.cell? a = some v ∧ A v := h
    exact exK_pull h
  | agg ks =>
    obtain ⟨vs, hvs, h⟩ := ldL_st h
    exact ⟨_, ldL_mono (fun us e => by rw [e]) hvs, h⟩
theorem optV_st {v : Option Value} {A : Value → Prop} (h : optV v A) : ∃ u, optV v (fun x => x = u) ∧ A u := by
  obtain ⟨u, rfl, h⟩ := optV_some h
  exact ⟨u, rfl, h⟩
theorem bnd_st {v : Option Value} {d y : Nat} {A : Nat → Prop} (h : bnd v d y A) : ∃ n, bnd v d y (fun x => x = n) ∧ A n := by
  unfold bnd at h ⊢
  split at h
  · exact ⟨_, rfl, h⟩
  · exact ⟨_, ⟨h.1, rfl⟩, h.2⟩
  · exact h.elim

theorem exL_st : ∀ {ks : List Kd} {A K : List Value → Prop}, (exL ks fun vs => A vs ∧ K vs) → ∃ vs, exL ks (fun us => A us ∧ us = vs) ∧ K vs
  | [], _, _, h => ⟨[], ⟨h.1, rfl⟩, h.2⟩
  | k :: r, A, K, h => by
    have h : exK k fun v => True ∧ exL r fun vs => A (v :: vs) ∧ K (v :: vs) := exK_mono (fun _ x => ⟨trivial, x⟩) h
    obtain ⟨v, hv, h⟩ := exK_pull h
    obtain ⟨vs, hvs, h⟩ := exL_st h
    exact ⟨v :: vs, exK_mono (fun u ⟨_, e⟩ => by subst e; exact exL_mono (fun us ⟨a, e⟩ => ⟨a, by rw [e]⟩) hvs) hv, h⟩
theorem exX_st {x : Kx} {A K : Value → Prop} (h : exX x fun v => A v ∧ K v) : ∃ v, exX x (fun u => A u ∧ u = v) ∧ K v := by
  cases x with
  | one k => exact exK_pull h
  | agg ks =>
    obtain ⟨vs, hvs, h⟩ := exL_st h
    exact ⟨_, exL_mono (fun us ⟨a, e⟩ => ⟨a, by rw [e]⟩) hvs, h⟩
theorem exXs_st : ∀ {ks : List Kx} {A K : List Value → Prop}, (exXs ks fun vs => A vs ∧ K vs) → ∃ vs, exXs ks (fun us => A us ∧ us = vs) ∧ K vs
  | [], _, _, h => ⟨[], ⟨h.1, rfl⟩, h.2⟩
  | k :: r, A, K, h => by
    have h : exX k fun v => True ∧ exXs r fun vs => A (v :: vs) ∧ K (v :: vs) := exX_mono (fun _ x => ⟨trivial, x⟩) h
    obtain ⟨v, hv, h⟩ := exX_st h
    obtain ⟨vs, hvs, h⟩ := exXs_st h
    exact ⟨v :: vs, exX_mono (fun u ⟨_, e⟩ => by subst e; exact exXs_mono (fun us ⟨a, e⟩ => ⟨a, by rw [e]⟩) hvs) hv, h⟩
theorem exY_st {y : Ky} {A K : Value → Prop} (h : exY y fun v => A v ∧ K v) : ∃ v, exY y (fun u => A u ∧ u = v) ∧ K v := by
  cases y with
  | one x => exact exX_st h
  | tup xs =>
    obtain ⟨vs, hvs, h⟩ := exXs_st h
    exact ⟨_, exXs_mono (fun us ⟨a, e⟩ => ⟨a, by rw [e]⟩) hvs, h⟩
theorem still_bin {P : Program} {op : BinOp} {ty : TypeId} {xo yo : Operand} {x y : Value} {w : World} {Y : Ky} {K : Value → World → Prop}
    (hs : (isIntT P ty || isStrT P ty || isBoolT P ty) = true) (h : vcBin P op ty xo yo x y w Y K) :
    ∃ v, (∀ w', vcBin P op ty xo yo x y w' Y (Eqs v w')) ∧ K v w := by
  unfold vcBin at h ⊢
  split at h
  · try simp only
    split at h
    · obtain ⟨h0, h⟩ := shc_and h
      exact ⟨_, fun w' => shc_of h0 ⟨rfl, rfl⟩, h⟩
    · obtain ⟨h0, h⟩ := shc_and h
      exact ⟨_, fun w' => shc_of h0 ⟨rfl, rfl⟩, h⟩
    · split at h
      · exact h.elim
      · rename_i hk
        try simp only [hk]
        split at h
        case h_4 => exact ⟨_, fun w' => nz_mono (fun _ => ⟨rfl, rfl⟩) h, (nz_and h).2⟩
        case h_5 => exact ⟨_, fun w' => nz_mono (fun _ => ⟨rfl, rfl⟩) h, (nz_and h).2⟩
        all_goals first
          | exact ⟨_, fun w' => ⟨rfl, rfl⟩, h⟩
          | exact h.elim
  · try simp only
    split at h <;> first
      | exact ⟨_, fun w' => ⟨h.1, rfl, rfl⟩, h.2⟩
      | exact ⟨_, fun w' => ⟨rfl, rfl⟩, h⟩
      | exact h.elim
  · try simp only
    split at h <;> (try (rename_i hb; simp only [hb])) <;> first
      | exact ⟨_, fun w' => ⟨rfl, rfl⟩, h⟩
      | exact h.elim
  · have : isPtrT P ty = false := by
      unfold isIntT isStrT isBoolT at hs; unfold isPtrT; split <;> simp_all
    simp [this] at h
  · have : isSlcT P ty = false := by
      unfold isIntT isStrT isBoolT at hs; unfold isSlcT; split <;> simp_all
    simp [this] at h
  · have : isMapT P ty = false := by
      unfold isIntT isStrT isBoolT at hs; unfold isMapT; split <;> simp_all
    simp [this] at h
  · simp only [hs] at h
theorem still_len {P : Program} {ats : Array TypeId} {ty : TypeId} {l : List Value} {w : World} {K : Value → World → Prop}
    (hs : lenT P ats = true) (h : vcBuiltin P .len ats ty l w K) :
    ∃ v, (∀ w', vcBuiltin P .len ats ty l w' (Eqs v w')) ∧ K v w := by
  unfold vcBuiltin at h ⊢
  split at h
  all_goals (try split at h)
  all_goals (try split at h)
  all_goals first
    | exact h.elim
    | (exfalso; rename_i h1 _ _; cases h1; done)
    | (exfalso; rename_i h1 _; cases h1; done)
    | (exfalso; rename_i h1; cases h1; done)
    | exact ⟨_, fun _ => ⟨rfl, rfl⟩, h⟩
    | (exfalso; rename_i h1; rw [hs] at h1; cases h1)
theorem still {P : Program} {o : Oper} {ρ : Operand → Value} {wr w : World} {K : Value → World → Prop} (hs : pureIn P o = true ∨ isRead P o.op = true) (h : vcOp P o ρ wr w K) :
    ∃ v, St P o ρ wr v ∧ K v w := by
  obtain ⟨dst, op, ty, pos, after, guard⟩ := o
  unfold St vcOp
  unfold vcOp at h
  cases op <;> simp only at h ⊢
  case move x => exact ⟨_, fun _ => ⟨rfl, rfl⟩, h⟩
  case assign x => exact ⟨_, fun _ => ⟨rfl, rfl⟩, h⟩
  case pick c a b =>
    split at h
    · rename_i e he
      cases e with
      | true => exact ⟨_, fun _ => ⟨rfl, rfl⟩, h⟩
      | false => exact ⟨_, fun _ => ⟨rfl, rfl⟩, h⟩
    · exact h.elim
  case nilCheck x =>
    split at h
    · rename_i p hp
      cases p with
      | none => exact h.elim
      | some a => exact ⟨_, fun _ => ⟨rfl, rfl⟩, h⟩
    · exact ⟨_, fun _ => ⟨rfl, rfl⟩, h⟩
    · exact ⟨_, fun _ => ⟨rfl, rfl⟩, h⟩
    · exact h.elim
  case fieldAddr t x i =>
    split at h
    · split at h
      · rename_i hoff
        try simp only [hoff]
        exact ⟨_, fun _ => ⟨rfl, rfl⟩, h⟩
      · exact h.elim
    · exact h.elim
  case load t x =>
    split at h
    · split at h
      · rename_i hi
        try simp only [hi]
        split at h
        · rename_i hs
          try simp only [hs]
          obtain ⟨v, hv, h⟩ := ldX_st h
          exact ⟨v, fun _ => ldX_mono (fun _ e => ⟨e, rfl⟩) hv, h⟩
        · exact h.elim
      · exact h.elim
    · exact h.elim
  case lookup t x ix b =>
    split at h
    · rename_i hk
      try simp only [hk]
      obtain ⟨v, hv, h⟩ := exY_st h
      exact ⟨v, fun _ => exY_mono (fun _ e => ⟨e.1, e.2, rfl⟩) hv, h⟩
    · rename_i hk
      simp [pureIn, isRead, isPure, hk] at hs
  case indexAddr t x ix =>
    split at h
    · split at h
      · rename_i hu
        try simp only [hu]
        split at h
        · split at h
          · rename_i hi
            try simp only [hi]
            obtain ⟨a, rfl, hb, h⟩ := ixS_some h
            exact ⟨_, fun _ => ⟨hb, rfl, rfl⟩, h⟩
          · exact h.elim
        · exact h.elim
      · rename_i hu
        try simp only [hu]
        split at h
        · split at h
          · rename_i hi
            try simp only [hi]
            exact ⟨_, fun _ => ⟨h.1, rfl, rfl⟩, h.2⟩
          · exact h.elim
        · exact h.elim
      · exact h.elim
    · exact h.elim
  case index t x ix =>
    split at h
    · split at h
      · rename_i hu
        try simp only [hu]
        split at h
        · obtain ⟨b, hb, h⟩ := h
          exact ⟨_, fun _ => ⟨b, hb, rfl, rfl⟩, h⟩
        · exact h.elim
      · rename_i hu
        try simp only [hu]
        split at h
        · obtain ⟨hb, h⟩ := h
          split at h
          · rename_i hi
            try simp only [hi]
            obtain ⟨u, hu, h⟩ := exY_st h
            exact ⟨u, fun _ => ⟨hb, exY_mono (fun _ e => ⟨e.1, e.2, rfl⟩) hu⟩, h⟩
          · exact h.elim
        · exact h.elim
      · exact h.elim
    · exact h.elim
  case extract x i =>
    split at h
    · obtain ⟨u, hu, h⟩ := optV_st h
      exact ⟨u, fun _ => optV_mono (fun _ e => ⟨e, rfl⟩) hu, h⟩
    · exact h.elim
  case field t x i =>
    split at h
    · obtain ⟨u, hu, h⟩ := optV_st h
      exact ⟨u, fun _ => optV_mono (fun _ e => ⟨e, rfl⟩) hu, h⟩
    · exact h.elim
  case binOp op t x y u => exact still_bin (by simpa [pureIn, isRead] using hs) h
  case unOp op t x =>
    split at h
    · exact ⟨_, fun _ => ⟨rfl, rfl⟩, h⟩
    · exact ⟨_, fun _ => ⟨rfl, rfl⟩, h⟩
    · exact ⟨_, fun _ => ⟨rfl, rfl⟩, h⟩
    · exact h.elim
  case convert src t x =>
    have hs : (isIntT P src && isIntT P t) = true := by simpa [pureIn, isRead] using hs
    unfold vcConv at h ⊢
    split at h
    · rename_i h1 h2
      try simp only [h1, h2]
      exact ⟨_, fun _ => ⟨rfl, rfl⟩, h⟩
    · rename_i h1 h2
      try simp only [h1, h2]
      exact ⟨_, fun _ => ⟨rfl, rfl⟩, h⟩
    · simp only [hs] at h
  case makeFunc f a b => exact ⟨_, fun _ => ⟨rfl, rfl⟩, h⟩
  case build t ps =>
    obtain ⟨u, hu, h⟩ := optV_st h
    exact ⟨u, fun _ => optV_mono (fun _ e => ⟨e, rfl⟩) hu, h⟩
  case makeInterface t x =>
    split at h
    · exact h.elim
    · exact h.elim
    · rename_i hd hu
      exact ⟨_, fun _ => ⟨rfl, rfl⟩, h⟩
  case slice t x lo hi mx =>
    cases mx with
    | some mx => simp [pureIn, isRead, isPure] at hs
    | none =>
      have hs : (isSlcT P t || isStrT P t) = true := by simpa [pureIn, isRead] using hs
      simp only at h ⊢
      split at h
      · rename_i hu hx
        try simp only [hu]
        split at h
        · rename_i hi
          try simp only [hi]
          obtain ⟨n, hn, h⟩ := bnd_st h
          obtain ⟨f, hf, h⟩ := bnd_st h
          exact ⟨_, fun _ => bnd_mono (fun _ e => by subst e; exact bnd_mono (fun _ e => by subst e; exact ⟨rfl, rfl⟩) hf) hn, h⟩
        · exact h.elim
      · rename_i hu hx
        try simp only [hu]
        obtain ⟨n, hn, h⟩ := bnd_st h
        obtain ⟨f, hf, h⟩ := bnd_st h
        exact ⟨_, fun _ => bnd_mono (fun _ e => by subst e; exact bnd_mono (fun _ e => by subst e; exact ⟨rfl, rfl⟩) hf) hn, h⟩
      · simp only [hs] at h
  case call c =>
    obtain ⟨ce, as, ats⟩ := c
    cases ce with
    | builtin b =>
      cases b with
      | len =>
        have hs : lenT P ats = true := by
          rcases hs with hs | hs
          · have hs2 : (true && lenT P ats) = true := hs
            simpa using hs2
          · exact absurd hs (by simp [isRead])
        exact still_len hs h
      | _ => rcases hs with hs | hs <;> exact absurd hs (by simp [isRead, pureIn])
    | _ => simp [pureIn, isRead, isPure] at hs
  all_goals simp [pureIn, isRead, isPure] at hs
end Go.Sh
